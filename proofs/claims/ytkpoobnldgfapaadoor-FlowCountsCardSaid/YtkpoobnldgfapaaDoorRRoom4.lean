/- isthmusref: ByNodes. -/
import Derived.Test.YtkpoobnldgfapaaDoorRRoom3
import Derived.Test.YtkpoobnldgfapaaDoorPlRoom3
import Derived.Deep.DeepCutAuto
set_option linter.unusedVariables false
set_option linter.unusedSimpArgs false
namespace Go.Proofs.YtkpoobnldgfapaaDoor
open Go.RowKit Pl

theorem take_len_le {es : List E} {j el : Nat} (h : es.length = el) : (es.take j).length ≤ el := by have := List.length_take_le' j es; omega

set_option maxRecDepth 100000 in
set_option maxHeartbeats 4000000 in
theorem rby_nodes (F : Nat → Prop) (w : World) (b n : Nat) (es : List E) (s t most : Nat) (hG : RGr F w b n es) (hn : n ≤ 40) (hl : es.length ≤ 120) (ho : ∀ e, e ∈ es → e.a < n ∧ e.b < n) (hlt : ∀ e, e ∈ es → e.a < e.b) (hs : s < n) (ht : t < n) (hst : s ≠ t) (hm : most ≤ 120) :
    Calls Tryd.prog 19 #[.pointer (some ⟨b, 0, none⟩), .int .i64 s, .int .i64 t, .int .i64 most] w (fun e w' => ∃ v, e = .returned (.tuple #[.int .i64 (v : Nat), .int .i64 0]) ∧ v ≤ most ∧ MinCap (capL (arcsN n s t ++ arcsNE s t es)) (2 * s + 1) (2 * t) most v ∧ Keep Nb w w') := by
  have HC := Lib.hid (rask_any F w b n es s t most hG hn)
  have HE0 : Hid (askErr n s t most = 0) := Lib.hid (by unfold askErr; rw [if_neg (by omega), if_neg (by omega)])
  obtain ⟨o, c, hM⟩ := hG
  have c0 := hM.head.cell (i := 0) rfl
  have HM := Lib.hid hM
  have HO := Lib.hid ho
  have HLT := Lib.hid hlt
  have HST := Lib.hid hst
  obtain ⟨N2, hN2⟩ : ∃ N2, n + n = N2 := ⟨_, rfl⟩
  have hN2i : (2 : Int) * (n : Int) = (N2 : Int) := by omega
  have HN2 := Lib.hid hN2
  have hN2b : 0 < N2 ∧ N2 ≤ 80 := by omega
  clear hM ho hlt hst hN2
  go_enter Tryd.func19, Tryd.ntmps19
  go_wp2_with fail
  refine HC.out.mono ?_
  rintro e w0 ⟨rfl, rfl⟩
  rw [HE0.out]
  go_wp2_with fail
  refine (rooms_any w N2 (by omega) (by omega)).mono ?_
  rintro e w1 ⟨g, rb, rfl, hR, hk⟩
  have HM1 := Lib.hid (HM.out.tight.keep hk (fun _ _ e => e))
  have c0 := HM1.out.head.cell (i := 0) rfl
  have HK1 := Lib.hid hk
  have hzz := hk.size
  have H0 : Hid (Room (fun k => w.heap.size ≤ k ∧ k < w1.heap.size) w1 g N2 rb (mI n 0) ∧ Keep (fun k => w.heap.size ≤ k ∧ k < w1.heap.size) w1 w1) := Lib.hid ⟨by rw [mI_zero]; exact hR.tight, Keep.refl _ _⟩
  have HBW : Hid (b < w.heap.size) := Lib.hid HM.out.head.lt
  clear hR hk HC hN2i HM
  go_wp2_with fail
  go_loopg [34] n (fun kx s34 wr => ∃ (i : Nat), s34 = .int .i64 i ∧ i ≤ n ∧ n - i ≤ kx ∧ Hid (Room (fun k => w.heap.size ≤ k ∧ k < w1.heap.size) wr g N2 rb (mI n i) ∧ Keep (fun k => w.heap.size ≤ k ∧ k < w1.heap.size) w1 wr))
  case atStart => exact ⟨0, rfl, Nat.zero_le _, by omega, H0⟩
  case round =>
    clear H0 c0
    obtain ⟨i, rfl, hi, hgk, HR⟩ := hrel
    obtain ⟨wr0, rfl⟩ : ∃ w' : World, w' = wr := ⟨_, rfl⟩
    have c0 := (HM1.out.head.keep HR.out.2 (fun e => by have := HBW.out; omega)).cell (i := 0) rfl
    by_cases hlt : i < n
    · as_aux_lemma =>
      have hi2 : i < N2 := by have := HN2.out; omega
      obtain ⟨k, hk⟩ : ∃ k, n + i = k := ⟨_, rfl⟩
      have hki : (n : Int) + (i : Int) = (k : Int) := by omega
      have hkN : k < N2 := by have := HN2.out; omega
      have r0 := HR.out.1.hcell hi2 hi2
      have f1 := HR.out.1.frozen hi2 k
      have r1 := HR.out.1.cell hi2 hkN
      have HN : Hid (Room (fun k => w.heap.size ≤ k ∧ k < w1.heap.size) (wr0.setCell ⟨rb i, k, none⟩ (.int .i64 1)).drew g N2 rb (mI n (i + 1)) ∧ Keep (fun k => w.heap.size ≤ k ∧ k < w1.heap.size) w1 (wr0.setCell ⟨rb i, k, none⟩ (.int .i64 1)).drew) := Lib.hid ⟨by
        rw [← mI_succ, hk]
        exact (HR.out.1.set hi2 hkN 1).keep ((Keep.refl Nb _).drew) (fun _ _ e => e), (HR.out.2.setCell (.inl (HR.out.1.fr _ hi2)) _).drew⟩
      clear HR hk
      go_upto_region 9 with (fail)
      go_region
      go_wp2_with fail
      go_roundg (n - (i + 1))
      case measure => omega
      case rel => exact ⟨i + 1, rfl, by omega, Nat.le_refl _, HN⟩
    · obtain rfl : i = n := by omega
      have hs2 : s < N2 := by have := HN2.out; omega
      have ht2 : t < N2 := by have := HN2.out; omega
      obtain ⟨ks, hks⟩ : ∃ k, i + s = k := ⟨_, rfl⟩
      obtain ⟨kt, hkt⟩ : ∃ k, i + t = k := ⟨_, rfl⟩
      have hksi : (i : Int) + (s : Int) = (ks : Int) := by omega
      have hkti : (i : Int) + (t : Int) = (kt : Int) := by omega
      have hksN : ks < N2 := by have := HN2.out; omega
      have hktN : kt < N2 := by have := HN2.out; omega
      have r0 := HR.out.1.hcell hs2 hs2
      have r1 := HR.out.1.hcell ht2 ht2
      have f0 := HR.out.1.frozen hs2 ks
      have f1 := HR.out.1.frozen ht2 kt
      have r2 := HR.out.1.cell hs2 hksN
      have r3 := HR.out.1.cell ht2 hktN
      have hne : rb s ≠ rb t := fun e => HST.out (HR.out.1.inj s t hs2 ht2 e)
      obtain ⟨wa, hwa⟩ : ∃ wa, ((wr0.setCell ⟨rb s, ks, none⟩ (.int .i64 120)).setCell ⟨rb t, kt, none⟩ (.int .i64 120)).drew = wa := ⟨_, rfl⟩
      have HA : Hid (Room (fun k => w.heap.size ≤ k ∧ k < w1.heap.size) wa g N2 rb (mN i s t (es.take 0)) ∧ Keep (fun k => w.heap.size ≤ k ∧ k < w1.heap.size) w1 wa) := Lib.hid (by
        rw [← hwa, List.take_zero, ← mN_start hs ht, hks, hkt]
        exact ⟨((HR.out.1.set hs2 hksN 120).set ht2 hktN 120).keep ((Keep.refl Nb _).drew) (fun _ _ e => e), ((HR.out.2.setCell (.inl (HR.out.1.fr _ hs2)) _).setCell (.inl (HR.out.1.fr _ ht2)) _).drew⟩)
      have HWA := Lib.hid hwa
      clear hwa HR hks hkt
      go_upto_region 11 with (fail)
      go_region
      rw [HWA.out]
      clear r0 r1 r2 r3 f0 f1 c0 HWA hksi hkti hksN hktN hne
      have c1 := (HM1.out.head.keep HA.out.2 (fun e => by have := HBW.out; omega)).cell (i := 1) rfl
      obtain ⟨n, rfl⟩ : ∃ n', n' = i := ⟨_, rfl⟩
      obtain ⟨el, hel⟩ : ∃ el, es.length = el := ⟨_, rfl⟩
      have HEL := Lib.hid hel
      have hel120 : el ≤ 120 := by omega
      rw [hel] at c1
      clear hel hl
      go_wp2_with fail
      have H0 : Hid (Room (fun k => w.heap.size ≤ k ∧ k < w1.heap.size) wa g N2 rb (mN n s t (es.take 0)) ∧ Keep (fun k => w.heap.size ≤ k ∧ k < w1.heap.size) w1 wa) := HA
      have HD0 : Hid (direct s t (es.take 0) = 0) := Lib.hid rfl
      clear HA
      go_loopg [11, 76] el (fun kx s11 s76 wr => ∃ (j d : Nat), s11 = .int .i64 d ∧ s76 = .int .i64 j ∧ j ≤ el ∧ el - j ≤ kx ∧ Hid (direct s t (es.take j) = d) ∧ Hid (Room (fun k => w.heap.size ≤ k ∧ k < w1.heap.size) wr g N2 rb (mN n s t (es.take j)) ∧ Keep (fun k => w.heap.size ≤ k ∧ k < w1.heap.size) w1 wr))
      case atStart => exact ⟨0, 0, rfl, rfl, Nat.zero_le _, by omega, HD0, H0⟩
      case round =>
        clear H0 HD0 c1
        obtain ⟨j, d, rfl, rfl, hj, hgj, HD, HR⟩ := hrel
        obtain ⟨wr0, rfl⟩ : ∃ w' : World, w' = wr := ⟨_, rfl⟩
        by_cases hlt : j < el
        · have hS := HM1.out.s.keep HR.out.2 (fun k h1 h2 => by have := h1.2; omega)
          obtain ⟨e, hy⟩ : ∃ e, es[j]? = some e := ⟨_, List.getElem?_eq_getElem (by rw [HEL.out]; exact hlt)⟩
          obtain ⟨ge, rfl, _, hnc, hrow⟩ := hS.pos (by rw [HEL.out]; omega)
          rw [HEL.out] at hnc
          have d1 := hrow.edges.id _ _ hy
          have d2 := hrow.edges.a _ _ hy
          have d3 := hrow.edges.b _ _ hy
          have hea := (HO.out e (List.mem_of_getElem? hy)).1
          have heb := (HO.out e (List.mem_of_getElem? hy)).2
          have HLE := Lib.hid (HLT.out e (List.mem_of_getElem? hy))
          have HY := Lib.hid hy
          obtain ⟨wx, hwx⟩ : ∃ wx, wr0.alloc (.cells #[.int .i64 e.id, .int .i64 e.a, .int .i64 e.b] 55) = wx := ⟨_, rfl⟩
          have kx1 : Keep Nb wr0 wx := by rw [← hwx]; exact (Keep.refl Nb wr0).alloc _
          have p3 : wx.cell? ⟨wr0.heap.size, 1, none⟩ = some (.int .i64 e.a) := by rw [← hwx, World.cell?_alloc_at _ _ _ _ rfl]; rfl
          have p4 : wx.cell? ⟨wr0.heap.size, 2, none⟩ = some (.int .i64 e.b) := by rw [← hwx, World.cell?_alloc_at _ _ _ _ rfl]; rfl
          have HRX := Lib.hid (HR.out.1.keep kx1 (fun _ _ e => e))
          have HKX := Lib.hid (HR.out.2.trans kx1.of_nb)
          have HXW : Hid (w1.heap.size ≤ wr0.heap.size) := Lib.hid HR.out.2.size
          have HWX := Lib.hid hwx
          obtain ⟨X, hX⟩ : ∃ X, wr0.heap.size = X := ⟨_, rfl⟩
          rw [hX] at p3 p4
          have HX := Lib.hid hX
          have P3 := Lib.hid p3
          have P4 := Lib.hid p4
          obtain ⟨dn, hdn⟩ : ∃ dn, nd s t e = dn := ⟨_, rfl⟩
          have HDN := Lib.hid hdn
          have hdl : d ≤ 120 := by rw [← HD.out]; have := direct_le s t (es.take j); have := take_len_le (j := j) HEL.out; omega
          have hnd := nd_iff (a := s) (b := t) HLE.out
          rw [hdn] at hnd
          clear hS hrow hy hwx kx1 HR hX hdn
          go_upto_region 15 with (fail)
          rw [HWX.out, HX.out]
          clear d1 d2 d3
          go_cut [93] (fun v wc => v = .bool (!dn) ∧ wc = wx)
          case first => as_aux_lemma =>
            clear HY HRX HKX HXW HWX HX P3 P4 HD HDN HM1 HO HLT HK1
            obtain ⟨mn, hmn⟩ : ∃ mn, min s t = mn := ⟨_, rfl⟩
            obtain ⟨mx, hmx⟩ : ∃ mx, max s t = mx := ⟨_, rfl⟩
            have hmni : min (s : Int) (t : Int) = (mn : Int) := by omega
            have hmxi : max (s : Int) (t : Int) = (mx : Int) := by omega
            rw [hmn, hmx] at hnd
            clear hmn hmx
            by_cases h1 : e.a = mn
            · have b1 : ((e.a : Int) == (mn : Int)) = true := by simp; omega
              by_cases h2 : e.b = mx
              · have b2 : ((e.b : Int) == (mx : Int)) = true := by simp; omega
                obtain rfl : dn = false := by rw [hnd]; simp [h1, h2]
                clear hnd h1 h2
                go_wp2_with fail
                go_meet
                exact ⟨rfl, rfl⟩
              · have b2 : ((e.b : Int) == (mx : Int)) = false := by simp; omega
                obtain rfl : dn = true := by rw [hnd]; simp [h2]
                clear hnd h1 h2
                go_wp2_with fail
                go_meet
                exact ⟨rfl, rfl⟩
            · have b1 : ((e.a : Int) == (mn : Int)) = false := by simp; omega
              obtain rfl : dn = true := by rw [hnd]; simp [h1]
              clear hnd h1
              go_wp2_with fail
              go_meet
              exact ⟨rfl, rfl⟩
          case rest => as_aux_lemma =>
            obtain ⟨rfl, rfl⟩ := hcut
            obtain ⟨wx, rfl⟩ : ∃ w' : World, w' = wc := ⟨_, rfl⟩
            clear hnd
            cases dn with
            | false =>
              have HDN2 : Hid (direct s t (es.take (j + 1)) = d + 1) := Lib.hid (by rw [take_snoc' HY.out, direct_snoc, HD.out, HDN.out]; rfl)
              have HN : Hid (Room (fun k => w.heap.size ≤ k ∧ k < w1.heap.size) wx g N2 rb (mN n s t (es.take (j + 1))) ∧ Keep (fun k => w.heap.size ≤ k ∧ k < w1.heap.size) w1 wx) := Lib.hid ⟨by
                rw [take_snoc' HY.out, mN_snoc hea heb, HDN.out, if_neg (by simp)]; exact HRX.out, HKX.out⟩
              clear HRX HKX HD HDN
              go_wp2_with fail
              go_roundg (el - (j + 1))
              case measure => omega
              case rel => exact ⟨j + 1, d + 1, by go_num, by go_num, by omega, Nat.le_refl _, HDN2, HN⟩
            | true =>
              have HDN2 : Hid (direct s t (es.take (j + 1)) = d) := Lib.hid (by rw [take_snoc' HY.out, direct_snoc, HD.out, HDN.out]; rfl)
              have hea2 : e.a < N2 := by have := HN2.out; omega
              have heb2 : e.b < N2 := by have := HN2.out; omega
              obtain ⟨ka, hka⟩ : ∃ k, n + e.a = k := ⟨_, rfl⟩
              obtain ⟨kb, hkb⟩ : ∃ k, n + e.b = k := ⟨_, rfl⟩
              have hkai : (n : Int) + (e.a : Int) = (ka : Int) := by omega
              have hkbi : (n : Int) + (e.b : Int) = (kb : Int) := by omega
              have hkaN : ka < N2 := by have := HN2.out; omega
              have hkbN : kb < N2 := by have := HN2.out; omega
              have hXr : ∀ x, x < N2 → X ≠ rb x := fun x hx e => by
                have h1 := (HRX.out.fr x hx).2
                have h2 := HXW.out
                have h3 := HX.out
                omega
              obtain ⟨wy, hwy⟩ : ∃ wy, (wx.setCell ⟨rb ka, e.b, none⟩ (.int .i64 1)).drew = wy := ⟨_, rfl⟩
              have HS2 : Hid (Room (fun k => w.heap.size ≤ k ∧ k < w1.heap.size) wy g N2 rb (upd2 (mN n s t (es.take j)) ka e.b 1) ∧ Keep (fun k => w.heap.size ≤ k ∧ k < w1.heap.size) w1 wy) := Lib.hid (by
                rw [← hwy]
                exact ⟨(HRX.out.set hkaN heb2 _).keep ((Keep.refl Nb _).drew) (fun _ _ e => e), (HKX.out.setCell (.inl (HRX.out.fr _ hkaN)) _).drew⟩)
              have q3 : wy.cell? ⟨X, 1, none⟩ = some (.int .i64 e.a) := by
                rw [← hwy, World.cell?_of_block (w := wx) (Below.heap_setCell wx _ _ X (hXr _ hkaN))]; exact P3.out
              have q4 : wy.cell? ⟨X, 2, none⟩ = some (.int .i64 e.b) := by
                rw [← hwy, World.cell?_of_block (w := wx) (Below.heap_setCell wx _ _ X (hXr _ hkaN))]; exact P4.out
              have c0 := (HM1.out.head.keep HKX.out (fun e => by have := HBW.out; omega)).cell (i := 0) rfl
              have r0 := HRX.out.hcell hkaN hkaN
              have r1 := HRX.out.cell hkaN heb2
              have f1 := HRX.out.frozen hkaN e.b
              have p3 := P3.out
              have p4 := P4.out
              have HWY := Lib.hid hwy
              clear hwy hXr HRX HKX HXW HD
              go_upto_region 17 with (fail)
              go_region
              rw [HWY.out]
              clear r0 r1 f1 p3 p4 c0
              have c0 := (HM1.out.head.keep HS2.out.2 (fun e => by have := HBW.out; omega)).cell (i := 0) rfl
              have r0 := HS2.out.1.hcell hkbN hkbN
              have r1 := HS2.out.1.cell hkbN hea2
              have f1 := HS2.out.1.frozen hkbN e.a
              have HN : Hid (Room (fun k => w.heap.size ≤ k ∧ k < w1.heap.size) (wy.setCell ⟨rb kb, e.a, none⟩ (.int .i64 1)).drew g N2 rb (mN n s t (es.take (j + 1))) ∧ Keep (fun k => w.heap.size ≤ k ∧ k < w1.heap.size) w1 (wy.setCell ⟨rb kb, e.a, none⟩ (.int .i64 1)).drew) := Lib.hid ⟨by
                rw [take_snoc' HY.out, mN_snoc hea heb, HDN.out, if_pos rfl, hka, hkb]
                exact (HS2.out.1.set hkbN hea2 _).keep ((Keep.refl Nb _).drew) (fun _ _ e => e), (HS2.out.2.setCell (.inl (HS2.out.1.fr _ hkbN)) _).drew⟩
              clear HS2 HWY HDN hka hkb
              go_upto_region 18 with (fail)
              go_region
              go_wp2_with fail
              go_roundg (el - (j + 1))
              case measure => omega
              case rel => exact ⟨j + 1, d, rfl, by go_num, by omega, Nat.le_refl _, HDN2, HN⟩
        · obtain rfl : j = el := by omega
          have hfull : es.take j = es := by rw [← HEL.out, List.take_length]
          have HR2 : Hid (Room (fun _ => True) wr0 g N2 rb (mN n s t es) ∧ Keep Nb w wr0 ∧ ∀ x, x < N2 → w.heap.size ≤ rb x) := Lib.hid (by
            obtain ⟨h1, h2⟩ := HR.out
            rw [hfull] at h1
            exact ⟨h1.mono (fun _ _ => trivial), HK1.out.trans' h2 (fun _ _ e => e) (fun k hk e => by show False; omega), fun x hx => (h1.fr x hx).1⟩)
          have hD := HD.out
          rw [hfull] at hD
          have HD2 := Lib.hid hD
          have hdl : d ≤ 120 := by rw [← hD]; have := direct_le s t es; have := HEL.out; omega
          have hbnd : ∀ u v, 0 ≤ mN n s t es u v ∧ mN n s t es u v ≤ 1000 := fun u v => by have := mN_bound n s t es u v; omega
          obtain ⟨kt, hkt⟩ : ∃ k, n + t = k := ⟨_, rfl⟩
          have hkti : (n : Int) + (t : Int) = (kt : Int) := by omega
          have HCA := Lib.hid (rall_any wr0 g N2 s kt most rb (mN n s t es) (by omega) (by have := HN2.out; omega) (by have := HN2.out; omega) hm hbnd HR2.out.1)
          have c0 := (HM1.out.head.keep HR.out.2 (fun e => by have := HBW.out; omega)).cell (i := 0) rfl
          have HKT := Lib.hid hkt
          clear HR hfull hbnd hD HD hkt
          go_wp2_with fail
          refine HCA.out.mono ?_
          rintro e w5 ⟨v, rfl, h1, h2, h3⟩
          have hmc : MinCap (capL (arcsN n s t ++ arcsNE s t es)) (2 * s + 1) (2 * t) most (min most (d + v) : Nat) := by
            rw [← HD2.out]
            refine room_nodes HST.out hs ht hm HO.out ?_
            rw [HN2.out, HKT.out]
            exact h2
          have HK5 : Hid (Keep Nb w w5) := Lib.hid (HR2.out.2.1.trans' h3 (fun _ _ e => e) (fun k hk e => by obtain ⟨x, h4, h5⟩ := e; have := HR2.out.2.2 x h4; show False; omega))
          have HMC := Lib.hid hmc
          clear h2 h3 HCA c0 hmc hkti
          obtain ⟨mv, hmv⟩ : ∃ mv, min most (d + v) = mv := ⟨_, rfl⟩
          have hmvi : min (most : Int) ((d : Int) + (v : Int)) = (mv : Int) := by omega
          rw [hmv] at HMC
          have hmvl : mv ≤ most := by omega
          clear hmv
          go_wp2_with fail
          go_ret2
          exact ⟨mv, rfl, hmvl, HMC.out, HK5.out⟩

end Go.Proofs.YtkpoobnldgfapaaDoor
