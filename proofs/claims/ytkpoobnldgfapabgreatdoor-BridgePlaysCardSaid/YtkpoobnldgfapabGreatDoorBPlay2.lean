/- isthmuslaw.BridgePlays: the walk. -/
import Derived.Test.YtkpoobnldgfapabGreatDoorBPlay1
import Derived.Test.YtkpoobnldgfapabGreatDoorLSame
import Derived.Deep.DeepCutAuto
import Derived.Deep.RegionHeld3
import Derived.BigQuiet
import Derived.Deep.QuietTactic
set_option linter.unusedVariables false
set_option linter.unusedSimpArgs false
namespace Go.Proofs.YtkpoobnldgfapabGreatDoor
open Go.RowKit Pl

set_option maxRecDepth 100000 in
theorem bplay_long (n : Int) (oa : Option Addr) (len cap : Nat) (h : 40 < len ∨ 20 < n) (w : World) :
    Calls Tryz.prog 4 #[.int .i64 n, .slice oa len cap] w fun e w' => e = .returned (.bool true) ∧ Keep Nb w w' := by
  by_cases h1 : (40 : Int) < (len : Int)
  · clear h
    go_enter Tryz.func4, Tryz.ntmps4
    go_wp2_with fail
    go_ret
    exact ⟨rfl, Keep.refl _ _⟩
  · have h2 : (20 : Int) < n := by omega
    clear h
    go_enter Tryz.func4, Tryz.ntmps4
    go_wp2_with fail
    go_ret
    exact ⟨rfl, Keep.refl _ _⟩

set_option maxRecDepth 100000 in
theorem bplay_none (n : Int) (hn : n < 0) (oa : Option Addr) (len cap : Nat) (h : len ≤ 40) (w : World) (hE : ErrT w) :
    Calls Tryz.prog 4 #[.int .i64 n, .slice oa len cap] w fun e w' => e = .returned (.bool true) ∧ Keep Nb w w' := by
  have h1 : ¬ (40 : Int) < (len : Int) := by omega
  have h2 : ¬ (20 : Int) < n := by omega
  obtain ⟨ev, hev⟩ : ∃ ev, rangeV = ev := ⟨_, rfl⟩
  have hNE := bnew_err n (.inl hn) w
  rw [hev] at hNE
  have HNE := Lib.hid hNE
  have HB : Hid (∀ wx, Keep Nb w wx → Calls Tryz.prog 28 #[ev, .int .i64 2] wx fun e w' => e = .returned (.bool true) ∧ Keep Nb wx w') := Lib.hid (fun wx k => by
    have := lbare_any ev 2 2 (by rw [← hev]; rfl) wx (hE.keep k (fun e => e))
    simpa using this)
  clear h hev hNE hE
  go_enter Tryz.func4, Tryz.ntmps4
  go_wp2_with fail
  refine HNE.out.mono ?_
  rintro e w1 ⟨rfl, hk⟩
  have HK := Lib.hid hk
  clear hk
  go_wp2_with fail
  refine (HB.out _ HK.out).mono ?_
  rintro e w2 ⟨rfl, hk2⟩
  have HK2 := Lib.hid (HK.out.trans hk2)
  clear hk2
  go_wp2_with fail
  go_ret
  exact ⟨rfl, HK2.out⟩

theorem bool_iff {p q : Bool} {P : Prop} (h : p = true ↔ P) (g : q = true ↔ P) : p = q := Bool.eq_iff_iff.2 (h.trans g.symm)

set_option maxRecDepth 100000 in
set_option maxHeartbeats 4000000 in
theorem bplay_short (n : Nat) (b0 off len cap : Nat) (oa : Option Addr) (hoa : 0 < len → oa = some ⟨b0, off, none⟩) (A B : Nat → Int) (hn : n ≤ 20) (hlen : len ≤ 40) (hcap : len ≤ cap)
    (w : World) (hP : Prs w b0 off len A B) (hE : ErrT w) :
    Calls Tryz.prog 4 #[.int .i64 n, .slice oa len cap] w fun e w' => e = .returned (.bool true) ∧ Keep Nb w w' := by
  have h1 : ¬ (40 : Int) < (len : Int) := by omega
  have h2 : ¬ (20 : Int) < (n : Int) := by omega
  have h3 : ¬ (n : Int) < 0 := by omega
  have h4 : ¬ (40 : Int) < (n : Int) := by omega
  have HOA := Lib.hid hoa
  have HPP := Lib.hid hP
  have HE := Lib.hid hE
  clear hoa hP hE
  go_enter Tryz.func4, Tryz.ntmps4
  go_wp2_with fail
  refine (bnew_any n (by omega) w).mono ?_
  rintro e w1 ⟨b, rfl, hB1, hk1⟩
  obtain ⟨rb, hrb⟩ : ∃ rb, w1.heap.size = rb := ⟨_, rfl⟩
  obtain ⟨w2, hw2⟩ : ∃ w2, w1.alloc (.cells #[.int .i64 n, .slice none 0 0] 56) = w2 := ⟨_, rfl⟩
  have HS0 : Hid (BpS w n b rb [] [] w2) := Lib.hid (by
    rw [← hw2, ← hrb]
    exact ⟨fun k => w.heap.size ≤ k ∧ k < w1.heap.size, fun k => k = w1.heap.size, hB1.keep ((Keep.refl Nb w1).alloc _) (fun _ _ e => e),
      ⟨none, 0, Row.new w1 #[.int .i64 n, .slice none 0 0] 56, rfl, (Sl.nil _ w1 42 3).alloc _, fun _ h => by cases h⟩,
      fun k hk => by simp only [World.size_alloc]; omega, fun k hk => by have := hk1.size; simp only [World.size_alloc]; omega, fun k hk hk' => by omega, hk1.alloc _⟩)
  clear hB1 hk1
  go_wp2_with fail
  go_loopg [8] len (fun kx s8 wr => ∃ (i : Nat) (es : List E), s8 = .int .i64 i ∧ i ≤ len ∧ len - i ≤ kx ∧ Hid (BP n i es) ∧ Hid (BpS w n b rb es (es.map norm) wr))
  case atStart => exact ⟨0, [], rfl, Nat.zero_le _, by omega, Lib.hid (BP.nil n), HS0⟩
  case round =>
    clear HS0 hrb hw2
    obtain ⟨i, es, rfl, hi, hg, HBP, HS⟩ := hrel
    by_cases hlt : i < len
    · as_aux_lemma =>
      have ho := HOA.out (by omega)
      subst ho
      have hP' := HPP.out.keep HS.out.kept (fun e => e)
      have a0 := hP'.a i hlt
      have c0 := hP'.b i hlt
      clear hP'
      go_wp2_with fail
      go_quiet (fail)
      have hS1 := HS.out.keepN ((Keep.refl Nb wr).drewN nq)
      obtain ⟨wd, hwd⟩ : ∃ wd, wr.drewN nq = wd := ⟨_, rfl⟩
      rw [hwd] at hS1 ⊢
      have HS1 := Lib.hid hS1
      clear hS1 hwd HS a0 c0
      obtain ⟨x, hx⟩ : ∃ x, A i = x := ⟨_, rfl⟩
      obtain ⟨y, hy⟩ : ∃ y, B i = y := ⟨_, rfl⟩
      rw [hx, hy]
      have hlE : (es.map norm).length ≤ 120 := by rw [List.length_map]; have := HBP.out.len; omega
      have HLE := Lib.hid hlE
      clear hx hy hlE
      go_wp2_with fail
      refine (bp_radd HS1.out i x y (by omega) HLE.out).mono ?_
      rintro e w3 ⟨rfl, hS3⟩
      have HA := Lib.hid (bp_badd HBP.out (by omega) x y hS3 rfl)
      obtain ⟨r, hr⟩ : ∃ r, addErr n (es.map norm) i x y = r := ⟨_, rfl⟩
      obtain ⟨ev, hev⟩ : ∃ ev, errV r = ev := ⟨_, rfl⟩
      rw [hr] at HA ⊢
      rw [hev] at HA
      have HK3 := Lib.hid hS3.kept
      have HEV := Lib.hid hev
      clear hS3 hr hev HS1 HLE
      go_wp2_with fail
      refine HA.out.mono ?_
      rintro e w4 ⟨es', ok, rfl, hok, hBP', hS4⟩
      have HOK := Lib.hid hok
      have HBP' := Lib.hid hBP'
      have HS4 := Lib.hid hS4
      clear hok hBP' hS4 HA
      go_wp2_with fail
      refine (lbare_any ev r r HEV.out.symm w4 (HE.out.keep HS4.out.kept (fun e => e))).mono ?_
      rintro e w5 ⟨rfl, hk5⟩
      rw [decide_eq_true (rfl : r = r)]
      have HS5 := Lib.hid (HS4.out.keepN hk5)
      clear hk5 HS4
      go_wp2_with fail
      refine (rbridges_any _ w5 rb n (es'.map norm) (es'.map norm) HS5.out.rgr (by omega) (by rw [List.length_map]; have := HBP'.out.len; omega) (sorted_norm.2 HBP'.out.sorted) (List.Perm.refl _) HBP'.out.overN).mono ?_
      rintro e w6 ⟨o6, m6, c6, rfl, hS6, hm6, hk6⟩
      have HS6 := Lib.hid (HS5.out.keepN hk6)
      have hm6' : m6 ≤ 1000 := by
        rw [← hm6]
        have h1 := brE_len (es'.map norm)
        rw [List.length_map] at h1
        have := HBP'.out.len; omega
      have HL6 := Lib.hid hS6
      have HM6 := Lib.hid hm6
      clear hS6 hm6 hk6 HS5
      go_wp2_with fail
      go_loopg [15, 16] m6 (fun ky s15 s16 wr2 => ∃ (k : Nat) (p : Bool), s15 = .bool p ∧ s16 = .int .i64 k ∧ k ≤ m6 ∧ m6 - k ≤ ky ∧ Hid (SeenR p i ((brE (es'.map norm)).take k)) ∧ w6 = wr2)
      case atStart => exact ⟨0, false, rfl, rfl, Nat.zero_le _, by omega, Lib.hid (by unfold SeenR; simp), rfl⟩
      case round =>
        obtain ⟨k, p, rfl, rfl, hk, hgk, HSN, hwr⟩ := hrel
        subst hwr
        by_cases hkm : k < m6
        · obtain ⟨z, hz⟩ : ∃ z, (brE (es'.map norm))[k]? = some z := ⟨_, List.getElem?_eq_getElem (by rw [HM6.out]; exact hkm)⟩
          obtain ⟨gq, rfl, _, hnc, hrow⟩ := HL6.out.pos (by omega)
          have d1 := hrow.cell (ints_get hz)
          have HZ : Hid ((brE (es'.map norm)).take (k + 1) = (brE (es'.map norm)).take k ++ [z]) := Lib.hid (by rw [List.take_add_one, hz]; rfl)
          clear hrow hz
          cases p
          · by_cases hzi : z = i
            · have b1 : ((z : Int) == (i : Int)) = true := by simp; omega
              have HN := Lib.hid (HSN.out.next (p' := true) HZ.out (by simp [hzi]))
              clear HSN hzi
              go_wp2_with fail
              go_roundg (m6 - (k + 1))
              case measure => omega
              case rel => exact ⟨k + 1, true, rfl, by go_num, by omega, Nat.le_refl _, HN, rfl⟩
            · have b1 : ((z : Int) == (i : Int)) = false := by simp; omega
              have HN := Lib.hid (HSN.out.next (p' := false) HZ.out (by simp [hzi]))
              clear HSN hzi
              go_wp2_with fail
              go_roundg (m6 - (k + 1))
              case measure => omega
              case rel => exact ⟨k + 1, false, rfl, by go_num, by omega, Nat.le_refl _, HN, rfl⟩
          · have HN := Lib.hid (HSN.out.next (p' := true) HZ.out (by simp))
            clear HSN
            go_wp2_with fail
            go_roundg (m6 - (k + 1))
            case measure => omega
            case rel => exact ⟨k + 1, true, rfl, by go_num, by omega, Nat.le_refl _, HN, rfl⟩
        · obtain rfl : k = m6 := by omega
          have hpo : p = ok := bool_iff (by have h := HSN.out; rwa [List.take_of_length_le (by rw [HM6.out]; exact Nat.le_refl _)] at h) HOK.out
          subst hpo
          obtain ⟨F1, hB, hF, hnext⟩ := HS6.out.brs
          have HID := Lib.hid (ids_any F1 w6 b n es' hB (by have := HBP'.out.len; omega))
          have HNX := Lib.hid hnext
          clear hB hF hnext HSN HOK
          have HGO : Hid (∀ (P : Bool), True) := Lib.hid (fun _ => trivial)
          cases p
          all_goals
            go_wp2_with fail
            refine HID.out.mono ?_
            rintro e w7 ⟨l, o7, c7, rfl, hS7, hid7, hB7, hk7, hl7⟩
            have hle := hid7.norm HBP'.out
            subst hle
            have hL7 := HL6.out.keep hk7 (fun _ _ e => e)
            rw [HM6.out] at hS7 ⊢
            have HC7 := Lib.hid (lsame_q _ _ w7 o7 o6 _ _ c7 c6 (brE (es'.map norm)) hS7 hL7 (by rw [HM6.out]; omega))
            have HS7 := Lib.hid (HS6.out.keepN hk7)
            clear hS7 hid7 hB7 hk7 hl7 hL7 HID HNX HS6
            go_wp2_with fail
            refine HC7.out.mono ?_
            rintro e w8 ⟨rfl, j8, hw8⟩
            have HS8 : Hid (BpS w n b rb es' (es'.map norm) w8) := Lib.hid (by rw [hw8]; exact HS7.out.keepN ((Keep.refl Nb w7).drewN j8))
            clear hw8 HC7 HS7
            go_wp2_with fail
            go_roundg (len - (i + 1))
            case measure => omega
            case rel => exact ⟨i + 1, es', by go_num, by omega, Nat.le_refl _, HBP', HS8⟩
    · as_aux_lemma =>
      obtain rfl : i = len := by omega
      have hlE : (es.map norm).length ≤ 120 := by rw [List.length_map]; have := HBP.out.len; omega
      have HLE := Lib.hid hlE
      have hlen1 : es.length ≤ 40 := by have := HBP.out.len; omega
      obtain ⟨F1, hB, hF, hnext⟩ := HS.out.brs
      have HF := Lib.hid hF
      have HB0 := Lib.hid hB
      have HK0 := Lib.hid HS.out.kept
      have HG0 := Lib.hid HS.out.rgr
      clear hlE hB hF hnext HS
      go_wp2_with fail
      refine (rwhole_any _ wr rb n (es.map norm) HG0.out (by omega) HLE.out HBP.out.overN).mono ?_
      rintro e w1' ⟨oW, mW, cW, rowsW1, rfl, hMW, hkW⟩
      have HMW := Lib.hid hMW
      have HKW := Lib.hid hkW
      clear hMW hkW
      go_wp2_with fail
      refine (rtwice_any _ w1' rb n (es.map norm) (HG0.out.keep HKW.out (fun _ _ e => e)) (by omega) HLE.out HBP.out.overN).mono ?_
      rintro e w2' ⟨L, hC, hL, oT, mT, cT, rowsT1, rfl, hMT, hkT⟩
      have HMW2 := Lib.hid ((HMW.out.keep hkT (fun _ _ e => e)).mono (G := fun k => wr.heap.size ≤ k) (fun _ h => h.1))
      have HMT2 := Lib.hid (hMT.mono (G := fun k => wr.heap.size ≤ k) (fun _ h => Nat.le_trans HKW.out.size h.1))
      have HC := Lib.hid hC
      have HL := Lib.hid hL
      have HK2 := Lib.hid (HKW.out.trans hkT)
      clear hC hL hMT hkT HMW HKW HG0
      have HND : Hid (∀ k, wr.heap.size ≤ k → ¬ F1 k) := Lib.hid (fun k hk h => by have := HF.out k h; omega)
      have HWS := Lib.hid (wholes_any F1 w2' b n es (HB0.out.keep HK2.out (fun _ _ e => e)))
      go_wp2_with fail
      refine HWS.out.mono ?_
      rintro e w3' ⟨oA, mA, cA, rowsA, rfl, hMA, hB3, hk3⟩
      have hpp : parts n (labs (ends es)) = parts n (labG (es.map norm)) := parts_congr (fun x _ => labs_congr (fun _ _ => conn_norm.symm) x)
      rw [hpp] at hMA
      have hMW3 := HMW2.out.keep hk3 HND.out
      have HMT3 := Lib.hid (HMT2.out.keep hk3 HND.out)
      have HMW3 := Lib.hid hMW3
      have hbd := parts_bound n (labG (es.map norm)) (by omega)
      have HCS := Lib.hid (lsames_q _ _ w3' oA oW mA mW cA cW rowsA rowsW1 _ hMA hMW3 (by have := hbd.1; omega) (fun l hl => by have := hbd.2 l hl; omega))
      have HB3 := Lib.hid hB3
      have HK3 := Lib.hid hk3
      clear hMA hB3 hk3 hMW3 hpp hbd HWS HMW2 HMT2
      go_wp2_with fail
      refine HCS.out.mono ?_
      rintro e w4' ⟨rfl, j4, hw4⟩
      have k4 : Keep Nb w3' w4' := by rw [hw4]; exact (Keep.refl Nb w3').drewN j4
      have HB4 := Lib.hid (HB3.out.keep k4 (fun _ _ e => e))
      have HK4 := Lib.hid (HK3.out.trans k4.of_nb)
      have HMW4 := Lib.hid (HMW3.out.keep k4 (fun _ _ e => e))
      have HMT4 := Lib.hid (HMT3.out.keep k4 (fun _ _ e => e))
      have HPS := Lib.hid (bparts_any F1 w4' b n es HB4.out)
      clear hw4 k4 HCS HB3 HK3 HMW3 HMT3 HB4
      go_wp2_with fail
      refine HPS.out.mono ?_
      rintro e w5' ⟨T, up, hInv, oB, mB, cB, rowsB, rfl, hMB, hB5, hk5⟩
      have hpp : parts n T = parts n L := parts_congr (canon_unique hInv.canon HC.out (fun x y hx hy => (hInv.twice_iff hx hy).trans (tw_norm.symm.trans (HL.out x y hx hy).symm)))
      rw [hpp] at hMB
      have hMT5 := HMT4.out.keep hk5 HND.out
      have HMW5 := Lib.hid (HMW4.out.keep hk5 HND.out)
      have HMT5 := Lib.hid hMT5
      have hbd := parts_bound n L (by omega)
      have HCS := Lib.hid (lsames_q _ _ w5' oB oT mB mT cB cT rowsB rowsT1 _ hMB hMT5 (by have := hbd.1; omega) (fun l hl => by have := hbd.2 l hl; omega))
      have HB5 := Lib.hid hB5
      have HK5 := Lib.hid (HK4.out.trans hk5)
      clear hMB hB5 hk5 hMT5 hpp hbd hInv HPS HMW4 HMT4 HK4
      go_wp2_with fail
      refine HCS.out.mono ?_
      rintro e w6' ⟨rfl, j6, hw6⟩
      have k6 : Keep Nb w5' w6' := by rw [hw6]; exact (Keep.refl Nb w5').drewN j6
      have HB6 := Lib.hid (HB5.out.keep k6 (fun _ _ e => e))
      have HK6 := Lib.hid (HK5.out.trans k6.of_nb)
      have HMW6 := Lib.hid (HMW5.out.keep k6 (fun _ _ e => e))
      have HMT6 := Lib.hid (HMT5.out.keep k6 (fun _ _ e => e))
      have HMN : Hid (mW ≤ 1000 ∧ mT ≤ 1000) := Lib.hid ⟨by rw [HMW6.out.n_eq]; exact (parts_bound n _ (by omega)).1, by rw [HMT6.out.n_eq]; exact (parts_bound n _ (by omega)).1⟩
      clear hw6 k6 HCS HB5 HK5 HMW5 HMT5
      go_wp2_with fail
      go_loopg [19] n (fun kx s19 wr3 => ∃ x : Nat, s19 = .int .i64 x ∧ x ≤ n ∧ n - x ≤ kx ∧ Hid (Brs F1 wr3 b n es ∧ Keep F1 w6' wr3))
      case atStart => exact ⟨0, rfl, Nat.zero_le _, by omega, Lib.hid ⟨HB6.out, Keep.refl _ _⟩⟩
      case round =>
        obtain ⟨x, rfl, hxn, hgx, HR3⟩ := hrel
        by_cases hxl : x < n
        · go_wp2_with fail
          go_loopg [20] n (fun ky s20 wr4 => ∃ y : Nat, s20 = .int .i64 y ∧ y ≤ n ∧ n - y ≤ ky ∧ Hid (Brs F1 wr4 b n es ∧ Keep F1 w6' wr4))
          case atStart => exact ⟨0, rfl, Nat.zero_le _, by omega, HR3⟩
          case round =>
            obtain ⟨y, rfl, hyn, hgy, HR4⟩ := hrel
            clear HR3
            by_cases hyl : y < n
            · go_wp2_with fail
              refine (bwhole_any F1 _ b n es x y hxl hyl HR4.out.1).mono ?_
              rintro e wa ⟨rfl, hBa, hka⟩
              obtain ⟨p, hp⟩ : ∃ p, decide (Conn (ends es) x y) = p := ⟨_, rfl⟩
              rw [hp]
              have HPD := Lib.hid hp
              have HBa := Lib.hid hBa
              have HKa := Lib.hid (HR4.out.2.trans hka)
              clear hBa hka HR4 hp
              go_wp2_with fail
              refine (btwice_any F1 _ b n es x y hxl hyl HBa.out).mono ?_
              rintro e wb ⟨r, hr, rfl, hBb, hkb⟩
              have HBb := Lib.hid hBb
              have HKb := Lib.hid (HKa.out.trans hkb)
              have HIn1 : Hid (Calls Tryz.prog 39 #[.slice oW mW cW, .int .i64 (x : Nat), .int .i64 (y : Nat)] wb fun e w' => e = .returned (.bool p) ∧ w' = wb) := Lib.hid (by
                have h1 := rin_any _ wb _ _ oW mW cW x y rowsW1 _ (HMW6.out.keep HKb.out HND.out) HMN.out.1 (parts_bound n _ (by omega)).2
                have h2 : (∃ l, l ∈ parts n (labG (es.map norm)) ∧ x ∈ l ∧ y ∈ l) ↔ Conn (ends es) x y := (parts_in (labs_canon _ _) hxl hyl).trans conn_norm
                rwa [decide_eq_decide.2 h2, HPD.out] at h1)
              have HIn2 : Hid (Calls Tryz.prog 39 #[.slice oT mT cT, .int .i64 (x : Nat), .int .i64 (y : Nat)] wb fun e w' => e = .returned (.bool r) ∧ w' = wb) := Lib.hid (by
                have h1 := rin_any _ wb _ _ oT mT cT x y rowsT1 _ (HMT6.out.keep HKb.out HND.out) HMN.out.2 (parts_bound n _ (by omega)).2
                have h2 : (∃ l, l ∈ parts n L ∧ x ∈ l ∧ y ∈ l) ↔ r = true := (parts_in HC.out hxl hyl).trans ((HL.out x y hxl hyl).trans (tw_norm.trans hr.symm))
                rw [decide_eq_decide.2 h2] at h1
                cases r
                · exact h1
                · exact h1)
              clear hr hBb hkb HBa HKa HPD
              cases p <;> cases r
              all_goals
                go_wp2_with fail
                refine HIn1.out.mono ?_
                rintro e wc ⟨rfl, hwc⟩
                subst hwc
                go_wp2_with fail
                refine HIn2.out.mono ?_
                rintro e wc ⟨rfl, hwc⟩
                subst hwc
                go_wp2_with fail
                go_roundg (n - (y + 1))
                case measure => omega
                case rel => exact ⟨y + 1, by go_num, by omega, Nat.le_refl _, Lib.hid ⟨HBb.out, HKb.out⟩⟩
            · obtain rfl : y = n := by omega
              go_wp2_with fail
              go_roundg (y - (x + 1))
              case measure => omega
              case rel => exact ⟨x + 1, by go_num, by omega, Nat.le_refl _, HR4⟩
        · obtain rfl : x = n := by omega
          obtain ⟨ev, hev⟩ : ∃ ev, rangeV = ev := ⟨_, rfl⟩
          have HFN : Hid (∀ wq, Keep Nb wr wq → Keep Nb w wq) := Lib.hid (fun wq kq => by
            have k1 := (HK0.out.trans HK2.out).trans' ((HK6.out.trans HR3.out.2).trans kq.of_nb) (fun _ _ e => e) (fun k hk e => by have := HF.out k e; show False; omega)
            exact k1)
          have HB : Hid (∀ wx, Keep Nb wr wx → Calls Tryz.prog 28 #[ev, .int .i64 2] wx fun e w' => e = .returned (.bool true) ∧ Keep Nb wx w') := Lib.hid (fun wx k => by
            have := lbare_any ev 2 2 (by rw [← hev]; rfl) wx (HE.out.keep (HFN.out wx k) (fun e => e))
            simpa using this)
          have hWE := fun (wx : World) (k : Keep Nb wr wx) => bwhole_err F1 wx b x es x 0 (.inl (outB_true.2 (.inr (by omega)))) (HR3.out.1.keep k (fun _ _ e => e))
          have hTE := fun (wx : World) (k : Keep Nb wr wx) => btwice_err F1 wx b x es 0 (-1) (.inr (outB_true.2 (.inl (by omega)))) (HR3.out.1.keep k (fun _ _ e => e))
          rw [hev] at hWE hTE
          have HWE := Lib.hid hWE
          have HTE := Lib.hid hTE
          clear hWE hTE hev HR3
          go_wp2_with fail
          refine (HWE.out _ (Keep.refl _ _)).mono ?_
          rintro e wa ⟨rfl, hka⟩
          have HKa := Lib.hid hka
          clear hka
          go_wp2_with fail
          refine (HTE.out _ HKa.out).mono ?_
          rintro e wb ⟨rfl, hkb⟩
          have HKb := Lib.hid (HKa.out.trans hkb)
          clear hkb HKa
          go_wp2_with fail
          refine (HB.out _ HKb.out).mono ?_
          rintro e wc ⟨rfl, hkc⟩
          have HKc := Lib.hid (HKb.out.trans hkc)
          clear hkc HKb
          go_wp2_with fail
          refine (HB.out _ HKc.out).mono ?_
          rintro e wd ⟨rfl, hkd⟩
          have HKd := Lib.hid (HKc.out.trans hkd)
          clear hkd HKc
          go_wp2_with fail
          go_ret
          exact ⟨rfl, HFN.out _ HKd.out⟩

end Go.Proofs.YtkpoobnldgfapabGreatDoor
