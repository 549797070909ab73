/- Part 42 of the proof: IBkW LawStepsK. -/
import Derived.Test.YtkpoobnldgfapabGreatDoorIb01
import Derived.Test.YtkpoobnldgfapabGreatDoorIb41
import Derived.Deep.RegionHeld3
import Derived.ChangeSlices
set_option linter.unusedVariables false
set_option linter.unusedSimpArgs false
namespace Go.Proofs.YtkpoobnldgfapabGreatDoor
open Go.RowKit Pl Go.Maps
def IbR (w wr : World) (xb n : Nat) (es : List E) : Prop := Keep Nb w wr ∧ IxK (fun k => w.heap.size ≤ k) wr xb n es
theorem parts_boundK (n : Nat) (L : Nat → Nat) (hn : n ≤ 40) : (parts n L).length ≤ 1000 ∧ ∀ l, l ∈ parts n L → l.length ≤ 1000 := by
  refine ⟨Nat.le_trans (parts_len_le n L) (by omega), fun l hl => ?_⟩
  rw [parts_eq] at hl
  obtain ⟨r, _, rfl⟩ := List.mem_map.1 hl
  exact Nat.le_trans (List.length_filter_le _ _) (by simp; omega)
theorem IbR.next {w wr w2 w3 : World} {xb n : Nat} {es es2 : List E} (h : IbR w wr xb n es) (k2 : Keep Nb wr w2) (hX : IxK (fun k => (w.heap.size ≤ k ∧ k < wr.heap.size) ∨ w2.heap.size ≤ k) w3 xb n es2) (k3 : Keep (fun k => w.heap.size ≤ k ∧ k < wr.heap.size) w2 w3) : IbR w w3 xb n es2 :=
  ⟨(h.1.trans k2).trans' k3 (fun _ _ e => e) (fun j hj e => by show False; omega), hX.mono (fun k hk _ => by
    have := h.1.size
    have := k2.size
    rcases hk with hk | hk
    · exact hk.1
    · omega)⟩
set_option maxRecDepth 100000 in
theorem iback_long (n0 : Int) (oa : Option Addr) (len cap : Nat) (h : 50 < len) (w : World) :
    Calls Tryz.prog 7 #[.int .i64 n0, .slice oa len cap] w fun e w' => e = .returned (.bool true) ∧ Keep Nb w w' := by
  have h1 : (50 : Int) < (len : Int) := by omega
  go_enter Tryz.func7, Tryz.ntmps7
  go_wp2_with fail
  go_ret
  exact ⟨rfl, Keep.refl _ _⟩
set_option maxRecDepth 100000 in
set_option maxHeartbeats 8000000 in
theorem iback_any (n0 : Int) (b off len cap : Nat) (oa : Option Addr) (hoa : 0 < len → oa = some ⟨b, off, none⟩) (I A B : Nat → Int) (G : Nat → Bool) (hlen : len ≤ 50) (hcap : len ≤ cap) (w : World) (hP : Stk w b off len I A B G) (hL : LibW w) :
    Calls Tryz.prog 7 #[.int .i64 n0, .slice oa len cap] w fun e w' => e = .returned (.bool true) ∧ Keep Nb w w' := by
  have HOA := Lib.hid hoa
  have HPP := Lib.hid hP
  have HL := Lib.hid hL
  have h1 : ¬ (50 : Int) < (len : Int) := by omega
  have HKP := Lib.hid (kept_any w hL)
  obtain ⟨p0, hp0⟩ : ∃ p0, pickN n0 11 = p0 := ⟨_, rfl⟩
  have hp11 : p0 < 11 := by rw [← hp0]; exact pickN_lt n0 (by omega)
  have HP0 := Lib.hid (pick_tt n0 11 p0 hp0 (by omega) (by omega))
  obtain ⟨n, hn⟩ : ∃ n, 2 + p0 = n := ⟨_, rfl⟩
  have hnn : (2 : Int) + (p0 : Nat) = (n : Nat) := by omega
  have hn2 : 2 ≤ n := by omega
  have hn12 : n ≤ 12 := by omega
  clear hoa hP hL hp0 hn hp11
  go_enter Tryz.func7, Tryz.ntmps7
  go_wp2_with fail
  refine HKP.out.mono ?_
  rintro e w1 ⟨rfl, hk1⟩
  have HK1 := Lib.hid hk1
  clear hk1 HKP
  go_wp2_with fail
  refine (HP0.out _).mono ?_
  rintro e w1' ⟨rfl, rfl⟩
  go_wp2_with fail
  refine (inew_any n (by omega) w1).mono ?_
  rintro e w2 ⟨xb, rfl, hX, hk2⟩
  have H0 : Hid (IbR w w2 xb n (esI n I A B G 0)) := Lib.hid ⟨HK1.out.trans hk2, hX.known.mono (fun k hk _ => Nat.le_trans HK1.out.size hk)⟩
  clear hX hk2 HP0 hnn
  go_wp2_with fail
  go_loopg [7] len (fun kx s wr => ∃ i : Nat, s = .int .i64 i ∧ i ≤ len ∧ len - i ≤ kx ∧ Hid (IbR w wr xb n (esI n I A B G i)))
  case atStart => exact ⟨0, rfl, Nat.zero_le _, by omega, H0⟩
  case round =>
    clear H0
    obtain ⟨i, rfl, hi, hg, HR⟩ := hrel
    by_cases hlt : i < len
    · as_aux_lemma =>
      obtain rfl := HOA.out (by omega)
      have hP' := HPP.out.keep HR.out.1 (fun e => e)
      have p0 := hP'.id i hlt
      have p1 := hP'.a i hlt
      have p2 := hP'.bq i hlt
      have p3 := hP'.g i hlt
      have hIO := (esI_ok (by omega : n ≤ 40) I A B G i).1
      obtain ⟨t, ht⟩ : ∃ t, I i = t := ⟨_, rfl⟩
      obtain ⟨xa, hxa⟩ : ∃ xa, A i = xa := ⟨_, rfl⟩
      obtain ⟨xc, hxc⟩ : ∃ xc, B i = xc := ⟨_, rfl⟩
      obtain ⟨gn, hgn⟩ : ∃ gn, G i = gn := ⟨_, rfl⟩
      obtain ⟨es, hes⟩ : ∃ es, esI n I A B G i = es := ⟨_, rfl⟩
      obtain ⟨pt, hpt⟩ : ∃ p, pickN t 30 = p := ⟨_, rfl⟩
      obtain ⟨pa, hpa⟩ : ∃ p, pickN xa n = p := ⟨_, rfl⟩
      obtain ⟨pc, hpc⟩ : ∃ p, pickN xc n = p := ⟨_, rfl⟩
      have HES : Hid (esI n I A B G (i + 1) = if gn = true then cutEs es (pt : Nat) else addEs n es (pt : Nat) (pa : Nat) (pc : Nat)) := Lib.hid (by
        show (if G i = true then cutEs (esI n I A B G i) (pickN (I i) 30 : Nat) else addEs n (esI n I A B G i) (pickN (I i) 30 : Nat) (pickN (A i) n : Nat) (pickN (B i) n : Nat)) = _
        rw [hgn, hes, ht, hxa, hxc, hpt, hpa, hpc])
      have HT := Lib.hid (pick_tt t 30 pt hpt (by omega) (by omega))
      have HA := Lib.hid (pick_tt xa n pa hpa (by omega) (by omega))
      have HC := Lib.hid (pick_tt xc n pc hpc (by omega) (by omega))
      rw [ht] at p0
      rw [hxa] at p1
      rw [hxc] at p2
      rw [hgn] at p3
      rw [hes] at HR hIO
      clear hP' ht hxa hxc hgn hes hpt hpa hpc
      have HIO := Lib.hid hIO
      have hrow := Row.new wr #[.int .i64 t, .int .i64 xa, .int .i64 xc, .bool gn] 77
      obtain ⟨w4, hw4⟩ : ∃ w4, wr.alloc (.cells #[.int .i64 t, .int .i64 xa, .int .i64 xc, .bool gn] 77) = w4 := ⟨_, rfl⟩
      obtain ⟨X, hX⟩ : ∃ X, wr.heap.size = X := ⟨_, rfl⟩
      have hk4 : Keep Nb wr w4 := by rw [← hw4]; exact (Keep.refl Nb wr).alloc _
      rw [hw4, hX] at hrow
      have HK4 := Lib.hid hk4
      have HX4 : Hid (IxK (fun k => w.heap.size ≤ k ∧ k < wr.heap.size) w4 xb n es) := Lib.hid (HR.out.2.tight.keep hk4 (fun _ _ e => e))
      have HXR : Hid (wr.heap.size = X) := Lib.hid hX
      have x0 := hrow.cell (i := 0) rfl
      have x1 := hrow.cell (i := 1) rfl
      have x2 := hrow.cell (i := 2) rfl
      have x3 := hrow.cell (i := 3) rfl
      have y0 := hrow.frozen 0 none
      have y1 := hrow.frozen 1 none
      have y2 := hrow.frozen 2 none
      have y3 := hrow.frozen 3 none
      clear hIO hk4 hrow
      go_upto_region 13 with (fail)
      clear p0 p1 p2 p3 hw4 hX y0 y1 y2 y3
      cases gn with
      | true =>
        go_wp2_with fail
        refine (HT.out _).mono ?_
        rintro e w5 ⟨rfl, rfl⟩
        go_wp2_with fail
        refine (idropK_any _ w4 xb n es (pt : Nat) HX4.out HIO.out).mono ?_
        rintro e w5 ⟨he, hX5, hk5⟩
        obtain ⟨ev, hev⟩ : ∃ ev, (if hasId es (pt : Nat) = true then Value.nilIface else errVal 7) = ev := ⟨_, rfl⟩
        rw [hev] at he
        subst he
        have HN : Hid (IbR w w5 xb n (esI n I A B G (i + 1))) := Lib.hid (by rw [HES.out, if_pos trivial]; exact HR.out.next HK4.out hX5 hk5)
        clear hX5 hk5 hev
        go_wp2_with fail
        go_roundg (len - (i + 1))
        case measure => omega
        case rel => exact ⟨i + 1, by go_num, by omega, Nat.le_refl _, HN⟩
      | false =>
        have HADD : Hid (∀ wx, Keep Nb w4 wx → Calls Tryz.prog 55 #[.pointer (some ⟨xb, 0, none⟩), .int .i64 pt, .int .i64 pa, .int .i64 pc] wx fun e w' => ∃ r, e = .returned r ∧ IxK (fun k => (w.heap.size ≤ k ∧ k < wr.heap.size) ∨ w4.heap.size ≤ k) w' xb n (addEs n es (pt : Nat) (pa : Nat) (pc : Nat)) ∧ Keep (fun k => w.heap.size ≤ k ∧ k < wr.heap.size) wx w') := Lib.hid (fun wx hkx => by
          refine (iaddK_any _ wx xb n es (pt : Nat) (pa : Nat) (pc : Nat) (HX4.out.keep hkx (fun _ _ e => e)) HIO.out).mono ?_
          rintro e w' ⟨he, h2, h3⟩
          have hz := hkx.size
          exact ⟨_, he, h2.mono (fun k hk _ => by
            rcases hk with hk | hk
            · exact .inl hk
            · exact .inr (Nat.le_trans hz hk)), h3⟩)
        have NB : Hid (¬ (w.heap.size ≤ X ∧ X < wr.heap.size)) := Lib.hid (fun h => by have := HXR.out; omega)
        have DV := Lib.hid (And.intro x0 (And.intro x1 x2))
        go_wp2_with fail
        go_region_held3 (fun w' => w'.cell? ⟨X, 0, none⟩ = some (.int .i64 t) ∧ w'.cell? ⟨X, 1, none⟩ = some (.int .i64 xa) ∧ w'.cell? ⟨X, 2, none⟩ = some (.int .i64 xc)) (go_keep) ((first
          | (go_at_call_of 52 (Value.int IntKind.i64 t); refine (HT.out _).mono ?_; rintro e1 wA ⟨rfl, rfl⟩)
          | (go_at_call_of 52 (Value.int IntKind.i64 xa); refine (HA.out _).mono ?_; rintro e1 wA ⟨rfl, rfl⟩)
          | (go_at_call_of 52 (Value.int IntKind.i64 xc); refine (HC.out _).mono ?_; rintro e1 wA ⟨rfl, rfl⟩)
          | (go_at_call 55; refine (HADD.out _ (show Keep Nb w4 _ from (by (repeat (first | exact Keep.refl _ _ | refine Keep.alloc ?_ _ | refine Keep.drew ?_))))).mono ?_; rintro e1 wA ⟨r, rfl, hA, kA⟩; have a0 := kA.cell (p := ⟨X, 0, none⟩) DV.out.1 NB.out; have a1 := kA.cell (p := ⟨X, 1, none⟩) DV.out.2.1 NB.out; have a2 := kA.cell (p := ⟨X, 2, none⟩) DV.out.2.2 NB.out; have HA2 := Lib.hid hA; have KA := Lib.hid kA; clear hA kA)))
        have HN : Hid (IbR w wA xb n (esI n I A B G (i + 1))) := Lib.hid (by rw [HES.out, if_neg (by simp)]; exact HR.out.next HK4.out HA2.out (((Keep.refl (fun k => w.heap.size ≤ k ∧ k < wr.heap.size) w4).drew).trans KA.out))
        clear HA2 KA a0 a1 a2
        go_wp2_with fail
        go_roundg (len - (i + 1))
        case measure => omega
        case rel => exact ⟨i + 1, by go_num, by omega, Nat.le_refl _, HN⟩
    · obtain rfl : len = i := by omega
      obtain ⟨hI0, hO0⟩ := esI_ok (by omega : n ≤ 40) I A B G len
      obtain ⟨es, hes⟩ : ∃ es, esI n I A B G len = es := ⟨_, rfl⟩
      rw [hes] at HR hI0 hO0
      have HI := Lib.hid hI0
      have HO := Lib.hid hO0
      clear hes hI0 hO0
      go_wp2_with fail
      refine (inew_any n (by omega) wr).mono ?_
      rintro e wY ⟨yb, rfl, hY, hkY⟩
      have HY := Lib.hid hY
      have HKY := Lib.hid hkY
      have HSV := Lib.hid (isavedK_any _ wY xb n es (HR.out.2.tight.keep hkY (fun _ _ e => e)) (HL.out.keep (HR.out.1.trans hkY)) HI.out)
      clear hY hkY
      go_wp2_with fail
      refine HSV.out.mono ?_
      rintro e wS ⟨rfl, hkS⟩
      have HKS := Lib.hid hkS
      have HLD : Hid (Calls Tryz.prog 47 #[.string (bstr (savedT n es))] wS fun e w' => ∃ zb, e = .returned (.tuple #[.pointer (some ⟨zb, 0, none⟩), .nilIface]) ∧ IxK (fun k => wS.heap.size ≤ k) w' zb n es ∧ Keep Nb wS w') := Lib.hid (by
        have hlen := savedT_len (n := n) (es := es) (by omega) (fun e he => by have := HO.out.ord e he; omega)
        refine (iload_any wS (HL.out.keep ((HR.out.1.trans HKY.out).trans hkS)) (savedT n es) (by have := HI.out.le; omega)).mono ?_
        rintro e w' ⟨hk, h⟩
        have hld := ldI_saved (n := n) (es := es) (by omega) HI.out.ok.sorted HO.out
        rcases h with ⟨zb, n', es', rfl, h1, h2, h3, h4⟩ | ⟨_, hno⟩
        · rw [hld] at h1
          cases h1
          exact ⟨zb, rfl, h4.known, hk⟩
        · exact absurd rfl (hno n es hld))
      clear hkS HSV
      go_wp2_with fail
      refine HLD.out.mono ?_
      rintro e wZ ⟨zb, rfl, hZ, hkZ⟩
      obtain ⟨bx, hbx⟩ : ∃ bx : Nat → Nat, bx = fun i => if i = 1 then xb else if i = 2 then yb else zb := ⟨_, rfl⟩
      have hx1 : xb = bx 1 := by rw [hbx]; rfl
      have hx2 : yb = bx 2 := by rw [hbx]; rfl
      have hx3 : zb = bx 3 := by rw [hbx]; rfl
      have z1 := HR.out.1.size
      have z2 := HKY.out.size
      have z3 := HKS.out.size
      have z4 := hkZ.size
      have HBA : Hid (∃ tag, BkA w wZ bx n (fun i => if i = 2 then es.drop es.length else es) tag) := Lib.hid (by
        refine ⟨fun k => if k < w.heap.size then 0 else if k < wr.heap.size then 1 else if k < wY.heap.size then 2 else if k < wS.heap.size then 0 else if k < wZ.heap.size then 3 else 0, fun i a b => ?_, ((HR.out.1.trans HKY.out).trans HKS.out).trans hkZ, fun k hk => ?_, fun k hk => ?_⟩
        · obtain rfl | rfl | rfl : i = 1 ∨ i = 2 ∨ i = 3 := by omega
          · rw [← hx1, if_neg (by omega)]
            refine ((((HR.out.2.tight.keep HKY.out (fun _ _ e => e)).keep HKS.out (fun _ _ e => e)).keep hkZ (fun _ _ e => e))).mono (fun k hk _ => ?_)
            show (if k < w.heap.size then 0 else if k < wr.heap.size then 1 else _) = 1
            rw [if_neg (by omega), if_pos (by omega)]
          · rw [← hx2, if_pos rfl, List.drop_length]
            refine (((HY.out.known.tight.keep HKS.out (fun _ _ e => e)).keep hkZ (fun _ _ e => e))).mono (fun k hk _ => ?_)
            show (if k < w.heap.size then 0 else if k < wr.heap.size then 1 else if k < wY.heap.size then 2 else _) = 2
            rw [if_neg (by omega), if_neg (by omega), if_pos (by omega)]
          · rw [← hx3, if_neg (by omega)]
            refine hZ.tight.mono (fun k hk _ => ?_)
            show (if k < w.heap.size then 0 else if k < wr.heap.size then 1 else if k < wY.heap.size then 2 else if k < wS.heap.size then 0 else if k < wZ.heap.size then 3 else 0) = 3
            rw [if_neg (by omega), if_neg (by omega), if_neg (by omega), if_neg (by omega), if_pos (by omega)]
        · refine Nat.le_of_not_lt fun h => ?_
          have hk : 1 ≤ (if k < w.heap.size then 0 else _) := hk
          rw [if_pos h] at hk
          omega
        · show (if k < w.heap.size then 0 else if k < wr.heap.size then 1 else if k < wY.heap.size then 2 else if k < wS.heap.size then 0 else if k < wZ.heap.size then 3 else 0) = 0
          rw [if_neg (by omega), if_neg (by omega), if_neg (by omega), if_neg (by omega), if_neg (by omega)])
      clear hZ hkZ HLD hbx z1 z2 z3 z4 HY HKY HKS HR
      rw [hx1, hx2, hx3]
      have hx1' : xb = bx 1 := hx1
      clear hx2 hx3
      subst hx1'
      clear hx1
      obtain ⟨tag, hBA⟩ := HBA.out
      have HBA1 := Lib.hid hBA
      have HED := Lib.hid (iedgesK_any _ wZ (bx 1) n es (by have := hBA.all 1 (by omega) (by omega); rwa [if_neg (by omega)] at this) (by have := HI.out.le; omega))
      clear hBA HBA
      go_wp2_with fail
      refine HED.out.mono ?_
      rintro e wE ⟨oE, cE, rfl, hSE, hkE⟩
      have HSE : Hid (BkL w wE bx n es oE es.length cE es.length) := Lib.hid ⟨tag, HBA1.out.still hkE, hSE.tight.mono (fun k hk => ⟨HBA1.out.hi k hk.1, hk.2⟩)⟩
      obtain ⟨m, hm⟩ : ∃ m, es.length = m := ⟨_, rfl⟩
      have hm120 : m ≤ 120 := by rw [← hm]; exact HI.out.le
      rw [hm] at HSE ⊢
      have HM := Lib.hid hm
      have hwm : IntKind.i64.wrap ((m : Int) - 1) = (m : Int) - 1 := IntWalk.i64_in _ (by omega)
      clear hSE hkE HED hm HBA1
      go_wp2_with fail
      go_loopg [13] m (fun kx s wr => ∃ j : Nat, s = .int .i64 ((j : Int) - 1) ∧ j ≤ m ∧ j ≤ kx ∧ Hid (BkL w wr bx n es oE m cE j))
      case atStart => exact ⟨m, rfl, Nat.le_refl _, by omega, HSE⟩
      case round =>
        clear HSE hwm
        obtain ⟨j, rfl, hj, hg2, HR⟩ := hrel
        rcases Nat.eq_zero_or_pos j with rfl | hj0
        · have hneg : ((0 : Nat) : Int) - 1 = -1 := by decide
          rw [hneg]
          have HQ : Hid (∃ tag, BkA w wr bx n (fun _ => es) tag) := Lib.hid (by
            obtain ⟨tag, h, _⟩ := HR.out
            refine ⟨tag, ?_⟩
            have e : (fun i => if i = 2 then es.drop 0 else es) = fun _ : Nat => es := by funext i; split <;> rfl
            rw [e] at h
            exact h)
          clear HR
          obtain ⟨gA, hgA⟩ : ∃ gA, wr.heap.size = gA := ⟨_, rfl⟩
          obtain ⟨wq, hwq⟩ : ∃ wq, wr.alloc (.cells #[.pointer (some ⟨bx 2, 0, none⟩), .pointer (some ⟨bx 3, 0, none⟩)] 66) = wq := ⟨_, rfl⟩
          have HBQ : Hid (∃ tag, BkQ w wq bx n es gA tag) := Lib.hid (by
            obtain ⟨tag, h⟩ := HQ.out
            refine ⟨tag, h.still (by rw [← hwq]; exact (Keep.refl Nb wr).alloc _), ?_, h.hi gA (by omega)⟩
            rw [← hwq, ← hgA]
            exact Row.new wr #[.pointer (some ⟨bx 2, 0, none⟩), .pointer (some ⟨bx 3, 0, none⟩)] 66)
          clear HQ
          go_wp2_with fail
          try rw [hwq]
          try rw [hgA]
          clear hgA hwq
          go_loopg [133] 2 (fun kx s wr => ∃ q : Nat, s = .int .i64 q ∧ q ≤ 2 ∧ 2 - q ≤ kx ∧ Hid (∃ tag, BkQ w wr bx n es gA tag))
          case atStart => exact ⟨0, rfl, by omega, by omega, HBQ⟩
          case round =>
            clear HBQ
            obtain ⟨q, rfl, hq, hg3, HR3⟩ := hrel
            by_cases hq2 : q < 2
            · as_aux_lemma =>
              obtain ⟨tag, h0⟩ := HR3.out
              have dq : wr.cell? ⟨gA, q, none⟩ = some (.pointer (some ⟨bx (q + 2), 0, none⟩)) := by
                refine h0.row.cell ?_
                match q, hq2 with
                | 0, _ => rfl
                | 1, _ => rfl
              obtain ⟨jo, hjo⟩ : ∃ jo, q + 2 = jo := ⟨_, rfl⟩
              rw [hjo] at dq
              have hjo1 : 1 ≤ jo := by omega
              have hjo3 : jo ≤ 3 := by omega
              have hjn : jo ≠ 1 := by omega
              obtain ⟨ob, hob⟩ : ∃ ob, bx jo = ob := ⟨_, rfl⟩
              obtain ⟨sv, hsv⟩ : ∃ sv, savedT n es = sv := ⟨_, rfl⟩
              have c1 := isavedK_any _ wr (bx jo) n es (h0.ix hjo1 hjo3) (HL.out.keep h0.a.keep) HI.out
              rw [hsv] at c1
              rw [hob] at c1 dq
              have C1 := Lib.hid c1
              have B0 := Lib.hid h0
              have HSVE := Lib.hid hsv
              have HOB := Lib.hid hob
              have hsl : sv.length ≤ 100000 := by
                rw [← hsv]
                have hlen := savedT_len (n := n) (es := es) (by omega) (fun e he => by have := HO.out.ord e he; omega)
                have := HI.out.le
                omega
              clear h0 c1 hsv hob
              go_wp2_with fail
              refine C1.out.mono ?_
              rintro e wa ⟨rfl, ka⟩
              have ha := B0.out.still ka
              have c2 := isavedK_any _ wa (bx 1) n es (ha.ix (by omega) (by omega)) (HL.out.keep ha.a.keep) HI.out
              rw [HSVE.out] at c2
              have C2 := Lib.hid c2
              have BA := Lib.hid ha
              clear ka ha c2 C1 B0 dq
              go_wp2_with fail
              refine C2.out.mono ?_
              rintro e wb ⟨rfl, kb⟩
              have hb := BA.out.still kb
              have c3 := ibridgesK_any _ wb (bx jo) n es (hb.ix hjo1 hjo3) (by have := HI.out.le; omega)
              rw [HOB.out] at c3
              have C3 := Lib.hid c3
              have BB := Lib.hid hb
              clear kb hb c3 C2 BA
              go_wp2_with fail
              refine C3.out.mono ?_
              rintro e wc ⟨l1, o1, cc1, rfl, hS1, hB1, kc, hl1⟩
              have hc := BB.out.still kc
              have C4 := Lib.hid (ibridgesK_any _ wc (bx 1) n es (hc.ix (by omega) (by omega)) (by have := HI.out.le; omega))
              have BC := Lib.hid hc
              have S1 := Lib.hid (And.intro hS1 (And.intro hB1 hl1))
              clear kc hc hS1 hB1 hl1 C3 BB
              go_wp2_with fail
              refine C4.out.mono ?_
              rintro e wd ⟨l2, o2, cc2, rfl, hS2, hB2, kd, hl2⟩
              obtain rfl : l2 = l1 := rising_ext hB2.sorted S1.out.2.1.sorted (fun x => (hB2.mem x).trans (S1.out.2.1.mem x).symm)
              have C5 := Lib.hid (same_q _ _ wd o1 o2 l2.length l2.length cc1 cc2 l2 (S1.out.1.keep kd (fun _ _ e => e)) hS2 (by have := S1.out.2.2; have := HI.out.le; omega))
              have BD := Lib.hid (BC.out.still kd)
              clear kd hS2 hB2 hl2 C4 BC
              go_wp2_with fail
              refine C5.out.mono ?_
              rintro e we ⟨rfl, mm, rfl⟩
              have he := BD.out.still ((Keep.refl Nb wd).drewN mm)
              obtain ⟨we, hwe⟩ : ∃ we, wd.drewN mm = we := ⟨_, rfl⟩
              rw [hwe] at he ⊢
              have c6 := iCuts_any _ we (bx jo) n es (he.ix hjo1 hjo3) HI.out
              rw [HOB.out] at c6
              have C6 := Lib.hid c6
              have BE := Lib.hid he
              clear he hwe c6 C5 BD S1
              go_wp2_with fail
              refine C6.out.mono ?_
              rintro e wf ⟨cs1, o3, cc3, q1, q2, rfl, hS3, hl3, hst⟩
              rw [← HOB.out] at hst
              have hfree := BE.out.a.free (w' := wf) hjn (by omega)
              have hf := BE.out.stay hjo1 hst
              obtain ⟨tag1, ht1⟩ : ∃ t, retag tag we wf jo = t := ⟨_, rfl⟩
              rw [ht1] at hf hfree
              have C7 := Lib.hid (iCuts_any _ wf (bx 1) n es (hf.ix (by omega) (by omega)) HI.out)
              have S3 := Lib.hid (And.intro hS3 (And.intro q1 (And.intro q2 (And.intro hl3 hfree))))
              have BF := Lib.hid hf
              clear hS3 q1 q2 hl3 hst hfree hf ht1 C6 BE
              go_wp2_with fail
              refine C7.out.mono ?_
              rintro e wg ⟨cs2, o4, cc4, q1, q2, rfl, hS4, hl4, hst⟩
              obtain rfl : cs2 = cs1 := rising_ext q2 S3.out.2.2.1 (fun x => (q1 x).trans (S3.out.2.1 x).symm)
              have C8 := Lib.hid (same_q _ _ wg o3 o4 cs2.length cs2.length cc3 cc4 cs2 (S3.out.1.keep hst.2 (fun k h1 h2 => S3.out.2.2.2.2 k h1 h2)) hS4 (by omega))
              have hg' := BF.out.stay (by omega) hst
              obtain ⟨tag2, ht2⟩ : ∃ t, retag tag1 wf wg 1 = t := ⟨_, rfl⟩
              rw [ht2] at hg'
              have BG := Lib.hid hg'
              clear hS4 q1 q2 hl4 hst hg' ht2 C7 BF
              go_wp2_with fail
              refine C8.out.mono ?_
              rintro e wh ⟨rfl, mm2, rfl⟩
              have hh := BG.out.still ((Keep.refl Nb wg).drewN mm2)
              obtain ⟨wh, hwh⟩ : ∃ wh, wg.drewN mm2 = wh := ⟨_, rfl⟩
              rw [hwh] at hh ⊢
              have c9 := iBlocks_any _ wh (bx jo) n es (hh.ix hjo1 hjo3) HI.out
              rw [HOB.out] at c9
              have C9 := Lib.hid c9
              have BH := Lib.hid hh
              clear hh hwh c9 C8 BG S3
              go_wp2_with fail
              refine C9.out.mono ?_
              rintro e wi ⟨ps1, o5, cc5, rows1, q1, rfl, hS5, hst⟩
              rw [← HOB.out] at hst
              have hfree := BH.out.a.free (w' := wi) hjn (by omega)
              have hi' := BH.out.stay hjo1 hst
              obtain ⟨tag3, ht3⟩ : ∃ t, retag tag2 wh wi jo = t := ⟨_, rfl⟩
              rw [ht3] at hi' hfree
              have C10 := Lib.hid (iBlocks_any _ wi (bx 1) n es (hi'.ix (by omega) (by omega)) HI.out)
              have S5 := Lib.hid (And.intro hS5 (And.intro q1 hfree))
              have BI := Lib.hid hi'
              clear hS5 q1 hst hfree hi' ht3 C9 BH
              go_wp2_with fail
              refine C10.out.mono ?_
              rintro e wj ⟨ps2, o6, cc6, rows2, q1, rfl, hS6, hst⟩
              obtain rfl : ps2 = ps1 := q1.unique S5.out.2.1
              have hbd := blk_lens HI.out q1
              have C11 := Lib.hid (sames_q _ _ wj o5 o6 ps2.length ps2.length cc5 cc6 rows1 rows2 ps2 (S5.out.1.keep hst.2 (fun k h1 h2 => S5.out.2.2 k h1 h2)) hS6 (by omega) (fun l hl => by have := hbd.2 l hl; omega))
              have hj' := BI.out.stay (by omega) hst
              obtain ⟨tag4, ht4⟩ : ∃ t, retag tag3 wi wj 1 = t := ⟨_, rfl⟩
              rw [ht4] at hj'
              have BJ := Lib.hid hj'
              clear hS6 q1 hst hj' ht4 C10 BI hbd
              go_wp2_with fail
              refine C11.out.mono ?_
              rintro e wk ⟨rfl, mm3, rfl⟩
              have hk' := BJ.out.still ((Keep.refl Nb wj).drewN mm3)
              obtain ⟨wk, hwk⟩ : ∃ wk, wj.drewN mm3 = wk := ⟨_, rfl⟩
              rw [hwk] at hk' ⊢
              have c12 := iThrice_any _ wk (bx jo) n es (hk'.ix hjo1 hjo3) HI.out
              rw [HOB.out] at c12
              have C12 := Lib.hid c12
              have BK := Lib.hid hk'
              clear hk' hwk c12 C11 BJ S5
              go_wp2_with fail
              refine C12.out.mono ?_
              rintro e wl ⟨T1, o7, m7, cc7, rows3, q1, q2, rfl, hS7, hst⟩
              rw [← HOB.out] at hst
              have hfree := BK.out.a.free (w' := wl) hjn (by omega)
              have hl' := BK.out.stay hjo1 hst
              obtain ⟨tag5, ht5⟩ : ∃ t, retag tag4 wk wl jo = t := ⟨_, rfl⟩
              rw [ht5] at hl' hfree
              have C13 := Lib.hid (iThrice_any _ wl (bx 1) n es (hl'.ix (by omega) (by omega)) HI.out)
              have S7 := Lib.hid (And.intro hS7 (And.intro q1 (And.intro q2 hfree)))
              have BL := Lib.hid hl'
              clear hS7 q1 q2 hst hfree hl' ht5 C12 BK
              go_wp2_with fail
              refine C13.out.mono ?_
              rintro e wm ⟨T2, o8, m8, cc8, rows4, q1, q2, rfl, hS8, hst⟩
              have hpp : parts n T2 = parts n T1 := parts_congr (canon_unique q1 S7.out.2.1 (fun x y hx hy => (q2 x y hx hy).trans (S7.out.2.2.1 x y hx hy).symm))
              rw [hpp] at hS8
              have hbd := parts_boundK n T1 (by omega)
              have C14 := Lib.hid (sames_q _ _ wm o7 o8 m7 m8 cc7 cc8 rows3 rows4 (parts n T1) (S7.out.1.keep hst.2 (fun k h1 h2 => S7.out.2.2.2 k h1 h2)) hS8 (by omega) (fun l hl => by have := hbd.2 l hl; omega))
              have hm' := BL.out.stay (by omega) hst
              obtain ⟨tag6, ht6⟩ : ∃ t, retag tag5 wl wm 1 = t := ⟨_, rfl⟩
              rw [ht6] at hm'
              have BM := Lib.hid hm'
              clear hS8 q1 q2 hst hm' ht6 C13 BL hbd hpp
              go_wp2_with fail
              refine C14.out.mono ?_
              rintro e wn ⟨rfl, mm4, rfl⟩
              have hn' := BM.out.still ((Keep.refl Nb wm).drewN mm4)
              obtain ⟨wn, hwn⟩ : ∃ wn, wm.drewN mm4 = wn := ⟨_, rfl⟩
              rw [hwn] at hn' ⊢
              obtain ⟨lp, hlp⟩ : ∃ lp, (alikes (mk es) es).length = lp := ⟨_, rfl⟩
              have c15 := iPairs_any _ wn (bx jo) n es (hn'.ix hjo1 hjo3) HI.out
              rw [HOB.out, hlp] at c15
              have C15 := Lib.hid c15
              have HLP := Lib.hid hlp
              have BN := Lib.hid hn'
              clear hn' hwn c15 C14 BM S7 hlp
              go_wp2_with fail
              refine C15.out.mono ?_
              rintro e wo ⟨o9, cc9, rfl, -, hst⟩
              rw [← HOB.out] at hst
              have ho' := BN.out.stay hjo1 hst
              obtain ⟨tag7, ht7⟩ : ∃ t, retag tag6 wn wo jo = t := ⟨_, rfl⟩
              rw [ht7] at ho'
              have c16 := iPairs_any _ wo (bx 1) n es (ho'.ix (by omega) (by omega)) HI.out
              rw [HLP.out] at c16
              have C16 := Lib.hid c16
              have BO := Lib.hid ho'
              clear hst ho' ht7 c16 C15 BN
              go_wp2_with fail
              refine C16.out.mono ?_
              rintro e wp ⟨o10, cc10, rfl, -, hst⟩
              have hp' := BO.out.stay (by omega) hst
              obtain ⟨tag8, ht8⟩ : ∃ t, retag tag7 wo wp 1 = t := ⟨_, rfl⟩
              rw [ht8] at hp'
              obtain ⟨ls, hls⟩ : ∃ ls, (allS (splitsB n es) n n).length = ls := ⟨_, rfl⟩
              have c17 := iSplits_any _ wp (bx jo) n es (hp'.ix hjo1 hjo3) HI.out
              unfold ISplitsPost at c17
              rw [HOB.out, hls] at c17
              have C17 := Lib.hid c17
              have HLS := Lib.hid hls
              have BP := Lib.hid hp'
              clear hst hp' ht8 c17 C16 BO hls
              go_wp2_with fail
              refine C17.out.mono ?_
              rintro e wr1 ⟨o11, cc11, rfl, -, hst⟩
              rw [← HOB.out] at hst
              have hr' := BP.out.stay hjo1 hst
              obtain ⟨tag9, ht9⟩ : ∃ t, retag tag8 wp wr1 jo = t := ⟨_, rfl⟩
              rw [ht9] at hr'
              have c18 := iSplits_any _ wr1 (bx 1) n es (hr'.ix (by omega) (by omega)) HI.out
              unfold ISplitsPost at c18
              rw [HLS.out] at c18
              have C18 := Lib.hid c18
              have BR := Lib.hid hr'
              clear hst hr' ht9 c18 C17 BP
              go_wp2_with fail
              refine C18.out.mono ?_
              rintro e ws ⟨o12, cc12, rfl, -, hst⟩
              have BS : Hid (∃ tag, BkQ w ws bx n es gA tag) := Lib.hid ⟨_, BR.out.stay (by omega) hst⟩
              clear hst C18 BR
              go_wp2_with fail
              go_loopg [18] n (fun kx s wr => ∃ a : Nat, s = .int .i64 a ∧ a ≤ n ∧ n - a ≤ kx ∧ Hid (∃ tag, BkQ w wr bx n es gA tag))
              case atStart => exact ⟨0, rfl, Nat.zero_le _, by omega, BS⟩
              case round =>
                clear BS
                obtain ⟨a, rfl, ha, hg4, HR4⟩ := hrel
                by_cases hlt : a < n
                · have ha' : (a : Int) < (n : Int) := by omega
                  go_wp2_with fail
                  go_loopg [19] a (fun kx s wr => ∃ b : Nat, s = .int .i64 b ∧ b ≤ a ∧ a - b ≤ kx ∧ Hid (∃ tag, BkQ w wr bx n es gA tag))
                  case atStart => exact ⟨0, rfl, Nat.zero_le _, by omega, HR4⟩
                  case round =>
                    clear HR4
                    obtain ⟨b', rfl, hb', hg5, HR5⟩ := hrel
                    by_cases hlt2 : b' < a
                    · obtain ⟨tagA, hA⟩ := HR5.out
                      have D1 := Lib.hid (itwiceK_any _ wr (bx 1) n es a b' hlt (by omega) (hA.ix (by omega) (by omega)))
                      have BA := Lib.hid hA
                      have hlt2' : (b' : Int) < (a : Int) := by omega
                      clear hA HR5
                      go_wp2_with fail
                      refine D1.out.mono ?_
                      rintro e wt ⟨r1, hr1, rfl, hX1, hk1⟩
                      have hB := BA.out.stay (i := 1) (by omega) (IxK.ask hX1 hk1)
                      have d2 := itwiceK_any _ wt (bx jo) n es a b' hlt (by omega) (hB.ix hjo1 hjo3)
                      rw [HOB.out] at d2
                      have D2 := Lib.hid d2
                      have BB := Lib.hid hB
                      have HR1 := Lib.hid hr1
                      clear hX1 hk1 hB d2 hr1 D1 BA
                      go_wp2_with fail
                      refine D2.out.mono ?_
                      rintro e wu ⟨r2, hr2, rfl, hX2, hk2⟩
                      rw [← HOB.out] at hX2
                      have BC : Hid (∃ tag, BkQ w wu bx n es gA tag) := Lib.hid ⟨_, BB.out.stay hjo1 (IxK.ask hX2 hk2)⟩
                      obtain rfl : r2 = r1 := Bool.eq_iff_iff.2 (hr2.trans HR1.out.symm)
                      have hrr : (r2 != r2) = false := by simp
                      have hwb : IntKind.i64.wrap ((b' : Int) + 1) = (b' : Int) + 1 := IntWalk.i64_in _ (by omega)
                      clear hX2 hk2 hr2 D2 BB HR1
                      go_wp2_with fail
                      go_roundg (a - (b' + 1))
                      case measure => omega
                      case rel => exact ⟨b' + 1, by go_num, by omega, Nat.le_refl _, BC⟩
                    · obtain rfl : a = b' := by omega
                      have hwa : IntKind.i64.wrap ((a : Int) + 1) = (a : Int) + 1 := IntWalk.i64_in _ (by omega)
                      go_wp2_with fail
                      go_roundg (n - (a + 1))
                      case measure => omega
                      case rel => exact ⟨a + 1, by go_num, by omega, Nat.le_refl _, HR5⟩
                · obtain rfl : n = a := by omega
                  have hwq2 : IntKind.i64.wrap ((q : Int) + 1) = (q : Int) + 1 := IntWalk.i64_in _ (by omega)
                  go_wp2_with fail
                  go_roundg (2 - (q + 1))
                  case measure => omega
                  case rel => exact ⟨q + 1, by go_num, by omega, Nat.le_refl _, HR4⟩
            · obtain rfl : q = 2 := by omega
              have hKK : Hid (Keep Nb w wr) := Lib.hid (by obtain ⟨tag, h⟩ := HR3.out; exact h.a.keep)
              clear HR3
              go_wp2_with fail
              go_ret
              exact ⟨rfl, hKK.out⟩
        · as_aux_lemma =>
          obtain ⟨i, rfl⟩ : ∃ i, j = i + 1 := ⟨j - 1, by omega⟩
          have hji : ((i + 1 : Nat) : Int) - 1 = (i : Int) := by omega
          rw [hji]
          obtain ⟨tag, hA, hSl⟩ := HR.out
          obtain ⟨e, he⟩ : ∃ e, es[i]? = some e := ⟨_, List.getElem?_eq_getElem (by rw [HM.out]; omega)⟩
          obtain ⟨go, rfl, hFg, hnc, hrow⟩ := hSl.pos (by omega)
          have d0 := hrow.edges.id _ _ he
          have d1 := hrow.edges.a _ _ he
          have d2 := hrow.edges.b _ _ he
          have HHA := Lib.hid (And.intro hA hSl)
          obtain ⟨ae, aa⟩ := add_back HI.out HO.out he
          have HADD : Hid (∀ wx, Keep Nb wr wx → Calls Tryz.prog 55 #[.pointer (some ⟨bx 2, 0, none⟩), .int .i64 e.id, .int .i64 e.b, .int .i64 e.a] wx fun e' w' => ∃ bv, e' = .returned (.tuple #[.bool bv, .nilIface]) ∧ BkL w w' bx n es (some ⟨go, 0, none⟩) m cE i ∧ Keep (fun k => tag k = 2) wx w') := Lib.hid (fun wx hkx => by
            have h2 := (hA.all 2 (by omega) (by omega))
            rw [if_pos rfl] at h2
            refine (iaddK_any (fun k => tag k = 2) wx (bx 2) n (es.drop (i + 1)) e.id e.b e.a (h2.keep hkx) (HI.out.drop (i + 1))).mono ?_
            rintro e' w' ⟨q1, q2, q3⟩
            rw [ae, if_pos rfl] at q1
            rw [aa] at q2
            exact ⟨_, q1, BkL.next hA hSl hkx q2 q3, q3⟩)
          have NB : Hid (¬ tag go = 2) := Lib.hid (by rw [hFg.1]; omega)
          have DV := Lib.hid (And.intro d0 (And.intro d1 d2))
          have b1 : (0 : Int) ≤ (i : Int) := by omega
          have b2 : (i : Int) < (m : Int) := by omega
          clear hA hSl he hFg hrow ae aa HR
          go_wp2_with fail
          go_region_held3 (fun w' => w'.cell? ⟨go, i * 3, none⟩ = some (.int .i64 e.id) ∧ w'.cell? ⟨go, i * 3 + 1, none⟩ = some (.int .i64 e.a) ∧ w'.cell? ⟨go, i * 3 + 2, none⟩ = some (.int .i64 e.b)) (go_keep) ((first
            | (go_at_call 55; refine (HADD.out _ (show Keep Nb wr _ from (by (repeat (first | exact Keep.refl _ _ | refine Keep.alloc ?_ _ | refine Keep.drew ?_))))).mono ?_; rintro e1 wA ⟨bv, rfl, hA, kA⟩; have a0 := kA.cell (p := ⟨go, i * 3, none⟩) DV.out.1 NB.out; have a1 := kA.cell (p := ⟨go, i * 3 + 1, none⟩) DV.out.2.1 NB.out; have a2 := kA.cell (p := ⟨go, i * 3 + 2, none⟩) DV.out.2.2 NB.out; have HA2 := Lib.hid hA; clear hA kA)))
          clear a0 a1 a2
          have hwi : IntKind.i64.wrap ((i : Int) - 1) = (i : Int) - 1 := IntWalk.i64_in _ (by omega)
          go_wp2_with fail
          go_roundg i
          case measure => omega
          case rel => exact ⟨i, by first | rfl | go_num, by omega, Nat.le_refl _, HA2⟩
end Go.Proofs.YtkpoobnldgfapabGreatDoor

namespace Go.Proofs.YtkpoobnldgfapabGreatDoor
open Go.RowKit Go.ChangeShapes Go.WideShapes Go.ChangeAt Go.Deep
theorem open_quads {H : Type} {enc : TypeId × Value → H} {P : Program} {w : World} {base : Nat} {spare : Nat → Bool} {held : Bool} {t e : TypeId} {f0 f1 f2 f3 : Field} {fuel : Nat} {cs : List Value} {x : DataW H × List MemPlace}
    (ht : P.underlying t = some (.slice e)) (he : P.underlying e = some (.struct #[f0, f1, f2, f3])) (ce : P.cellsOf e = 4) (o0 : f0.offset = 0) (o1 : f1.offset = 1) (o2 : f2.offset = 2) (o3 : f3.offset = 3)
    (c0 : P.cellsOf f0.type = 1) (c1 : P.cellsOf f1.type = 1) (c2 : P.cellsOf f2.type = 1) (c3 : P.cellsOf f3.type = 1) (h : DataW.trod enc P w base spare held fuel t cs = some x) :
    cs = [.slice none 0 0] ∨ ∃ (a : Addr) (len cap : Nat), cs = [.slice (some a) len cap] ∧ len ≤ cap ∧
      ∀ i, i < len → ∃ (n : Nat) (v0 v1 v2 v3 : Value) (y0 y1 y2 y3 : DataW H × List MemPlace), w.cell? (a.add (i * 4)) = some v0 ∧ w.cell? (a.add (i * 4 + 1)) = some v1 ∧ w.cell? (a.add (i * 4 + 2)) = some v2 ∧ w.cell? (a.add (i * 4 + 3)) = some v3 ∧
        DataW.trod enc P w base spare held n f0.type [v0] = some y0 ∧ DataW.trod enc P w base spare held n f1.type [v1] = some y1 ∧ DataW.trod enc P w base spare held n f2.type [v2] = some y2 ∧ DataW.trod enc P w base spare held n f3.type [v3] = some y3 := by
  rcases open_slice ht h with h0 | ⟨a, len, cap, m, n, D, Pl, rfl, hb, hl, hm, hmm, rfl, hx⟩
  · exact Or.inl h0.1
  right
  have hlm : len ≤ m := by rw [hmm]; split <;> omega
  refine ⟨a, len, cap, rfl, hl, fun i hi => ?_⟩
  obtain ⟨cs', h1, h2⟩ := hx i (by omega)
  rw [ce] at h1
  obtain ⟨_, hlen, hcell⟩ := World.cells?_some h1
  obtain ⟨xs, k, hk, hxy, _, hxl, hf⟩ := DataW.trod_struct he h2
  match xs, hxl, cs', hlen with
  | [y0, y1, y2, y3], _, [v0, v1, v2, v3], _ =>
    have g0 := hf 0 f0 rfl
    have g1 := hf 1 f1 rfl
    have g2 := hf 2 f2 rfl
    have g3 := hf 3 f3 rfl
    simp [o0, o1, o2, o3, c0, c1, c2, c3] at g0 g1 g2 g3
    have e0 := hcell 0 (by omega)
    have e1 := hcell 1 (by omega)
    have e2 := hcell 2 (by omega)
    have e3 := hcell 3 (by omega)
    rw [add_add] at e0 e1 e2 e3
    exact ⟨k, v0, v1, v2, v3, y0, y1, y2, y3, by simpa using e0, by simpa using e1, by simpa using e2, by simpa using e3, g0, g1, g2, g3⟩
theorem open_stk {H : Type} {enc : TypeId × Value → H} {w : World} {base : Nat} {held : Bool} {v : Value} {d : DataW H} {ps : List MemPlace} (hv : ∃ oa len cap, v = .slice oa len cap)
    (h : DataW.Trod enc Tryz.prog w base (fun _ => true) held 72 v d ps) :
    ∃ oa len cap b off I A B G, v = .slice oa len cap ∧ len ≤ cap ∧ (0 < len → oa = some ⟨b, off, none⟩) ∧ Stk w b off len I A B G := by
  obtain ⟨oa, len, cap, rfl⟩ := hv
  obtain ⟨fuel, hf⟩ := h
  rcases open_quads Tryz.underlying72 Tryz.underlying77 (by kernel_rfl) rfl rfl rfl rfl (by kernel_rfl) (by kernel_rfl) (by kernel_rfl) (by kernel_rfl) hf with hcs | ⟨a, len', cap', hcs, hl, hi⟩
  · simp [Value.cells] at hcs
    obtain ⟨rfl, rfl, rfl⟩ := hcs
    exact ⟨none, 0, 0, 0, 0, fun _ => 0, fun _ => 0, fun _ => 0, fun _ => false, rfl, Nat.le_refl _, fun h => absurd h (by omega), ⟨fun i h => absurd h (by omega), fun i h => absurd h (by omega), fun i h => absurd h (by omega), fun i h => absurd h (by omega)⟩⟩
  · simp [Value.cells] at hcs
    obtain ⟨rfl, rfl, rfl⟩ := hcs
    obtain ⟨b, off, spot⟩ := a
    have each : ∀ i, ∃ q : Int × Int × Int × Bool, i < len → w.cell? ((⟨b, off, spot⟩ : Addr).add (i * 4)) = some (.int .i64 q.1) ∧ w.cell? ((⟨b, off, spot⟩ : Addr).add (i * 4 + 1)) = some (.int .i64 q.2.1) ∧ w.cell? ((⟨b, off, spot⟩ : Addr).add (i * 4 + 2)) = some (.int .i64 q.2.2.1) ∧ w.cell? ((⟨b, off, spot⟩ : Addr).add (i * 4 + 3)) = some (.bool q.2.2.2) := fun i => by
      by_cases h : i < len
      · obtain ⟨n, v0, v1, v2, v3, y0, y1, y2, y3, e0, e1, e2, e3, g0, g1, g2, g3⟩ := hi i h
        obtain ⟨k0, q0, _⟩ := DataW.trod_int Tryz.underlying3 g0
        obtain ⟨k1, q1, _⟩ := DataW.trod_int Tryz.underlying3 g1
        obtain ⟨k2, q2, _⟩ := DataW.trod_int Tryz.underlying3 g2
        obtain ⟨k3, q3, _⟩ := DataW.trod_bool Tryz.underlying4 g3
        simp at q0 q1 q2 q3
        exact ⟨(k0, k1, k2, k3), fun _ => ⟨by rw [e0, q0], by rw [e1, q1], by rw [e2, q2], by rw [e3, q3]⟩⟩
      · exact ⟨(0, 0, 0, false), fun h' => absurd h' h⟩
    obtain ⟨q, all⟩ := Classical.skolem.1 each
    have hspot : 0 < len → spot = none := fun h => by
      have := (all 0 h).1
      simpa [Addr.add] using World.cell?_spot this
    refine ⟨_, _, _, b, off, fun i => (q i).1, fun i => (q i).2.1, fun i => (q i).2.2.1, fun i => (q i).2.2.2, rfl, hl, fun h => by rw [hspot h], ⟨fun i h => ?_, fun i h => ?_, fun i h => ?_, fun i h => ?_⟩⟩
    · have c := (all i h).1
      rw [hspot (by omega), Addr.add_lit] at c
      exact c
    · have c := (all i h).2.1
      rw [hspot (by omega), Addr.add_lit] at c
      exact c
    · have c := (all i h).2.2.1
      rw [hspot (by omega), Addr.add_lit] at c
      exact c
    · have c := (all i h).2.2.2
      rw [hspot (by omega), Addr.add_lit] at c
      exact c
end Go.Proofs.YtkpoobnldgfapabGreatDoor

