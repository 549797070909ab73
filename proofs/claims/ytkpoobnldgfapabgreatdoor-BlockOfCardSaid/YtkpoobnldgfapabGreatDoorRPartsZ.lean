/- isthmusref.Parts, by a closure that tells who is alike (Whole's, Twice's, Thrice's). -/
import Derived.Test.YtkpoobnldgfapabGreatDoorA2
import Derived.Test.YtkpoobnldgfapabGreatDoorMatNew
import Derived.Test.YtkpoobnldgfapabGreatDoorP1
import Derived.Deep.LoopGhost
set_option linter.unusedVariables false
set_option linter.unusedSimpArgs false
namespace Go.Proofs.YtkpoobnldgfapabGreatDoor
open Go.RowKit Pl

/-- The first member of a part is its root; which part it is. -/
theorem parts_idx {k : Nat} {L : Nat → Nat} (C : Canon k L) {i r : Nat} {l : List Nat} (h : (parts k L)[i]? = some l) (h0 : l[0]? = some r) : i = cnt r (isRoot L) ∧ r < k ∧ L r = r := by
  obtain ⟨r', h1, h2, h3, _, h5⟩ := parts_part C h
  obtain rfl : r' = r := by rw [h5] at h0; exact Option.some.inj h0
  refine ⟨?_, h1, h2⟩
  have g := roots_get h1 (show isRoot L r' = true by simp [isRoot, h2])
  rw [parts_eq, List.getElem?_map] at h
  cases ri : ((List.range k).filter (isRoot L))[i]? with
  | none => rw [ri] at h; cases h
  | some q =>
    rw [ri] at h
    simp only [Option.map_some, Option.some.injEq] at h
    subst h
    have hm := (List.mem_filter.1 (List.mem_of_getElem? h5)).2
    simp only [decide_eq_true_eq] at hm
    have e : q = r' := by rw [← hm, h2]
    subst e
    have hnd : ((List.range k).filter (isRoot L)).Nodup := List.nodup_range.sublist List.filter_sublist
    exact (List.getElem?_inj (List.getElem?_eq_some_iff.1 ri).1 hnd).1 (ri.trans g.symm)

/-- A part's first member, and one that is to come: whether they are alike says whether this is its part. -/
theorem part_head {n k : Nat} {L : Nat → Nat} (C : Canon n L) (hk : k < n) {i : Nat} {l : List Nat} (hl : (parts k L)[i]? = some l) :
    ∃ r, r < k ∧ l[0]? = some r ∧ (L r ≠ L k → i ≠ cnt (L k) (isRoot L)) ∧ (L r = L k → L k ≠ k ∧ i = cnt (L k) (isRoot L)) := by
  obtain ⟨r, hrk, hrr, _, _, hr0⟩ := parts_part (C.less (show k ≤ n by omega)) hl
  obtain ⟨h2, _, _⟩ := parts_idx (C.less (show k ≤ n by omega)) hl hr0
  refine ⟨r, hrk, hr0, fun hne e => ?_, fun he => ⟨by omega, by rw [← he, hrr]; exact h2⟩⟩
  by_cases hkk : L k = k
  · have h3 := cnt_lt hrk (show isRoot L r = true by simp [isRoot, hrr])
    rw [hkk] at e
    omega
  · have hLk : L k < k := by have := C.le k hk; omega
    have g1 := roots_get hLk (show isRoot L (L k) = true by simp [isRoot, C.idem k hk])
    have g2 := roots_get hrk (show isRoot L r = true by simp [isRoot, hrr])
    rw [← h2, e, g1] at g2
    exact hne (by rw [hrr]; exact (Option.some.inj g2).symm)

def QRel (w : World) (L : Nat → Nat) (k : Nat) (o : Option Addr) (m c : Nat) (rows : List Rw) (wr : World) : Prop :=
  Mat (fun j => w.heap.size ≤ j) wr 33 3 o m c rows (parts k L) ∧ Keep Nb w wr

def QPartsPost (w : World) (n : Nat) (L : Nat → Nat) (e : Ending) (w' : World) : Prop :=
  ∃ o m c rows, e = .returned (.slice o m c) ∧ Mat (Iv w.heap.size w'.heap.size) w' 33 3 o m c rows (parts n L) ∧ Keep Nb w w'

theorem qrel_root {w wi wr w1 w3 : World} {L : Nat → Nat} {n k m c go c1 : Nat} {o : Option Addr} {rows : List Rw} (C : Canon n L) (hk : k < n) (hroot : L k = k) (h : QRel w L k o m c rows wr) (hk1 : Keep Nb wr wi)
    (hw1 : w1 = wi.alloc (.cells #[.int .i64 k] 3)) (hS3 : Sl (fun j => w.heap.size ≤ j ∨ j = w1.heap.size + 1) w3 33 1 (some ⟨go, 0, none⟩) (m + 1) c1 (rows.map Rw.val ++ [.slice (some ⟨wi.heap.size, 0, none⟩) 1 1]))
    (hk3 : Keep (Bl o) w1 w3) (hg3 : o = some ⟨go, 0, none⟩ ∨ go = w1.heap.size + 1) : QRel w L (k + 1) (some ⟨go, 0, none⟩) (m + 1) c1 (rows ++ [⟨some ⟨wi.heap.size, 0, none⟩, 1, 1⟩]) w3 := by
  obtain ⟨hM, hK⟩ := h
  have z0 := hK.size
  have z1 := hk1.size
  have hMi := hM.keep hk1 (fun _ _ e => e)
  have kA : Keep Nb wi w1 := by rw [hw1]; exact (Keep.refl _ _).alloc _
  have z2 : w1.heap.size = wi.heap.size + 1 := by rw [hw1]; simp
  have hM1 := hMi.keep kA (fun _ _ e => e)
  have hbl : ∀ j, Bl o j → w.heap.size ≤ j ∧ j < wi.heap.size := fun j ⟨a, ha, hb⟩ => by
    rw [← hb]; exact ⟨hM.out.foot a ha, hMi.out.lt ha⟩
  have hr : Sl (fun j => w.heap.size ≤ j) w1 3 1 (some ⟨wi.heap.size, 0, none⟩) 1 1 (ints [k]) := by
    rw [hw1]
    exact (Sl.just wi 3 1 1 (ints [k]) (by simp) (by simp [maxLen])).mono (fun j e => by omega)
  have hM3 := Mat.pushNew (l := [k]) hM1 (hS3.mono (G := fun j => w.heap.size ≤ j) (fun j e => by omega)) hk3 hg3 hr (fun e => by have := (hbl _ e).2; omega)
    (fun i s a h1 h2 => by have := hMi.rowLt h1 h2; omega) (fun e => by
      rcases hg3 with hg | hg
      · have := (hbl go ⟨_, hg, rfl⟩).2; omega
      · omega)
  refine ⟨?_, ?_⟩
  · rw [parts_succ_root (C.less (by omega)) hroot]
    exact hM3
  · exact ((hK.trans hk1).trans kA).trans' hk3 (fun _ _ e => e) (fun j hj e => by have := (hbl j e).1; omega)

theorem qrel_other {w wr wi w4 : World} {L : Nat → Nat} {n k m c go g c' : Nat} {rows : List Rw} (C : Canon n L) (hk : k < n) (hroot : L k ≠ k) (h : QRel w L k (some ⟨go, 0, none⟩) m c rows wr) (hk1 : Keep Nb wr wi) {r : Rw} (hr : rows[cnt (L k) (isRoot L)]? = some r)
    {l : List Nat} (hl : (parts k L)[cnt (L k) (isRoot L)]? = some l) (hS : Sl (fun j => w.heap.size ≤ j ∨ j = wi.heap.size + 1) w4 3 1 (some ⟨g, 0, none⟩) (r.n + 1) c' (ints l ++ [.int .i64 k])) (hk4 : Keep (Bl r.o) wi w4) (hg : r.o = some ⟨g, 0, none⟩ ∨ g = wi.heap.size + 1) :
    QRel w L (k + 1) (some ⟨go, 0, none⟩) m c (rows.set (cnt (L k) (isRoot L)) ⟨some ⟨g, 0, none⟩, r.n + 1, c'⟩) (w4.setCell ⟨go, cnt (L k) (isRoot L), none⟩ (.slice (some ⟨g, 0, none⟩) (r.n + 1) c')) := by
  obtain ⟨hM, hK⟩ := h
  have z0 := hK.size
  have z1 := hk1.size
  have hMi := hM.keep hk1 (fun _ _ e => e)
  have hbl : ∀ j, Bl r.o j → w.heap.size ≤ j := fun j ⟨a, ha, hb⟩ => by
    rw [← hb]
    exact (hM.row _ _ _ hr hl).foot a ha
  have hgo : w.heap.size ≤ go := hM.out.foot _ rfl
  refine ⟨?_, ?_⟩
  · rw [parts_succ_other (C.less (by omega)) hroot]
    have e : (parts k L).modify (cnt (L k) (isRoot L)) (fun p => p ++ [k]) = (parts k L).set (cnt (L k) (isRoot L)) (l ++ [k]) := by
      apply List.ext_getElem?
      intro i
      rw [List.getElem?_modify, List.getElem?_set]
      by_cases hi : cnt (L k) (isRoot L) = i
      · subst hi
        have hlt := (List.getElem?_eq_some_iff.1 hl).1
        rw [hl]; simp [hlt]
      · simp [hi]
    rw [e]
    exact Mat.setRow hMi hr hl (hS.mono (G := fun j => w.heap.size ≤ j) (fun j e => by omega)) hk4 hg
  · exact ((hK.trans hk1).trans' hk4 (fun _ _ e => e) (fun j hj e => by have := hbl j e; omega)).setCell (.inr (by show w.heap.size ≤ go; exact hgo)) _

set_option maxHeartbeats 4000000 in
set_option maxRecDepth 100000 in
theorem rparts_whole (w : World) (n : Nat) (L : Nat → Nat) (cv : Value) (hn : n ≤ 40) (C : Canon n L)
    (hf : ∀ W, Keep Nb w W → ∀ a b : Nat, a < n → b < n → Calls Tryz.prog 100 #[.int .i64 a, .int .i64 b, cv] W fun e w' => e = .returned (.bool (decide (L a = L b))) ∧ Keep Nb W w') :
    Calls Tryz.prog 86 #[.int .i64 n, .func (.func 100) #[] #[cv]] w (QPartsPost w n L) := by
  have HF := Lib.hid hf
  have H0 : Hid (QRel w L 0 none 0 0 [] w) := Lib.hid ⟨Mat.nil _ _ _ _, Keep.refl _ _⟩
  clear hf
  go_enter Tryz.func86, Tryz.ntmps86
  go_wp2_with fail
  go_loopg [5, 11] n (fun kx s i wr => ∃ (k : Nat) (o : Option Addr) (m c : Nat) (rows : List Rw), k ≤ n ∧ i = .int .i64 k ∧ s = .slice o m c ∧ n - k ≤ kx ∧ Hid (QRel w L k o m c rows wr))
  case atStart => exact ⟨0, none, 0, 0, [], Nat.zero_le _, rfl, rfl, by omega, H0⟩
  case round =>
    clear H0
    obtain ⟨k, o, m, c, rows, hk, rfl, rfl, hg, HR⟩ := hrel
    obtain ⟨wo, rfl⟩ : ∃ wo : World, wo = wr := ⟨_, rfl⟩
    by_cases hlt : k < n
    · have HM : Hid (m = (parts k L).length) := Lib.hid HR.out.1.n_eq
      have hmk : m ≤ k := by rw [HM.out]; exact parts_len_le k L
      go_wp2_with fail
      go_loopg [7, 16] m (fun ky s7 s wx => ∃ i : Nat, s7 = .int .i64 (-1) ∧ s = .int .i64 i ∧ i ≤ m ∧ m - i ≤ ky ∧ Hid (Keep Nb wo wx) ∧ Hid (L k ≠ k → i ≤ cnt (L k) (isRoot L)))
      case atStart => exact ⟨0, rfl, rfl, Nat.zero_le _, by omega, Lib.hid (Keep.refl _ _), Lib.hid (fun _ => Nat.zero_le _)⟩
      case round =>
        obtain ⟨i, rfl, rfl, hi, hg2, HX, HI⟩ := hrel
        obtain ⟨wx, rfl⟩ : ∃ wx : World, wx = wr := ⟨_, rfl⟩
        by_cases hlt2 : i < m
        · obtain ⟨l, hl⟩ : ∃ l, (parts k L)[i]? = some l := ⟨_, List.getElem?_eq_getElem (by rw [← HM.out]; exact hlt2)⟩
          obtain ⟨r, hrk, hr0, hnew, hold⟩ := part_head C hlt hl
          obtain ⟨go, r0, rfl, hrow, him, hmc, hcell, hfr, hSl, hrn, hnb⟩ := mat_at (HR.out.1.keep HX.out (fun _ _ e => e)) hl
          have hll := parts_part_le hl
          have hl0 : 0 < l.length := (List.getElem?_eq_some_iff.1 hr0).1
          obtain ⟨g0, e0, _, hnc0, hrow0⟩ := hSl.pos (by omega)
          have d0 := hrow0.cell (ints_get hr0)
          have HC := Lib.hid (HF.out wx (HR.out.2.trans HX.out) r k (by omega) hlt)
          obtain ⟨al, hal⟩ : ∃ al : Bool, decide (L r = L k) = al := ⟨_, rfl⟩
          rw [hal] at HC
          rw [e0] at hcell
          have HSl := Lib.hid hSl
          have HNB := Lib.hid hnb
          have HE0 := Lib.hid e0
          have HRW := Lib.hid hrow
          have HL := Lib.hid hl
          have HOLD := Lib.hid hold
          have HNEW := Lib.hid hnew
          have hpos : 0 < r0.n := by omega
          have hr40 : r0.n ≤ 40 := by omega
          obtain ⟨rn, hrne⟩ : ∃ rn, r0.n = rn := ⟨_, rfl⟩
          have HRN := Lib.hid hrne
          rw [hrne] at hcell hpos hr40 hnc0
          clear hrow0 hSl hnb e0 hrow hl hrn hrne hll hl0 hr0 hold hnew
          go_wp2_with fail
          refine HC.out.mono ?_
          rintro e w1 ⟨rfl, hk1⟩
          cases al
          · have HI2 : Hid (L k ≠ k → i + 1 ≤ cnt (L k) (isRoot L)) := Lib.hid (fun hne => by
              have h1 := HI.out hne
              have h2 := HNEW.out (by simpa using hal)
              omega)
            have HX2 := Lib.hid (HX.out.trans hk1)
            clear HX HI HSl HNB hcell hfr d0 hk1 hal
            go_wp2_with fail
            go_roundg (m - (i + 1))
            case measure => omega
            case rel => exact ⟨i + 1, rfl, by go_num, by omega, Nat.le_refl _, HX2, HI2⟩
          · have hal' : L r = L k := by simpa using hal
            obtain ⟨hroot, hidx⟩ := HOLD.out hal'
            have hneg : decide ((i : Int) < 0) = false := by simp
            have hcell1 := hk1.cell hcell (fun e => e)
            have hfr1 := (hk1.frozen (p := ⟨go, i, none⟩) (World.block_lt_of_cell? wx _ hcell) (fun e => e)).trans hfr
            have hS1 := HSl.out.keep hk1 (fun _ _ e => e)
            rw [HE0.out, HRN.out] at hS1
            have hnb1 := HNB.out
            rw [HE0.out] at hnb1
            obtain ⟨g, c', w4, happ, hS4, hk4, hg4⟩ := run_app1 (P := Tryz.prog) 33 33 3 Tryz.underlying33 elem_int rfl hS1 (.int .i64 k) rfl (by omega) (by omega)
            have hcell4 := hk4.cell hcell1 hnb1
            have hfr4 := (hk4.frozen (p := ⟨go, i, none⟩) (World.block_lt_of_cell? w1 _ hcell1) hnb1).trans hfr1
            have hnext : Hid (QRel w L (k + 1) (some ⟨go, 0, none⟩) m c (rows.set i ⟨some ⟨g, 0, none⟩, rn + 1, c'⟩) (w4.setCell ⟨go, i, none⟩ (.slice (some ⟨g, 0, none⟩) (rn + 1) c'))) := Lib.hid (by
              have hrow := HRW.out
              have hl := HL.out
              rw [hidx] at hrow hl
              have := qrel_other (r := r0) (g := g) (c' := c') (w4 := w4) C hlt hroot HR.out (HX.out.trans hk1) hrow hl (by rw [HRN.out]; exact hS4) (by rw [HE0.out]; exact hk4) (by rw [HE0.out]; exact hg4)
              rw [← hidx, HRN.out] at this
              exact this)
            have Happ := Lib.hid happ
            clear happ hS4 hk4 hg4 hS1 hcell hfr HSl HNB d0 hal hal' hidx hroot hnb1 HX HI HE0 HRW HL HOLD HNEW hk1
            go_wp2_with (at_builtin; refine wpList_app rfl _ _ _ rfl rfl rfl Happ.out ?_)
            go_roundg (n - (k + 1))
            case measure => omega
            case rel => exact ⟨k + 1, _, m, c, _, by omega, by go_num, rfl, by omega, hnext⟩
        · have hroot : L k = k := by
            by_cases h : L k = k
            · exact h
            · have h1 := HI.out h
              have hLk : L k < k := by have := C.le k hlt; omega
              have h2 := cnt_lt hLk (show isRoot L (L k) = true by simp [isRoot, C.idem k hlt])
              rw [← parts_length k, ← HM.out] at h2
              omega
          obtain ⟨w1, hw1⟩ : ∃ w1, w1 = wx.alloc (.cells #[.int .i64 k] 3) := ⟨_, rfl⟩
          have hM1 : Mat (fun j => w.heap.size ≤ j) w1 33 3 o m c rows (parts k L) := by rw [hw1]; exact (HR.out.1.keep HX.out (fun _ _ e => e)).alloc _
          obtain ⟨go, c1, w3, happ, hS3, hk3, hg3⟩ := run_app1 (P := Tryz.prog) 29 29 33 Tryz.underlying29 elem_ints rfl hM1.out (.slice (some ⟨wx.heap.size, 0, none⟩) 1 1) rfl (by omega) (by omega)
          have hnext := Lib.hid (qrel_root C hlt hroot HR.out HX.out hw1 hS3 hk3 hg3)
          have hz1 : w1.heap.size = wx.heap.size + 1 := by rw [hw1]; simp
          rw [hw1] at happ
          simp only [World.size_alloc] at happ
          have Happ := Lib.hid happ
          have hneg : decide ((-1 : Int) < 0) = true := rfl
          have hmm : m ≤ 40 := by omega
          clear happ hM1 hS3 hk3 hg3 hw1 hroot HI
          go_wp2_with (at_builtin; refine wpList_app rfl _ _ _ rfl rfl rfl Happ.out ?_)
          go_roundg (n - (k + 1))
          case measure => omega
          case rel => exact ⟨k + 1, _, _, c1, _, by omega, by go_num, rfl, by omega, hnext⟩
    · have hkn : k = n := by omega
      subst hkn
      have hz := HR.out.2.size
      have hfin : Hid (QPartsPost w k L (.returned (.slice o m c)) wo) := Lib.hid ⟨o, m, c, rows, rfl, HR.out.1.tight.mono (fun j hj => ⟨hj.1, hj.2⟩), HR.out.2⟩
      go_wp2_with fail
      go_ret
      exact hfin.out

set_option maxHeartbeats 4000000 in
set_option maxRecDepth 100000 in
theorem rparts_twice (w : World) (n : Nat) (L : Nat → Nat) (cv : Value) (hn : n ≤ 40) (C : Canon n L)
    (hf : ∀ W, Keep Nb w W → ∀ a b : Nat, a < n → b < n → Calls Tryz.prog 101 #[.int .i64 a, .int .i64 b, cv] W fun e w' => e = .returned (.bool (decide (L a = L b))) ∧ Keep Nb W w') :
    Calls Tryz.prog 86 #[.int .i64 n, .func (.func 101) #[] #[cv]] w (QPartsPost w n L) := by
  have HF := Lib.hid hf
  have H0 : Hid (QRel w L 0 none 0 0 [] w) := Lib.hid ⟨Mat.nil _ _ _ _, Keep.refl _ _⟩
  clear hf
  go_enter Tryz.func86, Tryz.ntmps86
  go_wp2_with fail
  go_loopg [5, 11] n (fun kx s i wr => ∃ (k : Nat) (o : Option Addr) (m c : Nat) (rows : List Rw), k ≤ n ∧ i = .int .i64 k ∧ s = .slice o m c ∧ n - k ≤ kx ∧ Hid (QRel w L k o m c rows wr))
  case atStart => exact ⟨0, none, 0, 0, [], Nat.zero_le _, rfl, rfl, by omega, H0⟩
  case round =>
    clear H0
    obtain ⟨k, o, m, c, rows, hk, rfl, rfl, hg, HR⟩ := hrel
    obtain ⟨wo, rfl⟩ : ∃ wo : World, wo = wr := ⟨_, rfl⟩
    by_cases hlt : k < n
    · have HM : Hid (m = (parts k L).length) := Lib.hid HR.out.1.n_eq
      have hmk : m ≤ k := by rw [HM.out]; exact parts_len_le k L
      go_wp2_with fail
      go_loopg [7, 16] m (fun ky s7 s wx => ∃ i : Nat, s7 = .int .i64 (-1) ∧ s = .int .i64 i ∧ i ≤ m ∧ m - i ≤ ky ∧ Hid (Keep Nb wo wx) ∧ Hid (L k ≠ k → i ≤ cnt (L k) (isRoot L)))
      case atStart => exact ⟨0, rfl, rfl, Nat.zero_le _, by omega, Lib.hid (Keep.refl _ _), Lib.hid (fun _ => Nat.zero_le _)⟩
      case round =>
        obtain ⟨i, rfl, rfl, hi, hg2, HX, HI⟩ := hrel
        obtain ⟨wx, rfl⟩ : ∃ wx : World, wx = wr := ⟨_, rfl⟩
        by_cases hlt2 : i < m
        · obtain ⟨l, hl⟩ : ∃ l, (parts k L)[i]? = some l := ⟨_, List.getElem?_eq_getElem (by rw [← HM.out]; exact hlt2)⟩
          obtain ⟨r, hrk, hr0, hnew, hold⟩ := part_head C hlt hl
          obtain ⟨go, r0, rfl, hrow, him, hmc, hcell, hfr, hSl, hrn, hnb⟩ := mat_at (HR.out.1.keep HX.out (fun _ _ e => e)) hl
          have hll := parts_part_le hl
          have hl0 : 0 < l.length := (List.getElem?_eq_some_iff.1 hr0).1
          obtain ⟨g0, e0, _, hnc0, hrow0⟩ := hSl.pos (by omega)
          have d0 := hrow0.cell (ints_get hr0)
          have HC := Lib.hid (HF.out wx (HR.out.2.trans HX.out) r k (by omega) hlt)
          obtain ⟨al, hal⟩ : ∃ al : Bool, decide (L r = L k) = al := ⟨_, rfl⟩
          rw [hal] at HC
          rw [e0] at hcell
          have HSl := Lib.hid hSl
          have HNB := Lib.hid hnb
          have HE0 := Lib.hid e0
          have HRW := Lib.hid hrow
          have HL := Lib.hid hl
          have HOLD := Lib.hid hold
          have HNEW := Lib.hid hnew
          have hpos : 0 < r0.n := by omega
          have hr40 : r0.n ≤ 40 := by omega
          obtain ⟨rn, hrne⟩ : ∃ rn, r0.n = rn := ⟨_, rfl⟩
          have HRN := Lib.hid hrne
          rw [hrne] at hcell hpos hr40 hnc0
          clear hrow0 hSl hnb e0 hrow hl hrn hrne hll hl0 hr0 hold hnew
          go_wp2_with fail
          refine HC.out.mono ?_
          rintro e w1 ⟨rfl, hk1⟩
          cases al
          · have HI2 : Hid (L k ≠ k → i + 1 ≤ cnt (L k) (isRoot L)) := Lib.hid (fun hne => by
              have h1 := HI.out hne
              have h2 := HNEW.out (by simpa using hal)
              omega)
            have HX2 := Lib.hid (HX.out.trans hk1)
            clear HX HI HSl HNB hcell hfr d0 hk1 hal
            go_wp2_with fail
            go_roundg (m - (i + 1))
            case measure => omega
            case rel => exact ⟨i + 1, rfl, by go_num, by omega, Nat.le_refl _, HX2, HI2⟩
          · have hal' : L r = L k := by simpa using hal
            obtain ⟨hroot, hidx⟩ := HOLD.out hal'
            have hneg : decide ((i : Int) < 0) = false := by simp
            have hcell1 := hk1.cell hcell (fun e => e)
            have hfr1 := (hk1.frozen (p := ⟨go, i, none⟩) (World.block_lt_of_cell? wx _ hcell) (fun e => e)).trans hfr
            have hS1 := HSl.out.keep hk1 (fun _ _ e => e)
            rw [HE0.out, HRN.out] at hS1
            have hnb1 := HNB.out
            rw [HE0.out] at hnb1
            obtain ⟨g, c', w4, happ, hS4, hk4, hg4⟩ := run_app1 (P := Tryz.prog) 33 33 3 Tryz.underlying33 elem_int rfl hS1 (.int .i64 k) rfl (by omega) (by omega)
            have hcell4 := hk4.cell hcell1 hnb1
            have hfr4 := (hk4.frozen (p := ⟨go, i, none⟩) (World.block_lt_of_cell? w1 _ hcell1) hnb1).trans hfr1
            have hnext : Hid (QRel w L (k + 1) (some ⟨go, 0, none⟩) m c (rows.set i ⟨some ⟨g, 0, none⟩, rn + 1, c'⟩) (w4.setCell ⟨go, i, none⟩ (.slice (some ⟨g, 0, none⟩) (rn + 1) c'))) := Lib.hid (by
              have hrow := HRW.out
              have hl := HL.out
              rw [hidx] at hrow hl
              have := qrel_other (r := r0) (g := g) (c' := c') (w4 := w4) C hlt hroot HR.out (HX.out.trans hk1) hrow hl (by rw [HRN.out]; exact hS4) (by rw [HE0.out]; exact hk4) (by rw [HE0.out]; exact hg4)
              rw [← hidx, HRN.out] at this
              exact this)
            have Happ := Lib.hid happ
            clear happ hS4 hk4 hg4 hS1 hcell hfr HSl HNB d0 hal hal' hidx hroot hnb1 HX HI HE0 HRW HL HOLD HNEW hk1
            go_wp2_with (at_builtin; refine wpList_app rfl _ _ _ rfl rfl rfl Happ.out ?_)
            go_roundg (n - (k + 1))
            case measure => omega
            case rel => exact ⟨k + 1, _, m, c, _, by omega, by go_num, rfl, by omega, hnext⟩
        · have hroot : L k = k := by
            by_cases h : L k = k
            · exact h
            · have h1 := HI.out h
              have hLk : L k < k := by have := C.le k hlt; omega
              have h2 := cnt_lt hLk (show isRoot L (L k) = true by simp [isRoot, C.idem k hlt])
              rw [← parts_length k, ← HM.out] at h2
              omega
          obtain ⟨w1, hw1⟩ : ∃ w1, w1 = wx.alloc (.cells #[.int .i64 k] 3) := ⟨_, rfl⟩
          have hM1 : Mat (fun j => w.heap.size ≤ j) w1 33 3 o m c rows (parts k L) := by rw [hw1]; exact (HR.out.1.keep HX.out (fun _ _ e => e)).alloc _
          obtain ⟨go, c1, w3, happ, hS3, hk3, hg3⟩ := run_app1 (P := Tryz.prog) 29 29 33 Tryz.underlying29 elem_ints rfl hM1.out (.slice (some ⟨wx.heap.size, 0, none⟩) 1 1) rfl (by omega) (by omega)
          have hnext := Lib.hid (qrel_root C hlt hroot HR.out HX.out hw1 hS3 hk3 hg3)
          have hz1 : w1.heap.size = wx.heap.size + 1 := by rw [hw1]; simp
          rw [hw1] at happ
          simp only [World.size_alloc] at happ
          have Happ := Lib.hid happ
          have hneg : decide ((-1 : Int) < 0) = true := rfl
          have hmm : m ≤ 40 := by omega
          clear happ hM1 hS3 hk3 hg3 hw1 hroot HI
          go_wp2_with (at_builtin; refine wpList_app rfl _ _ _ rfl rfl rfl Happ.out ?_)
          go_roundg (n - (k + 1))
          case measure => omega
          case rel => exact ⟨k + 1, _, _, c1, _, by omega, by go_num, rfl, by omega, hnext⟩
    · have hkn : k = n := by omega
      subst hkn
      have hz := HR.out.2.size
      have hfin : Hid (QPartsPost w k L (.returned (.slice o m c)) wo) := Lib.hid ⟨o, m, c, rows, rfl, HR.out.1.tight.mono (fun j hj => ⟨hj.1, hj.2⟩), HR.out.2⟩
      go_wp2_with fail
      go_ret
      exact hfin.out

set_option maxHeartbeats 4000000 in
set_option maxRecDepth 100000 in
theorem rparts_thrice (w : World) (n : Nat) (L : Nat → Nat) (cv : Value) (hn : n ≤ 40) (C : Canon n L)
    (hf : ∀ W, Keep Nb w W → ∀ a b : Nat, a < n → b < n → Calls Tryz.prog 87 #[.int .i64 a, .int .i64 b, cv] W fun e w' => e = .returned (.bool (decide (L a = L b))) ∧ Keep Nb W w') :
    Calls Tryz.prog 86 #[.int .i64 n, .func (.func 87) #[] #[cv]] w (QPartsPost w n L) := by
  have HF := Lib.hid hf
  have H0 : Hid (QRel w L 0 none 0 0 [] w) := Lib.hid ⟨Mat.nil _ _ _ _, Keep.refl _ _⟩
  clear hf
  go_enter Tryz.func86, Tryz.ntmps86
  go_wp2_with fail
  go_loopg [5, 11] n (fun kx s i wr => ∃ (k : Nat) (o : Option Addr) (m c : Nat) (rows : List Rw), k ≤ n ∧ i = .int .i64 k ∧ s = .slice o m c ∧ n - k ≤ kx ∧ Hid (QRel w L k o m c rows wr))
  case atStart => exact ⟨0, none, 0, 0, [], Nat.zero_le _, rfl, rfl, by omega, H0⟩
  case round =>
    clear H0
    obtain ⟨k, o, m, c, rows, hk, rfl, rfl, hg, HR⟩ := hrel
    obtain ⟨wo, rfl⟩ : ∃ wo : World, wo = wr := ⟨_, rfl⟩
    by_cases hlt : k < n
    · have HM : Hid (m = (parts k L).length) := Lib.hid HR.out.1.n_eq
      have hmk : m ≤ k := by rw [HM.out]; exact parts_len_le k L
      go_wp2_with fail
      go_loopg [7, 16] m (fun ky s7 s wx => ∃ i : Nat, s7 = .int .i64 (-1) ∧ s = .int .i64 i ∧ i ≤ m ∧ m - i ≤ ky ∧ Hid (Keep Nb wo wx) ∧ Hid (L k ≠ k → i ≤ cnt (L k) (isRoot L)))
      case atStart => exact ⟨0, rfl, rfl, Nat.zero_le _, by omega, Lib.hid (Keep.refl _ _), Lib.hid (fun _ => Nat.zero_le _)⟩
      case round =>
        obtain ⟨i, rfl, rfl, hi, hg2, HX, HI⟩ := hrel
        obtain ⟨wx, rfl⟩ : ∃ wx : World, wx = wr := ⟨_, rfl⟩
        by_cases hlt2 : i < m
        · obtain ⟨l, hl⟩ : ∃ l, (parts k L)[i]? = some l := ⟨_, List.getElem?_eq_getElem (by rw [← HM.out]; exact hlt2)⟩
          obtain ⟨r, hrk, hr0, hnew, hold⟩ := part_head C hlt hl
          obtain ⟨go, r0, rfl, hrow, him, hmc, hcell, hfr, hSl, hrn, hnb⟩ := mat_at (HR.out.1.keep HX.out (fun _ _ e => e)) hl
          have hll := parts_part_le hl
          have hl0 : 0 < l.length := (List.getElem?_eq_some_iff.1 hr0).1
          obtain ⟨g0, e0, _, hnc0, hrow0⟩ := hSl.pos (by omega)
          have d0 := hrow0.cell (ints_get hr0)
          have HC := Lib.hid (HF.out wx (HR.out.2.trans HX.out) r k (by omega) hlt)
          obtain ⟨al, hal⟩ : ∃ al : Bool, decide (L r = L k) = al := ⟨_, rfl⟩
          rw [hal] at HC
          rw [e0] at hcell
          have HSl := Lib.hid hSl
          have HNB := Lib.hid hnb
          have HE0 := Lib.hid e0
          have HRW := Lib.hid hrow
          have HL := Lib.hid hl
          have HOLD := Lib.hid hold
          have HNEW := Lib.hid hnew
          have hpos : 0 < r0.n := by omega
          have hr40 : r0.n ≤ 40 := by omega
          obtain ⟨rn, hrne⟩ : ∃ rn, r0.n = rn := ⟨_, rfl⟩
          have HRN := Lib.hid hrne
          rw [hrne] at hcell hpos hr40 hnc0
          clear hrow0 hSl hnb e0 hrow hl hrn hrne hll hl0 hr0 hold hnew
          go_wp2_with fail
          refine HC.out.mono ?_
          rintro e w1 ⟨rfl, hk1⟩
          cases al
          · have HI2 : Hid (L k ≠ k → i + 1 ≤ cnt (L k) (isRoot L)) := Lib.hid (fun hne => by
              have h1 := HI.out hne
              have h2 := HNEW.out (by simpa using hal)
              omega)
            have HX2 := Lib.hid (HX.out.trans hk1)
            clear HX HI HSl HNB hcell hfr d0 hk1 hal
            go_wp2_with fail
            go_roundg (m - (i + 1))
            case measure => omega
            case rel => exact ⟨i + 1, rfl, by go_num, by omega, Nat.le_refl _, HX2, HI2⟩
          · have hal' : L r = L k := by simpa using hal
            obtain ⟨hroot, hidx⟩ := HOLD.out hal'
            have hneg : decide ((i : Int) < 0) = false := by simp
            have hcell1 := hk1.cell hcell (fun e => e)
            have hfr1 := (hk1.frozen (p := ⟨go, i, none⟩) (World.block_lt_of_cell? wx _ hcell) (fun e => e)).trans hfr
            have hS1 := HSl.out.keep hk1 (fun _ _ e => e)
            rw [HE0.out, HRN.out] at hS1
            have hnb1 := HNB.out
            rw [HE0.out] at hnb1
            obtain ⟨g, c', w4, happ, hS4, hk4, hg4⟩ := run_app1 (P := Tryz.prog) 33 33 3 Tryz.underlying33 elem_int rfl hS1 (.int .i64 k) rfl (by omega) (by omega)
            have hcell4 := hk4.cell hcell1 hnb1
            have hfr4 := (hk4.frozen (p := ⟨go, i, none⟩) (World.block_lt_of_cell? w1 _ hcell1) hnb1).trans hfr1
            have hnext : Hid (QRel w L (k + 1) (some ⟨go, 0, none⟩) m c (rows.set i ⟨some ⟨g, 0, none⟩, rn + 1, c'⟩) (w4.setCell ⟨go, i, none⟩ (.slice (some ⟨g, 0, none⟩) (rn + 1) c'))) := Lib.hid (by
              have hrow := HRW.out
              have hl := HL.out
              rw [hidx] at hrow hl
              have := qrel_other (r := r0) (g := g) (c' := c') (w4 := w4) C hlt hroot HR.out (HX.out.trans hk1) hrow hl (by rw [HRN.out]; exact hS4) (by rw [HE0.out]; exact hk4) (by rw [HE0.out]; exact hg4)
              rw [← hidx, HRN.out] at this
              exact this)
            have Happ := Lib.hid happ
            clear happ hS4 hk4 hg4 hS1 hcell hfr HSl HNB d0 hal hal' hidx hroot hnb1 HX HI HE0 HRW HL HOLD HNEW hk1
            go_wp2_with (at_builtin; refine wpList_app rfl _ _ _ rfl rfl rfl Happ.out ?_)
            go_roundg (n - (k + 1))
            case measure => omega
            case rel => exact ⟨k + 1, _, m, c, _, by omega, by go_num, rfl, by omega, hnext⟩
        · have hroot : L k = k := by
            by_cases h : L k = k
            · exact h
            · have h1 := HI.out h
              have hLk : L k < k := by have := C.le k hlt; omega
              have h2 := cnt_lt hLk (show isRoot L (L k) = true by simp [isRoot, C.idem k hlt])
              rw [← parts_length k, ← HM.out] at h2
              omega
          obtain ⟨w1, hw1⟩ : ∃ w1, w1 = wx.alloc (.cells #[.int .i64 k] 3) := ⟨_, rfl⟩
          have hM1 : Mat (fun j => w.heap.size ≤ j) w1 33 3 o m c rows (parts k L) := by rw [hw1]; exact (HR.out.1.keep HX.out (fun _ _ e => e)).alloc _
          obtain ⟨go, c1, w3, happ, hS3, hk3, hg3⟩ := run_app1 (P := Tryz.prog) 29 29 33 Tryz.underlying29 elem_ints rfl hM1.out (.slice (some ⟨wx.heap.size, 0, none⟩) 1 1) rfl (by omega) (by omega)
          have hnext := Lib.hid (qrel_root C hlt hroot HR.out HX.out hw1 hS3 hk3 hg3)
          have hz1 : w1.heap.size = wx.heap.size + 1 := by rw [hw1]; simp
          rw [hw1] at happ
          simp only [World.size_alloc] at happ
          have Happ := Lib.hid happ
          have hneg : decide ((-1 : Int) < 0) = true := rfl
          have hmm : m ≤ 40 := by omega
          clear happ hM1 hS3 hk3 hg3 hw1 hroot HI
          go_wp2_with (at_builtin; refine wpList_app rfl _ _ _ rfl rfl rfl Happ.out ?_)
          go_roundg (n - (k + 1))
          case measure => omega
          case rel => exact ⟨k + 1, _, _, c1, _, by omega, by go_num, rfl, by omega, hnext⟩
    · have hkn : k = n := by omega
      subst hkn
      have hz := HR.out.2.size
      have hfin : Hid (QPartsPost w k L (.returned (.slice o m c)) wo) := Lib.hid ⟨o, m, c, rows, rfl, HR.out.1.tight.mono (fun j hj => ⟨hj.1, hj.2⟩), HR.out.2⟩
      go_wp2_with fail
      go_ret
      exact hfin.out

end Go.Proofs.YtkpoobnldgfapabGreatDoor
