/- isthmusref: Ask, ByEdges. -/
import Derived.Test.YtkpoobnldgfapaaDoorRRoom2
import Derived.Test.YtkpoobnldgfapaaDoorRGraph3
import Derived.Test.YtkpoobnldgfapaaDoorBKit
import Derived.Test.YtkpoobnldgfapaaDoorB3
set_option linter.unusedVariables false
set_option linter.unusedSimpArgs false
namespace Go.Proofs.YtkpoobnldgfapaaDoor
open Go.RowKit Pl

set_option maxRecDepth 100000 in
theorem rask_any (F : Nat → Prop) (w : World) (g n : Nat) (es : List E) (a b most : Int) (hG : RGr F w g n es) (hn : n ≤ 40) :
    Calls Tryd.prog 41 #[.pointer (some ⟨g, 0, none⟩), .int .i64 a, .int .i64 b, .int .i64 most] w fun e w' => e = .returned (.int .i64 (askErr n a b most)) ∧ w = w' := by
  obtain ⟨o, c, hM⟩ := hG
  have c0 := hM.head.cell (i := 0) rfl
  clear hM
  by_cases h1 : 0 ≤ a ∧ a ≤ (n : Int) - 1
  · by_cases h2 : 0 ≤ b ∧ b ≤ (n : Int) - 1
    · by_cases h3 : 0 ≤ most ∧ most ≤ 120
      · have I1 := Lib.hid h1
        have I2 := Lib.hid h2
        have I3 := Lib.hid h3
        by_cases h4 : a = b
        · have HA : Hid (askErr n a b most = 1) := Lib.hid (by unfold askErr; rw [if_neg (by omega), if_pos h4])
          subst h4
          clear h1 h2 h3
          go_enter Tryd.func41, Tryd.ntmps41
          go_wp2_with fail
          refine (in_any _ _ _ true (by simp [I1.out]) _).mono ?_
          rintro e w1 ⟨rfl, rfl⟩
          go_wp2_with fail
          refine (in_any _ _ _ true (by simp [I2.out]) _).mono ?_
          rintro e w1 ⟨rfl, rfl⟩
          go_wp2_with fail
          refine (in_any _ _ _ true (by simp [I3.out]) _).mono ?_
          rintro e w1 ⟨rfl, rfl⟩
          go_wp2_with fail
          go_ret
          exact ⟨by rw [HA.out]; rfl, rfl⟩
        · have HA : Hid (askErr n a b most = 0) := Lib.hid (by unfold askErr; rw [if_neg (by omega), if_neg h4])
          have hb : (a == b) = false := by simpa using h4
          clear h1 h2 h3 h4
          go_enter Tryd.func41, Tryd.ntmps41
          go_wp2_with fail
          refine (in_any _ _ _ true (by simp [I1.out]) _).mono ?_
          rintro e w1 ⟨rfl, rfl⟩
          go_wp2_with fail
          refine (in_any _ _ _ true (by simp [I2.out]) _).mono ?_
          rintro e w1 ⟨rfl, rfl⟩
          go_wp2_with fail
          refine (in_any _ _ _ true (by simp [I3.out]) _).mono ?_
          rintro e w1 ⟨rfl, rfl⟩
          go_wp2_with fail
          go_ret
          exact ⟨by rw [HA.out]; rfl, rfl⟩
      · have I1 := Lib.hid h1
        have I2 := Lib.hid h2
        have I3 := Lib.hid h3
        have HA : Hid (askErr n a b most = 2) := Lib.hid (by unfold askErr; rw [if_pos (by omega)])
        clear h1 h2 h3
        go_enter Tryd.func41, Tryd.ntmps41
        go_wp2_with fail
        refine (in_any _ _ _ true (by simp [I1.out]) _).mono ?_
        rintro e w1 ⟨rfl, rfl⟩
        go_wp2_with fail
        refine (in_any _ _ _ true (by simp [I2.out]) _).mono ?_
        rintro e w1 ⟨rfl, rfl⟩
        go_wp2_with fail
        refine (in_any _ _ _ false (by rw [eq_comm, decide_eq_false_iff_not]; exact I3.out) _).mono ?_
        rintro e w1 ⟨rfl, rfl⟩
        go_wp2_with fail
        go_ret
        exact ⟨by rw [HA.out]; rfl, rfl⟩
    · have I1 := Lib.hid h1
      have I2 := Lib.hid h2
      have HA : Hid (askErr n a b most = 2) := Lib.hid (by unfold askErr; rw [if_pos (by omega)])
      clear h1 h2
      go_enter Tryd.func41, Tryd.ntmps41
      go_wp2_with fail
      refine (in_any _ _ _ true (by simp [I1.out]) _).mono ?_
      rintro e w1 ⟨rfl, rfl⟩
      go_wp2_with fail
      refine (in_any _ _ _ false (by rw [eq_comm, decide_eq_false_iff_not]; exact I2.out) _).mono ?_
      rintro e w1 ⟨rfl, rfl⟩
      go_wp2_with fail
      go_ret
      exact ⟨by rw [HA.out]; rfl, rfl⟩
  · have I1 := Lib.hid h1
    have HA : Hid (askErr n a b most = 2) := Lib.hid (by unfold askErr; rw [if_pos (by omega)])
    clear h1
    go_enter Tryd.func41, Tryd.ntmps41
    go_wp2_with fail
    refine (in_any _ _ _ false (by rw [eq_comm, decide_eq_false_iff_not]; exact I1.out) _).mono ?_
    rintro e w1 ⟨rfl, rfl⟩
    go_wp2_with fail
    go_ret
    exact ⟨by rw [HA.out]; rfl, rfl⟩

/-- What a question brings: an error, or how many ways. -/
def RByPost (w : World) (c : (Nat → Bool) → Int) (s t most : Nat) (e : Ending) (w' : World) : Prop :=
  ∃ v : Nat, e = .returned (.tuple #[.int .i64 v, .int .i64 0]) ∧ v ≤ most ∧ MinCap c s t most v ∧ Keep Nb w w'

set_option maxRecDepth 100000 in
theorem rby_edges_err (F : Nat → Prop) (w : World) (g n : Nat) (es : List E) (a b most r : Int) (hG : RGr F w g n es) (hn : n ≤ 40) (hr : askErr n a b most = r) (h0 : r ≠ 0) :
    Calls Tryd.prog 18 #[.pointer (some ⟨g, 0, none⟩), .int .i64 a, .int .i64 b, .int .i64 most] w fun e w' => e = .returned (.tuple #[.int .i64 0, .int .i64 r]) ∧ w = w' := by
  have HC := Lib.hid (rask_any F w g n es a b most hG hn)
  have HR := Lib.hid hr
  have hne : (r != 0) = true := by simpa using h0
  clear hG hr h0
  go_enter Tryd.func18, Tryd.ntmps18
  go_wp2_with fail
  refine HC.out.mono ?_
  rintro e w1 ⟨rfl, rfl⟩
  rw [HR.out]
  go_wp2_with fail
  go_ret2
  exact ⟨rfl, rfl⟩

set_option maxRecDepth 100000 in
theorem rby_nodes_err (F : Nat → Prop) (w : World) (g n : Nat) (es : List E) (a b most r : Int) (hG : RGr F w g n es) (hn : n ≤ 40) (hr : askErr n a b most = r) (h0 : r ≠ 0) :
    Calls Tryd.prog 19 #[.pointer (some ⟨g, 0, none⟩), .int .i64 a, .int .i64 b, .int .i64 most] w fun e w' => e = .returned (.tuple #[.int .i64 0, .int .i64 r]) ∧ w = w' := by
  have HC := Lib.hid (rask_any F w g n es a b most hG hn)
  have HR := Lib.hid hr
  have hne : (r != 0) = true := by simpa using h0
  clear hG hr h0
  go_enter Tryd.func19, Tryd.ntmps19
  go_wp2_with fail
  refine HC.out.mono ?_
  rintro e w1 ⟨rfl, rfl⟩
  rw [HR.out]
  go_wp2_with fail
  go_ret2
  exact ⟨rfl, rfl⟩

set_option maxRecDepth 100000 in
set_option maxHeartbeats 2000000 in
theorem rby_edges (F : Nat → Prop) (w : World) (b n : Nat) (es : List E) (s t most : Nat) (hG : RGr F w b n es) (hn : n ≤ 40) (hl : es.length ≤ 120) (ho : ∀ e, e ∈ es → e.a < n ∧ e.b < n) (hs : s < n) (ht : t < n) (hst : s ≠ t) (hm : most ≤ 120) :
    Calls Tryd.prog 18 #[.pointer (some ⟨b, 0, none⟩), .int .i64 s, .int .i64 t, .int .i64 most] w (RByPost w (cutE es) s t most) := by
  have HC := Lib.hid (rask_any F w b n es s t most hG hn)
  have HE0 : Hid (askErr n s t most = 0) := Lib.hid (by unfold askErr; rw [if_neg (by omega), if_neg (by omega)])
  obtain ⟨o, c, hM⟩ := hG
  have c0 := hM.head.cell (i := 0) rfl
  have HM := Lib.hid hM
  have HO := Lib.hid ho
  clear hM ho hst
  go_enter Tryd.func18, Tryd.ntmps18
  go_wp2_with fail
  refine HC.out.mono ?_
  rintro e w0 ⟨rfl, rfl⟩
  rw [HE0.out]
  go_wp2_with fail
  refine (rooms_any w n (by omega) (by omega)).mono ?_
  rintro e w1 ⟨g, rb, rfl, hR, hk⟩
  have HM1 := Lib.hid (HM.out.tight.keep hk (fun _ _ e => e))
  have c1 := HM1.out.head.cell (i := 1) rfl
  have HK1 := Lib.hid hk
  have H0 : Hid (Room (fun k => w.heap.size ≤ k ∧ k < w1.heap.size) w1 g n rb (mE (es.take 0)) ∧ Keep (fun k => w.heap.size ≤ k ∧ k < w1.heap.size) w1 w1) := Lib.hid ⟨hR.tight, Keep.refl _ _⟩
  obtain ⟨el, hel⟩ : ∃ el, es.length = el := ⟨_, rfl⟩
  have HEL := Lib.hid hel
  have hel120 : el ≤ 120 := by omega
  rw [hel] at c1
  clear hR hk c0 HC hel hl HM
  go_wp2_with fail
  go_loopg [32] el (fun kx s32 wr => ∃ (j : Nat), s32 = .int .i64 j ∧ j ≤ el ∧ el - j ≤ kx ∧ Hid (Room (fun k => w.heap.size ≤ k ∧ k < w1.heap.size) wr g n rb (mE (es.take j)) ∧ Keep (fun k => w.heap.size ≤ k ∧ k < w1.heap.size) w1 wr))
  case atStart => exact ⟨0, rfl, Nat.zero_le _, by omega, H0⟩
  case round =>
    clear H0
    obtain ⟨j, rfl, hj, hgk, HR⟩ := hrel
    obtain ⟨wr0, rfl⟩ : ∃ w' : World, w' = wr := ⟨_, rfl⟩
    by_cases hlt : j < el
    · have hS := HM1.out.s.keep HR.out.2 (fun k h1 h2 => by have := h1.2; omega)
      obtain ⟨e, hy⟩ : ∃ e, es[j]? = some e := ⟨_, List.getElem?_eq_getElem (by rw [HEL.out]; exact hlt)⟩
      obtain ⟨ge, rfl, _, hnc, hrow⟩ := hS.pos (by rw [HEL.out]; omega)
      rw [HEL.out] at hnc
      have d1 := hrow.edges.id _ _ hy
      have d2 := hrow.edges.a _ _ hy
      have d3 := hrow.edges.b _ _ hy
      have hea := (HO.out e (List.mem_of_getElem? hy)).1
      have heb := (HO.out e (List.mem_of_getElem? hy)).2
      have HY := Lib.hid hy
      obtain ⟨wx, hwx⟩ : ∃ wx, wr0.alloc (.cells #[.int .i64 e.id, .int .i64 e.a, .int .i64 e.b] 55) = wx := ⟨_, rfl⟩
      have kx1 : Keep Nb wr0 wx := by rw [← hwx]; exact (Keep.refl Nb wr0).alloc _
      have p3 : wx.cell? ⟨wr0.heap.size, 1, none⟩ = some (.int .i64 e.a) := by rw [← hwx, World.cell?_alloc_at _ _ _ _ rfl]; rfl
      have p4 : wx.cell? ⟨wr0.heap.size, 2, none⟩ = some (.int .i64 e.b) := by rw [← hwx, World.cell?_alloc_at _ _ _ _ rfl]; rfl
      have HRX := Lib.hid (HR.out.1.keep kx1 (fun _ _ e => e))
      have HKX := Lib.hid (HR.out.2.trans kx1.of_nb)
      have HXW : Hid (w1.heap.size ≤ wr0.heap.size) := Lib.hid HR.out.2.size
      have HWX := Lib.hid hwx
      obtain ⟨X, hX⟩ : ∃ X, wr0.heap.size = X := ⟨_, rfl⟩
      rw [hX] at p3 p4
      have HX := Lib.hid hX
      have hbnd : Hid (0 ≤ mE (es.take j) e.a e.b ∧ mE (es.take j) e.a e.b ≤ 240) := Lib.hid ⟨mE_nonneg _ _ _, by have h1 := mE_le (es.take j) e.a e.b; have h2 := List.length_take_le j es; have := HEL.out; omega⟩
      clear hS hrow hy hwx kx1 HR hX
      go_upto_region 8 with (fail)
      rw [HWX.out, HX.out]
      have r0 := HRX.out.hcell hea hea
      have r1 := HRX.out.cell hea heb
      have f1 := HRX.out.frozen hea e.b
      obtain ⟨v1, hv1⟩ : ∃ v, mE (es.take j) e.a e.b = v := ⟨_, rfl⟩
      have hvb := hbnd.out
      rw [hv1] at r1 hvb
      have HV1 := Lib.hid hv1
      have hXr : ∀ x, x < n → X ≠ rb x := fun x hx e => by
        have h1 := (HRX.out.fr x hx).2
        have h2 := HXW.out
        have h3 := HX.out
        omega
      obtain ⟨wy, hwy⟩ : ∃ wy, (wx.setCell ⟨rb e.a, e.b, none⟩ (.int .i64 (v1 + 1))).drew = wy := ⟨_, rfl⟩
      have HS2 : Hid (Room (fun k => w.heap.size ≤ k ∧ k < w1.heap.size) wy g n rb (upd2 (mE (es.take j)) e.a e.b (v1 + 1)) ∧ Keep (fun k => w.heap.size ≤ k ∧ k < w1.heap.size) w1 wy) := Lib.hid (by
        rw [← hwy]
        exact ⟨(HRX.out.set hea heb _).keep ((Keep.refl Nb _).drew) (fun _ _ e => e), (HKX.out.setCell (.inl (HRX.out.fr _ hea)) _).drew⟩)
      have q3 : wy.cell? ⟨X, 1, none⟩ = some (.int .i64 e.a) := by
        rw [← hwy, World.cell?_of_block (w := wx) (Below.heap_setCell wx _ _ X (hXr _ hea))]; exact p3
      have q4 : wy.cell? ⟨X, 2, none⟩ = some (.int .i64 e.b) := by
        rw [← hwy, World.cell?_of_block (w := wx) (Below.heap_setCell wx _ _ X (hXr _ hea))]; exact p4
      have HWY := Lib.hid hwy
      clear hwy hXr HRX HKX HXW
      go_region
      rw [HWY.out]
      clear r0 r1 f1 p3 p4
      have r0 := HS2.out.1.hcell heb heb
      have r1 := HS2.out.1.cell heb hea
      have f1 := HS2.out.1.frozen heb e.a
      obtain ⟨v2, hv2⟩ : ∃ v, upd2 (mE (es.take j)) e.a e.b (v1 + 1) e.b e.a = v := ⟨_, rfl⟩
      have hvb2 : 0 ≤ v2 ∧ v2 ≤ 241 := by
        rw [← hv2]
        unfold upd2
        split
        · omega
        · have h1 := mE_nonneg (es.take j) e.b e.a
          have h2 := mE_le (es.take j) e.b e.a
          have h3 := List.length_take_le j es
          have := HEL.out
          omega
      rw [hv2] at r1
      have HN : Hid (Room (fun k => w.heap.size ≤ k ∧ k < w1.heap.size) (wy.setCell ⟨rb e.b, e.a, none⟩ (.int .i64 (v2 + 1))).drew g n rb (mE (es.take (j + 1))) ∧ Keep (fun k => w.heap.size ≤ k ∧ k < w1.heap.size) w1 (wy.setCell ⟨rb e.b, e.a, none⟩ (.int .i64 (v2 + 1))).drew) := Lib.hid ⟨by
        rw [take_snoc' HY.out, mE_snoc, HV1.out, hv2]
        exact (HS2.out.1.set heb hea _).keep ((Keep.refl Nb _).drew) (fun _ _ e => e), (HS2.out.2.setCell (.inl (HS2.out.1.fr _ heb)) _).drew⟩
      clear hv2 HS2 HV1 HWY
      go_upto_region 9 with (fail)
      go_region
      go_wp2_with fail
      go_roundg (el - (j + 1))
      case measure => omega
      case rel => exact ⟨j + 1, rfl, by omega, Nat.le_refl _, HN⟩
    · obtain rfl : j = el := by omega
      have hfull : es.take j = es := by rw [← HEL.out, List.take_length]
      have HR2 : Hid (Room (fun _ => True) wr0 g n rb (mE es) ∧ Keep Nb w wr0 ∧ ∀ x, x < n → w.heap.size ≤ rb x) := Lib.hid (by
        obtain ⟨h1, h2⟩ := HR.out
        rw [hfull] at h1
        exact ⟨h1.mono (fun _ _ => trivial), HK1.out.trans' h2 (fun _ _ e => e) (fun k hk e => by show False; omega), fun x hx => (h1.fr x hx).1⟩)
      have hbnd : ∀ u v, 0 ≤ mE es u v ∧ mE es u v ≤ 1000 := fun u v => ⟨mE_nonneg _ _ _, by have := mE_le es u v; have := HEL.out; omega⟩
      have HCut : Hid (cutM n (mE es) = cutE es) := Lib.hid (by funext R; exact cutM_mE HO.out R)
      have HCA := Lib.hid (rall_any wr0 g n s t most rb (mE es) (by omega) hs ht hm hbnd HR2.out.1)
      clear HR hfull hbnd
      go_wp2_with fail
      refine HCA.out.mono ?_
      rintro e w5 ⟨v, rfl, h1, h2, h3⟩
      have HP : Hid (RByPost w (cutE es) s t most (.returned (.tuple #[.int .i64 v, .int .i64 0])) w5) := Lib.hid
        ⟨v, rfl, h1, by rw [← HCut.out]; exact h2, HR2.out.2.1.trans' h3 (fun _ _ e => e) (fun k hk e => by obtain ⟨x, h4, h5⟩ := e; have := HR2.out.2.2 x h4; show False; omega)⟩
      clear h1 h2 h3 HCA
      go_wp2_with fail
      go_ret2
      exact HP.out

end Go.Proofs.YtkpoobnldgfapaaDoor
