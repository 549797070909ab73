/- isthmuskeep: crossed, a fact. -/
import Derived.Test.YtkpoobnldgfapaaB5
import Derived.Test.YtkpoobnldgfapaaA9
set_option linter.unusedVariables false
set_option linter.unusedSimpArgs false
namespace Go.Proofs.Ytkpoobnldgfapaa
open Go.RowKit Pl

def es5 : List E := [⟨0, 0, 1⟩, ⟨1, 1, 2⟩, ⟨2, 2, 3⟩, ⟨3, 0, 2⟩]
def told5 : List Bool := [true, true, true, false]

theorem es5_new : ∀ i, i < 4 → ∀ e, es5[i]? = some e → (!decide (Conn (ends (es5.take i)) e.a e.b)) = told5.getD i false := by decide +kernel

theorem es5_ids : BridgeIds es5 [2] := by
  have h : (es5.filter (fun e => !decide (Conn (ends (sans es5 [e.id])) e.a e.b))).map (·.id) = [2] := by decide +kernel
  refine ⟨by simp, fun id => ?_⟩
  rw [← h]
  simp only [List.mem_map, List.mem_filter, Bool.not_eq_true', decide_eq_false_iff_not]
  constructor
  · rintro ⟨e, ⟨h1, h2⟩, rfl⟩; exact ⟨e, h1, rfl, h2⟩
  · rintro ⟨e, h1, rfl, h2⟩; exact ⟨e, ⟨h1, h2⟩, rfl⟩

def toldV : Nat → List Value
  | 0 => [.bool false, .bool false, .bool false, .bool false]
  | 1 => [.bool true, .bool false, .bool false, .bool false]
  | 2 => [.bool true, .bool true, .bool false, .bool false]
  | _ => [.bool true, .bool true, .bool true, .bool false]

def CrRel (w w1 : World) (b i : Nat) (wr : World) : Prop :=
  Brs (fun k => w.heap.size ≤ k ∧ k < w1.heap.size) wr b 4 (es5.take i) ∧ Row wr w1.heap.size 117 (toldV i) ∧ Keep Nb w wr

set_option maxRecDepth 100000 in
set_option maxHeartbeats 2000000 in
theorem crossed_any (w : World) : Calls Try.prog 36 #[] w fun e w' => e = .returned (.bool true) ∧ Keep Nb w w' := by
  go_enter Try.func36, Try.ntmps36
  go_wp2_with fail
  refine (bnew_any 4 (by omega) _).mono ?_
  rintro e1 w1 ⟨b, rfl, hB, hk1⟩
  have HB0 := Lib.hid hB
  have HK1 := Lib.hid hk1
  clear hB hk1
  go_wp2_with fail
  have H0 : Hid (CrRel w w1 b 0 (w1.alloc (.cells #[.bool false, .bool false, .bool false, .bool false] 117))) := Lib.hid
    ⟨HB0.out.keep ((Keep.refl Nb w1).alloc _) (fun _ _ e => e), Row.new w1 #[.bool false, .bool false, .bool false, .bool false] 117, HK1.out.alloc _⟩
  go_loopg [23] 4 (fun kx s23 wr => ∃ i : Nat, s23 = .int .i64 i ∧ i ≤ 4 ∧ 4 - i ≤ kx ∧ Hid (CrRel w w1 b i wr))
  case atStart => exact ⟨0, rfl, Nat.zero_le _, by omega, H0⟩
  case round =>
    clear H0
    obtain ⟨i, rfl, hi, hg, HR⟩ := hrel
    have hw1 := HK1.out.size
    by_cases hlt : i < 4
    · have h4 : i = 0 ∨ i = 1 ∨ i = 2 ∨ i = 3 := by omega
      rcases h4 with rfl | rfl | rfl | rfl
      · have HNW : Hid ((!decide (Conn (ends (es5.take 0)) 0 1)) = true) := Lib.hid (es5_new 0 (by omega) ⟨0, 0, 1⟩ rfl)
        have r0 := HR.out.2.1.cell (i := 0) rfl
        have rf := HR.out.2.1.frozen 0 none
        have HBx := Lib.hid (HR.out.1.keep ((Keep.refl Nb wr).alloc (.cells #[.int .i64 0, .int .i64 1] 31)) (fun _ _ e => e))
        have lq := HR.out.2.1.lt
        have hix : ∀ W, (Instr.index 118 (.agg #[.int .i64 0, .int .i64 1, .int .i64 1, .int .i64 2, .int .i64 2, .int .i64 3, .int .i64 0, .int .i64 2]) (.int .i64 0)).run Try.prog W = .ok (.agg #[.int .i64 0, .int .i64 1]) W := fun W => by kernel_rfl
        clear r0 rf
        go_wp2_with fail
        clear hix
        refine (badd_any (fun k => w.heap.size ≤ k ∧ k < w1.heap.size) _ b 4 (es5.take 0) 0 0 1 (by omega) (by omega) (by omega) (by decide) (by omega) HBx.out (fun j hj => by simp only [World.size_alloc]; omega)).mono ?_
        rintro e1 w3 ⟨rfl, hB3, hk3⟩
        rw [HNW.out]
        have hr3 := (HR.out.2.1.alloc (.cells #[.int .i64 0, .int .i64 1] 31)).keep hk3 (fun h => by have := h.2; omega)
        have r0 := hr3.cell (i := 0) rfl
        have rf := hr3.frozen 0 none
        have HN : Hid (CrRel w w1 b 1 (w3.setCell ⟨w1.heap.size, 0, none⟩ (.bool true))) := Lib.hid (by
          refine ⟨?_, ?_, ?_⟩
          · exact hB3.keep ((Keep.refl (fun j => j = w1.heap.size) w3).setCell (.inl rfl) _) (fun j hj e => by have := hj.2; omega)
          · exact hr3.set (i := 0) (by decide) (.bool true)
          · exact ((HR.out.2.2.alloc _).trans' hk3 (fun _ _ e => e) (fun j hj e => by show False; omega)).setCell (.inr (by have := HK1.out.size; show w.heap.size ≤ w1.heap.size; exact this)) _)
        clear hB3 hk3 hr3
        go_wp2_with fail
        go_roundg 3
        case measure => omega
        case rel => exact ⟨1, rfl, by omega, by omega, HN⟩
      · have HNW : Hid ((!decide (Conn (ends (es5.take 1)) 1 2)) = true) := Lib.hid (es5_new 1 (by omega) ⟨1, 1, 2⟩ rfl)
        have r0 := HR.out.2.1.cell (i := 1) rfl
        have rf := HR.out.2.1.frozen 1 none
        have HBx := Lib.hid (HR.out.1.keep ((Keep.refl Nb wr).alloc (.cells #[.int .i64 1, .int .i64 2] 31)) (fun _ _ e => e))
        have lq := HR.out.2.1.lt
        have hix : ∀ W, (Instr.index 118 (.agg #[.int .i64 0, .int .i64 1, .int .i64 1, .int .i64 2, .int .i64 2, .int .i64 3, .int .i64 0, .int .i64 2]) (.int .i64 1)).run Try.prog W = .ok (.agg #[.int .i64 1, .int .i64 2]) W := fun W => by kernel_rfl
        clear r0 rf
        go_wp2_with fail
        clear hix
        refine (badd_any (fun k => w.heap.size ≤ k ∧ k < w1.heap.size) _ b 4 (es5.take 1) 1 1 2 (by omega) (by omega) (by omega) (by decide) (by omega) HBx.out (fun j hj => by simp only [World.size_alloc]; omega)).mono ?_
        rintro e1 w3 ⟨rfl, hB3, hk3⟩
        rw [HNW.out]
        have hr3 := (HR.out.2.1.alloc (.cells #[.int .i64 1, .int .i64 2] 31)).keep hk3 (fun h => by have := h.2; omega)
        have r0 := hr3.cell (i := 1) rfl
        have rf := hr3.frozen 1 none
        have HN : Hid (CrRel w w1 b 2 (w3.setCell ⟨w1.heap.size, 1, none⟩ (.bool true))) := Lib.hid (by
          refine ⟨?_, ?_, ?_⟩
          · exact hB3.keep ((Keep.refl (fun j => j = w1.heap.size) w3).setCell (.inl rfl) _) (fun j hj e => by have := hj.2; omega)
          · exact hr3.set (i := 1) (by decide) (.bool true)
          · exact ((HR.out.2.2.alloc _).trans' hk3 (fun _ _ e => e) (fun j hj e => by show False; omega)).setCell (.inr (by have := HK1.out.size; show w.heap.size ≤ w1.heap.size; exact this)) _)
        clear hB3 hk3 hr3
        go_wp2_with fail
        go_roundg 2
        case measure => omega
        case rel => exact ⟨2, rfl, by omega, by omega, HN⟩
      · have HNW : Hid ((!decide (Conn (ends (es5.take 2)) 2 3)) = true) := Lib.hid (es5_new 2 (by omega) ⟨2, 2, 3⟩ rfl)
        have r0 := HR.out.2.1.cell (i := 2) rfl
        have rf := HR.out.2.1.frozen 2 none
        have HBx := Lib.hid (HR.out.1.keep ((Keep.refl Nb wr).alloc (.cells #[.int .i64 2, .int .i64 3] 31)) (fun _ _ e => e))
        have lq := HR.out.2.1.lt
        have hix : ∀ W, (Instr.index 118 (.agg #[.int .i64 0, .int .i64 1, .int .i64 1, .int .i64 2, .int .i64 2, .int .i64 3, .int .i64 0, .int .i64 2]) (.int .i64 2)).run Try.prog W = .ok (.agg #[.int .i64 2, .int .i64 3]) W := fun W => by kernel_rfl
        clear r0 rf
        go_wp2_with fail
        clear hix
        refine (badd_any (fun k => w.heap.size ≤ k ∧ k < w1.heap.size) _ b 4 (es5.take 2) 2 2 3 (by omega) (by omega) (by omega) (by decide) (by omega) HBx.out (fun j hj => by simp only [World.size_alloc]; omega)).mono ?_
        rintro e1 w3 ⟨rfl, hB3, hk3⟩
        rw [HNW.out]
        have hr3 := (HR.out.2.1.alloc (.cells #[.int .i64 2, .int .i64 3] 31)).keep hk3 (fun h => by have := h.2; omega)
        have r0 := hr3.cell (i := 2) rfl
        have rf := hr3.frozen 2 none
        have HN : Hid (CrRel w w1 b 3 (w3.setCell ⟨w1.heap.size, 2, none⟩ (.bool true))) := Lib.hid (by
          refine ⟨?_, ?_, ?_⟩
          · exact hB3.keep ((Keep.refl (fun j => j = w1.heap.size) w3).setCell (.inl rfl) _) (fun j hj e => by have := hj.2; omega)
          · exact hr3.set (i := 2) (by decide) (.bool true)
          · exact ((HR.out.2.2.alloc _).trans' hk3 (fun _ _ e => e) (fun j hj e => by show False; omega)).setCell (.inr (by have := HK1.out.size; show w.heap.size ≤ w1.heap.size; exact this)) _)
        clear hB3 hk3 hr3
        go_wp2_with fail
        go_roundg 1
        case measure => omega
        case rel => exact ⟨3, rfl, by omega, by omega, HN⟩
      · have HNW : Hid ((!decide (Conn (ends (es5.take 3)) 0 2)) = false) := Lib.hid (es5_new 3 (by omega) ⟨3, 0, 2⟩ rfl)
        have r0 := HR.out.2.1.cell (i := 3) rfl
        have rf := HR.out.2.1.frozen 3 none
        have HBx := Lib.hid (HR.out.1.keep ((Keep.refl Nb wr).alloc (.cells #[.int .i64 0, .int .i64 2] 31)) (fun _ _ e => e))
        have lq := HR.out.2.1.lt
        have hix : ∀ W, (Instr.index 118 (.agg #[.int .i64 0, .int .i64 1, .int .i64 1, .int .i64 2, .int .i64 2, .int .i64 3, .int .i64 0, .int .i64 2]) (.int .i64 3)).run Try.prog W = .ok (.agg #[.int .i64 0, .int .i64 2]) W := fun W => by kernel_rfl
        clear r0 rf
        go_wp2_with fail
        clear hix
        refine (badd_any (fun k => w.heap.size ≤ k ∧ k < w1.heap.size) _ b 4 (es5.take 3) 3 0 2 (by omega) (by omega) (by omega) (by decide) (by omega) HBx.out (fun j hj => by simp only [World.size_alloc]; omega)).mono ?_
        rintro e1 w3 ⟨rfl, hB3, hk3⟩
        rw [HNW.out]
        have hr3 := (HR.out.2.1.alloc (.cells #[.int .i64 0, .int .i64 2] 31)).keep hk3 (fun h => by have := h.2; omega)
        have r0 := hr3.cell (i := 3) rfl
        have rf := hr3.frozen 3 none
        have HN : Hid (CrRel w w1 b 4 (w3.setCell ⟨w1.heap.size, 3, none⟩ (.bool false))) := Lib.hid (by
          refine ⟨?_, ?_, ?_⟩
          · exact hB3.keep ((Keep.refl (fun j => j = w1.heap.size) w3).setCell (.inl rfl) _) (fun j hj e => by have := hj.2; omega)
          · exact hr3.set (i := 3) (by decide) (.bool false)
          · exact ((HR.out.2.2.alloc _).trans' hk3 (fun _ _ e => e) (fun j hj e => by show False; omega)).setCell (.inr (by have := HK1.out.size; show w.heap.size ≤ w1.heap.size; exact this)) _)
        clear hB3 hk3 hr3
        go_wp2_with fail
        go_roundg 0
        case measure => omega
        case rel => exact ⟨4, rfl, by omega, by omega, HN⟩
    · obtain rfl : i = 4 := by omega
      have r0 := HR.out.2.1.cell (i := 0) rfl
      have r1 := HR.out.2.1.cell (i := 1) rfl
      have r2 := HR.out.2.1.cell (i := 2) rfl
      have r3 := HR.out.2.1.cell (i := 3) rfl
      have HBx : Hid (Brs (fun k => w.heap.size ≤ k ∧ k < w1.heap.size) wr b 4 es5) := Lib.hid HR.out.1
      have heq : ∀ W, (binOp .eql 117 (.agg #[.bool true, .bool true, .bool true, .bool false]) (.agg #[.bool true, .bool true, .bool true, .bool false])).run Try.prog W = .ok (.bool true) W := fun W => by kernel_rfl
      go_wp2_with fail
      clear heq
      refine (ids_any _ _ b 4 es5 HBx.out (by decide)).mono ?_
      rintro e1 w4 ⟨l, o, c, rfl, hS, hI, _, hk4, _⟩
      obtain rfl : l = [2] := hI.unique es5_ids (fun id => (hI.mem id).trans (es5_ids.mem id).symm)
      have HS := Lib.hid hS
      have HK4 := Lib.hid (HR.out.2.2.trans hk4)
      clear hS hI hk4
      go_wp2_with fail
      refine (same_q _ _ _ o _ _ _ c _ [2] (HS.out.alloc _) (Sl.built w4 3 1 1 [.int .i64 2] rfl (by simp only [maxLen]; omega)) (by simp)).mono ?_
      rintro e1 w5 ⟨rfl, m, rfl⟩
      have HF : Hid (Keep Nb w ((w4.alloc (.cells #[.int .i64 2] 3)).drewN m)) := Lib.hid ((HK4.out.alloc _).drewN m)
      go_wp2_with fail
      go_ret
      exact ⟨rfl, HF.out⟩

end Go.Proofs.Ytkpoobnldgfapaa
