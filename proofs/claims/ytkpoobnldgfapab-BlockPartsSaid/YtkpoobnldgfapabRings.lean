/- isthmuskeep: rings, covered: a fact. -/
import Derived.Test.YtkpoobnldgfapabA9
set_option linter.unusedVariables false
set_option linter.unusedSimpArgs false
namespace Go.Proofs.Ytkpoobnldgfapab
open Go.RowKit Pl

def es6 : List E := [⟨0, 0, 1⟩, ⟨1, 1, 2⟩, ⟨2, 0, 2⟩, ⟨3, 2, 3⟩, ⟨4, 3, 4⟩, ⟨5, 2, 4⟩]
def r6 (i : Nat) : Nat × Nat := ([(0, 1), (1, 2), (0, 2), (2, 3), (3, 4), (2, 4)] : List (Nat × Nat)).getD i (0, 0)

theorem es6_step {i : Nat} (hi : i < 6) : addEs 5 (es6.take i) i (r6 i).1 (r6 i).2 = es6.take (i + 1) ∧ addErr 5 (es6.take i) i (r6 i).1 (r6 i).2 = 0 := by
  have : i = 0 ∨ i = 1 ∨ i = 2 ∨ i = 3 ∨ i = 4 ∨ i = 5 := by omega
  rcases this with rfl | rfl | rfl | rfl | rfl | rfl <;> decide +kernel

theorem es6_sorted : Sorted es6 := by unfold Sorted es6; simp

theorem es6_ok : EOk 5 es6 := by
  refine ⟨?_, ?_, ?_, es6_sorted⟩
  · intro e he; simp [es6] at he; rcases he with rfl | rfl | rfl | rfl | rfl | rfl <;> simp
  · intro e he; simp [es6] at he; rcases he with rfl | rfl | rfl | rfl | rfl | rfl <;> simp
  · intro e he; simp [es6] at he; rcases he with rfl | rfl | rfl | rfl | rfl | rfl <;> simp


theorem r6_index {i : Nat} (hi : i < 6) : ∀ W, (Instr.index 85 (.agg #[.int .i64 0, .int .i64 1, .int .i64 1, .int .i64 2, .int .i64 0, .int .i64 2, .int .i64 2, .int .i64 3, .int .i64 3, .int .i64 4, .int .i64 2, .int .i64 4]) (.int .i64 i)).run Try.prog W = .ok (.agg #[.int .i64 (r6 i).1, .int .i64 (r6 i).2]) W := by
  have : i = 0 ∨ i = 1 ∨ i = 2 ∨ i = 3 ∨ i = 4 ∨ i = 5 := by omega
  rcases this with rfl | rfl | rfl | rfl | rfl | rfl
  · have h : ∀ W, (Instr.index 85 (.agg #[.int .i64 0, .int .i64 1, .int .i64 1, .int .i64 2, .int .i64 0, .int .i64 2, .int .i64 2, .int .i64 3, .int .i64 3, .int .i64 4, .int .i64 2, .int .i64 4]) (.int .i64 0)).run Try.prog W = .ok (.agg #[.int .i64 0, .int .i64 1]) W := fun W => by kernel_rfl
    exact h
  · have h : ∀ W, (Instr.index 85 (.agg #[.int .i64 0, .int .i64 1, .int .i64 1, .int .i64 2, .int .i64 0, .int .i64 2, .int .i64 2, .int .i64 3, .int .i64 3, .int .i64 4, .int .i64 2, .int .i64 4]) (.int .i64 1)).run Try.prog W = .ok (.agg #[.int .i64 1, .int .i64 2]) W := fun W => by kernel_rfl
    exact h
  · have h : ∀ W, (Instr.index 85 (.agg #[.int .i64 0, .int .i64 1, .int .i64 1, .int .i64 2, .int .i64 0, .int .i64 2, .int .i64 2, .int .i64 3, .int .i64 3, .int .i64 4, .int .i64 2, .int .i64 4]) (.int .i64 2)).run Try.prog W = .ok (.agg #[.int .i64 0, .int .i64 2]) W := fun W => by kernel_rfl
    exact h
  · have h : ∀ W, (Instr.index 85 (.agg #[.int .i64 0, .int .i64 1, .int .i64 1, .int .i64 2, .int .i64 0, .int .i64 2, .int .i64 2, .int .i64 3, .int .i64 3, .int .i64 4, .int .i64 2, .int .i64 4]) (.int .i64 3)).run Try.prog W = .ok (.agg #[.int .i64 2, .int .i64 3]) W := fun W => by kernel_rfl
    exact h
  · have h : ∀ W, (Instr.index 85 (.agg #[.int .i64 0, .int .i64 1, .int .i64 1, .int .i64 2, .int .i64 0, .int .i64 2, .int .i64 2, .int .i64 3, .int .i64 3, .int .i64 4, .int .i64 2, .int .i64 4]) (.int .i64 4)).run Try.prog W = .ok (.agg #[.int .i64 3, .int .i64 4]) W := fun W => by kernel_rfl
    exact h
  · have h : ∀ W, (Instr.index 85 (.agg #[.int .i64 0, .int .i64 1, .int .i64 1, .int .i64 2, .int .i64 0, .int .i64 2, .int .i64 2, .int .i64 3, .int .i64 3, .int .i64 4, .int .i64 2, .int .i64 4]) (.int .i64 5)).run Try.prog W = .ok (.agg #[.int .i64 2, .int .i64 4]) W := fun W => by kernel_rfl
    exact h

def RingsPost (w : World) (e : Ending) (w' : World) : Prop :=
  e = .returned (.pointer (some ⟨w.heap.size, 0, none⟩)) ∧ Gr (fun k => w.heap.size ≤ k ∧ k < w'.heap.size) w' w.heap.size 5 es6 ∧ Keep Nb w w'

set_option maxRecDepth 100000 in
set_option maxHeartbeats 2000000 in
theorem rings_any (w : World) : Calls Try.prog 15 #[] w (RingsPost w) := by
  go_enter Try.func15, Try.ntmps15
  go_wp2_with fail
  refine (gnew_any _ 5 (by omega)).mono ?_
  rintro e1 w1 ⟨rfl, hG1, hk1, hz1⟩
  have H0 : Hid (Gr (fun k => w.heap.size ≤ k ∧ k < w1.heap.size) w1 w.heap.size 5 (es6.take 0) ∧ Keep Nb w w1) := Lib.hid ⟨hG1.mono (fun k hk => by omega), hk1⟩
  clear hG1 hk1 hz1
  go_wp2_with fail
  go_loopg [22] 6 (fun kx s wr => ∃ i : Nat, s = .int .i64 i ∧ i ≤ 6 ∧ 6 - i ≤ kx ∧ Hid (Gr (fun k => w.heap.size ≤ k ∧ k < wr.heap.size) wr w.heap.size 5 (es6.take i) ∧ Keep Nb w wr))
  case atStart => exact ⟨0, rfl, Nat.zero_le _, by omega, H0⟩
  case round =>
    clear H0
    obtain ⟨i, rfl, hi, hg, HR⟩ := hrel
    by_cases hlt : i < 6
    · have HST := Lib.hid (es6_step hlt)
      have hix := r6_index hlt
      obtain ⟨x, hx⟩ : ∃ x, (r6 i).1 = x := ⟨_, rfl⟩
      obtain ⟨y, hy⟩ : ∃ y, (r6 i).2 = y := ⟨_, rfl⟩
      rw [hx, hy] at HST hix
      clear hx hy
      have hGA : Hid (Gr (fun k => w.heap.size ≤ k ∧ k < wr.heap.size) (wr.alloc (.cells #[.int .i64 x, .int .i64 y] 48)) w.heap.size 5 (es6.take i)) := Lib.hid (HR.out.1.keep ((Keep.refl Nb wr).alloc _) (fun _ _ e => e))
      go_wp2_with fail
      clear hix
      refine (add_any (fun k => w.heap.size ≤ k ∧ k < wr.heap.size) _ _ 5 (es6.take i) i x y hGA.out (fun k hk => by simp; omega) (es6_sorted.sublist (List.take_sublist _ _)) (by omega) (by rw [List.length_take]; omega)).mono ?_
      rintro e1 w2 ⟨he, hg2, hk2⟩
      rw [HST.out.2, if_pos rfl] at he
      rw [HST.out.1] at hg2
      subst he
      have HN : Hid (Gr (fun k => w.heap.size ≤ k ∧ k < w2.heap.size) w2 w.heap.size 5 (es6.take (i + 1)) ∧ Keep Nb w w2) := Lib.hid (by
        have z := HR.out.2.size
        have z2 := hk2.size
        rw [World.size_alloc] at z2
        exact ⟨hg2.tight.mono (fun k hk => by
          have h1 := hk.1; have h2 := hk.2
          simp only [World.size_alloc] at h1
          omega), (HR.out.2.alloc _).trans' hk2 (fun _ _ e => e) (fun k hk e => by show False; omega)⟩)
      clear hg2 hk2 hGA
      go_wp2_with fail
      go_roundg (6 - (i + 1))
      case measure => omega
      case rel => exact ⟨i + 1, rfl, by omega, Nat.le_refl _, HN⟩
    · obtain rfl : i = 6 := by omega
      have HP : Hid (RingsPost w (.returned (.pointer (some ⟨w.heap.size, 0, none⟩))) wr) := Lib.hid ⟨rfl, HR.out.1, HR.out.2⟩
      clear HR
      go_wp2_with fail
      go_ret
      exact HP.out


end Go.Proofs.Ytkpoobnldgfapab
