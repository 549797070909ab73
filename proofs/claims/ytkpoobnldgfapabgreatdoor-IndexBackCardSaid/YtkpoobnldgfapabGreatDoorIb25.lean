/- Part 25 of the proof: MkI. -/
import Derived.Test.YtkpoobnldgfapabGreatDoorIb01
import Derived.Test.YtkpoobnldgfapabGreatDoorIb05
import Derived.Test.YtkpoobnldgfapabGreatDoorIb09
import Derived.OwnWalk
set_option linter.unusedVariables false
set_option linter.unusedSimpArgs false
namespace Go.Proofs.YtkpoobnldgfapabGreatDoor
open Go.RowKit Pl
theorem run_makeI (n : Nat) (hn : n ≤ 1000000) : ∃ Z : Array Value, Z.toList = fints n (fun _ => 0) ∧ ∀ w : World, (Instr.makeSlice 33 (.int .i64 (n : Nat)) (.int .i64 (n : Nat))).run Tryz.prog w = .ok (.slice (some ⟨w.heap.size, 0, none⟩) n n) (w.alloc (.cells Z 3)) := by
  obtain ⟨i, hi, hz, hs, hby⟩ := info_parts elem_int
  refine ⟨madeCells (Value.int .i64 0).cells (n * 1), ?_, fun w => ?_⟩
  · have h1 : (madeCells (Value.int .i64 0).cells (n * 1)).toList = List.replicate n (.int .i64 0) := by
      rw [show (Value.int IntKind.i64 0).cells = #[Value.int .i64 0] from rfl, Nat.mul_one, toList_madeCells_one]
    rw [h1]
    apply List.ext_getElem?
    intro j
    by_cases hj : j < n
    · rw [fints_get _ hj]; simp [hj]
    · rw [List.getElem?_eq_none (by simp; omega), List.getElem?_eq_none (by rw [fints_length]; omega)]
  · have := run_make (P := Tryz.prog) (w := w) 33 3 i (.int .i64 0) Tryz.underlying33 hi hz .i64 .i64 (n : Int) (n : Int) (by omega) (by omega) (by rw [hby]; omega) (by omega)
    rw [hs] at this
    simpa using this
end Go.Proofs.YtkpoobnldgfapabGreatDoor

