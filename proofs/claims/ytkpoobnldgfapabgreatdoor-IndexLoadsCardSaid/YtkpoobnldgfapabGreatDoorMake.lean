/- make([]int, n). Nothing of one program stands here. -/
import Derived.Test.YtkpoobnldgfapabGreatDoorA1
import Derived.Test.YtkpoobnldgfapabGreatDoorA2
import Derived.OwnWalk
set_option linter.unusedVariables false
set_option linter.unusedSimpArgs false
namespace Go.Proofs.YtkpoobnldgfapabGreatDoor
open Go.RowKit

theorem run_make1 {P : Program} (w : World) (t e : TypeId) {z : Value} {bytes : Nat} (ht : P.underlying t = some (.slice e)) (hE : ElemT P e z 1 bytes) (hzs : z.cells = #[z]) (n : Nat) (hn : n ≤ 1000000) (hb : bytes ≤ 1000000) :
    ∃ w', (Instr.makeSlice t (.int .i64 n) (.int .i64 n)).run P w = .ok (.slice (some ⟨w.heap.size, 0, none⟩) n n) w' ∧
      Sl (fun k => w.heap.size ≤ k) w' e 1 (some ⟨w.heap.size, 0, none⟩) n n (List.replicate n z) ∧ Keep Nb w w' := by
  obtain ⟨i, hi, hz, hs, hby⟩ := info_parts hE
  obtain ⟨w', h1, h2, h3⟩ := run_make_full (P := P) w 0 t e i z 1 ht hi hz hs .i64 .i64 n (by
    rw [hby]
    have := Nat.mul_le_mul hb hn
    omega) (by simp only [maxLen]; omega) (Nat.zero_le _)
  refine ⟨w', h1, ⟨?_, fun a ha => by simp at ha; rw [← ha]; exact Nat.le_refl _⟩, ?_⟩
  · have : (madeCells z.cells (n * 1)).toList = List.replicate n z := by
      rw [hzs, Nat.mul_one, toList_madeCells_one]
    rw [← this]; exact h2
  · exact ⟨h3.os, h3.tape, h3.output, h3.size, fun k hk _ => h3.block k hk (by simp)⟩

end Go.Proofs.YtkpoobnldgfapabGreatDoor
