/- For the laws: an argument that is a slice of ints, opened. -/
import Derived.Test.YtkpoobnldgfapaaA1
import Derived.ChangeSlices
set_option linter.unusedVariables false
set_option linter.unusedSimpArgs false
namespace Go.Proofs.Ytkpoobnldgfapaa
open Go.RowKit Go.ChangeShapes Go.WideShapes Go.ChangeAt

theorem open_il {H : Type} {enc : TypeId × Value → H} {w : World} {base : Nat} {held : Bool} {v : Value} {d : DataW H} {ps : List MemPlace} (hv : ∃ oa len cap, v = .slice oa len cap)
    (h : DataW.Trod enc Try.prog w base (fun _ => true) held 37 v d ps) :
    ∃ (oa : Option Addr) (len cap b off : Nat) (C : Nat → Int), v = .slice oa len cap ∧ len ≤ cap ∧ (0 < len → oa = some ⟨b, off, none⟩) ∧ ∀ i, i < len → w.cell? ⟨b, off + i, none⟩ = some (.int .i64 (C i)) := by
  obtain ⟨oa, len, cap, rfl⟩ := hv
  obtain ⟨fuel, hf⟩ := h
  rcases open_ints Try.underlying37 Try.underlying3 cellsInt hf with ⟨hcs, _⟩ | ⟨a, len', cap', zs, hcs, _, hl, _, hz, _, hi, _⟩
  · simp [Value.cells] at hcs
    obtain ⟨rfl, rfl, rfl⟩ := hcs
    exact ⟨none, 0, 0, 0, 0, fun _ => 0, rfl, Nat.le_refl _, fun h => absurd h (by omega), fun i h => absurd h (by omega)⟩
  · simp [Value.cells] at hcs
    obtain ⟨rfl, rfl, rfl⟩ := hcs
    obtain ⟨b, off, spot⟩ := a
    simp only [if_true] at hz
    have hspot : 0 < len → spot = none := fun h => by
      have := hi 0 (by omega)
      simpa [Addr.add] using World.cell?_spot this
    refine ⟨_, _, _, b, off, fun i => zs.getD i 0, rfl, hl, fun h => by rw [hspot h], fun i h => ?_⟩
    have c := hi i (by omega)
    rw [hspot (by omega), Addr.add_lit] at c
    exact c

end Go.Proofs.Ytkpoobnldgfapaa
