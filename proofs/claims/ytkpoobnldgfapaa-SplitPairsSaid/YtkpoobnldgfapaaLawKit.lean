/- For the laws: an argument that is a slice of pairs, opened. -/
import Derived.Test.YtkpoobnldgfapaaPrs
import Derived.Test.YtkpoobnldgfapaaRows
import Derived.ProofKit
import Derived.OpenShut
import Derived.Deep.SlicePairs
namespace Go.Proofs.Ytkpoobnldgfapaa
open Go.RowKit Go.ChangeShapes Go.WideShapes Go.ChangeAt

theorem own : ownKnob Try.prog.godebug = none := by kernel_rfl
theorem laidOut : laidOutB Try.prog = true := by kernel_rfl
theorem cellsPair : Try.prog.cellsOf 31 = 2 := by kernel_rfl
theorem cellsInt : Try.prog.cellsOf 3 = 1 := by kernel_rfl

/-- What a slice of pairs reads as: its cells. -/
theorem open_prs {H : Type} {enc : TypeId × Value → H} {w : World} {base : Nat} {held : Bool} {v : Value} {d : DataW H} {ps : List MemPlace} (hv : ∃ oa len cap, v = .slice oa len cap)
    (h : DataW.Trod enc Try.prog w base (fun _ => true) held 22 v d ps) :
    ∃ oa len cap b off A B, v = .slice oa len cap ∧ len ≤ cap ∧ (0 < len → oa = some ⟨b, off, none⟩) ∧ (0 < len → b < w.heap.size) ∧ Prs w b off len A B := by
  obtain ⟨oa, len, cap, rfl⟩ := hv
  obtain ⟨fuel, hf⟩ := h
  rcases Deep.open_slice_pairs Try.underlying22 Try.underlying31 cellsPair rfl rfl cellsInt cellsInt hf with ⟨hcs, _⟩ | ⟨a, len', cap', m, n, V0, V1, D0, D1, P0, P1, hcs, _, hl, _, hmm, _, hi⟩
  · simp [Value.cells] at hcs
    obtain ⟨rfl, rfl, rfl⟩ := hcs
    exact ⟨none, 0, 0, 0, 0, fun _ => 0, fun _ => 0, rfl, Nat.le_refl _, fun h => absurd h (by omega), fun h => absurd h (by omega), ⟨fun i h => absurd h (by omega), fun i h => absurd h (by omega)⟩⟩
  · simp [Value.cells] at hcs
    obtain ⟨rfl, rfl, rfl⟩ := hcs
    obtain ⟨b, off, spot⟩ := a
    simp only [if_true] at hmm
    have hint : ∀ (v : Value) (y : DataW H × List MemPlace), DataW.trod enc Try.prog w base (fun _ => true) held n 3 [v] = some y → ∃ k, v = .int .i64 k := by
      intro v y hy
      obtain ⟨k, e, _⟩ := DataW.trod_int Try.underlying3 hy
      simp at e
      exact ⟨k, e⟩
    have hA : ∀ i, ∃ k : Int, i < len → V0 i = .int .i64 k := fun i => by
      by_cases h : i < len
      · obtain ⟨_, _, h0, _⟩ := hi i (by omega)
        obtain ⟨k, e⟩ := hint _ _ h0
        exact ⟨k, fun _ => e⟩
      · exact ⟨0, fun h' => absurd h' h⟩
    have hB : ∀ i, ∃ k : Int, i < len → V1 i = .int .i64 k := fun i => by
      by_cases h : i < len
      · obtain ⟨_, _, _, h1⟩ := hi i (by omega)
        obtain ⟨k, e⟩ := hint _ _ h1
        exact ⟨k, fun _ => e⟩
      · exact ⟨0, fun h' => absurd h' h⟩
    have hspot : 0 < len → spot = none := fun h => by
      have := (hi 0 (by omega)).1
      simpa [Addr.add] using World.cell?_spot this
    refine ⟨_, _, _, b, off, fun i => Classical.choose (hA i), fun i => Classical.choose (hB i), rfl, hl, fun h => by rw [hspot h], fun h => ?_, fun i h => ?_, fun i h => ?_⟩
    · have := World.block_lt_of_cell? w _ (hi 0 (by omega)).1
      simpa [Addr.add] using this
    · obtain ⟨c, _, _, _⟩ := hi i (by omega)
      rw [hspot (by omega), Classical.choose_spec (hA i) h, Addr.add_lit] at c
      exact c
    · obtain ⟨_, c, _, _⟩ := hi i (by omega)
      rw [hspot (by omega), Classical.choose_spec (hB i) h, Addr.add_lit] at c
      exact c

end Go.Proofs.Ytkpoobnldgfapaa
