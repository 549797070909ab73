/- For the laws: an argument that is a slice of steps, and one of ints, opened. -/
import Derived.Test.YtkpoobnldgfapaaDoorA1
import Derived.Test.YtkpoobnldgfapaaDoorGPlay2
import Derived.ChangeSlices
set_option linter.unusedVariables false
set_option linter.unusedSimpArgs false
namespace Go.Proofs.YtkpoobnldgfapaaDoor
open Go.RowKit Go.ChangeShapes Go.WideShapes Go.ChangeAt Go.Deep

/-- What a slice of structs of four one-cell fields reads as: its cells. -/
theorem open_quads {H : Type} {enc : TypeId × Value → H} {P : Program} {w : World} {base : Nat} {spare : Nat → Bool} {held : Bool} {t e : TypeId} {f0 f1 f2 f3 : Field} {fuel : Nat} {cs : List Value} {x : DataW H × List MemPlace}
    (ht : P.underlying t = some (.slice e)) (he : P.underlying e = some (.struct #[f0, f1, f2, f3])) (ce : P.cellsOf e = 4) (o0 : f0.offset = 0) (o1 : f1.offset = 1) (o2 : f2.offset = 2) (o3 : f3.offset = 3)
    (c0 : P.cellsOf f0.type = 1) (c1 : P.cellsOf f1.type = 1) (c2 : P.cellsOf f2.type = 1) (c3 : P.cellsOf f3.type = 1) (h : DataW.trod enc P w base spare held fuel t cs = some x) :
    cs = [.slice none 0 0] ∨ ∃ (a : Addr) (len cap : Nat), cs = [.slice (some a) len cap] ∧ len ≤ cap ∧
      ∀ i, i < len → ∃ (n : Nat) (v0 v1 v2 v3 : Value) (y0 y1 y2 y3 : DataW H × List MemPlace), w.cell? (a.add (i * 4)) = some v0 ∧ w.cell? (a.add (i * 4 + 1)) = some v1 ∧ w.cell? (a.add (i * 4 + 2)) = some v2 ∧ w.cell? (a.add (i * 4 + 3)) = some v3 ∧
        DataW.trod enc P w base spare held n f0.type [v0] = some y0 ∧ DataW.trod enc P w base spare held n f1.type [v1] = some y1 ∧ DataW.trod enc P w base spare held n f2.type [v2] = some y2 ∧ DataW.trod enc P w base spare held n f3.type [v3] = some y3 := by
  rcases open_slice ht h with h0 | ⟨a, len, cap, m, n, D, Pl, rfl, hb, hl, hm, hmm, rfl, hx⟩
  · exact Or.inl h0.1
  right
  have hlm : len ≤ m := by rw [hmm]; split <;> omega
  refine ⟨a, len, cap, rfl, hl, fun i hi => ?_⟩
  obtain ⟨cs', h1, h2⟩ := hx i (by omega)
  rw [ce] at h1
  obtain ⟨_, hlen, hcell⟩ := World.cells?_some h1
  obtain ⟨xs, k, hk, hxy, _, hxl, hf⟩ := DataW.trod_struct he h2
  match xs, hxl, cs', hlen with
  | [y0, y1, y2, y3], _, [v0, v1, v2, v3], _ =>
    have g0 := hf 0 f0 rfl
    have g1 := hf 1 f1 rfl
    have g2 := hf 2 f2 rfl
    have g3 := hf 3 f3 rfl
    simp [o0, o1, o2, o3, c0, c1, c2, c3] at g0 g1 g2 g3
    have e0 := hcell 0 (by omega)
    have e1 := hcell 1 (by omega)
    have e2 := hcell 2 (by omega)
    have e3 := hcell 3 (by omega)
    rw [add_add] at e0 e1 e2 e3
    exact ⟨k, v0, v1, v2, v3, y0, y1, y2, y3, by simpa using e0, by simpa using e1, by simpa using e2, by simpa using e3, g0, g1, g2, g3⟩

theorem open_stp {H : Type} {enc : TypeId × Value → H} {w : World} {base : Nat} {held : Bool} {v : Value} {d : DataW H} {ps : List MemPlace} (hv : ∃ oa len cap, v = .slice oa len cap)
    (h : DataW.Trod enc Tryd.prog w base (fun _ => true) held 59 v d ps) :
    ∃ oa len cap b off I A B G, v = .slice oa len cap ∧ len ≤ cap ∧ (0 < len → oa = some ⟨b, off, none⟩) ∧ Stp w b off len I A B G := by
  obtain ⟨oa, len, cap, rfl⟩ := hv
  obtain ⟨fuel, hf⟩ := h
  rcases open_quads Tryd.underlying59 Tryd.underlying66 (by kernel_rfl) rfl rfl rfl rfl (by kernel_rfl) (by kernel_rfl) (by kernel_rfl) (by kernel_rfl) hf with hcs | ⟨a, len', cap', hcs, hl, hi⟩
  · simp [Value.cells] at hcs
    obtain ⟨rfl, rfl, rfl⟩ := hcs
    exact ⟨none, 0, 0, 0, 0, fun _ => 0, fun _ => 0, fun _ => 0, fun _ => false, rfl, Nat.le_refl _, fun h => absurd h (by omega), ⟨fun i h => absurd h (by omega), fun i h => absurd h (by omega), fun i h => absurd h (by omega), fun i h => absurd h (by omega)⟩⟩
  · simp [Value.cells] at hcs
    obtain ⟨rfl, rfl, rfl⟩ := hcs
    obtain ⟨b, off, spot⟩ := a
    have each : ∀ i, ∃ q : Int × Int × Int × Bool, i < len → w.cell? ((⟨b, off, spot⟩ : Addr).add (i * 4)) = some (.int .i64 q.1) ∧ w.cell? ((⟨b, off, spot⟩ : Addr).add (i * 4 + 1)) = some (.int .i64 q.2.1) ∧ w.cell? ((⟨b, off, spot⟩ : Addr).add (i * 4 + 2)) = some (.int .i64 q.2.2.1) ∧ w.cell? ((⟨b, off, spot⟩ : Addr).add (i * 4 + 3)) = some (.bool q.2.2.2) := fun i => by
      by_cases h : i < len
      · obtain ⟨n, v0, v1, v2, v3, y0, y1, y2, y3, e0, e1, e2, e3, g0, g1, g2, g3⟩ := hi i h
        obtain ⟨k0, q0, _⟩ := DataW.trod_int Tryd.underlying3 g0
        obtain ⟨k1, q1, _⟩ := DataW.trod_int Tryd.underlying3 g1
        obtain ⟨k2, q2, _⟩ := DataW.trod_int Tryd.underlying3 g2
        obtain ⟨k3, q3, _⟩ := DataW.trod_bool Tryd.underlying4 g3
        simp at q0 q1 q2 q3
        exact ⟨(k0, k1, k2, k3), fun _ => ⟨by rw [e0, q0], by rw [e1, q1], by rw [e2, q2], by rw [e3, q3]⟩⟩
      · exact ⟨(0, 0, 0, false), fun h' => absurd h' h⟩
    obtain ⟨q, all⟩ := Classical.skolem.1 each
    have hspot : 0 < len → spot = none := fun h => by
      have := (all 0 h).1
      simpa [Addr.add] using World.cell?_spot this
    refine ⟨_, _, _, b, off, fun i => (q i).1, fun i => (q i).2.1, fun i => (q i).2.2.1, fun i => (q i).2.2.2, rfl, hl, fun h => by rw [hspot h], ⟨fun i h => ?_, fun i h => ?_, fun i h => ?_, fun i h => ?_⟩⟩
    · have c := (all i h).1
      rw [hspot (by omega), Addr.add_lit] at c
      exact c
    · have c := (all i h).2.1
      rw [hspot (by omega), Addr.add_lit] at c
      exact c
    · have c := (all i h).2.2.1
      rw [hspot (by omega), Addr.add_lit] at c
      exact c
    · have c := (all i h).2.2.2
      rw [hspot (by omega), Addr.add_lit] at c
      exact c

/-- A slice of ints that is only read. -/
theorem open_ilr {H : Type} {enc : TypeId × Value → H} {w : World} {base : Nat} {held : Bool} {v : Value} {d : DataW H} {ps : List MemPlace} (hv : ∃ oa len cap, v = .slice oa len cap)
    (h : DataW.Trod enc Tryd.prog w base (fun _ => true) held 30 v d ps) :
    ∃ (oa : Option Addr) (len cap : Nat) (C : Nat → Int), v = .slice oa len cap ∧ Ilr w oa len C := by
  obtain ⟨oa, len, cap, rfl⟩ := hv
  obtain ⟨fuel, hf⟩ := h
  rcases open_ints Tryd.underlying30 Tryd.underlying3 cellsInt hf with ⟨hcs, _⟩ | ⟨a, len', cap', zs, hcs, _, hl, _, hz, _, hi, _⟩
  · simp [Value.cells] at hcs
    obtain ⟨rfl, rfl, rfl⟩ := hcs
    exact ⟨none, 0, 0, fun _ => 0, rfl, ⟨fun i h => absurd h (by omega)⟩⟩
  · simp [Value.cells] at hcs
    obtain ⟨rfl, rfl, rfl⟩ := hcs
    obtain ⟨b, off, spot⟩ := a
    simp only [if_true] at hz
    have hspot : 0 < len → spot = none := fun h => by
      have := hi 0 (by omega)
      simpa [Addr.add] using World.cell?_spot this
    refine ⟨_, _, _, fun i => zs.getD i 0, rfl, ⟨fun i h => ⟨b, off, by rw [hspot (by omega)], ?_⟩⟩⟩
    have c := hi i (by omega)
    rw [hspot (by omega), Addr.add_lit] at c
    exact ⟨c, World.block_lt_of_cell? w _ c⟩

end Go.Proofs.YtkpoobnldgfapaaDoor
