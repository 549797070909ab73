/- Slices of pairs of numbers: their cells. -/
import Derived.Test.YtkpoobnldgfapaaApp
import Derived.Test.YtkpoobnldgfapaaSets5
namespace Go.Proofs.Ytkpoobnldgfapaa
open Go.RowKit

def pcells (p : Nat × Nat) : List Value := [.int .i64 p.1, .int .i64 p.2]
def pcs (l : List (Nat × Nat)) : List Value := l.flatMap pcells

@[simp] theorem pcs_length (l : List (Nat × Nat)) : (pcs l).length = l.length * 2 := by
  induction l with
  | nil => rfl
  | cons p l ih => simp only [pcs, List.flatMap_cons, List.length_append] at ih ⊢; rw [ih]; simp [pcells]; omega

theorem pcs_snoc (l : List (Nat × Nat)) (p : Nat × Nat) : pcs (l ++ [p]) = pcs l ++ pcells p := by simp [pcs]
theorem pcells_one (p : Nat × Nat) : ∀ u ∈ pcells p, u.oneCell' = true := by
  intro u hu; simp [pcells] at hu; rcases hu with rfl | rfl <;> rfl

theorem pcs_get {l : List (Nat × Nat)} {i : Nat} {p : Nat × Nat} (h : l[i]? = some p) : (pcs l)[i * 2]? = some (.int .i64 p.1) ∧ (pcs l)[i * 2 + 1]? = some (.int .i64 p.2) := by
  induction l generalizing i with
  | nil => simp at h
  | cons q l ih =>
    cases i with
    | zero => simp at h; subst h; simp [pcs, pcells]
    | succ i =>
      simp at h
      obtain ⟨h1, h2⟩ := ih h
      have e1 : (i + 1) * 2 = i * 2 + 2 := by omega
      rw [e1]
      have e2 : pcs (q :: l) = [.int .i64 q.1, .int .i64 q.2] ++ pcs l := by simp [pcs, pcells]
      rw [e2, List.getElem?_append_right (by simp), List.getElem?_append_right (by simp)]
      simp only [List.length_cons, List.length_nil]
      exact ⟨by rw [show i * 2 + 2 - (0 + 1 + 1) = i * 2 by omega]; exact h1, by rw [show i * 2 + 2 + 1 - (0 + 1 + 1) = i * 2 + 1 by omega]; exact h2⟩

theorem und_pairs : Try.prog.underlying 22 = some (.slice 31) := Try.underlying22
theorem elem_pair : ElemT Try.prog 31 (.agg #[.int .i64 0, .int .i64 0]) 2 16 := by unfold ElemT; kernel_rfl

/-- A slice of pairs, as it is read. -/
theorem Sl.pairs {F : Nat → Prop} {w : World} {g n c : Nat} {l : List (Nat × Nat)} (h : Sl F w 31 2 (some ⟨g, 0, none⟩) n c (pcs l)) {i : Nat} {p : Nat × Nat} (hi : l[i]? = some p) :
    w.cell? ⟨g, i * 2, none⟩ = some (.int .i64 p.1) ∧ w.cell? ⟨g, i * 2 + 1, none⟩ = some (.int .i64 p.2) := by
  have hn : 0 < n := by
    have h1 := h.len
    have h2 := (List.getElem?_eq_some_iff.1 hi).1
    simp at h1; omega
  obtain ⟨g', e, _, _, hrow⟩ := h.pos hn
  obtain rfl : g = g' := by simpa using e
  obtain ⟨h1, h2⟩ := pcs_get hi
  exact ⟨hrow.cell h1, hrow.cell h2⟩

end Go.Proofs.Ytkpoobnldgfapaa
