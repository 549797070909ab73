/- A row of rows: one of them. -/
import Derived.Test.YtkpoobnldgfapabA2
set_option linter.unusedVariables false
set_option linter.unusedSimpArgs false
namespace Go.Proofs.Ytkpoobnldgfapab
open Go.RowKit Pl

theorem Mat.lat_ {F : Nat → Prop} {w : World} {T e : TypeId} {o : Option Addr} {n c : Nat} {rows : List Rw} {ll : List (List Nat)} (h : Mat F w T e o n c rows ll) {i : Nat} {l : List Nat} (hl : ll[i]? = some l) :
    ∃ (go : Nat) (r : Rw), o = some ⟨go, 0, none⟩ ∧ n ≤ c ∧ w.cell? ⟨go, i, none⟩ = some (.slice r.o r.n r.c) ∧ Sl F w e 1 r.o r.n r.c (ints l) := by
  have hi := (List.getElem?_eq_some_iff.1 hl).1
  obtain ⟨go, h1, h2, h3, h4⟩ := h.out.pos (by rw [h.n_eq]; omega)
  obtain ⟨r, hr⟩ : ∃ r, rows[i]? = some r := ⟨_, List.getElem?_eq_getElem (by rw [h.len]; exact hi)⟩
  exact ⟨go, r, h1, h3, h4.cell (i := i) (v := r.val) (by simp [hr]), h.row i r l hr hl⟩

end Go.Proofs.Ytkpoobnldgfapab
