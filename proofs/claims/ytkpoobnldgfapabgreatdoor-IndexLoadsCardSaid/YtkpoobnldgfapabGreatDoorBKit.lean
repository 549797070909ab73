/- A list's beginning; a cell of a slice is set. -/
import Derived.Test.YtkpoobnldgfapabGreatDoorA1
set_option linter.unusedVariables false
set_option linter.unusedSimpArgs false
namespace Go.Proofs.YtkpoobnldgfapabGreatDoor
open Go.RowKit

theorem take_snoc' {α : Type} {l : List α} {i : Nat} {x : α} (h : l[i]? = some x) : l.take (i + 1) = l.take i ++ [x] := by rw [List.take_add_one, h]; rfl

theorem Sl.setN {F : Nat → Prop} {w : World} {T : TypeId} {sz : Nat} {o : Option Addr} {n c : Nat} {l : List Value} (h : Sl F w T sz o n c l) {g : Nat} (i : Nat) (ho : o = some ⟨g, 0, none⟩) (v : Value) : Sl F (w.setCell ⟨g, i, none⟩ v) T sz o n c (l.set i v) := by
  refine ⟨⟨by rw [List.length_set]; exact h.own.1, ?_⟩, h.foot⟩
  rcases h.own.2 with ⟨e, _⟩ | ⟨g', cap, cur, e1, hb, hg, h1, h2, h3, h4⟩
  · rw [ho] at e; simp at e
  · simp only [ho, Value.slice.injEq, Option.some.injEq, Addr.mk.injEq, and_true, true_and] at e1
    obtain ⟨rfl, rfl⟩ := e1
    refine .inr ⟨g, c, cur.setIfInBounds i v, by rw [ho], hb, ?_, h1, h2, by simpa using h3, ?_⟩
    · simp [World.setCell, Array.getElem?_modify, hg]
    · rw [Array.toList_setIfInBounds, List.take_set, h4]

end Go.Proofs.YtkpoobnldgfapabGreatDoor
