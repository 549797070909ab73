/- isthmuskeep.SplitParts: what it leans on. -/
import Derived.Test.YtkpoobnldgfapaaB4
import Derived.Test.YtkpoobnldgfapaaB3
import Derived.Test.YtkpoobnldgfapaaP3
set_option linter.unusedVariables false
set_option linter.unusedSimpArgs false
namespace Go.Proofs.Ytkpoobnldgfapaa
open Go.RowKit Pl

theorem withoutN_eq2 (nd : List Nat) (es : List E) : withoutEs [] nd es = sansN es nd := by
  unfold withoutEs sansN keeps
  exact List.filter_congr fun e _ => by simp

/-- A node that parts with another one has two edges. -/
theorem two_edges {n a b : Nat} {es : List E} (hne : ∀ e, e ∈ es → e.a ≠ e.b) (h : splitsB n es a b = true) : 2 ≤ (es.filter (kp a)).length ∧ 2 ≤ (es.filter (kp b)).length := by
  obtain ⟨k, l, _, _, ka, kb, la, lb, h1, h2, h3⟩ := partsB_iff.1 h
  rw [withoutN_eq2] at h1 h2 h3
  have sub : ∀ (x y : Nat), (sansN es [y]).filter (fun e => decide (e.a = x ∨ e.b = x)) = (es.filter (fun e => decide (e.a = x ∨ e.b = x))).filter (fun e => decide (e.a ∉ [y] ∧ e.b ∉ [y])) := fun x y => by
    unfold sansN; rw [List.filter_filter, List.filter_filter]; exact List.filter_congr fun e _ => Bool.and_comm _ _
  have low : ∀ (x y : Nat), ((sansN es [y]).filter (fun e => decide (e.a = x ∨ e.b = x))).length ≤ (es.filter (kp x)).length := fun x y => by
    rw [sub]; exact List.length_filter_le _ _
  have both : ∀ (x y : Nat), sansN (sansN es [y]) [x] = sansN es [x, y] := fun x y => by
    unfold sansN; rw [List.filter_filter]; exact List.filter_congr fun e _ => by
      rw [← Bool.decide_and, decide_eq_decide]; simp only [List.mem_cons, List.not_mem_nil, or_false]; omega
  have swap : sansN es [b, a] = sansN es [a, b] := by
    unfold sansN; exact List.filter_congr fun e _ => by rw [decide_eq_decide]; simp only [List.mem_cons, List.not_mem_nil, or_false]; omega
  constructor
  · apply Classical.byContradiction
    intro hlt
    have h4 := low a b
    have c := one_edge (es := sansN es [b]) (a := a) (fun e he => hne e (mem_sansN.1 he).1) (by omega) ka la h2
    rw [both] at c
    exact h3 c
  · apply Classical.byContradiction
    intro hlt
    have h4 := low b a
    have c := one_edge (es := sansN es [a]) (a := b) (fun e he => hne e (mem_sansN.1 he).1) (by omega) kb lb h1
    rw [both, swap] at c
    exact h3 c

end Go.Proofs.Ytkpoobnldgfapaa
