/- CycleOf in plain terms: how many rings go round an edge, and who is covered alike, by the rings' members. -/
import Derived.Test.YtkpoobnldgfapabGreatDoorPlRings
set_option linter.unusedVariables false
set_option linter.unusedSimpArgs false
namespace Go.Proofs.YtkpoobnldgfapabGreatDoor.Pl

theorem round_count {es : List E} (hs : Sorted es) {x : E} (hx : x ∈ es) : pop (mk es x.id) = (rsE es).countP (fun r => decide (x.id ∈ ringOf (trE es) r)) := by
  rw [mk_pop]
  refine List.countP_congr fun r hr => ?_
  rw [decide_eq_true_eq, decide_eq_true_eq, mem_ringOf hs hr hx]

theorem round_alike {es : List E} (hs : Sorted es) {x y : E} (hx : x ∈ es) (hy : y ∈ es) : mk es x.id = mk es y.id ↔ ∀ r, r ∈ rsE es → (x.id ∈ ringOf (trE es) r ↔ y.id ∈ ringOf (trE es) r) := by
  constructor
  · intro h r hr
    rw [mem_ringOf hs hr hx, mem_ringOf hs hr hy]
    obtain ⟨j, hj⟩ := List.getElem?_of_mem hr
    have h1 := congrArg (fun m => Nat.testBit m j) h
    unfold mk at h1
    simp only [msk_bit, hj, Option.any_some] at h1
    rw [← decide_eq_decide]; exact h1
  · intro h
    apply Nat.eq_of_testBit_eq
    intro j
    unfold mk
    rw [msk_bit, msk_bit]
    cases hj : (rsE es)[j]? with
    | none => rfl
    | some r =>
      have hr := List.mem_of_getElem? hj
      have := h r hr
      rw [mem_ringOf hs hr hx, mem_ringOf hs hr hy] at this
      simp only [Option.any_some]
      exact decide_eq_decide.2 this

end Go.Proofs.YtkpoobnldgfapabGreatDoor.Pl
