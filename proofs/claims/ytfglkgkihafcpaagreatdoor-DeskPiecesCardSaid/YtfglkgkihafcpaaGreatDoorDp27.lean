/- Part 27 of the proof: Deep2. -/
import Derived.Test.YtfglkgkihafcpaaGreatDoorDp26
set_option linter.unusedVariables false
set_option linter.unusedSimpArgs false
namespace Go.Proofs.YtfglkgkihafcpaaGreatDoor
open Go.RowKit Pl
theorem deep_any (base X Y ob lb gb n : Nat) (mv : Value) (es : List E) (F : Nat → Prop) (hFb : ∀ k, F k → k < base) (hn : n ≤ 40) (hl : es.length ≤ 120) (ho : Over n es) (hne : ∀ e, e ∈ es → e.a ≠ e.b) (k : Nat) : DeepP base X Y ob lb gb n mv es F k := by
 induction k with
 | zero =>
  intro W tag s so po co sc pc cc rows x by_ hx h0 hk
  have h1 := cnt_lt_of (n := n) (p := fun v => decide (s.ord v = 0)) hx (by simp [h0])
  unfold unv at hk
  omega
 | succ k ih => exact deep_step base X Y ob lb gb n mv es F hFb hn hl ho hne k ih
end Go.Proofs.YtfglkgkihafcpaaGreatDoor

