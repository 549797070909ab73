/- Part 18 of the proof: D2. -/
import Derived.Test.YtfglkgkihafcpaaGreatDoorDp11
import Derived.Test.YtfglkgkihafcpaaGreatDoorDp12
import Derived.Test.YtfglkgkihafcpaaGreatDoorDp15
set_option linter.unusedVariables false
set_option linter.unusedSimpArgs false
namespace Go.Proofs.YtfglkgkihafcpaaGreatDoor.Pl
def twosTo (e : E) (l : List E) : List (Nat × Nat) := l.map (fun f => (e.id, f.id))
def twos : List E → List (Nat × Nat)
 | [] => []
 | e :: l => twosTo e (e :: l) ++ twos l
theorem twos_len (l : List E) : (twos l).length ≤ l.length * l.length := by
 induction l with
 | nil => simp [twos]
 | cons a l ih =>
  unfold twos twosTo
  simp only [List.length_append, List.length_map, List.length_cons]
  have : (l.length + 1) * (l.length + 1) = l.length * l.length + l.length + l.length + 1 := by
   rw [Nat.add_mul, Nat.mul_add]; omega
  omega
end Go.Proofs.YtfglkgkihafcpaaGreatDoor.Pl
namespace Go.Proofs.YtfglkgkihafcpaaGreatDoor.Pl
def delAt (es : List E) (k : Nat) : List E := es.take k ++ es.drop (k + 1)
theorem delAt_sublist (es : List E) (k : Nat) : (delAt es k).Sublist es := by
 unfold delAt
 have h := List.drop_sublist_drop_left es (show k ≤ k + 1 by omega)
 have h2 : (es.take k ++ es.drop (k + 1)).Sublist (es.take k ++ es.drop k) := List.Sublist.append (List.Sublist.refl _) h
 rw [List.take_append_drop] at h2
 exact h2
theorem delAt_length {es : List E} {k : Nat} (hk : k < es.length) : (delAt es k).length + 1 = es.length := by
 unfold delAt
 rw [List.length_append, List.length_take, List.length_drop]
 omega
theorem pos_at {es : List E} (hs : Sorted es) {t : Int} (h : hasId es t = true) : ∃ e, es[posOf es t]? = some e ∧ (e.id : Int) = t := by
 obtain ⟨e, he, hid⟩ := hasId_iff.1 h
 obtain ⟨i, hi⟩ := List.mem_iff_getElem?.1 he
 have hil := (List.getElem?_eq_some_iff.1 hi).1
 have : posOf es t = i := posOf_eq (by omega) (fun k f hk hf => by have := hs.lt hf hi hk; omega) (fun k f hk hf => by
  by_cases e : k = i
  ·subst e; rw [hi] at hf; cases hf; omega
  ·have := hs.lt hi hf (by omega); omega)
 exact ⟨e, by rw [this]; exact hi, hid⟩
end Go.Proofs.YtfglkgkihafcpaaGreatDoor.Pl
namespace Go.Proofs.YtfglkgkihafcpaaGreatDoor.Pl
def eA (es : List E) (i : Nat) : Nat := (es[i]?.getD ⟨0, 0, 0⟩).a
end Go.Proofs.YtfglkgkihafcpaaGreatDoor.Pl
namespace Go.Proofs.YtfglkgkihafcpaaGreatDoor.Pl
end Go.Proofs.YtfglkgkihafcpaaGreatDoor.Pl
namespace Go.Proofs.YtfglkgkihafcpaaGreatDoor.Pl
def nd (a b : Nat) (e : E) : Bool := !(decide (e.a = a ∧ e.b = b) || decide (e.a = b ∧ e.b = a))
end Go.Proofs.YtfglkgkihafcpaaGreatDoor.Pl
namespace Go.Proofs.YtfglkgkihafcpaaGreatDoor.Pl
def mI (n i : Nat) (x y : Nat) : Int := if x < i ∧ y = n + x then 1 else 0
end Go.Proofs.YtfglkgkihafcpaaGreatDoor.Pl
namespace Go.Proofs.YtfglkgkihafcpaaGreatDoor.Pl
end Go.Proofs.YtfglkgkihafcpaaGreatDoor.Pl

