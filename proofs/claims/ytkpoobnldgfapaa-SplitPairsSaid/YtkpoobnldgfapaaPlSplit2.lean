/- Which two nodes part together: all of them, in order. -/
import Derived.Test.YtkpoobnldgfapaaPlSplit
namespace Go.Proofs.Ytkpoobnldgfapaa.Pl

def partsB (n a b : Nat) (X Y B : Nat → Nat) : Bool :=
  (List.range n).any fun k => (List.range n).any fun l => decide (k ≠ a ∧ k ≠ b ∧ l ≠ a ∧ l ≠ b ∧ X k = X l ∧ Y k = Y l ∧ B k ≠ B l)

theorem partsB_iff {n a b : Nat} {X Y B : Nat → Nat} : partsB n a b X Y B = true ↔ PartsP n a b X Y B := by
  unfold partsB PartsP
  simp only [List.any_eq_true, List.mem_range, decide_eq_true_eq]
  constructor
  · rintro ⟨k, hk, l, hl, r⟩; exact ⟨k, l, hk, hl, r⟩
  · rintro ⟨k, l, hk, hl, r⟩; exact ⟨k, hk, l, hl, r⟩

theorem partsB_congr {n a b : Nat} {X Y B X' Y' B' : Nat → Nat} (hX : ∀ x, X x = X' x) (hY : ∀ x, Y x = Y' x) (hB : ∀ x, B x = B' x) : partsB n a b X Y B = partsB n a b X' Y' B' := by
  have e1 : X = X' := funext hX
  have e2 : Y = Y' := funext hY
  have e3 : B = B' := funext hB
  rw [e1, e2, e3]

/-- Of one first node: the second ones below b. -/
def rowS (P : Nat → Nat → Bool) (a b : Nat) : List (Nat × Nat) := ((List.range b).filter (fun x => decide (a < x) && P a x)).map fun x => (a, x)
/-- Of all first nodes below a. -/
def allS (P : Nat → Nat → Bool) (n a : Nat) : List (Nat × Nat) := (List.range a).flatMap fun x => rowS P x n

theorem rowS_start (P : Nat → Nat → Bool) (a : Nat) : rowS P a (a + 1) = [] := by
  unfold rowS
  rw [List.map_eq_nil_iff, List.filter_eq_nil_iff]
  intro x hx
  have := List.mem_range.1 hx
  simp; omega

theorem rowS_succ (P : Nat → Nat → Bool) {a b : Nat} (h : a < b) : rowS P a (b + 1) = rowS P a b ++ (if P a b then [(a, b)] else []) := by
  unfold rowS
  rw [List.range_succ, List.filter_append, List.map_append]
  congr 1
  by_cases hp : P a b = true <;> simp [h, hp]

theorem allS_zero (P : Nat → Nat → Bool) (n : Nat) : allS P n 0 = [] := rfl
theorem allS_succ (P : Nat → Nat → Bool) (n a : Nat) : allS P n (a + 1) = allS P n a ++ rowS P a n := by
  unfold allS; rw [List.range_succ, List.flatMap_append]; simp

theorem rowS_end (P : Nat → Nat → Bool) {a b n : Nat} (hb : a + 1 ≤ b) (h : n ≤ b) (hb2 : b ≤ n ∨ b = a + 1) : rowS P a b = rowS P a n := by
  rcases hb2 with h2 | h2
  · rw [show b = n by omega]
  · subst h2
    rw [rowS_start]
    unfold rowS
    symm
    rw [List.map_eq_nil_iff, List.filter_eq_nil_iff]
    intro x hx
    have := List.mem_range.1 hx
    simp; omega

theorem rowS_len (P : Nat → Nat → Bool) (a b : Nat) : (rowS P a b).length ≤ b := by
  unfold rowS
  rw [List.length_map]
  exact Nat.le_trans (List.length_filter_le _ _) (by simp)

theorem allS_len (P : Nat → Nat → Bool) (n a : Nat) : (allS P n a).length ≤ a * n := by
  induction a with
  | zero => simp [allS]
  | succ a ih =>
    rw [allS_succ, List.length_append, Nat.add_mul]
    have := rowS_len P a n
    omega

theorem allS_congr {P Q : Nat → Nat → Bool} {n : Nat} (h : ∀ a b, a < n → b < n → P a b = Q a b) {a : Nat} (ha : a ≤ n) : allS P n a = allS Q n a := by
  unfold allS
  rw [List.flatMap_def, List.flatMap_def]
  congr 1
  refine List.map_congr_left fun x hx => ?_
  have hx' := List.mem_range.1 hx
  unfold rowS
  congr 1
  refine List.filter_congr fun y hy => ?_
  have := List.mem_range.1 hy
  rw [h x y (by omega) this]

end Go.Proofs.Ytkpoobnldgfapaa.Pl
