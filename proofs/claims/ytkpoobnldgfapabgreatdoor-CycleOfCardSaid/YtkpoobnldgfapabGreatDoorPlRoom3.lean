/- The document's rooms for nodes: how they are made. -/
import Derived.Test.YtkpoobnldgfapabGreatDoorPlRoom2
set_option linter.unusedVariables false
set_option linter.unusedSimpArgs false
namespace Go.Proofs.YtkpoobnldgfapabGreatDoor.Pl

/-- The first i nodes may be gone through. -/
def mI (n i : Nat) (x y : Nat) : Int := if x < i ∧ y = n + x then 1 else 0

theorem mI_zero (n : Nat) : mI n 0 = fun _ _ => 0 := by funext x y; unfold mI; rw [if_neg (by omega)]
theorem mI_succ (n i : Nat) : upd2 (mI n i) i (n + i) 1 = mI n (i + 1) := by
  funext x y
  unfold upd2 mI
  by_cases h1 : x = i ∧ y = n + i
  · rw [if_pos h1, if_pos (by omega)]
  · rw [if_neg h1]
    by_cases h2 : x < i ∧ y = n + x
    · rw [if_pos h2, if_pos (by omega)]
    · rw [if_neg h2, if_neg (by omega)]

/-- Both ends: as often as one likes. -/
theorem mN_start {n a b : Nat} (ha : a < n) (hb : b < n) : upd2 (upd2 (mI n n) a (n + a) 120) b (n + b) 120 = mN n a b [] := by
  funext x y
  unfold upd2 mI mN
  have hadj : adjB a b [] (x - n) y = false := rfl
  rw [hadj]
  simp only [ind, Bool.false_eq_true, if_false]
  by_cases h1 : x = b ∧ y = n + b
  · rw [if_pos h1, if_pos (by omega), if_pos (by omega), if_pos (by omega)]
  · rw [if_neg h1]
    by_cases h2 : x = a ∧ y = n + a
    · rw [if_pos h2, if_pos (by omega), if_pos (by omega), if_pos (by omega)]
    · rw [if_neg h2]
      by_cases h3 : x < n
      · rw [if_pos h3]
        by_cases h4 : y = n + x
        · rw [if_pos ⟨h3, h4⟩, if_pos h4, if_neg (by omega)]
        · rw [if_neg (by omega), if_neg h4]
      · rw [if_neg (by omega), if_neg h3]
        split <;> rfl

theorem adjB_snoc (a b : Nat) (es : List E) (e : E) (u v : Nat) : adjB a b (es ++ [e]) u v = (adjB a b es u v || (nd a b e && (decide (u = e.a ∧ v = e.b) || decide (u = e.b ∧ v = e.a)))) := by
  unfold adjB; rw [List.any_append]; simp

theorem mN_snoc {n a b : Nat} {es : List E} {e : E} (ha : e.a < n) (hb : e.b < n) : mN n a b (es ++ [e]) = if nd a b e = true then upd2 (upd2 (mN n a b es) (n + e.a) e.b 1) (n + e.b) e.a 1 else mN n a b es := by
  by_cases hn : nd a b e = true
  · rw [if_pos hn]
    funext x y
    unfold upd2 mN
    rw [adjB_snoc, hn, Bool.true_and]
    by_cases h1 : x = n + e.b ∧ y = e.a
    · have h2 : decide (x - n = e.b ∧ y = e.a) = true := by simp; omega
      rw [if_pos h1, if_neg (by omega), if_pos (by omega), h2]; simp [ind]
    · rw [if_neg h1]
      by_cases h3 : x = n + e.a ∧ y = e.b
      · have h2 : decide (x - n = e.a ∧ y = e.b) = true := by simp; omega
        rw [if_pos h3, if_neg (by omega), if_pos (by omega), h2]; simp [ind]
      · rw [if_neg h3]
        by_cases h4 : x < n
        · rw [if_pos h4, if_pos h4]
        · rw [if_neg h4, if_neg h4]
          have h5 : decide (x - n = e.a ∧ y = e.b) = false := by simp; omega
          have h6 : decide (x - n = e.b ∧ y = e.a) = false := by simp; omega
          rw [h5, h6]; simp
  · rw [if_neg hn]
    funext x y
    unfold mN
    rw [adjB_snoc, Bool.eq_false_iff.2 hn]; simp

theorem direct_snoc (a b : Nat) (es : List E) (e : E) : direct a b (es ++ [e]) = direct a b es + (if nd a b e = true then 0 else 1) := by
  unfold direct
  rw [List.countP_append, List.countP_singleton]
  cases nd a b e <;> simp

theorem mN_bound (n a b : Nat) (es : List E) (x y : Nat) : 0 ≤ mN n a b es x y ∧ mN n a b es x y ≤ 120 := by
  unfold mN
  have h1 := ind_nonneg (adjB a b es (x - n) y)
  have h2 := ind_le (adjB a b es (x - n) y)
  split
  · split
    · split <;> omega
    · omega
  · split <;> omega

/-- An edge that is named from the lesser end is between both just if its ends are the least and the greatest. -/
theorem nd_iff {a b : Nat} {e : E} (h : e.a < e.b) : nd a b e = !(decide (e.a = min a b) && decide (e.b = max a b)) := by
  unfold nd
  congr 1
  rw [Bool.eq_iff_iff, Bool.or_eq_true, Bool.and_eq_true, decide_eq_true_eq, decide_eq_true_eq, decide_eq_true_eq, decide_eq_true_eq]
  by_cases hab : a ≤ b
  · rw [Nat.min_eq_left hab, Nat.max_eq_right hab]; omega
  · rw [Nat.min_eq_right (by omega), Nat.max_eq_left (by omega)]; omega

theorem direct_le (a b : Nat) (es : List E) : direct a b es ≤ es.length := List.countP_le_length

end Go.Proofs.YtkpoobnldgfapabGreatDoor.Pl
