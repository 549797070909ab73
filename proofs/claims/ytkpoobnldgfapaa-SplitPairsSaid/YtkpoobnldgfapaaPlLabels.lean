/- Labels that are told along edges until nothing changes. -/
import Derived.Test.YtkpoobnldgfapaaPlMenger
namespace Go.Proofs.Ytkpoobnldgfapaa.Pl

/-- What holds of labels while they are told along edges. -/
structure Tell (n : Nat) (es : List E) (l : Nat → Nat) : Prop where
  le : ∀ x, x < n → l x ≤ x
  con : ∀ x, x < n → Conn (ends es) x (l x)

theorem Tell.start (n : Nat) (es : List E) : Tell n es (fun x => x) := ⟨fun _ _ => Nat.le_refl _, fun _ _ => Conn.refl _ _⟩

def tot (n : Nat) (l : Nat → Nat) : Nat := ((List.range n).map l).sum

theorem tot_succ (n : Nat) (l : Nat → Nat) : tot (n + 1) l = tot n l + l n := by
  unfold tot; rw [List.range_succ]; simp

theorem tot_le {n : Nat} {l m : Nat → Nat} (h : ∀ x, x < n → l x ≤ m x) : tot n l ≤ tot n m := by
  induction n with
  | zero => exact Nat.le_refl _
  | succ n ih => rw [tot_succ, tot_succ]; have := ih fun x hx => h x (by omega); have := h n (by omega); omega

theorem tot_lt {n y : Nat} {l m : Nat → Nat} (h : ∀ x, x < n → l x ≤ m x) (hy : y < n) (hl : l y < m y) : tot n l < tot n m := by
  induction n with
  | zero => omega
  | succ n ih =>
    rw [tot_succ, tot_succ]
    by_cases e : y = n
    · subst e
      have := tot_le (n := y) fun x hx => h x (by omega)
      omega
    · have := ih (fun x hx => h x (by omega)) (by omega)
      have := h n (by omega)
      omega

def told (l : Nat → Nat) (a b : Nat) : Nat → Nat := upd (upd l a (min (l a) (l b))) b (min (l a) (l b))

theorem told_le (l : Nat → Nat) (a b x : Nat) : told l a b x ≤ l x := by
  unfold told upd
  by_cases h1 : x = b
  · rw [if_pos h1, h1]; exact Nat.min_le_right _ _
  · rw [if_neg h1]
    by_cases h2 : x = a
    · rw [if_pos h2, h2]; exact Nat.min_le_left _ _
    · rw [if_neg h2]; exact Nat.le_refl _

/-- The labels as they were, in one case or the other: told, or the same. -/
theorem Tell.told {n : Nat} {es : List E} {l : Nat → Nat} (h : Tell n es l) {e : E} (he : e ∈ es) (ha : e.a < n) (hb : e.b < n) : Tell n es (told l e.a e.b) := by
  refine ⟨fun x hx => Nat.le_trans (told_le _ _ _ _) (h.le x hx), fun x hx => ?_⟩
  have hc : Conn (ends es) e.a e.b := Conn.of_mem (mem_ends' he)
  have key : ∀ z, (z = e.a ∨ z = e.b) → Conn (ends es) z (min (l e.a) (l e.b)) := fun z hz => by
    have c1 : Conn (ends es) z e.a := by
      rcases hz with rfl | rfl
      · exact Conn.refl _ _
      · exact hc.symm
    rcases Nat.le_total (l e.a) (l e.b) with g | g
    · rw [Nat.min_eq_left g]; exact c1.trans (h.con _ ha)
    · rw [Nat.min_eq_right g]; exact (c1.trans hc).trans (h.con _ hb)
  unfold Pl.told upd
  by_cases h1 : x = e.b
  · rw [if_pos h1]; exact key x (.inr h1)
  · rw [if_neg h1]
    by_cases h2 : x = e.a
    · rw [if_pos h2]; exact key x (.inl h2)
    · rw [if_neg h2]; exact h.con x hx

theorem told_lt {n : Nat} {l : Nat → Nat} {a b : Nat} (ha : a < n) (hb : b < n) (h : l a ≠ min (l a) (l b) ∨ l b ≠ min (l a) (l b)) : tot n (told l a b) < tot n l := by
  have h1 : ∀ x, x < n → told l a b x ≤ l x := fun x _ => told_le l a b x
  rcases Nat.lt_trichotomy (l a) (l b) with g | g | g
  · refine tot_lt h1 hb ?_
    unfold told upd; rw [if_pos rfl]; omega
  · omega
  · refine tot_lt h1 ha ?_
    unfold told upd
    by_cases e : a = b
    · subst e; omega
    · rw [if_neg e, if_pos rfl]; omega

end Go.Proofs.Ytkpoobnldgfapaa.Pl
