/- Which two nodes part together: the search by a map, in plain terms. -/
import Derived.Test.YtkpoobnldgfapaaPlConn
namespace Go.Proofs.Ytkpoobnldgfapaa.Pl

/-- Some two nodes below n, none of them a or b, are alike by X and by Y, but not by B. -/
def PartsP (n a b : Nat) (X Y B : Nat → Nat) : Prop :=
  ∃ k l, k < n ∧ l < n ∧ k ≠ a ∧ k ≠ b ∧ l ≠ a ∧ l ≠ b ∧ X k = X l ∧ Y k = Y l ∧ B k ≠ B l

/-- What the map knows after i nodes (get: its look-up). -/
def PInv (i a b : Nat) (X Y B : Nat → Nat) (get : Nat × Nat → Option Nat) : Prop :=
  (∀ k, k < i → k ≠ a → k ≠ b → get (X k, Y k) = some (B k)) ∧
  (∀ p v, get p = some v → ∃ k, k < i ∧ k ≠ a ∧ k ≠ b ∧ (X k, Y k) = p ∧ v = B k)

theorem PInv.none {i a b : Nat} {X Y B : Nat → Nat} {get : Nat × Nat → Option Nat} (h : PInv i a b X Y B get) : ¬ PartsP i a b X Y B := by
  rintro ⟨k, l, hk, hl, ka, kb, la, lb, hX, hY, hB⟩
  have h1 := h.1 k hk ka kb
  have h2 := h.1 l hl la lb
  rw [hX, hY, h2] at h1
  exact hB (Option.some.inj h1).symm

theorem PInv.skip {i a b : Nat} {X Y B : Nat → Nat} {get : Nat × Nat → Option Nat} (h : PInv i a b X Y B get) (hi : i = a ∨ i = b) : PInv (i + 1) a b X Y B get := by
  refine ⟨fun k hk ka kb => h.1 k (by rcases hi with e | e <;> omega) ka kb, fun p v hv => ?_⟩
  obtain ⟨k, hk, r⟩ := h.2 p v hv
  exact ⟨k, by omega, r⟩

theorem PInv.same {i a b : Nat} {X Y B : Nat → Nat} {get : Nat × Nat → Option Nat} (h : PInv i a b X Y B get) (hg : get (X i, Y i) = some (B i)) : PInv (i + 1) a b X Y B get := by
  refine ⟨fun k hk ka kb => ?_, fun p v hv => ?_⟩
  · by_cases e : k = i
    · subst e; exact hg
    · exact h.1 k (by omega) ka kb
  · obtain ⟨k, hk, r⟩ := h.2 p v hv
    exact ⟨k, by omega, r⟩

theorem PInv.new {i a b : Nat} {X Y B : Nat → Nat} {get get' : Nat × Nat → Option Nat} (h : PInv i a b X Y B get) (ia : i ≠ a) (ib : i ≠ b) (hg : get (X i, Y i) = Option.none)
    (hs : ∀ p, get' p = if p = (X i, Y i) then some (B i) else get p) : PInv (i + 1) a b X Y B get' := by
  refine ⟨fun k hk ka kb => ?_, fun p v hv => ?_⟩
  · rw [hs]
    by_cases e : (X k, Y k) = (X i, Y i)
    · rw [if_pos e]
      by_cases e2 : k = i
      · rw [e2]
      · have := h.1 k (by omega) ka kb
        rw [e, hg] at this; cases this
    · rw [if_neg e]
      exact h.1 k (by rcases Nat.lt_or_ge k i with h | h; exact h; exact absurd (by rw [show k = i by omega]) e) ka kb
  · rw [hs] at hv
    by_cases e : p = (X i, Y i)
    · rw [if_pos e] at hv
      exact ⟨i, by omega, ia, ib, e.symm, (Option.some.inj hv).symm⟩
    · rw [if_neg e] at hv
      obtain ⟨k, hk, r⟩ := h.2 p v hv
      exact ⟨k, by omega, r⟩

theorem PInv.found {i n a b v : Nat} {X Y B : Nat → Nat} {get : Nat × Nat → Option Nat} (h : PInv i a b X Y B get) (hi : i < n) (ia : i ≠ a) (ib : i ≠ b) (hg : get (X i, Y i) = some v) (hv : v ≠ B i) : PartsP n a b X Y B := by
  obtain ⟨k, hk, ka, kb, e, ev⟩ := h.2 _ _ hg
  rw [Prod.mk.injEq] at e
  exact ⟨k, i, by omega, hi, ka, kb, ia, ib, e.1, e.2, fun h => hv (ev.trans h)⟩

end Go.Proofs.Ytkpoobnldgfapaa.Pl
