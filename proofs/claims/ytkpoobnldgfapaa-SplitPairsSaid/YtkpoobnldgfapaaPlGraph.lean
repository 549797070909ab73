/- Graphs in plain terms: edges by their numbers. -/
import Derived.Test.YtkpoobnldgfapaaPlConn
namespace Go.Proofs.Ytkpoobnldgfapaa.Pl

structure E where
  id : Nat
  a : Nat
  b : Nat
  deriving DecidableEq

def Sorted (es : List E) : Prop := es.Pairwise (fun e f => e.id < f.id)

/-- How many edges have a lesser number. -/
def posOf (es : List E) (t : Int) : Nat := es.countP (fun e => decide ((e.id : Int) < t))
def hasId (es : List E) (t : Int) : Bool := es.any (fun e => decide ((e.id : Int) = t))

theorem posOf_le (es : List E) (t : Int) : posOf es t ≤ es.length := List.countP_le_length

theorem posOf_cons (e : E) (es : List E) (t : Int) : posOf (e :: es) t = posOf es t + (if (e.id : Int) < t then 1 else 0) := by
  unfold posOf; rw [List.countP_cons]; simp

/-- Where all ahead are less, and the others are not: that many. -/
theorem posOf_eq {es : List E} {t : Int} {i : Nat} (hi : i ≤ es.length) (h1 : ∀ k e, k < i → es[k]? = some e → (e.id : Int) < t) (h2 : ∀ k e, i ≤ k → es[k]? = some e → t ≤ (e.id : Int)) : posOf es t = i := by
  induction es generalizing i with
  | nil => simp at hi; subst hi; rfl
  | cons e es ih =>
    rw [posOf_cons]
    cases i with
    | zero =>
      have : posOf es t = 0 := ih (Nat.zero_le _) (fun k _ hk => by omega) (fun k f _ hf => h2 (k + 1) f (by omega) (by simpa using hf))
      have h := h2 0 e (Nat.le_refl _) rfl
      rw [this, if_neg (by omega)]
    | succ i =>
      have : posOf es t = i := ih (by simpa using hi) (fun k f hk hf => h1 (k + 1) f (by omega) (by simpa using hf)) (fun k f hk hf => h2 (k + 1) f (by omega) (by simpa using hf))
      have h := h1 0 e (by omega) rfl
      rw [this, if_pos h]

theorem Sorted.lt {es : List E} (h : Sorted es) {i j : Nat} {e f : E} (hi : es[i]? = some e) (hj : es[j]? = some f) (hij : i < j) : e.id < f.id := by
  obtain ⟨h1, h2⟩ := List.getElem?_eq_some_iff.1 hi
  obtain ⟨h3, h4⟩ := List.getElem?_eq_some_iff.1 hj
  have := List.pairwise_iff_getElem.1 h i j h1 h3 hij
  rw [h2, h4] at this; exact this

theorem hasId_at {es : List E} (hs : Sorted es) {t : Int} {i : Nat} (h1 : ∀ k e, k < i → es[k]? = some e → (e.id : Int) < t) (h2 : ∀ k e, i ≤ k → es[k]? = some e → t ≤ (e.id : Int)) :
    hasId es t = (match es[i]? with | some e => decide ((e.id : Int) = t) | none => false) := by
  cases he : es[i]? with
  | none =>
    simp only [hasId, List.any_eq_false, decide_eq_true_eq]
    intro e hm
    obtain ⟨k, hk⟩ := List.mem_iff_getElem?.1 hm
    have hki : k < i := by
      have a := (List.getElem?_eq_some_iff.1 hk).1
      have b := List.getElem?_eq_none_iff.1 he
      omega
    have := h1 k e hki hk
    omega
  | some e =>
    simp only [hasId]
    rw [Bool.eq_iff_iff, List.any_eq_true]
    constructor
    · rintro ⟨f, hf, hft⟩
      obtain ⟨k, hk⟩ := List.mem_iff_getElem?.1 hf
      simp at hft
      by_cases h : k < i
      · have := h1 k f h hk; omega
      · by_cases h' : k = i
        · subst h'; rw [he] at hk; cases hk; simpa using hft
        · have a := hs.lt he hk (by omega)
          have b := h2 i e (Nat.le_refl _) he
          omega
    · intro h
      exact ⟨e, List.mem_of_getElem? he, h⟩

end Go.Proofs.Ytkpoobnldgfapaa.Pl
