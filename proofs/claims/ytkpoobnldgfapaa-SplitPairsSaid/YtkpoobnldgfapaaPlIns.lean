/- An edge comes in among the others: they stay in order. -/
import Derived.Test.YtkpoobnldgfapaaPlGraph
namespace Go.Proofs.Ytkpoobnldgfapaa.Pl

theorem pos_split {es : List E} (hs : Sorted es) (t : Int) : (∀ k e, k < posOf es t → es[k]? = some e → (e.id : Int) < t) ∧ (∀ k e, posOf es t ≤ k → es[k]? = some e → t ≤ (e.id : Int)) := by
  induction es with
  | nil => exact ⟨fun k e _ h => by simp at h, fun k e _ h => by simp at h⟩
  | cons f es ih =>
    have hs' : Sorted es := (List.pairwise_cons.1 hs).2
    have hf := (List.pairwise_cons.1 hs).1
    obtain ⟨h1, h2⟩ := ih hs'
    rw [posOf_cons]
    by_cases hft : (f.id : Int) < t
    · rw [if_pos hft]
      refine ⟨fun k e hk he => ?_, fun k e hk he => ?_⟩
      · cases k with
        | zero => simp at he; subst he; exact hft
        | succ k => exact h1 k e (by omega) (by simpa using he)
      · cases k with
        | zero => omega
        | succ k => exact h2 k e (by omega) (by simpa using he)
    · rw [if_neg hft]
      have h0 : posOf es t = 0 := by
        unfold posOf
        rw [List.countP_eq_zero]
        intro e he
        have := hf e he
        simp; omega
      rw [h0]
      refine ⟨fun k e hk _ => by omega, fun k e _ he => ?_⟩
      cases k with
      | zero => simp at he; subst he; omega
      | succ k => have := hf e (List.mem_of_getElem? (by simpa using he)); omega

theorem mem_take_get {α : Type} {l : List α} {i : Nat} {x : α} (h : x ∈ l.take i) : ∃ k, k < i ∧ l[k]? = some x := by
  obtain ⟨k, hk⟩ := List.mem_iff_getElem?.1 h
  rw [List.getElem?_take] at hk
  split at hk
  · exact ⟨k, by assumption, hk⟩
  · cases hk
theorem mem_drop_get {α : Type} {l : List α} {i : Nat} {x : α} (h : x ∈ l.drop i) : ∃ k, i ≤ k ∧ l[k]? = some x := by
  obtain ⟨k, hk⟩ := List.mem_iff_getElem?.1 h
  rw [List.getElem?_drop] at hk
  exact ⟨i + k, by omega, hk⟩

/-- In order still. -/
theorem sorted_ins {es : List E} (hs : Sorted es) (e : E) (hh : hasId es e.id = false) : Sorted (es.take (posOf es e.id) ++ e :: es.drop (posOf es e.id)) := by
  obtain ⟨h1, h2⟩ := pos_split hs (e.id : Int)
  have hne : ∀ f, f ∈ es → f.id ≠ e.id := by
    intro f hf h
    simp only [hasId, List.any_eq_false, decide_eq_true_eq] at hh
    exact hh f hf (by omega)
  unfold Sorted
  rw [List.pairwise_append]
  refine ⟨hs.sublist (List.take_sublist _ _), ?_, ?_⟩
  · rw [List.pairwise_cons]
    refine ⟨fun f hf => ?_, hs.sublist (List.drop_sublist _ _)⟩
    obtain ⟨k, hk, hfk⟩ := mem_drop_get hf
    have a := h2 k f hk hfk
    have b := hne f (List.mem_of_getElem? hfk)
    omega
  · intro f hf g hg
    obtain ⟨k, hk, hfk⟩ := mem_take_get hf
    have a := h1 k f hk hfk
    rcases List.mem_cons.1 hg with rfl | hg
    · omega
    · obtain ⟨j, hj, hgj⟩ := mem_drop_get hg
      have b := h2 j g hj hgj
      omega

theorem mem_ins {es : List E} {e f : E} {i : Nat} : f ∈ es.take i ++ e :: es.drop i ↔ f = e ∨ f ∈ es := by
  have : f ∈ es ↔ f ∈ es.take i ∨ f ∈ es.drop i := by rw [← List.mem_append, List.take_append_drop]
  rw [this, List.mem_append, List.mem_cons]
  constructor
  · rintro (h | h | h) <;> simp [h]
  · rintro (h | h | h) <;> simp [h]

end Go.Proofs.Ytkpoobnldgfapaa.Pl
