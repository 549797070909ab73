/- Edges come in and go out again: the program's edges and the document's stay the same ones. -/
import Derived.Test.YtkpoobnldgfapabGreatDoorP3
set_option linter.unusedVariables false
set_option linter.unusedSimpArgs false
namespace Go.Proofs.YtkpoobnldgfapabGreatDoor.Pl

def delAt (es : List E) (k : Nat) : List E := es.take k ++ es.drop (k + 1)

/-- No number is there twice. -/
def Nd (es : List E) : Prop := es.Pairwise (fun e f => e.id ≠ f.id)

theorem Sorted.nd {es : List E} (h : Sorted es) : Nd es := h.imp (fun h e => by omega)

theorem delAt_sublist (es : List E) (k : Nat) : (delAt es k).Sublist es := by
  unfold delAt
  have h := List.drop_sublist_drop_left es (show k ≤ k + 1 by omega)
  have h2 : (es.take k ++ es.drop (k + 1)).Sublist (es.take k ++ es.drop k) := List.Sublist.append (List.Sublist.refl _) h
  rw [List.take_append_drop] at h2
  exact h2

theorem delAt_length {es : List E} {k : Nat} (hk : k < es.length) : (delAt es k).length + 1 = es.length := by
  unfold delAt
  rw [List.length_append, List.length_take, List.length_drop]
  omega

theorem Nd.ne {es : List E} (h : Nd es) {i j : Nat} {e f : E} (hi : es[i]? = some e) (hj : es[j]? = some f) (hij : i ≠ j) : e.id ≠ f.id := by
  obtain ⟨h1, h2⟩ := List.getElem?_eq_some_iff.1 hi
  obtain ⟨h3, h4⟩ := List.getElem?_eq_some_iff.1 hj
  unfold Nd at h
  rw [List.pairwise_iff_getElem] at h
  rcases Nat.lt_trichotomy i j with g | g | g
  · have := h i j h1 h3 g
    rw [h2, h4] at this
    exact this
  · exact absurd g hij
  · have := h j i h3 h1 g
    rw [h2, h4] at this
    exact fun e => this e.symm

theorem mem_delAt {es : List E} (h : Nd es) {k : Nat} {e : E} (hk : es[k]? = some e) (f : E) : f ∈ delAt es k ↔ f ∈ es ∧ f.id ≠ e.id := by
  unfold delAt
  rw [List.mem_append]
  constructor
  · rintro (hf | hf)
    · obtain ⟨i, hi, hfi⟩ := mem_take_get hf
      exact ⟨List.mem_of_getElem? hfi, h.ne hfi hk (by omega)⟩
    · obtain ⟨i, hi, hfi⟩ := mem_drop_get hf
      exact ⟨List.mem_of_getElem? hfi, h.ne hfi hk (by omega)⟩
  · rintro ⟨hf, hne⟩
    obtain ⟨i, hi⟩ := List.mem_iff_getElem?.1 hf
    rcases Nat.lt_trichotomy i k with g | g | g
    · refine .inl (List.mem_iff_getElem?.2 ⟨i, ?_⟩)
      rw [List.getElem?_take, if_pos g]; exact hi
    · subst g
      rw [hk] at hi
      cases hi
      exact absurd rfl hne
    · refine .inr (List.mem_iff_getElem?.2 ⟨i - (k + 1), ?_⟩)
      rw [List.getElem?_drop]
      have : k + 1 + (i - (k + 1)) = i := by omega
      rw [this]; exact hi

/-- The program's edges (in order) and the document's (as they came): the same ones, at most 120. -/
structure GM (n : Nat) (es fs : List E) : Prop where
  sorted : Sorted es
  over : ∀ e, e ∈ es → e.a < n ∧ e.b < n
  mem : ∀ e, e ∈ es ↔ e ∈ fs
  len : es.length = fs.length
  le : es.length ≤ 120
  nd : Nd fs

theorem GM.nil (n : Nat) : GM n [] [] := ⟨List.Pairwise.nil, fun _ h => (by cases h), fun _ => Iff.rfl, rfl, by simp, List.Pairwise.nil⟩

theorem GM.hasId {n : Nat} {es fs : List E} (h : GM n es fs) (t : Int) : hasId es t = hasId fs t := by
  rw [Bool.eq_iff_iff, hasId_iff, hasId_iff]
  exact ⟨fun ⟨e, h1, h2⟩ => ⟨e, (h.mem e).1 h1, h2⟩, fun ⟨e, h1, h2⟩ => ⟨e, (h.mem e).2 h1, h2⟩⟩

theorem GM.add {n : Nat} {es fs : List E} (h : GM n es fs) {e : E} (hh : Pl.hasId es e.id = false) (ha : e.a < n) (hb : e.b < n) (hl : es.length < 120) : GM n (es.take (posOf es e.id) ++ e :: es.drop (posOf es e.id)) (fs ++ [e]) := by
  refine ⟨sorted_ins h.sorted e hh, fun f hf => ?_, fun f => ?_, ?_, ?_, ?_⟩
  · rcases mem_ins.1 hf with rfl | hf
    · exact ⟨ha, hb⟩
    · exact h.over f hf
  · rw [mem_ins, List.mem_append, List.mem_singleton, h.mem]; exact or_comm
  · have := h.len
    simp only [List.length_append, List.length_take, List.length_cons, List.length_drop, List.length_nil]
    have := posOf_le es e.id
    omega
  · simp only [List.length_append, List.length_take, List.length_cons, List.length_drop]
    have := posOf_le es e.id
    omega
  · unfold Nd
    rw [List.pairwise_append]
    refine ⟨h.nd, by simp, fun f hf g hg => ?_⟩
    rw [List.mem_singleton] at hg
    subst hg
    intro hid
    have : Pl.hasId fs g.id = true := hasId_iff.2 ⟨f, hf, by rw [hid]⟩
    rw [← h.hasId, hh] at this
    cases this

theorem GM.drop {n : Nat} {es fs : List E} (h : GM n es fs) {i k : Nat} {e f : E} (hi : es[i]? = some e) (hk : fs[k]? = some f) (hid : e.id = f.id) : GM n (delAt es i) (delAt fs k) := by
  have l1 := delAt_length (List.getElem?_eq_some_iff.1 hi).1
  have l2 := delAt_length (List.getElem?_eq_some_iff.1 hk).1
  refine ⟨h.sorted.sublist (delAt_sublist _ _), fun g hg => h.over g ((delAt_sublist _ _).subset hg), fun g => ?_, ?_, ?_, h.nd.sublist (delAt_sublist _ _)⟩
  · rw [mem_delAt h.sorted.nd hi, mem_delAt h.nd hk, h.mem, hid]
  · have := h.len; omega
  · have := h.le; omega

theorem sorted_ext {es fs : List E} (h1 : Sorted es) (h2 : Sorted fs) (hm : ∀ e, e ∈ es ↔ e ∈ fs) : es = fs := by
  induction es generalizing fs with
  | nil =>
    cases fs with
    | nil => rfl
    | cons f fs => exact absurd ((hm f).2 List.mem_cons_self) (by simp)
  | cons e es ih =>
    cases fs with
    | nil => exact absurd ((hm e).1 List.mem_cons_self) (by simp)
    | cons f fs =>
      obtain ⟨a1, a2⟩ := List.pairwise_cons.1 h1
      obtain ⟨b1, b2⟩ := List.pairwise_cons.1 h2
      have hef : e = f := by
        rcases List.mem_cons.1 ((hm e).1 List.mem_cons_self) with h | h
        · exact h
        · rcases List.mem_cons.1 ((hm f).2 List.mem_cons_self) with g | g
          · exact g.symm
          · have := a1 f g; have := b1 e h; omega
      subst hef
      congr 1
      refine ih a2 b2 fun g => ?_
      constructor
      · intro hg
        rcases List.mem_cons.1 ((hm g).1 (List.mem_cons_of_mem _ hg)) with h | h
        · subst h; have := a1 g hg; omega
        · exact h
      · intro hg
        rcases List.mem_cons.1 ((hm g).2 (List.mem_cons_of_mem _ hg)) with h | h
        · subst h; have := b1 g hg; omega
        · exact h

/-- Where a number is, the edge of it stands at its place. -/
theorem pos_at {es : List E} (hs : Sorted es) {t : Int} (h : hasId es t = true) : ∃ e, es[posOf es t]? = some e ∧ (e.id : Int) = t := by
  obtain ⟨e, he, hid⟩ := hasId_iff.1 h
  obtain ⟨i, hi⟩ := List.mem_iff_getElem?.1 he
  have hil := (List.getElem?_eq_some_iff.1 hi).1
  have : posOf es t = i := posOf_eq (by omega) (fun k f hk hf => by have := hs.lt hf hi hk; omega) (fun k f hk hf => by
    by_cases e : k = i
    · subst e; rw [hi] at hf; cases hf; omega
    · have := hs.lt hi hf (by omega); omega)
  exact ⟨e, by rw [this]; exact hi, hid⟩

end Go.Proofs.YtkpoobnldgfapabGreatDoor.Pl
