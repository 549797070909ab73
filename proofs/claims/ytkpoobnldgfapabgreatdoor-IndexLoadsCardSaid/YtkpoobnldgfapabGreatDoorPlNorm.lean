/- Edges named by their lesser end first: nothing that is asked of them turns. -/
import Derived.Test.YtkpoobnldgfapabGreatDoorP3
import Derived.Test.YtkpoobnldgfapabGreatDoorP4
set_option linter.unusedVariables false
set_option linter.unusedSimpArgs false
namespace Go.Proofs.YtkpoobnldgfapabGreatDoor.Pl

def norm (e : E) : E := ⟨e.id, min e.a e.b, max e.a e.b⟩

theorem norm_or (e : E) : ((norm e).a = e.a ∧ (norm e).b = e.b) ∨ ((norm e).a = e.b ∧ (norm e).b = e.a) := by
  unfold norm; dsimp only; omega

theorem sans_norm (es : List E) (l : List Nat) : sans (es.map norm) l = (sans es l).map norm := by
  unfold sans; rw [List.filter_map]; rfl

theorem conn_norm {es : List E} {x y : Nat} : Conn (ends (es.map norm)) x y ↔ Conn (ends es) x y := by
  constructor
  · refine fun c => c.mono' fun a b hab => ?_
    obtain ⟨f, hf, he⟩ := List.mem_map.1 hab
    obtain ⟨e, he2, rfl⟩ := List.mem_map.1 hf
    simp only [Prod.mk.injEq] at he
    rcases norm_or e with ⟨h1, h2⟩ | ⟨h1, h2⟩
    · exact .inl (List.mem_map.2 ⟨e, he2, by rw [← he.1, ← he.2, h1, h2]⟩)
    · exact .inr (List.mem_map.2 ⟨e, he2, by rw [← he.1, ← he.2, h1, h2]⟩)
  · refine fun c => c.mono' fun a b hab => ?_
    obtain ⟨e, he, hee⟩ := List.mem_map.1 hab
    simp only [Prod.mk.injEq] at hee
    rcases norm_or e with ⟨h1, h2⟩ | ⟨h1, h2⟩
    · exact .inl (List.mem_map.2 ⟨norm e, List.mem_map.2 ⟨e, he, rfl⟩, by simp [h1, h2, hee.1, hee.2]⟩)
    · exact .inr (List.mem_map.2 ⟨norm e, List.mem_map.2 ⟨e, he, rfl⟩, by simp [h1, h2, hee.1, hee.2]⟩)

theorem ids_norm {es : List E} (id : Nat) : (∃ f, f ∈ es.map norm ∧ f.id = id ∧ ¬ Conn (ends (Pl.sans (es.map norm) [f.id])) f.a f.b) ↔ ∃ e, e ∈ es ∧ e.id = id ∧ ¬ Conn (ends (Pl.sans es [e.id])) e.a e.b := by
  have key : ∀ e : E, Conn (ends (Pl.sans (es.map norm) [(norm e).id])) (norm e).a (norm e).b ↔ Conn (ends (Pl.sans es [e.id])) e.a e.b := fun e => by
    rw [sans_norm, conn_norm]
    show Conn (ends (Pl.sans es [e.id])) _ _ ↔ _
    rcases norm_or e with ⟨h1, h2⟩ | ⟨h1, h2⟩
    · rw [h1, h2]
    · rw [h1, h2]; exact ⟨Conn.symm, Conn.symm⟩
  constructor
  · rintro ⟨f, hf, hid, hc⟩
    obtain ⟨e, he, rfl⟩ := List.mem_map.1 hf
    exact ⟨e, he, hid, fun c => hc ((key e).2 c)⟩
  · rintro ⟨e, he, hid, hc⟩
    exact ⟨norm e, List.mem_map.2 ⟨e, he, rfl⟩, hid, fun c => hc ((key e).1 c)⟩

theorem sorted_norm {es : List E} : Sorted (es.map norm) ↔ Sorted es := by
  unfold Sorted; rw [List.pairwise_map]; rfl

/-- What stands when i edges have been tried. -/
structure BP (n i : Nat) (es : List E) : Prop where
  sorted : Sorted es
  over : ∀ e, e ∈ es → e.a < n ∧ e.b < n
  lt : ∀ e, e ∈ es → e.id < i
  len : es.length ≤ i

theorem BP.nil (n : Nat) : BP n 0 [] := ⟨List.Pairwise.nil, fun _ h => (by cases h), fun _ h => (by cases h), Nat.le_refl _⟩
theorem BP.same {n i : Nat} {es : List E} (h : BP n i es) : BP n (i + 1) es := ⟨h.sorted, h.over, fun e he => by have := h.lt e he; omega, by have := h.len; omega⟩
theorem BP.add {n i x y : Nat} {es : List E} (h : BP n i es) (hx : x < n) (hy : y < n) : BP n (i + 1) (es ++ [⟨i, x, y⟩]) := by
  refine ⟨List.pairwise_append.2 ⟨h.sorted, List.pairwise_singleton _ _, fun a ha b hb => ?_⟩, fun e he => ?_, fun e he => ?_, by rw [List.length_append]; have := h.len; simp; omega⟩
  · rw [List.mem_singleton.1 hb]; exact h.lt a ha
  · rcases List.mem_append.1 he with he | he
    · exact h.over e he
    · rw [List.mem_singleton.1 he]; exact ⟨hx, hy⟩
  · rcases List.mem_append.1 he with he | he
    · have := h.lt e he; omega
    · rw [List.mem_singleton.1 he]; show i < i + 1; omega
theorem BP.overN {n i : Nat} {es : List E} (h : BP n i es) : ∀ e, e ∈ es.map norm → e.a < n ∧ e.b < n := fun e he => by
  obtain ⟨f, hf, rfl⟩ := List.mem_map.1 he
  have := h.over f hf
  rcases norm_or f with ⟨h1, h2⟩ | ⟨h1, h2⟩ <;> omega
theorem BP.fresh {n i : Nat} {es : List E} (h : BP n i es) : ∀ e, e ∈ es → e.id ≠ i := fun e he => by have := h.lt e he; omega

theorem BP.notin {n i : Nat} {es : List E} (h : BP n i es) : i ∉ brE (es.map norm) := fun hm => by
  obtain ⟨e, he, hid, _⟩ := (ids_norm i).1 ((mem_brE (sorted_norm.2 h.sorted)).1 hm)
  exact h.fresh e he hid

theorem BP.last {n i x y : Nat} {es : List E} (h : BP n i es) (hx : x < n) (hy : y < n) : i ∈ brE ((es ++ [(⟨i, x, y⟩ : E)]).map norm) ↔ ¬ Conn (ends es) x y := by
  rw [mem_brE (sorted_norm.2 (h.add hx hy).sorted), ids_norm]
  have e1 : sans (es ++ [⟨i, x, y⟩]) [i] = es := by
    unfold sans
    rw [List.filter_append, List.filter_eq_self.2 (fun e he => by have := h.fresh e he; simp [this])]
    simp
  constructor
  · rintro ⟨e, he, hid, hc⟩
    rcases List.mem_append.1 he with he | he
    · exact absurd hid (h.fresh e he)
    · rw [List.mem_singleton.1 he] at hc
      rw [e1] at hc; exact hc
  · intro hc
    exact ⟨(⟨i, x, y⟩ : E), List.mem_append_right _ (List.mem_singleton.2 rfl), rfl, (by rw [e1]; exact hc : ¬ Conn (ends (sans (es ++ [⟨i, x, y⟩]) [i])) x y)⟩

end Go.Proofs.YtkpoobnldgfapabGreatDoor.Pl
