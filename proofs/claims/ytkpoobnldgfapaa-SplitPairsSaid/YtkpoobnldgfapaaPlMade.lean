/- A graph that is made of edges, and the document's one beside it. -/
import Derived.Test.YtkpoobnldgfapaaPlIns
import Derived.Test.YtkpoobnldgfapaaPlMenger
namespace Go.Proofs.Ytkpoobnldgfapaa.Pl

theorem hasId_iff {es : List E} {t : Int} : hasId es t = true ↔ ∃ e, e ∈ es ∧ (e.id : Int) = t := by
  simp [hasId]

/-- The program's edges (in order) and the document's (as they came): the same ones. -/
structure Made (n m : Nat) (es fs : List E) : Prop where
  sorted : Sorted es
  over : ∀ e, e ∈ es → e.a < n ∧ e.b < n
  mem : ∀ e, e ∈ es ↔ e ∈ fs
  len : es.length = fs.length
  le : es.length ≤ m

theorem Made.nil (n : Nat) : Made n 0 [] [] := ⟨List.Pairwise.nil, fun _ h => (by cases h), fun _ => Iff.rfl, rfl, Nat.le_refl _⟩

theorem Made.hasId {n m : Nat} {es fs : List E} (h : Made n m es fs) (t : Int) : hasId es t = hasId fs t := by
  rw [Bool.eq_iff_iff, hasId_iff, hasId_iff]
  exact ⟨fun ⟨e, h1, h2⟩ => ⟨e, (h.mem e).1 h1, h2⟩, fun ⟨e, h1, h2⟩ => ⟨e, (h.mem e).2 h1, h2⟩⟩

theorem Made.same {n m : Nat} {es fs : List E} (h : Made n m es fs) : Made n (m + 1) es fs := ⟨h.sorted, h.over, h.mem, h.len, by have := h.le; omega⟩

theorem Made.add {n m : Nat} {es fs : List E} (h : Made n m es fs) {e : E} (hh : Pl.hasId es e.id = false) (ha : e.a < n) (hb : e.b < n) : Made n (m + 1) (es.take (posOf es e.id) ++ e :: es.drop (posOf es e.id)) (fs ++ [e]) := by
  refine ⟨sorted_ins h.sorted e hh, fun f hf => ?_, fun f => ?_, ?_, ?_⟩
  · rcases mem_ins.1 hf with rfl | hf
    · exact ⟨ha, hb⟩
    · exact h.over f hf
  · rw [mem_ins, List.mem_append, List.mem_singleton, h.mem]; exact or_comm
  · have := h.len
    simp only [List.length_append, List.length_take, List.length_cons, List.length_drop, List.length_nil]
    have := posOf_le es e.id
    omega
  · have := h.le
    simp only [List.length_append, List.length_take, List.length_cons, List.length_drop]
    have := posOf_le es e.id
    omega

theorem sorted_inj {es : List E} (h : Sorted es) : ∀ e f, e ∈ es → f ∈ es → e.id = f.id → e = f := by
  intro e f he hf hid
  obtain ⟨i, hi⟩ := List.mem_iff_getElem?.1 he
  obtain ⟨j, hj⟩ := List.mem_iff_getElem?.1 hf
  rcases Nat.lt_trichotomy i j with g | g | g
  · have := h.lt hi hj g; omega
  · subst g; rw [hi] at hj; exact Option.some.inj hj
  · have := h.lt hj hi g; omega

end Go.Proofs.Ytkpoobnldgfapaa.Pl
