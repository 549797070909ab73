/- All twos of a row of edges; a labelling of an equivalence. Plain. -/
import Derived.Test.YtkpoobnldgfapabGreatDoorP4
set_option linter.unusedVariables false
set_option linter.unusedSimpArgs false
namespace Go.Proofs.YtkpoobnldgfapabGreatDoor.Pl

def twosTo (e : E) (l : List E) : List (Nat × Nat) := l.map (fun f => (e.id, f.id))
def twos : List E → List (Nat × Nat)
  | [] => []
  | e :: l => twosTo e (e :: l) ++ twos l

theorem mem_twos {l : List E} {e f : E} (he : e ∈ l) (hf : f ∈ l) : (e.id, f.id) ∈ twos l ∨ (f.id, e.id) ∈ twos l := by
  induction l with
  | nil => cases he
  | cons a l ih =>
    unfold twos twosTo
    simp only [List.mem_append, List.mem_map]
    rcases List.mem_cons.1 he with rfl | he'
    · exact .inl (.inl ⟨f, hf, rfl⟩)
    · rcases List.mem_cons.1 hf with rfl | hf'
      · exact .inr (.inl ⟨e, List.mem_cons_of_mem _ he', rfl⟩)
      · rcases ih he' hf' with h | h
        · exact .inl (.inr h)
        · exact .inr (.inr h)

theorem twos_len (l : List E) : (twos l).length ≤ l.length * l.length := by
  induction l with
  | nil => simp [twos]
  | cons a l ih =>
    unfold twos twosTo
    simp only [List.length_append, List.length_map, List.length_cons]
    have : (l.length + 1) * (l.length + 1) = l.length * l.length + l.length + l.length + 1 := by
      rw [Nat.add_mul, Nat.mul_add]; omega
    omega

theorem eqv_canon (n : Nat) {R : Nat → Nat → Prop} (refl : ∀ x, R x x) (symm : ∀ x y, R x y → R y x) (trans : ∀ x y z, R x y → R y z → R x z) :
    ∃ L, Canon n L ∧ ∀ x y, x < n → y < n → (L x = L y ↔ R x y) := by
  classical
  refine ⟨labs (((List.range n).flatMap fun a => (List.range n).map fun b => (a, b)).filter (fun p => decide (R p.1 p.2))), labs_canon _ _, fun x y hx hy => ⟨fun h => ?_, fun h => ?_⟩⟩
  · exact Conn.ind refl symm trans (fun e he => by simpa using (List.mem_filter.1 he).2) (show Conn _ x y from h)
  · refine Conn.of_mem (List.mem_filter.2 ⟨List.mem_flatMap.2 ⟨x, List.mem_range.2 hx, List.mem_map.2 ⟨y, List.mem_range.2 hy, rfl⟩⟩, by simpa using h⟩)

theorem thr_twos {es fs : List E} (hs : Sorted es) (hp : ∀ e, e ∈ fs ↔ e ∈ es) {x y : Nat} :
    (Conn (ends es) x y ∧ ∀ p, p ∈ twos fs → Conn (ends (sans es [p.1, p.2])) x y) ↔ Thr es x y := by
  rw [thr_iff hs]
  refine ⟨fun ⟨h0, h⟩ i j => ?_, fun h => ⟨(h 0 0).of_sub fun e he => (mem_sansL.1 he).1, fun p _ => h p.1 p.2⟩⟩
  have key : ∀ e f, e ∈ es → f ∈ es → Conn (ends (sans es [e.id, f.id])) x y := fun e f he hf => by
    rcases mem_twos ((hp e).2 he) ((hp f).2 hf) with h1 | h1
    · exact h _ h1
    · exact (h _ h1).of_sub fun z hz => by
        obtain ⟨z1, z2⟩ := mem_sansL.1 hz
        exact mem_sansL.2 ⟨z1, fun h => z2 (by simp at h ⊢; exact h.symm)⟩
  by_cases hi : ∃ e, e ∈ es ∧ e.id = i
  · obtain ⟨e, he, rfl⟩ := hi
    by_cases hj : ∃ f, f ∈ es ∧ f.id = j
    · obtain ⟨f, hf, rfl⟩ := hj
      exact key e f he hf
    · exact (key e e he he).of_sub fun z hz => by
        obtain ⟨z1, z2⟩ := mem_sansL.1 hz
        refine mem_sansL.2 ⟨z1, fun h => ?_⟩
        simp at h
        rcases h with h | h
        · exact z2 (by simp [h])
        · exact hj ⟨z, z1, h⟩
  · by_cases hj : ∃ f, f ∈ es ∧ f.id = j
    · obtain ⟨f, hf, rfl⟩ := hj
      exact (key f f hf hf).of_sub fun z hz => by
        obtain ⟨z1, z2⟩ := mem_sansL.1 hz
        refine mem_sansL.2 ⟨z1, fun h => ?_⟩
        simp at h
        rcases h with h | h
        · exact hi ⟨z, z1, h⟩
        · exact z2 (by simp [h])
    · exact h0.of_sub fun z hz => by
        refine mem_sansL.2 ⟨hz, fun h => ?_⟩
        simp at h
        rcases h with h | h
        · exact hi ⟨z, hz, h⟩
        · exact hj ⟨z, hz, h⟩

end Go.Proofs.YtkpoobnldgfapabGreatDoor.Pl
