/- The document's rings (5.1) and its twos (5.2), in plain terms. -/
import Derived.Test.YtkpoobnldgfapabGreatDoorP4
set_option linter.unusedVariables false
set_option linter.unusedSimpArgs false
namespace Go.Proofs.YtkpoobnldgfapabGreatDoor.Pl

/-- The ring that an edge in no tree closes: itself, and the tree's edges on the way. -/
def ringOf (tr : List E) (e : E) : List Nat := e.id :: (tr.filter (fun f => !decide (Conn (ends (sans tr [f.id])) e.a e.b))).map (·.id)

theorem mem_ringOf {es : List E} (hs : Sorted es) {r x : E} (hr : r ∈ rsE es) (hx : x ∈ es) : x.id ∈ ringOf (trE es) r ↔ OnR (trE es) r x.id := by
  have T := trees es hs
  have hre := (T.mem r).1 hr
  unfold ringOf
  rw [List.mem_cons, List.mem_map]
  constructor
  · rintro (h | ⟨f, hf, h⟩)
    · exact .inl h
    · obtain ⟨h1, h2⟩ := List.mem_filter.1 hf
      rw [← h]; exact .inr (by simpa using h2)
  · rintro (h | h)
    · exact .inl h
    · right
      have hx' : x ∈ trE es := Classical.byContradiction fun hn =>
        h ((Spans.sans_none (fun f hf => T.sp.rest_id hx hn f hf)).2 (T.sp.conn r hre.1))
      exact ⟨x, List.mem_filter.2 ⟨hx', by simpa using h⟩, rfl⟩

/-! how many rings go round -/

theorem pop_eq (x : Nat) : pop x = x % 2 + pop (x / 2) := by
  by_cases h : x = 0
  · subst h; rw [pop_zero]
  · exact pop_pos h

theorem pop_bits (K m : Nat) (h : m < 2 ^ K) : pop m = (List.range K).countP (fun j => m.testBit j) := by
  induction K generalizing m with
  | zero => have : m = 0 := by omega
            subst this; rw [pop_zero]; rfl
  | succ K ih =>
    rw [pop_eq, ih (m / 2) (by rw [Nat.pow_succ] at h; omega), List.range_succ_eq_map, List.countP_cons, List.countP_map]
    have e1 : (List.range K).countP ((fun j => m.testBit j) ∘ Nat.succ) = (List.range K).countP (fun j => (m / 2).testBit j) := by
      congr 1
      funext j
      show m.testBit (j + 1) = _
      rw [Nat.testBit_succ]
    rw [e1, Nat.testBit_zero]
    have h2 : m % 2 = 0 ∨ m % 2 = 1 := by omega
    rcases h2 with e | e <;> simp [e]
    omega

theorem pop_split (k v : Nat) : pop v = pop (v % 2 ^ k) + pop (v / 2 ^ k) := by
  induction k generalizing v with
  | zero => rw [Nat.pow_zero, Nat.mod_one, Nat.div_one, pop_zero]; omega
  | succ k ih =>
    rw [pop_eq v, ih (v / 2), pop_eq (v % 2 ^ (k + 1))]
    have e1 : v % 2 ^ (k + 1) % 2 = v % 2 := Nat.mod_mod_of_dvd _ ⟨2 ^ k, by rw [Nat.pow_succ]; omega⟩
    have e2 : v % 2 ^ (k + 1) / 2 = v / 2 % 2 ^ k := by
      rw [Nat.pow_succ, Nat.mul_comm, Nat.mod_mul_right_div_self]
    have e3 : v / 2 / 2 ^ k = v / 2 ^ (k + 1) := by rw [Nat.div_div_eq_div_mul, Nat.pow_succ, Nat.mul_comm]
    rw [e1, e2, e3]; omega

theorem count_any {α : Type} (l : List α) (p : α → Bool) : (List.range l.length).countP (fun j => (l[j]?).any p) = l.countP p := by
  induction l using list_snoc_ind with
  | nil => rfl
  | snoc l x ih =>
    rw [List.length_append, List.length_singleton, List.range_succ, List.countP_append, List.countP_append, ← ih]
    congr 1
    · refine List.countP_congr fun j hj => ?_
      rw [List.getElem?_append_left (List.mem_range.1 hj)]
    · simp

/-- How many rings go round an edge. -/
theorem mk_pop (es : List E) (id : Nat) : pop (mk es id) = (rsE es).countP (fun r => decide (OnR (trE es) r id)) := by
  rw [pop_bits _ _ (mk_lt es id), ← count_any (rsE es)]
  refine List.countP_congr fun j _ => ?_
  unfold mk
  rw [msk_bit]

/-! parts: how many -/

def cntP (n : Nat) (es : List E) : Nat := cnt n (isRoot (labs (ends es)))

theorem ends_in {es : List E} {a b : Nat} (h : (a, b) ∈ ends es) : ∃ e, e ∈ es ∧ e.a = a ∧ e.b = b := by
  unfold ends at h
  obtain ⟨e, he, h⟩ := List.mem_map.1 h
  simp only [Prod.mk.injEq] at h
  exact ⟨e, he, h.1, h.2⟩

theorem cntP_mem (n : Nat) {es fs : List E} (h : ∀ e, e ∈ es ↔ e ∈ fs) : cntP n es = cntP n fs := by
  unfold cntP
  have : labs (ends es) = labs (ends fs) := by
    funext x
    exact labs_congr (fun _ _ => ⟨Conn.of_sub (fun e he => (h e).1 he), Conn.of_sub (fun e he => (h e).2 he)⟩) x
  rw [this]

/-- Without one edge: as many parts, or one more. -/
theorem cntP_less {n : Nat} {es : List E} (inj : Inj es) {e : E} (he : e ∈ es) (ha : e.a < n) (hb : e.b < n) :
    cntP n (sans es [e.id]) = cntP n es + (if Conn (ends (sans es [e.id])) e.a e.b then 0 else 1) := by
  have hm : cntP n es = cntP n (sans es [e.id] ++ [e]) := cntP_mem n fun f => by
    rw [List.mem_append, mem_sansL]
    constructor
    · intro hf
      by_cases h : f.id = e.id
      · exact .inr (List.mem_singleton.2 (inj f e hf he h))
      · exact .inl ⟨hf, by simpa using h⟩
    · rintro (h | h)
      · exact h.1
      · rw [List.mem_singleton.1 h]; exact he
  rw [hm]
  unfold cntP
  rw [ends_snoc, labs_snoc]
  by_cases c : Conn (ends (sans es [e.id])) e.a e.b
  · rw [if_pos c, joinL_same c]; rfl
  · rw [if_neg c]
    exact roots_join (labs_canon _ n) ha hb c

/-- No edge of one's own: no bridge. -/
theorem fine_count {n : Nat} {es : List E} (hs : Sorted es) {e : E} (he : e ∈ es) (ha : e.a < n) (hb : e.b < n) : cntP n (sans es [e.id]) = cntP n es ↔ mk es e.id ≠ 0 := by
  have T := trees es hs
  rw [cntP_less T.sp.inj he ha hb, mk_fine hs he]
  split
  · rename_i c; exact ⟨fun _ => c, fun _ => rfl⟩
  · rename_i c; exact ⟨fun h => by omega, fun h => absurd h c⟩

theorem Inj.sans {es : List E} (h : Inj es) (l : List Nat) : Inj (sans es l) := fun e f he hf => h e f (mem_sansL.1 he).1 (mem_sansL.1 hf).1

theorem alike_count {n : Nat} {es : List E} (hs : Sorted es) {e f : E} (he : e ∈ es) (hf : f ∈ es) (hne : e ≠ f) (oe : e.a < n ∧ e.b < n) (of : f.a < n ∧ f.b < n) (h0 : mk es e.id ≠ 0) (h1 : mk es f.id ≠ 0) :
    cntP n es < cntP n (sans es [e.id, f.id]) ↔ mk es e.id = mk es f.id := by
  have T := trees es hs
  have hid : f.id ≠ e.id := fun h => hne (T.sp.inj f e hf he h).symm
  have hm : cntP n (sans es [e.id, f.id]) = cntP n (sans (sans es [e.id]) [f.id]) := cntP_mem n fun g => by
    rw [mem_sansL, mem_sansL, mem_sansL]
    simp only [List.mem_cons, List.not_mem_nil, or_false, not_or]
    exact ⟨fun h => ⟨⟨h.1, h.2.1⟩, h.2.2⟩, fun h => ⟨h.1.1, h.1.2, h.2⟩⟩
  have hf' : f ∈ sans es [e.id] := mem_sansL.2 ⟨hf, by simpa using hid⟩
  rw [hm, cntP_less (T.sp.inj.sans _) hf' of.1 of.2, (fine_count hs he oe.1 oe.2).2 h0, mk_alike hs he hf hne h0 h1]
  show _ ↔ ¬ Conn (ends (sans (sans es [e.id]) [f.id])) f.a f.b
  split
  · rename_i c; exact ⟨fun h => by omega, fun h => absurd c h⟩
  · rename_i c; exact ⟨fun _ => c, fun _ => by omega⟩

/-- What the document asks of two edges. -/
def twoB (n : Nat) (es : List E) (e f : E) : Bool := decide (cntP n (sans es [e.id]) = cntP n es) && decide (cntP n (sans es [f.id]) = cntP n es) && decide (cntP n es < cntP n (sans es [e.id, f.id]))

theorem twoB_iff {n : Nat} {es : List E} (hs : Sorted es) (ho : ∀ e, e ∈ es → e.a < n ∧ e.b < n) {e f : E} (he : e ∈ es) (hf : f ∈ es) (hne : e ≠ f) : twoB n es e f = decide (mk es e.id ≠ 0 ∧ mk es e.id = mk es f.id) := by
  have oe := ho e he
  have of := ho f hf
  unfold twoB
  rw [Bool.eq_iff_iff, Bool.and_eq_true, Bool.and_eq_true, decide_eq_true_eq, decide_eq_true_eq, decide_eq_true_eq, decide_eq_true_eq, fine_count hs he oe.1 oe.2, fine_count hs hf of.1 of.2]
  constructor
  · rintro ⟨⟨h0, h1⟩, h2⟩; exact ⟨h0, (alike_count hs he hf hne oe of h0 h1).1 h2⟩
  · rintro ⟨h0, h1⟩
    have h2 : mk es f.id ≠ 0 := by rw [← h1]; exact h0
    exact ⟨⟨h0, h2⟩, (alike_count hs he hf hne oe of h0 h2).2 h1⟩

end Go.Proofs.YtkpoobnldgfapabGreatDoor.Pl
