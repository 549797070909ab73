/- Joined: PlTwos PlDrop PlWays PlRoom PlRoom2 PlRoom3 PlFCount. -/
import Derived.Test.YtkpoobnldgfapabGreatDoorP4
import Derived.Test.YtkpoobnldgfapabGreatDoorP3
import Derived.Test.YtkpoobnldgfapabGreatDoorP2
set_option linter.unusedVariables false
set_option linter.unusedSimpArgs false
/- All twos of a row of edges; a labelling of an equivalence. Plain. -/
namespace Go.Proofs.YtkpoobnldgfapabGreatDoor.Pl

def twosTo (e : E) (l : List E) : List (Nat × Nat) := l.map (fun f => (e.id, f.id))
def twos : List E → List (Nat × Nat)
  | [] => []
  | e :: l => twosTo e (e :: l) ++ twos l

theorem mem_twos {l : List E} {e f : E} (he : e ∈ l) (hf : f ∈ l) : (e.id, f.id) ∈ twos l ∨ (f.id, e.id) ∈ twos l := by
  induction l with
  | nil => cases he
  | cons a l ih =>
    unfold twos twosTo
    simp only [List.mem_append, List.mem_map]
    rcases List.mem_cons.1 he with rfl | he'
    · exact .inl (.inl ⟨f, hf, rfl⟩)
    · rcases List.mem_cons.1 hf with rfl | hf'
      · exact .inr (.inl ⟨e, List.mem_cons_of_mem _ he', rfl⟩)
      · rcases ih he' hf' with h | h
        · exact .inl (.inr h)
        · exact .inr (.inr h)

theorem twos_len (l : List E) : (twos l).length ≤ l.length * l.length := by
  induction l with
  | nil => simp [twos]
  | cons a l ih =>
    unfold twos twosTo
    simp only [List.length_append, List.length_map, List.length_cons]
    have : (l.length + 1) * (l.length + 1) = l.length * l.length + l.length + l.length + 1 := by
      rw [Nat.add_mul, Nat.mul_add]; omega
    omega

theorem eqv_canon (n : Nat) {R : Nat → Nat → Prop} (refl : ∀ x, R x x) (symm : ∀ x y, R x y → R y x) (trans : ∀ x y z, R x y → R y z → R x z) :
    ∃ L, Canon n L ∧ ∀ x y, x < n → y < n → (L x = L y ↔ R x y) := by
  classical
  refine ⟨labs (((List.range n).flatMap fun a => (List.range n).map fun b => (a, b)).filter (fun p => decide (R p.1 p.2))), labs_canon _ _, fun x y hx hy => ⟨fun h => ?_, fun h => ?_⟩⟩
  · exact Conn.ind refl symm trans (fun e he => by simpa using (List.mem_filter.1 he).2) (show Conn _ x y from h)
  · refine Conn.of_mem (List.mem_filter.2 ⟨List.mem_flatMap.2 ⟨x, List.mem_range.2 hx, List.mem_map.2 ⟨y, List.mem_range.2 hy, rfl⟩⟩, by simpa using h⟩)

theorem thr_twos {es fs : List E} (hs : Sorted es) (hp : ∀ e, e ∈ fs ↔ e ∈ es) {x y : Nat} :
    (Conn (ends es) x y ∧ ∀ p, p ∈ twos fs → Conn (ends (sans es [p.1, p.2])) x y) ↔ Thr es x y := by
  rw [thr_iff hs]
  refine ⟨fun ⟨h0, h⟩ i j => ?_, fun h => ⟨(h 0 0).of_sub fun e he => (mem_sansL.1 he).1, fun p _ => h p.1 p.2⟩⟩
  have key : ∀ e f, e ∈ es → f ∈ es → Conn (ends (sans es [e.id, f.id])) x y := fun e f he hf => by
    rcases mem_twos ((hp e).2 he) ((hp f).2 hf) with h1 | h1
    · exact h _ h1
    · exact (h _ h1).of_sub fun z hz => by
        obtain ⟨z1, z2⟩ := mem_sansL.1 hz
        exact mem_sansL.2 ⟨z1, fun h => z2 (by simp at h ⊢; exact h.symm)⟩
  by_cases hi : ∃ e, e ∈ es ∧ e.id = i
  · obtain ⟨e, he, rfl⟩ := hi
    by_cases hj : ∃ f, f ∈ es ∧ f.id = j
    · obtain ⟨f, hf, rfl⟩ := hj
      exact key e f he hf
    · exact (key e e he he).of_sub fun z hz => by
        obtain ⟨z1, z2⟩ := mem_sansL.1 hz
        refine mem_sansL.2 ⟨z1, fun h => ?_⟩
        simp at h
        rcases h with h | h
        · exact z2 (by simp [h])
        · exact hj ⟨z, z1, h⟩
  · by_cases hj : ∃ f, f ∈ es ∧ f.id = j
    · obtain ⟨f, hf, rfl⟩ := hj
      exact (key f f hf hf).of_sub fun z hz => by
        obtain ⟨z1, z2⟩ := mem_sansL.1 hz
        refine mem_sansL.2 ⟨z1, fun h => ?_⟩
        simp at h
        rcases h with h | h
        · exact hi ⟨z, z1, h⟩
        · exact z2 (by simp [h])
    · exact h0.of_sub fun z hz => by
        refine mem_sansL.2 ⟨hz, fun h => ?_⟩
        simp at h
        rcases h with h | h
        · exact hi ⟨z, hz, h⟩
        · exact hj ⟨z, hz, h⟩

end Go.Proofs.YtkpoobnldgfapabGreatDoor.Pl

/- Edges come in and go out again: the program's edges and the document's stay the same ones. -/
namespace Go.Proofs.YtkpoobnldgfapabGreatDoor.Pl

def delAt (es : List E) (k : Nat) : List E := es.take k ++ es.drop (k + 1)

/-- No number is there twice. -/
def Nd (es : List E) : Prop := es.Pairwise (fun e f => e.id ≠ f.id)

theorem Sorted.nd {es : List E} (h : Sorted es) : Nd es := h.imp (fun h e => by omega)

theorem delAt_sublist (es : List E) (k : Nat) : (delAt es k).Sublist es := by
  unfold delAt
  have h := List.drop_sublist_drop_left es (show k ≤ k + 1 by omega)
  have h2 : (es.take k ++ es.drop (k + 1)).Sublist (es.take k ++ es.drop k) := List.Sublist.append (List.Sublist.refl _) h
  rw [List.take_append_drop] at h2
  exact h2

theorem delAt_length {es : List E} {k : Nat} (hk : k < es.length) : (delAt es k).length + 1 = es.length := by
  unfold delAt
  rw [List.length_append, List.length_take, List.length_drop]
  omega

theorem Nd.ne {es : List E} (h : Nd es) {i j : Nat} {e f : E} (hi : es[i]? = some e) (hj : es[j]? = some f) (hij : i ≠ j) : e.id ≠ f.id := by
  obtain ⟨h1, h2⟩ := List.getElem?_eq_some_iff.1 hi
  obtain ⟨h3, h4⟩ := List.getElem?_eq_some_iff.1 hj
  unfold Nd at h
  rw [List.pairwise_iff_getElem] at h
  rcases Nat.lt_trichotomy i j with g | g | g
  · have := h i j h1 h3 g
    rw [h2, h4] at this
    exact this
  · exact absurd g hij
  · have := h j i h3 h1 g
    rw [h2, h4] at this
    exact fun e => this e.symm

theorem mem_delAt {es : List E} (h : Nd es) {k : Nat} {e : E} (hk : es[k]? = some e) (f : E) : f ∈ delAt es k ↔ f ∈ es ∧ f.id ≠ e.id := by
  unfold delAt
  rw [List.mem_append]
  constructor
  · rintro (hf | hf)
    · obtain ⟨i, hi, hfi⟩ := mem_take_get hf
      exact ⟨List.mem_of_getElem? hfi, h.ne hfi hk (by omega)⟩
    · obtain ⟨i, hi, hfi⟩ := mem_drop_get hf
      exact ⟨List.mem_of_getElem? hfi, h.ne hfi hk (by omega)⟩
  · rintro ⟨hf, hne⟩
    obtain ⟨i, hi⟩ := List.mem_iff_getElem?.1 hf
    rcases Nat.lt_trichotomy i k with g | g | g
    · refine .inl (List.mem_iff_getElem?.2 ⟨i, ?_⟩)
      rw [List.getElem?_take, if_pos g]; exact hi
    · subst g
      rw [hk] at hi
      cases hi
      exact absurd rfl hne
    · refine .inr (List.mem_iff_getElem?.2 ⟨i - (k + 1), ?_⟩)
      rw [List.getElem?_drop]
      have : k + 1 + (i - (k + 1)) = i := by omega
      rw [this]; exact hi

/-- The program's edges (in order) and the document's (as they came): the same ones, at most 120. -/
structure GM (n : Nat) (es fs : List E) : Prop where
  sorted : Sorted es
  over : ∀ e, e ∈ es → e.a < n ∧ e.b < n
  mem : ∀ e, e ∈ es ↔ e ∈ fs
  len : es.length = fs.length
  le : es.length ≤ 120
  nd : Nd fs

theorem GM.nil (n : Nat) : GM n [] [] := ⟨List.Pairwise.nil, fun _ h => (by cases h), fun _ => Iff.rfl, rfl, by simp, List.Pairwise.nil⟩

theorem GM.hasId {n : Nat} {es fs : List E} (h : GM n es fs) (t : Int) : hasId es t = hasId fs t := by
  rw [Bool.eq_iff_iff, hasId_iff, hasId_iff]
  exact ⟨fun ⟨e, h1, h2⟩ => ⟨e, (h.mem e).1 h1, h2⟩, fun ⟨e, h1, h2⟩ => ⟨e, (h.mem e).2 h1, h2⟩⟩

theorem GM.add {n : Nat} {es fs : List E} (h : GM n es fs) {e : E} (hh : Pl.hasId es e.id = false) (ha : e.a < n) (hb : e.b < n) (hl : es.length < 120) : GM n (es.take (posOf es e.id) ++ e :: es.drop (posOf es e.id)) (fs ++ [e]) := by
  refine ⟨sorted_ins h.sorted e hh, fun f hf => ?_, fun f => ?_, ?_, ?_, ?_⟩
  · rcases mem_ins.1 hf with rfl | hf
    · exact ⟨ha, hb⟩
    · exact h.over f hf
  · rw [mem_ins, List.mem_append, List.mem_singleton, h.mem]; exact or_comm
  · have := h.len
    simp only [List.length_append, List.length_take, List.length_cons, List.length_drop, List.length_nil]
    have := posOf_le es e.id
    omega
  · simp only [List.length_append, List.length_take, List.length_cons, List.length_drop]
    have := posOf_le es e.id
    omega
  · unfold Nd
    rw [List.pairwise_append]
    refine ⟨h.nd, by simp, fun f hf g hg => ?_⟩
    rw [List.mem_singleton] at hg
    subst hg
    intro hid
    have : Pl.hasId fs g.id = true := hasId_iff.2 ⟨f, hf, by rw [hid]⟩
    rw [← h.hasId, hh] at this
    cases this

theorem GM.drop {n : Nat} {es fs : List E} (h : GM n es fs) {i k : Nat} {e f : E} (hi : es[i]? = some e) (hk : fs[k]? = some f) (hid : e.id = f.id) : GM n (delAt es i) (delAt fs k) := by
  have l1 := delAt_length (List.getElem?_eq_some_iff.1 hi).1
  have l2 := delAt_length (List.getElem?_eq_some_iff.1 hk).1
  refine ⟨h.sorted.sublist (delAt_sublist _ _), fun g hg => h.over g ((delAt_sublist _ _).subset hg), fun g => ?_, ?_, ?_, h.nd.sublist (delAt_sublist _ _)⟩
  · rw [mem_delAt h.sorted.nd hi, mem_delAt h.nd hk, h.mem, hid]
  · have := h.len; omega
  · have := h.le; omega

theorem sorted_ext {es fs : List E} (h1 : Sorted es) (h2 : Sorted fs) (hm : ∀ e, e ∈ es ↔ e ∈ fs) : es = fs := by
  induction es generalizing fs with
  | nil =>
    cases fs with
    | nil => rfl
    | cons f fs => exact absurd ((hm f).2 List.mem_cons_self) (by simp)
  | cons e es ih =>
    cases fs with
    | nil => exact absurd ((hm e).1 List.mem_cons_self) (by simp)
    | cons f fs =>
      obtain ⟨a1, a2⟩ := List.pairwise_cons.1 h1
      obtain ⟨b1, b2⟩ := List.pairwise_cons.1 h2
      have hef : e = f := by
        rcases List.mem_cons.1 ((hm e).1 List.mem_cons_self) with h | h
        · exact h
        · rcases List.mem_cons.1 ((hm f).2 List.mem_cons_self) with g | g
          · exact g.symm
          · have := a1 f g; have := b1 e h; omega
      subst hef
      congr 1
      refine ih a2 b2 fun g => ?_
      constructor
      · intro hg
        rcases List.mem_cons.1 ((hm g).1 (List.mem_cons_of_mem _ hg)) with h | h
        · subst h; have := a1 g hg; omega
        · exact h
      · intro hg
        rcases List.mem_cons.1 ((hm g).2 (List.mem_cons_of_mem _ hg)) with h | h
        · subst h; have := b1 g hg; omega
        · exact h

/-- Where a number is, the edge of it stands at its place. -/
theorem pos_at {es : List E} (hs : Sorted es) {t : Int} (h : hasId es t = true) : ∃ e, es[posOf es t]? = some e ∧ (e.id : Int) = t := by
  obtain ⟨e, he, hid⟩ := hasId_iff.1 h
  obtain ⟨i, hi⟩ := List.mem_iff_getElem?.1 he
  have hil := (List.getElem?_eq_some_iff.1 hi).1
  have : posOf es t = i := posOf_eq (by omega) (fun k f hk hf => by have := hs.lt hf hi hk; omega) (fun k f hk hf => by
    by_cases e : k = i
    · subst e; rw [hi] at hf; cases hf; omega
    · have := hs.lt hi hf (by omega); omega)
  exact ⟨e, by rw [this]; exact hi, hid⟩

end Go.Proofs.YtkpoobnldgfapabGreatDoor.Pl

/- flow.Ways in plain terms: what is left of a flow comes apart into ways. -/
namespace Go.Proofs.YtkpoobnldgfapabGreatDoor.Pl

/-- Edges one behind the other, from x to b. -/
def Trail : List E → Nat → Nat → Prop
  | [], x, b => x = b
  | e :: l, x, b => (e.a = x ∧ Trail l e.b b) ∨ (e.b = x ∧ e.a ≠ x ∧ Trail l e.a b)

theorem Trail.snoc {l : List E} {x y z : Nat} {e : E} (h : Trail l x y) (he : (e.a = y ∧ z = e.b) ∨ (e.b = y ∧ e.a ≠ y ∧ z = e.a)) : Trail (l ++ [e]) x z := by
  induction l generalizing x with
  | nil =>
    have h : x = y := h
    subst h
    rcases he with ⟨h1, h2⟩ | ⟨h1, h2, h3⟩
    · exact .inl ⟨h1, h2.symm⟩
    · exact .inr ⟨h1, h2, h3.symm⟩
  | cons f l ih =>
    rcases h with ⟨h1, h2⟩ | ⟨h1, h2, h3⟩
    · exact .inl ⟨h1, ih h2⟩
    · exact .inr ⟨h1, h2, ih h3⟩

def eA (es : List E) (i : Nat) : Nat := (es[i]?.getD ⟨0, 0, 0⟩).a
def eB (es : List E) (i : Nat) : Nat := (es[i]?.getD ⟨0, 0, 0⟩).b
theorem eA_at {es : List E} {i : Nat} {e : E} (h : es[i]? = some e) : eA es i = e.a := by unfold eA; rw [h]; rfl
theorem eB_at {es : List E} {i : Nat} {e : E} (h : es[i]? = some e) : eB es i = e.b := by unfold eB; rw [h]; rfl

/-- From where an edge is gone, to where. -/
def srcW (es : List E) (x : Nat → Bool) (i : Nat) : Nat := if x i = true then eA es i else eB es i
def dstW (es : List E) (x : Nat → Bool) (i : Nat) : Nat := if x i = true then eB es i else eA es i

/-- What goes out of v more than comes in, of the edges that are left. -/
def exL (es : List E) (x L : Nat → Bool) (v : Nat) : Int :=
  bsum es.length fun i => ind (L i) * (ind (decide (srcW es x i = v)) - ind (decide (dstW es x i = v)))

theorem bsum_two (n : Nat) (f : Nat → Int) : bsum (2 * n) f = bsum n (fun i => f (2 * i) + f (2 * i + 1)) := by
  induction n with
  | zero => rfl
  | succ n ih =>
    rw [show 2 * (n + 1) = 2 * n + 1 + 1 by omega]
    simp only [bsum]
    rw [ih]; omega

theorem arcsE_at (es : List E) (i : Nat) : (arcsE es)[2 * i]? = (es[i]?).map (fun e => (e.a, e.b)) ∧ (arcsE es)[2 * i + 1]? = (es[i]?).map (fun e => (e.b, e.a)) := by
  induction es generalizing i with
  | nil => simp [arcsE]
  | cons e es ih =>
    have hc : arcsE (e :: es) = (e.a, e.b) :: (e.b, e.a) :: arcsE es := by simp [arcsE]
    rw [hc]
    cases i with
    | zero => simp
    | succ i =>
      rw [show 2 * (i + 1) = 2 * i + 1 + 1 by omega]
      simpa using ih i

theorem arcsE_fr {es : List E} {i : Nat} (hi : i < es.length) : frL (arcsE es) (2 * i) = eA es i ∧ toL (arcsE es) (2 * i) = eB es i ∧ frL (arcsE es) (2 * i + 1) = eB es i ∧ toL (arcsE es) (2 * i + 1) = eA es i := by
  obtain ⟨h1, h2⟩ := arcsE_at es i
  have he := List.getElem?_eq_getElem hi
  unfold frL toL
  rw [h1, h2, eA_at he, eB_at he, he]
  exact ⟨rfl, rfl, rfl, rfl⟩

/-- An edge that is gone both ways is gone none. -/
theorem exL_flow (es : List E) (u : Nat → Bool) (v : Nat) (m : Nat) (hm : m = 2 * es.length) :
    exL es (fun i => u (2 * i)) (fun i => u (2 * i) != u (2 * i + 1)) v = exc m (frL (arcsE es)) (toL (arcsE es)) u v := by
  subst hm
  unfold exL exc
  rw [bsum_two]
  refine bsum_congr fun i hi => ?_
  obtain ⟨h1, h2, h3, h4⟩ := arcsE_fr hi
  rw [h1, h2, h3, h4]
  have key : ∀ (p q : Bool) (A B : Nat), ind (p != q) * (ind (decide ((if p = true then A else B) = v)) - ind (decide ((if p = true then B else A) = v))) = ind p * (ind (decide (A = v)) - ind (decide (B = v))) + ind q * (ind (decide (B = v)) - ind (decide (A = v))) := by
    intro p q A B
    cases p <;> cases q <;> simp [ind] <;> omega
  exact key _ _ _ _

theorem bsum_some {n : Nat} {f : Nat → Int} (h : 0 < bsum n f) : ∃ i, i < n ∧ 0 < f i := by
  apply Classical.byContradiction
  intro hn
  have : bsum n f ≤ bsum n (fun _ => 0) := bsum_le fun i hi => by
    apply Classical.byContradiction
    intro h'
    exact hn ⟨i, hi, by omega⟩
  rw [bsum_zero] at this
  omega

/-- The edge that is taken next: it is left, and goes out of y. -/
def nextP (es : List E) (x L : Nat → Bool) (y i : Nat) : Bool := L i && decide (srcW es x i = y)

/-- In the midst of taking a flow apart: ws are whole ways; l leads from a to y; r are to come behind it. -/
structure Peel (es : List E) (x : Nat → Bool) (a b r : Nat) (L : Nat → Bool) (ws : List (List E)) (y : Nat) (l : List E) : Prop where
  ex : ∀ v, v < 1000 → v ≠ b → exL es x L v = r * ind (decide (v = a)) + ind (decide (v = y))
  nodup : (ws.flatten ++ l).Nodup
  fresh : ∀ i e, es[i]? = some e → L i = true → e ∉ ws.flatten ++ l
  sub : ∀ e, e ∈ ws.flatten ++ l → e ∈ es
  whole : ∀ w, w ∈ ws → Trail w a b
  part : Trail l a y

theorem Peel.exists_next {es : List E} {x : Nat → Bool} {a b r : Nat} {L : Nat → Bool} {ws : List (List E)} {y : Nat} {l : List E} (h : Peel es x a b r L ws y l) (hy : y < 1000) (hyb : y ≠ b) : ∃ i, i < es.length ∧ nextP es x L y i = true := by
  have he := h.ex y hy hyb
  have hp : 0 < exL es x L y := by
    rw [he, decide_eq_true rfl, ind_true]
    have := Int.mul_nonneg (Int.natCast_nonneg r) (ind_nonneg (decide (y = a)))
    omega
  obtain ⟨i, hi, hf⟩ := bsum_some hp
  refine ⟨i, hi, ?_⟩
  unfold nextP
  revert hf
  cases L i <;> by_cases e : srcW es x i = y <;> simp [ind, e]
  split <;> omega

theorem exL_less {es : List E} {x L : Nat → Bool} {i : Nat} (hi : i < es.length) (hL : L i = true) (v : Nat) :
    exL es x (upd L i false) v = exL es x L v - ind (decide (srcW es x i = v)) + ind (decide (dstW es x i = v)) := by
  unfold exL
  rw [bsum_upd (k := i) hi (f := fun j => ind (upd L i false j) * (ind (decide (srcW es x j = v)) - ind (decide (dstW es x j = v)))) (g := fun j => ind (L j) * (ind (decide (srcW es x j = v)) - ind (decide (dstW es x j = v)))) (fun j _ hne => by rw [upd_ne _ _ _ _ hne])]
  simp only [upd_same, hL, ind_true, ind_false]
  omega

theorem Peel.go {es : List E} {x : Nat → Bool} {a b r : Nat} {L : Nat → Bool} {ws : List (List E)} {y : Nat} {l : List E} {i : Nat} {e : E} (h : Peel es x a b r L ws y l) (hn : es.Nodup) (he : es[i]? = some e) (hne : e.a ≠ e.b) (hi : nextP es x L y i = true) :
    Peel es x a b r (upd L i false) ws (if e.a = y then e.b else e.a) (l ++ [e]) := by
  unfold nextP at hi
  rw [Bool.and_eq_true, decide_eq_true_eq] at hi
  obtain ⟨hL, hs⟩ := hi
  have hil := (List.getElem?_eq_some_iff.1 he).1
  have hd : dstW es x i = (if e.a = y then e.b else e.a) ∧ ((e.a = y ∧ (if e.a = y then e.b else e.a) = e.b) ∨ (e.b = y ∧ e.a ≠ y ∧ (if e.a = y then e.b else e.a) = e.a)) := by
    unfold srcW at hs
    unfold dstW
    rw [eA_at he, eB_at he] at *
    by_cases hx : x i = true
    · rw [if_pos hx] at hs ⊢
      rw [if_pos hs]
      exact ⟨rfl, .inl ⟨hs, rfl⟩⟩
    · rw [if_neg hx] at hs ⊢
      have : e.a ≠ y := fun h' => hne (by omega)
      rw [if_neg this]
      exact ⟨rfl, .inr ⟨hs, this, rfl⟩⟩
  obtain ⟨hd1, hd2⟩ := hd
  have hfr := h.fresh i e he hL
  refine ⟨fun v hv hvb => ?_, ?_, fun j f hj hLj => ?_, fun f hf => ?_, h.whole, h.part.snoc hd2⟩
  · rw [exL_less hil hL, h.ex v hv hvb, hs, hd1]
    have e1 : decide (v = y) = decide (y = v) := by rw [decide_eq_decide]; exact eq_comm
    have e2 : decide (v = (if e.a = y then e.b else e.a)) = decide ((if e.a = y then e.b else e.a) = v) := by rw [decide_eq_decide]; exact eq_comm
    rw [e1, e2]; omega
  · rw [← List.append_assoc, List.nodup_append]
    exact ⟨h.nodup, by simp, fun p hp q hq e' => by simp at hq; subst hq; subst e'; exact hfr hp⟩
  · have hji : j ≠ i := fun e' => by subst e'; rw [upd_same] at hLj; cases hLj
    rw [upd_ne _ _ _ _ hji] at hLj
    rw [← List.append_assoc, List.mem_append]
    rintro (h' | h')
    · exact h.fresh j f hj hLj h'
    · simp at h'
      subst h'
      have x1 := List.getElem?_eq_some_iff.1 hj
      have x2 := List.getElem?_eq_some_iff.1 he
      exact hji ((List.getElem_inj hn).1 (x1.2.trans x2.2.symm))
  · rw [← List.append_assoc, List.mem_append] at hf
    rcases hf with hf | hf
    · exact h.sub f hf
    · simp at hf; subst hf; exact List.mem_of_getElem? he

/-- One way is whole. -/
theorem Peel.next {es : List E} {x : Nat → Bool} {a b r : Nat} {L : Nat → Bool} {ws : List (List E)} {l : List E} (h : Peel es x a b (r + 1) L ws b l) : Peel es x a b r L (ws ++ [l]) a [] := by
  have hf : (ws ++ [l]).flatten ++ [] = ws.flatten ++ l := by simp
  refine ⟨fun v hv hvb => ?_, by rw [hf]; exact h.nodup, fun i e he hL => by rw [hf]; exact h.fresh i e he hL, fun e he => by rw [hf] at he; exact h.sub e he, fun w hw => ?_, rfl⟩
  · rw [h.ex v hv hvb, decide_eq_false hvb, ind_false]
    rw [show ((r + 1 : Nat) : Int) = (r : Int) + 1 by omega, Int.add_mul]; omega
  · rcases List.mem_append.1 hw with hw | hw
    · exact h.whole w hw
    · simp at hw; subst hw; exact h.part

theorem Peel.start {es : List E} {u : Nat → Bool} {a b k : Nat} (hk : FlowK (arcsE es).length 1000 (frL (arcsE es)) (toL (arcsE es)) a b u (k + 1)) (hl : (arcsE es).length = 2 * es.length) (ha : a < 1000) :
    Peel es (fun i => u (2 * i)) a b k (fun i => u (2 * i) != u (2 * i + 1)) [] a [] := by
  refine ⟨fun v hv hvb => ?_, by simp, fun _ _ _ _ h => by simp at h, fun _ h => by simp at h, fun _ h => by simp at h, rfl⟩
  rw [exL_flow es u v _ hl]
  by_cases e : v = a
  · subst e
    rw [hk.val, decide_eq_true rfl, ind_true]; omega
  · rw [hk.bal v hv e hvb, decide_eq_false e, ind_false]; omega

/-- What Ways tells: as many ways as are, no edge twice, each from a to b. -/
structure WaysOk (es : List E) (a b : Nat) (ws : List (List E)) : Prop where
  nodup : ws.flatten.Nodup
  sub : ∀ e, e ∈ ws.flatten → e ∈ es
  whole : ∀ w, w ∈ ws → Trail w a b

theorem WaysOk.nil (es : List E) (a b : Nat) : WaysOk es a b [] := ⟨by simp, fun _ h => by simp at h, fun _ h => by simp at h⟩

theorem Peel.ok {es : List E} {x : Nat → Bool} {a b r : Nat} {L : Nat → Bool} {ws : List (List E)} {l : List E} (h : Peel es x a b r L ws b l) : WaysOk es a b (ws ++ [l]) := by
  have hf : (ws ++ [l]).flatten = ws.flatten ++ l := by simp
  refine ⟨by rw [hf]; exact h.nodup, fun e he => by rw [hf] at he; exact h.sub e he, fun w hw => ?_⟩
  rcases List.mem_append.1 hw with hw | hw
  · exact h.whole w hw
  · simp at hw; subst hw; exact h.part

/-- How many edges are left. -/
def leftN (es : List E) (L : Nat → Bool) : Nat := (List.range es.length).countP L

theorem leftN_less {es : List E} {L : Nat → Bool} {i : Nat} (hi : i < es.length) (hL : L i = true) : leftN es (upd L i false) < leftN es L := by
  unfold leftN
  have key : ∀ n, i < n → (List.range n).countP (upd L i false) + 1 = (List.range n).countP L := by
    intro n hn
    induction n with
    | zero => omega
    | succ n ih =>
      rw [List.range_succ, List.countP_append, List.countP_append]
      by_cases e : i = n
      · subst e
        have h1 : (List.range i).countP (upd L i false) = (List.range i).countP L := by
          refine List.countP_congr fun j hj => ?_
          rw [upd_ne _ _ _ _ (by have := List.mem_range.1 hj; omega)]
        rw [h1]
        simp [upd_same, hL]
      · have h2 : upd L i false n = L n := upd_ne _ _ _ _ (fun h => e h.symm)
        have := ih (by omega)
        simp only [List.countP_singleton, h2]
        omega
  have := key _ hi
  omega

end Go.Proofs.YtkpoobnldgfapabGreatDoor.Pl

/- The document's rooms: how many may go from each place to each other one; one more goes, if it can. -/
namespace Go.Proofs.YtkpoobnldgfapabGreatDoor.Pl

/-- What may go out of a set of places. -/
def cutM (N : Nat) (r : Nat → Nat → Int) (R : Nat → Bool) : Int := bsum N fun x => bsum N fun y => ind (R x && !R y) * r x y

def upd2 (r : Nat → Nat → Int) (x y : Nat) (v : Int) : Nat → Nat → Int := fun a b => if a = x ∧ b = y then v else r a b

theorem upd2_at (r : Nat → Nat → Int) (x y : Nat) (v : Int) : upd2 r x y v x y = v := by unfold upd2; simp
theorem upd2_ne {r : Nat → Nat → Int} {x y : Nat} {v : Int} {a b : Nat} (h : ¬ (a = x ∧ b = y)) : upd2 r x y v a b = r a b := by unfold upd2; rw [if_neg h]

theorem cutM_upd {N x y : Nat} (hx : x < N) (hy : y < N) (r : Nat → Nat → Int) (v : Int) (R : Nat → Bool) : cutM N (upd2 r x y v) R = cutM N r R + ind (R x && !R y) * (v - r x y) := by
  unfold cutM
  rw [bsum_upd (k := x) hx (f := fun a => bsum N fun b => ind (R a && !R b) * upd2 r x y v a b) (g := fun a => bsum N fun b => ind (R a && !R b) * r a b) (fun a _ ha => bsum_congr fun b _ => by rw [upd2_ne (fun h => ha h.1)])]
  rw [bsum_upd (n := N) (k := y) hy (f := fun b => ind (R x && !R b) * upd2 r x y v x b) (g := fun b => ind (R x && !R b) * r x b) (fun b _ hb => by rw [upd2_ne (fun h => hb h.2)])]
  rw [upd2_at, Int.mul_sub]
  omega

/-- One step of a way. -/
def step2 (r : Nat → Nat → Int) (x y : Nat) : Nat → Nat → Int := upd2 (upd2 r x y (r x y - 1)) y x (upd2 r x y (r x y - 1) y x + 1)

theorem step2_cut {N x y : Nat} (hx : x < N) (hy : y < N) (r : Nat → Nat → Int) (R : Nat → Bool) : cutM N (step2 r x y) R = cutM N r R - ind (R x) + ind (R y) := by
  unfold step2
  rw [cutM_upd hy hx, cutM_upd hx hy]
  have e1 : ind (R x && !R y) * (r x y - 1 - r x y) = - ind (R x && !R y) := by
    have : r x y - 1 - r x y = -1 := by omega
    rw [this]; omega
  have e2 : ind (R y && !R x) * (upd2 r x y (r x y - 1) y x + 1 - upd2 r x y (r x y - 1) y x) = ind (R y && !R x) := by
    have : upd2 r x y (r x y - 1) y x + 1 - upd2 r x y (r x y - 1) y x = 1 := by omega
    rw [this]; omega
  rw [e1, e2]
  cases R x <;> cases R y <;> simp [ind] <;> omega

theorem cutM_nonneg {N : Nat} {r : Nat → Nat → Int} (h : ∀ x y, x < N → y < N → 0 ≤ r x y) (R : Nat → Bool) : 0 ≤ cutM N r R := by
  unfold cutM
  exact bsum_nonneg fun x hx => bsum_nonneg fun y hy => Int.mul_nonneg (ind_nonneg _) (h x y hx hy)

/-- What a push leaves. -/
structure Pushed (N to : Nat) (seen0 : Nat → Bool) (r : Nat → Nat → Int) (x : Nat) (ok : Bool) (seen : Nat → Bool) (r' : Nat → Nat → Int) : Prop where
  grow : ∀ v, seen0 v = true → seen v = true
  no : ok = false → (∀ u v, r' u v = r u v) ∧ seen x = true ∧ (seen to = true → seen0 to = true) ∧ ∀ v y, v < N → y < N → seen v = true → seen0 v = false → 0 < r v y → seen y = true
  cut : ok = true → ∀ R, cutM N r' R = cutM N r R - ind (R x) + ind (R to)
  row : ∀ u v, seen0 u = true → r u v ≤ r' u v
  col : ∀ u v, seen0 v = true → r' u v ≤ r u v
  up : ∀ u v, r' u v ≤ r u v + 1
  pos : (∀ u v, 0 ≤ r u v) → ∀ u v, 0 ≤ r' u v

/-- In the midst of the places that x may go to. -/
structure Pushing (N to : Nat) (seen0 : Nat → Bool) (r : Nat → Nat → Int) (x j : Nat) (seen : Nat → Bool) : Prop where
  grow : ∀ v, seen0 v = true → seen v = true
  self : seen x = true
  to' : seen to = true → seen0 to = true
  old : ∀ v y, v < N → y < N → seen v = true → seen0 v = false → v ≠ x → 0 < r v y → seen y = true
  new : ∀ y, y < j → y < N → 0 < r x y → seen y = true

theorem Pushed.there (N : Nat) (seen0 : Nat → Bool) (r : Nat → Nat → Int) (x : Nat) : Pushed N x seen0 r x true seen0 r :=
  ⟨fun _ h => h, fun h => (by cases h), fun _ R => by omega, fun _ _ _ => Int.le_refl _, fun _ _ _ => Int.le_refl _, fun _ _ => by omega, fun h => h⟩

theorem Pushing.start {N to : Nat} {seen0 : Nat → Bool} (r : Nat → Nat → Int) {x : Nat} (hne : x ≠ to) : Pushing N to seen0 r x 0 (upd seen0 x true) := by
  refine ⟨fun v h => ?_, by simp [upd], fun h => ?_, fun v y _ _ h h0 hv _ => ?_, fun y h => by omega⟩
  · unfold upd; split <;> simp_all
  · unfold upd at h; rw [if_neg (fun e => hne e.symm)] at h; exact h
  · unfold upd at h; rw [if_neg hv] at h; rw [h] at h0; cases h0

theorem Pushing.skip {N to : Nat} {seen0 seen : Nat → Bool} {r : Nat → Nat → Int} {x j : Nat} (h : Pushing N to seen0 r x j seen) (hk : ¬ 0 < r x j ∨ seen j = true) : Pushing N to seen0 r x (j + 1) seen := by
  refine ⟨h.grow, h.self, h.to', h.old, fun y hy hN hr => ?_⟩
  by_cases e : y = j
  · subst e
    rcases hk with hk | hk
    · exact absurd hr hk
    · exact hk
  · exact h.new y (by omega) hN hr

theorem Pushing.fail {N to : Nat} {seen0 seen seen' : Nat → Bool} {r r' : Nat → Nat → Int} {x j : Nat} (h : Pushing N to seen0 r x j seen) (hp : Pushed N to seen r j false seen' r') : Pushing N to seen0 r x (j + 1) seen' := by
  obtain ⟨_, h1, h2, h3⟩ := hp.no rfl
  refine ⟨fun v hv => hp.grow v (h.grow v hv), hp.grow x h.self, fun ht => h.to' (h2 ht), fun v y hv hy hs h0 hne hr => ?_, fun y hy hN hr => ?_⟩
  · by_cases e : seen v = true
    · exact hp.grow y (h.old v y hv hy e h0 hne hr)
    · exact h3 v y hv hy hs (by simpa using e) hr
  · by_cases e : y = j
    · subst e; exact h1
    · exact hp.grow y (h.new y (by omega) hN hr)

theorem Pushing.stuck {N to : Nat} {seen0 seen : Nat → Bool} {r : Nat → Nat → Int} {x : Nat} (h : Pushing N to seen0 r x N seen) : Pushed N to seen0 r x false seen r := by
  refine ⟨h.grow, fun _ => ⟨fun _ _ => rfl, h.self, h.to', fun v y hv hy hs h0 hr => ?_⟩, fun e => (by cases e), fun _ _ _ => Int.le_refl _, fun _ _ _ => Int.le_refl _, fun _ _ => by omega, fun h => h⟩
  by_cases e : v = x
  · subst e; exact h.new y hy hy hr
  · exact h.old v y hv hy hs h0 e hr

theorem Pushing.goes {N to : Nat} {seen0 seen seen' : Nat → Bool} {r r' : Nat → Nat → Int} {x j : Nat} (hx : x < N) (hj : j < N) (h0 : seen0 x = false) (h : Pushing N to seen0 r x j seen) (hr : 0 < r x j) (hs : seen j = false) (hp : Pushed N to seen r j true seen' r') :
    Pushed N to seen0 r x true seen' (step2 r' x j) := by
  have hxj : x ≠ j := fun e => by have := h.self; rw [e, hs] at this; cases this
  have hj0 : seen0 j = false := by
    cases e : seen0 j with
    | false => rfl
    | true => rw [h.grow j e] at hs; cases hs
  have hval : ∀ u v, step2 r' x j u v = if u = j ∧ v = x then r' j x + 1 else if u = x ∧ v = j then r' x j - 1 else r' u v := by
    intro u v
    unfold step2
    by_cases e1 : u = j ∧ v = x
    · obtain ⟨rfl, rfl⟩ := e1
      rw [upd2_at, upd2_ne (fun h => hxj h.1.symm), if_pos ⟨rfl, rfl⟩]
    · rw [upd2_ne e1, if_neg e1]
      unfold upd2
      rfl
  have hxx := hp.row x j h.self
  have hcx := hp.col j x h.self
  refine ⟨fun v hv => hp.grow v (h.grow v hv), fun e => (by cases e), fun _ R => ?_, fun u v hu => ?_, fun u v hv => ?_, fun u v => ?_, fun hpos u v => ?_⟩
  · rw [step2_cut hx hj, hp.cut rfl R]; omega
  · have h1 : u ≠ x := fun e => by rw [e, h0] at hu; cases hu
    have h2 : u ≠ j := fun e => by rw [e, hj0] at hu; cases hu
    rw [hval, if_neg (fun e => h2 e.1), if_neg (fun e => h1 e.1)]
    exact hp.row u v (h.grow u hu)
  · have h1 : v ≠ x := fun e => by rw [e, h0] at hv; cases hv
    have h2 : v ≠ j := fun e => by rw [e, hj0] at hv; cases hv
    rw [hval, if_neg (fun e => h1 e.2), if_neg (fun e => h2 e.2)]
    exact hp.col u v (h.grow v hv)
  · rw [hval]
    have := hp.up u v
    split
    · rename_i e; obtain ⟨rfl, rfl⟩ := e; omega
    · split
      · rename_i e; obtain ⟨rfl, rfl⟩ := e; omega
      · exact this
  · have hp0 := hp.pos hpos
    rw [hval]
    split
    · have := hp0 j x; omega
    · split
      · rename_i e; obtain ⟨rfl, rfl⟩ := e; omega
      · exact hp0 u v

/-- So many have gone. -/
structure Gone (N s t : Nat) (r0 r : Nat → Nat → Int) (k : Nat) : Prop where
  cut : ∀ R : Nat → Bool, R s = true → R t = false → cutM N r R + k = cutM N r0 R
  pos : ∀ u v, 0 ≤ r u v
  up : ∀ u v, r u v ≤ r0 u v + k

theorem Gone.start (N s t : Nat) {r : Nat → Nat → Int} (h : ∀ u v, 0 ≤ r u v) : Gone N s t r r 0 := ⟨fun _ _ _ => by omega, h, fun _ _ => by omega⟩

theorem Gone.more {N s t : Nat} {r0 r r' : Nat → Nat → Int} {k : Nat} {seen : Nat → Bool} (h : Gone N s t r0 r k) (hp : Pushed N t (fun _ => false) r s true seen r') : Gone N s t r0 r' (k + 1) := by
  refine ⟨fun R h1 h2 => ?_, hp.pos h.pos, fun u v => ?_⟩
  · have a := h.cut R h1 h2
    have b := hp.cut rfl R
    rw [h1, h2, ind_true, ind_false] at b
    omega
  · have a := h.up u v
    have b := hp.up u v
    omega

theorem cutM_zero {N : Nat} {r : Nat → Nat → Int} {R : Nat → Bool} (h : ∀ x y, x < N → y < N → R x = true → R y = false → r x y = 0) : cutM N r R = 0 := by
  unfold cutM
  rw [bsum_congr (g := fun _ => 0) (fun x hx => ?_), bsum_zero]
  rw [bsum_congr (g := fun _ => 0) (fun y hy => ?_), bsum_zero]
  cases hx' : R x with
  | false => simp [ind]
  | true =>
    cases hy' : R y with
    | true => simp [ind]
    | false => rw [h x y hx hy hx' hy']; simp

theorem Gone.le {N s t : Nat} {r0 r : Nat → Nat → Int} {k : Nat} (h : Gone N s t r0 r k) (R : Nat → Bool) (h1 : R s = true) (h2 : R t = false) : (k : Int) ≤ cutM N r0 R := by
  have := h.cut R h1 h2
  have := cutM_nonneg (N := N) (r := r) (fun x y _ _ => h.pos x y) R
  omega

theorem Gone.stuck {N s t : Nat} {r0 r r' : Nat → Nat → Int} {k most : Nat} {seen : Nat → Bool} (h : Gone N s t r0 r k) (hm : k ≤ most) (hp : Pushed N t (fun _ => false) r s false seen r') : MinCap (cutM N r0) s t most k := by
  obtain ⟨_, h1, h2, h3⟩ := hp.no rfl
  have ht : seen t = false := by
    cases e : seen t with
    | false => rfl
    | true => exact (h2 e).symm
  refine ⟨h.le, by omega, by omega, .inr ⟨seen, h1, ht, ?_⟩⟩
  rw [← h.cut seen h1 ht, cutM_zero (fun x y hx hy hsx hsy => ?_)]
  · omega
  · have := h.pos x y
    have h4 := h3 x y hx hy hsx rfl
    by_cases e : 0 < r x y
    · rw [h4 e] at hsy; cases hsy
    · omega

theorem Gone.full {N s t : Nat} {r0 r : Nat → Nat → Int} {k : Nat} (h : Gone N s t r0 r k) : MinCap (cutM N r0) s t k k := ⟨h.le, by omega, by omega, .inl rfl⟩

end Go.Proofs.YtkpoobnldgfapabGreatDoor.Pl

/- The document's rooms of a graph: their least cut is the program's. -/
namespace Go.Proofs.YtkpoobnldgfapabGreatDoor.Pl

/-- As many as there are edges between two places. -/
def mE : List E → Nat → Nat → Int
  | [] => fun _ _ => 0
  | e :: es => fun x y => mE es x y + (ind (decide (x = e.a ∧ y = e.b)) + ind (decide (x = e.b ∧ y = e.a)))

theorem mE_append (es fs : List E) (x y : Nat) : mE (es ++ fs) x y = mE es x y + mE fs x y := by
  induction es with
  | nil => show mE fs x y = 0 + mE fs x y; omega
  | cons e es ih => show mE (es ++ fs) x y + _ = mE es x y + _ + mE fs x y; rw [ih]; omega

theorem mE_nonneg (es : List E) (x y : Nat) : 0 ≤ mE es x y := by
  induction es with
  | nil => exact Int.le_refl _
  | cons e es ih =>
    show 0 ≤ mE es x y + (ind _ + ind _)
    have := ind_nonneg (decide (x = e.a ∧ y = e.b))
    have := ind_nonneg (decide (x = e.b ∧ y = e.a))
    omega

theorem mE_le (es : List E) (x y : Nat) : mE es x y ≤ 2 * es.length := by
  induction es with
  | nil => exact Int.le_refl _
  | cons e es ih =>
    show mE es x y + (ind _ + ind _) ≤ _
    have := ind_le (decide (x = e.a ∧ y = e.b))
    have := ind_le (decide (x = e.b ∧ y = e.a))
    rw [List.length_cons]
    omega

theorem mE_snoc (es : List E) (e : E) : mE (es ++ [e]) = upd2 (upd2 (mE es) e.a e.b (mE es e.a e.b + 1)) e.b e.a (upd2 (mE es) e.a e.b (mE es e.a e.b + 1) e.b e.a + 1) := by
  funext x y
  rw [mE_append]
  show mE es x y + (0 + (ind _ + ind _)) = _
  have hi : ∀ p : Bool, ind p = if p = true then 1 else 0 := fun p => by cases p <;> rfl
  unfold upd2
  simp only [hi, decide_eq_true_eq]
  by_cases h1 : x = e.a ∧ y = e.b <;> by_cases h2 : x = e.b ∧ y = e.a
  · obtain ⟨rfl, rfl⟩ := h1
    obtain ⟨h3, h4⟩ := h2
    simp [h3]
    omega
  · obtain ⟨rfl, rfl⟩ := h1
    simp only [h2, if_false, and_self, if_true]
    omega
  · obtain ⟨rfl, rfl⟩ := h2
    simp only [h1, if_false, and_self, if_true]
    omega
  · simp only [h1, h2, if_false]
    omega

/-- A sum over pairs of which one alone counts. -/
theorem pair_sum {N a b : Nat} (ha : a < N) (hb : b < N) (f : Nat → Nat → Int) : (bsum N fun x => bsum N fun y => f x y * ind (decide (x = a ∧ y = b))) = f a b := by
  rw [bsum_single (k := a) ha (fun x _ hx => ?_), bsum_single (k := b) hb (fun y _ hy => ?_)]
  · simp [ind]
  · simp [ind, hy]
  · rw [bsum_congr (g := fun _ => 0) (fun y _ => by simp [ind, hx]), bsum_zero]

theorem cutM_mE {N : Nat} {es : List E} (h : ∀ e, e ∈ es → e.a < N ∧ e.b < N) (R : Nat → Bool) : cutM N (mE es) R = cutE es R := by
  rw [← capL_edges]
  induction es with
  | nil => unfold cutM; rw [bsum_congr (g := fun _ => 0) (fun x _ => by rw [bsum_congr (g := fun _ => 0) (fun y _ => (by show _ * (0 : Int) = 0; rw [Int.mul_zero])), bsum_zero]), bsum_zero]; rfl
  | cons e es ih =>
    obtain ⟨ha, hb⟩ := h e List.mem_cons_self
    have hc : arcsE (e :: es) = [(e.a, e.b), (e.b, e.a)] ++ arcsE es := rfl
    rw [hc, capL_append, show [(e.a, e.b), (e.b, e.a)] = [(e.a, e.b)] ++ [(e.b, e.a)] from rfl, capL_append, capL_one, capL_one, ← ih (fun f hf => h f (List.mem_cons_of_mem _ hf))]
    have h1 := pair_sum ha hb (fun x y => ind (R x && !R y))
    have h2 := pair_sum hb ha (fun x y => ind (R x && !R y))
    unfold cutM
    rw [← h1, ← h2]
    rw [← bsum_add, ← bsum_add]
    refine bsum_congr fun x _ => ?_
    rw [← bsum_add, ← bsum_add]
    refine bsum_congr fun y _ => ?_
    show _ * (mE es x y + (_ + _)) = _
    rw [Int.mul_add, Int.mul_add]
    omega

/-- Not an edge between both ends. -/
def nd (a b : Nat) (e : E) : Bool := !(decide (e.a = a ∧ e.b = b) || decide (e.a = b ∧ e.b = a))
def adjB (a b : Nat) (es : List E) (u v : Nat) : Bool := es.any fun e => nd a b e && (decide (u = e.a ∧ v = e.b) || decide (u = e.b ∧ v = e.a))
def direct (a b : Nat) (es : List E) : Nat := es.countP fun e => !nd a b e

/-- The document's rooms for nodes: x is the place where one comes in, n + x the place where one goes out. -/
def mN (n a b : Nat) (es : List E) (x y : Nat) : Int :=
  if x < n then (if y = n + x then (if x = a ∨ x = b then 120 else 1) else 0) else if x < 2 * n ∧ y < n then ind (adjB a b es (x - n) y) else 0

def cN (a b x : Nat) : Int := if x = a ∨ x = b then 120 else 1

theorem cutM_mN (n a b : Nat) (es : List E) (R : Nat → Bool) : cutM (n + n) (mN n a b es) R =
    (bsum n fun x => ind (R x && !R (n + x)) * cN a b x) + bsum n fun u => bsum n fun v => ind (R (n + u) && !R v) * ind (adjB a b es u v) := by
  unfold cutM
  rw [bsum_append]
  congr 1
  · refine bsum_congr fun x hx => ?_
    rw [bsum_single (k := n + x) (by omega) (fun y hy hne => ?_)]
    · unfold mN cN; rw [if_pos hx, if_pos rfl]
    · unfold mN; rw [if_pos hx, if_neg hne, Int.mul_zero]
  · refine bsum_congr fun u hu => ?_
    rw [bsum_append]
    rw [bsum_congr (n := n) (f := fun i => ind (R (n + u) && !R (n + i)) * mN n a b es (n + u) (n + i)) (g := fun _ => 0) (fun y _ => ?_), bsum_zero, Int.add_zero]
    · refine bsum_congr fun v hv => ?_
      unfold mN
      rw [if_neg (by omega), if_pos ⟨by omega, hv⟩, Nat.add_sub_cancel_left]
    · unfold mN
      rw [if_neg (by omega), if_neg (by omega), Int.mul_zero]

theorem capL_arcsN (n a b : Nat) (R : Nat → Bool) : capL (arcsN n a b) R = bsum n fun x => if x ≠ a ∧ x ≠ b then ind (R (2 * x) && !R (2 * x + 1)) else 0 := by
  induction n with
  | zero => rfl
  | succ n ih =>
    have : arcsN (n + 1) a b = arcsN n a b ++ if n ≠ a ∧ n ≠ b then [(2 * n, 2 * n + 1)] else [] := by
      unfold arcsN
      rw [List.range_succ, List.filter_append, List.map_append]
      congr 1
      by_cases h : n ≠ a ∧ n ≠ b
      · rw [if_pos h]; simp [h]
      · rw [if_neg h]
        have : decide (n ≠ a ∧ n ≠ b) = false := decide_eq_false h
        rw [List.filter_cons_of_neg (by rw [this]; simp)]
        rfl
    rw [this, capL_append, ih]
    show _ = bsum n _ + (if n ≠ a ∧ n ≠ b then ind (R (2 * n) && !R (2 * n + 1)) else 0)
    congr 1
    by_cases h : n ≠ a ∧ n ≠ b
    · rw [if_pos h, if_pos h, capL_one]
    · rw [if_neg h, if_neg h]; rfl

theorem capL_two (x y : Nat × Nat) (as : List (Nat × Nat)) (R : Nat → Bool) : capL (x :: y :: as) R = ind (R x.1 && !R x.2) + ind (R y.1 && !R y.2) + capL as R := by
  rw [show x :: y :: as = [x] ++ ([y] ++ as) from rfl, capL_append, capL_append, capL_one, capL_one]; omega

theorem ind_or_le (p q : Bool) : ind (p || q) ≤ ind p + ind q := by cases p <;> cases q <;> decide

/-- A cut of the program's places is no less than the document's. -/
theorem room_le {n a b : Nat} {es : List E} (hab : a ≠ b) (hes : ∀ e, e ∈ es → e.a < n ∧ e.b < n) {R R' : Nat → Bool} (hRa : R (2 * a + 1) = true) (hRb : R (2 * b) = false)
    (h1 : ∀ u, u < n → R' (n + u) = true → u ≠ b ∧ R (2 * u + 1) = true) (h2 : ∀ v, v < n → R' v = false → v ≠ a ∧ R (2 * v) = false) :
    (direct a b es : Int) + (bsum n fun u => bsum n fun v => ind (R' (n + u) && !R' v) * ind (adjB a b es u v)) ≤ capL (arcsNE a b es) R := by
  induction es with
  | nil =>
    have : (bsum n fun u => bsum n fun v => ind (R' (n + u) && !R' v) * ind (adjB a b [] u v)) = 0 := by
      rw [bsum_congr (g := fun _ => 0) (fun x _ => by rw [bsum_congr (g := fun _ => 0) (fun y _ => by show _ * (0 : Int) = 0; rw [Int.mul_zero]), bsum_zero]), bsum_zero]
    rw [this]
    exact Int.le_refl _
  | cons e es ih =>
    have ih := ih (fun f hf => hes f (List.mem_cons_of_mem _ hf))
    obtain ⟨ha, hb⟩ := hes e List.mem_cons_self
    have hc : arcsNE a b (e :: es) = (outP b e.a, intoP a e.b) :: (outP b e.b, intoP a e.a) :: arcsNE a b es := rfl
    rw [hc, capL_two]
    simp only
    have hx : ∀ u v, u < n → v < n → ind (R' (n + u) && !R' v) ≤ ind (R (outP b u) && !R (intoP a v)) := by
      intro u v hu hv
      cases e1 : R' (n + u) with
      | false => simp [ind]; split <;> omega
      | true =>
        cases e2 : R' v with
        | true => simp [ind]; split <;> omega
        | false =>
          obtain ⟨k1, k2⟩ := h1 u hu e1
          obtain ⟨k3, k4⟩ := h2 v hv e2
          unfold outP intoP
          rw [if_neg k1, if_neg k3, k2, k4]
          exact Int.le_refl _
    have hany : ∀ u v, adjB a b (e :: es) u v = ((nd a b e && (decide (u = e.a ∧ v = e.b) || decide (u = e.b ∧ v = e.a))) || adjB a b es u v) := fun u v => List.any_cons
    cases hn : nd a b e with
    | true =>
      have hd : direct a b (e :: es) = direct a b es := by unfold direct; rw [List.countP_cons]; simp [hn]
      rw [hd]
      have p1 := pair_sum ha hb (fun u v => ind (R' (n + u) && !R' v))
      have p2 := pair_sum hb ha (fun u v => ind (R' (n + u) && !R' v))
      have x1 := hx e.a e.b ha hb
      have x2 := hx e.b e.a hb ha
      have hs : (bsum n fun u => bsum n fun v => ind (R' (n + u) && !R' v) * ind (adjB a b (e :: es) u v)) ≤
          (bsum n fun u => bsum n fun v => ind (R' (n + u) && !R' v) * ind (decide (u = e.a ∧ v = e.b))) + (bsum n fun u => bsum n fun v => ind (R' (n + u) && !R' v) * ind (decide (u = e.b ∧ v = e.a))) +
          (bsum n fun u => bsum n fun v => ind (R' (n + u) && !R' v) * ind (adjB a b es u v)) := by
        rw [← bsum_add, ← bsum_add]
        refine bsum_le fun u _ => ?_
        rw [← bsum_add, ← bsum_add]
        refine bsum_le fun v _ => ?_
        rw [← Int.mul_add, ← Int.mul_add]
        refine Int.mul_le_mul_of_nonneg_left ?_ (ind_nonneg _)
        rw [hany, hn, Bool.true_and]
        have := ind_or_le (decide (u = e.a ∧ v = e.b) || decide (u = e.b ∧ v = e.a)) (adjB a b es u v)
        have := ind_or_le (decide (u = e.a ∧ v = e.b)) (decide (u = e.b ∧ v = e.a))
        omega
      rw [p1, p2] at hs
      omega
    | false =>
      have hd : direct a b (e :: es) = direct a b es + 1 := by unfold direct; rw [List.countP_cons]; simp [hn]
      rw [hd]
      have hs : (bsum n fun u => bsum n fun v => ind (R' (n + u) && !R' v) * ind (adjB a b (e :: es) u v)) = (bsum n fun u => bsum n fun v => ind (R' (n + u) && !R' v) * ind (adjB a b es u v)) := by
        refine bsum_congr fun u _ => bsum_congr fun v _ => ?_
        rw [hany, hn, Bool.false_and, Bool.false_or]
      rw [hs]
      have hone : ind (R (outP b a) && !R (intoP a b)) = 1 := by
        unfold outP intoP
        rw [if_neg hab, if_neg (fun e => hab e.symm), hRa, hRb]; rfl
      have n1 := ind_nonneg (R (outP b e.a) && !R (intoP a e.b))
      have n2 := ind_nonneg (R (outP b e.b) && !R (intoP a e.a))
      unfold nd at hn
      have hn' : (e.a = a ∧ e.b = b) ∨ (e.a = b ∧ e.b = a) := by
        rw [Bool.not_eq_false', Bool.or_eq_true, decide_eq_true_eq, decide_eq_true_eq] at hn
        exact hn
      rcases hn' with ⟨k1, k2⟩ | ⟨k1, k2⟩
      · rw [k1, k2] at n1 n2 ⊢; omega
      · rw [k1, k2] at n1 n2 ⊢; omega

/-- The cut of the program's places that goes through no edge but those between both ends. -/
def anyU (n a b : Nat) (es : List E) (R' : Nat → Bool) (x : Nat) : Bool := (List.range n).any fun u => R' (n + u) && adjB a b es u x
def RR (n a b : Nat) (es : List E) (R' : Nat → Bool) (z : Nat) : Bool :=
  if z % 2 = 0 then (if z / 2 = b then false else R' (z / 2) || anyU n a b es R' (z / 2)) else (if z / 2 = a then true else R' (n + z / 2) && !adjB a b es (z / 2) b)

theorem RR_in (n a b : Nat) (es : List E) (R' : Nat → Bool) (x : Nat) : RR n a b es R' (2 * x) = if x = b then false else R' x || anyU n a b es R' x := by
  unfold RR
  have h1 : 2 * x % 2 = 0 := by omega
  have h2 : 2 * x / 2 = x := by omega
  rw [if_pos h1, h2]
theorem RR_out (n a b : Nat) (es : List E) (R' : Nat → Bool) (x : Nat) : RR n a b es R' (2 * x + 1) = if x = a then true else R' (n + x) && !adjB a b es x b := by
  unfold RR
  have h1 : ¬ (2 * x + 1) % 2 = 0 := by omega
  have h2 : (2 * x + 1) / 2 = x := by omega
  rw [if_neg h1, h2]

theorem adjB_of {a b : Nat} {es : List E} {e : E} (he : e ∈ es) (hn : nd a b e = true) : adjB a b es e.a e.b = true ∧ adjB a b es e.b e.a = true := by
  unfold adjB
  exact ⟨List.any_eq_true.2 ⟨e, he, by simp [hn]⟩, List.any_eq_true.2 ⟨e, he, by simp [hn]⟩⟩

theorem RR_no {n a b : Nat} {es : List E} {R' : Nat → Bool} (hRa : R' (n + a) = true) {u v : Nat} (hu : u < n) (hv : v < n) (hadj : adjB a b es u v = true) (hdir : ¬ (u = a ∧ v = b)) :
    ind (RR n a b es R' (outP b u) && !RR n a b es R' (intoP a v)) = 0 := by
  unfold outP intoP
  by_cases h1 : u = b
  · rw [if_pos h1, RR_in, if_pos rfl]; rfl
  · by_cases h2 : v = a
    · rw [if_neg h1, if_pos h2, RR_out n a b es R' a, if_pos rfl]; simp [ind]
    · rw [if_neg h1, if_neg h2, RR_out, RR_in]
      by_cases h3 : v = b
      · have h4 : u ≠ a := fun e => hdir ⟨e, h3⟩
        have hadj' : adjB a b es u b = true := h3 ▸ hadj
        rw [if_neg h4, hadj']; simp [ind]
      · rw [if_neg h3]
        by_cases h4 : u = a
        · have : anyU n a b es R' v = true := List.any_eq_true.2 ⟨u, List.mem_range.2 hu, by rw [show R' (n + u) = true from by rw [h4]; exact hRa, hadj]; rfl⟩
          rw [this]; simp [ind]
        · rw [if_neg h4]
          cases hR : R' (n + u) with
          | false => rfl
          | true =>
            have : anyU n a b es R' v = true := List.any_eq_true.2 ⟨u, List.mem_range.2 hu, by rw [hR, hadj]; rfl⟩
            rw [this]; simp [ind]

theorem RR_edges {n a b : Nat} {es : List E} (hes : ∀ e, e ∈ es → e.a < n ∧ e.b < n) {R' : Nat → Bool} (hRa : R' (n + a) = true) (fs : List E) (hf : ∀ e, e ∈ fs → e ∈ es) :
    capL (arcsNE a b fs) (RR n a b es R') ≤ direct a b fs := by
  induction fs with
  | nil => exact Int.le_refl _
  | cons e fs ih =>
    have ih := ih (fun f hf' => hf f (List.mem_cons_of_mem _ hf'))
    have he := hf e List.mem_cons_self
    obtain ⟨ha, hb⟩ := hes e he
    have hc : arcsNE a b (e :: fs) = (outP b e.a, intoP a e.b) :: (outP b e.b, intoP a e.a) :: arcsNE a b fs := rfl
    rw [hc, capL_two]
    simp only
    cases hn : nd a b e with
    | true =>
      have hd : direct a b (e :: fs) = direct a b fs := by unfold direct; rw [List.countP_cons]; simp [hn]
      obtain ⟨q1, q2⟩ := adjB_of he hn
      have hn' : ¬ ((e.a = a ∧ e.b = b) ∨ (e.a = b ∧ e.b = a)) := by
        unfold nd at hn
        rw [Bool.not_eq_true', Bool.or_eq_false_iff, decide_eq_false_iff_not, decide_eq_false_iff_not] at hn
        exact fun h => h.elim hn.1 hn.2
      rw [hd, RR_no hRa ha hb q1 (fun h => hn' (.inl h)), RR_no hRa hb ha q2 (fun h => hn' (.inr ⟨h.2, h.1⟩))]
      omega
    | false =>
      have hd : direct a b (e :: fs) = direct a b fs + 1 := by unfold direct; rw [List.countP_cons]; simp [hn]
      rw [hd]
      have hz : ind (RR n a b es R' (outP b b) && !RR n a b es R' (intoP a a)) = 0 := by
        unfold outP
        rw [if_pos rfl, RR_in, if_pos rfl]; rfl
      have l1 := ind_le (RR n a b es R' (outP b a) && !RR n a b es R' (intoP a b))
      have hn' : (e.a = a ∧ e.b = b) ∨ (e.a = b ∧ e.b = a) := by
        unfold nd at hn
        rw [Bool.not_eq_false', Bool.or_eq_true, decide_eq_true_eq, decide_eq_true_eq] at hn
        exact hn
      rcases hn' with ⟨k1, k2⟩ | ⟨k1, k2⟩
      · rw [k1, k2, hz]; omega
      · rw [k1, k2, hz]; omega

theorem ind_any {l : List Nat} (p : Nat → Bool) : ind (l.any p) ≤ (l.map fun u => ind (p u)).sum := by
  induction l with
  | nil => exact Int.le_refl _
  | cons x l ih =>
    rw [List.any_cons, List.map_cons, List.sum_cons]
    have := ind_or_le (p x) (l.any p)
    omega

theorem sum_range (n : Nat) (f : Nat → Int) : ((List.range n).map f).sum = bsum n f := by
  induction n with
  | zero => rfl
  | succ n ih => rw [List.range_succ, List.map_append, List.sum_append, ih]; simp [bsum]

theorem ind_and (p q : Bool) : ind (p && q) = ind p * ind q := by cases p <;> cases q <;> rfl

theorem room_ge {n a b : Nat} {es : List E} (hb : b < n) (hes : ∀ e, e ∈ es → e.a < n ∧ e.b < n) {R' : Nat → Bool} (hRa : R' (n + a) = true) (hRb : R' b = false) :
    capL (arcsN n a b ++ arcsNE a b es) (RR n a b es R') ≤ direct a b es + cutM (n + n) (mN n a b es) R' := by
  rw [capL_append, cutM_mN]
  have h1 := RR_edges (b := b) hes hRa es (fun _ h => h)
  have h2 : capL (arcsN n a b) (RR n a b es R') ≤ (bsum n fun x => ind (R' x && !R' (n + x)) * cN a b x) + bsum n fun u => bsum n fun v => ind (R' (n + u) && !R' v) * ind (adjB a b es u v) := by
    rw [capL_arcsN, bsum_swap n n]
    have hg0 : ∀ v, 0 ≤ bsum n fun u => ind (R' (n + u) && !R' v) * ind (adjB a b es u v) := fun v => bsum_nonneg fun u _ => Int.mul_nonneg (ind_nonneg _) (ind_nonneg _)
    have hg : ∀ v, ind (!R' v && anyU n a b es R' v) ≤ bsum n fun u => ind (R' (n + u) && !R' v) * ind (adjB a b es u v) := by
      intro v
      have h := ind_any (l := List.range n) (fun u => R' (n + u) && adjB a b es u v)
      rw [sum_range] at h
      rw [ind_and]
      cases hv : R' v with
      | true => have := hg0 v; rw [hv] at this; simpa [ind] using this
      | false =>
        have : (bsum n fun u => ind (R' (n + u) && !false) * ind (adjB a b es u v)) = bsum n fun u => ind (R' (n + u) && adjB a b es u v) := bsum_congr fun u _ => by rw [ind_and (R' (n + u)) (adjB a b es u v)]; simp
        rw [this]
        have e1 : ind (!false) = 1 := rfl
        rw [e1, Int.one_mul]
        exact h
    -- the sum over v, b's own apart
    have hsum := bsum_upd (n := n) (k := b) hb (f := fun v => bsum n fun u => ind (R' (n + u) && !R' v) * ind (adjB a b es u v)) (g := fun v => if v = b then 0 else bsum n fun u => ind (R' (n + u) && !R' v) * ind (adjB a b es u v)) (fun v _ hv => by rw [if_neg hv])
    simp only [if_true] at hsum
    rw [hsum]
    have hbb : (bsum n fun u => ind (R' (n + u) && !R' b) * ind (adjB a b es u b)) = bsum n fun x => ind (R' (n + x) && adjB a b es x b) := bsum_congr fun u _ => by rw [hRb, ind_and (R' (n + u)) (adjB a b es u b)]; simp
    rw [hbb, Int.sub_zero, ← bsum_add, ← bsum_add]
    refine bsum_le fun x hx => ?_
    have p1 : 0 ≤ ind (R' x && !R' (n + x)) * cN a b x := Int.mul_nonneg (ind_nonneg _) (by unfold cN; split <;> omega)
    have p2 := ind_nonneg (R' (n + x) && adjB a b es x b)
    by_cases hx2 : x ≠ a ∧ x ≠ b
    · rw [if_pos hx2, if_neg hx2.2, RR_in, RR_out, if_neg hx2.2, if_neg hx2.1]
      have hc : cN a b x = 1 := by unfold cN; rw [if_neg (fun h => h.elim hx2.1 hx2.2)]
      rw [hc, Int.mul_one]
      have hgx := hg x
      have key : ind ((R' x || anyU n a b es R' x) && !(R' (n + x) && !adjB a b es x b)) ≤ ind (R' x && !R' (n + x)) + (ind (!R' x && anyU n a b es R' x) + ind (R' (n + x) && adjB a b es x b)) := by
        cases R' x <;> cases R' (n + x) <;> cases anyU n a b es R' x <;> cases adjB a b es x b <;> decide
      omega
    · rw [if_neg hx2]
      have := hg0 x
      split <;> omega
  omega

theorem room_low {n a b v : Nat} {most : Int} {es : List E} (hab : a ≠ b) (ha : a < n) (hb : b < n) (hes : ∀ e, e ∈ es → e.a < n ∧ e.b < n) (h : MinCap (cutM (n + n) (mN n a b es)) a (n + b) most v) {R : Nat → Bool} (hRa : R (2 * a + 1) = true) (hRb : R (2 * b) = false) :
    (direct a b es : Int) + v ≤ capL (arcsN n a b ++ arcsNE a b es) R := by
  obtain ⟨R', hR'⟩ : ∃ R' : Nat → Bool, R' = fun y => if y = a then true else if y = n + b then false else if y < n then R (2 * y) else R (2 * (y - n) + 1) := ⟨_, rfl⟩
  have e1 : R' a = true := by rw [hR']; simp
  have e2 : R' (n + b) = false := by rw [hR']; show (if n + b = a then true else if n + b = n + b then false else _) = false; rw [if_neg (by omega), if_pos rfl]
  have ein : ∀ x, x < n → x ≠ a → R' x = R (2 * x) := fun x hx hne => by rw [hR']; show (if x = a then true else if x = n + b then false else if x < n then R (2 * x) else _) = _; rw [if_neg hne, if_neg (by omega), if_pos hx]
  have eout : ∀ x, x < n → x ≠ b → R' (n + x) = R (2 * x + 1) := fun x hx hne => by rw [hR']; show (if n + x = a then true else if n + x = n + b then false else if n + x < n then _ else R (2 * (n + x - n) + 1)) = _; rw [if_neg (by omega), if_neg (by omega), if_neg (by omega), Nat.add_sub_cancel_left]
  have hle := h.le R' e1 e2
  have h1 := room_le (R := R) (R' := R') hab hes hRa hRb (fun u hu e => by
      have hub : u ≠ b := fun k => by rw [k, e2] at e; cases e
      exact ⟨hub, by rw [← eout u hu hub]; exact e⟩) (fun v hv e => by
      have hva : v ≠ a := fun k => by rw [k, e1] at e; cases e
      exact ⟨hva, by rw [← ein v hv hva]; exact e⟩)
  rw [cutM_mN] at hle
  have h2 : (bsum n fun x => ind (R' x && !R' (n + x)) * cN a b x) ≤ capL (arcsN n a b) R := by
    rw [capL_arcsN]
    refine bsum_le fun x hx => ?_
    by_cases k1 : x = a
    · rw [k1, if_neg (fun h => h.1 rfl), eout a ha hab, hRa]; simp [ind]
    · by_cases k2 : x = b
      · rw [k2, if_neg (fun h => h.2 rfl), ein b hb (fun e => hab e.symm), hRb]; simp [ind]
      · rw [if_pos ⟨k1, k2⟩, ein x hx k1, eout x hx k2]
        have hc : cN a b x = 1 := by unfold cN; rw [if_neg (fun h => h.elim k1 k2)]
        rw [hc, Int.mul_one]
        exact Int.le_refl _
  rw [capL_append]
  omega

/-- The document's way to count by nodes is the program's. -/
theorem room_nodes {n a b most v : Nat} {es : List E} (hab : a ≠ b) (ha : a < n) (hb : b < n) (hm : most ≤ 120) (hes : ∀ e, e ∈ es → e.a < n ∧ e.b < n) (h : MinCap (cutM (n + n) (mN n a b es)) a (n + b) most v) :
    MinCap (capL (arcsN n a b ++ arcsNE a b es)) (2 * a + 1) (2 * b) most (min most (direct a b es + v) : Nat) := by
  refine ⟨fun R hRa hRb => ?_, by omega, by omega, ?_⟩
  · have := room_low hab ha hb hes h hRa hRb
    omega
  · rcases h.tight with e | ⟨R', r1, r2, r3⟩
    · left
      have e' : v = most := by omega
      rw [e']; congr 1; omega
    · by_cases hv : v < most
      · have hbig : ∀ x, x < n → (x = a ∨ x = b) → R' x = true → R' (n + x) = false → False := by
          intro x hx hxa k1 k2
          have : (120 : Int) ≤ cutM (n + n) (mN n a b es) R' := by
            rw [cutM_mN]
            have q0 : 0 ≤ bsum n fun u => bsum n fun v => ind (R' (n + u) && !R' v) * ind (adjB a b es u v) := bsum_nonneg fun u _ => bsum_nonneg fun v _ => Int.mul_nonneg (ind_nonneg _) (ind_nonneg _)
            have q1 : (bsum n fun y => if y = x then (120 : Int) else 0) ≤ bsum n fun x => ind (R' x && !R' (n + x)) * cN a b x := by
              refine bsum_le fun y hy => ?_
              split
              · rename_i e
                subst e
                rw [k1, k2]
                unfold cN
                rw [if_pos hxa]
                decide
              · exact Int.mul_nonneg (ind_nonneg _) (by unfold cN; split <;> omega)
            rw [bsum_single hx (fun i _ hi => if_neg hi), if_pos rfl] at q1
            omega
          omega
        have hRa : R' (n + a) = true := by
          cases e : R' (n + a) with
          | true => rfl
          | false => exact (hbig a ha (.inl rfl) r1 e).elim
        have hRb : R' b = false := by
          cases e : R' b with
          | false => rfl
          | true => exact (hbig b hb (.inr rfl) e r2).elim
        have hge := room_ge hb hes hRa hRb
        have g1 : RR n a b es R' (2 * a + 1) = true := by rw [RR_out, if_pos rfl]
        have g2 : RR n a b es R' (2 * b) = false := by rw [RR_in, if_pos rfl]
        by_cases hmin : direct a b es + v < most
        · right
          obtain ⟨R, hR⟩ : ∃ R, RR n a b es R' = R := ⟨_, rfl⟩
          rw [hR] at hge g1 g2
          refine ⟨R, g1, g2, ?_⟩
          have low := room_low hab ha hb hes h g1 g2
          omega
        · left; congr 1; omega
      · left
        have := h.upto
        congr 1; omega

end Go.Proofs.YtkpoobnldgfapabGreatDoor.Pl

/- The document's rooms for nodes: how they are made. -/
namespace Go.Proofs.YtkpoobnldgfapabGreatDoor.Pl

/-- The first i nodes may be gone through. -/
def mI (n i : Nat) (x y : Nat) : Int := if x < i ∧ y = n + x then 1 else 0

theorem mI_zero (n : Nat) : mI n 0 = fun _ _ => 0 := by funext x y; unfold mI; rw [if_neg (by omega)]
theorem mI_succ (n i : Nat) : upd2 (mI n i) i (n + i) 1 = mI n (i + 1) := by
  funext x y
  unfold upd2 mI
  by_cases h1 : x = i ∧ y = n + i
  · rw [if_pos h1, if_pos (by omega)]
  · rw [if_neg h1]
    by_cases h2 : x < i ∧ y = n + x
    · rw [if_pos h2, if_pos (by omega)]
    · rw [if_neg h2, if_neg (by omega)]

/-- Both ends: as often as one likes. -/
theorem mN_start {n a b : Nat} (ha : a < n) (hb : b < n) : upd2 (upd2 (mI n n) a (n + a) 120) b (n + b) 120 = mN n a b [] := by
  funext x y
  unfold upd2 mI mN
  have hadj : adjB a b [] (x - n) y = false := rfl
  rw [hadj]
  simp only [ind, Bool.false_eq_true, if_false]
  by_cases h1 : x = b ∧ y = n + b
  · rw [if_pos h1, if_pos (by omega), if_pos (by omega), if_pos (by omega)]
  · rw [if_neg h1]
    by_cases h2 : x = a ∧ y = n + a
    · rw [if_pos h2, if_pos (by omega), if_pos (by omega), if_pos (by omega)]
    · rw [if_neg h2]
      by_cases h3 : x < n
      · rw [if_pos h3]
        by_cases h4 : y = n + x
        · rw [if_pos ⟨h3, h4⟩, if_pos h4, if_neg (by omega)]
        · rw [if_neg (by omega), if_neg h4]
      · rw [if_neg (by omega), if_neg h3]
        split <;> rfl

theorem adjB_snoc (a b : Nat) (es : List E) (e : E) (u v : Nat) : adjB a b (es ++ [e]) u v = (adjB a b es u v || (nd a b e && (decide (u = e.a ∧ v = e.b) || decide (u = e.b ∧ v = e.a)))) := by
  unfold adjB; rw [List.any_append]; simp

theorem mN_snoc {n a b : Nat} {es : List E} {e : E} (ha : e.a < n) (hb : e.b < n) : mN n a b (es ++ [e]) = if nd a b e = true then upd2 (upd2 (mN n a b es) (n + e.a) e.b 1) (n + e.b) e.a 1 else mN n a b es := by
  by_cases hn : nd a b e = true
  · rw [if_pos hn]
    funext x y
    unfold upd2 mN
    rw [adjB_snoc, hn, Bool.true_and]
    by_cases h1 : x = n + e.b ∧ y = e.a
    · have h2 : decide (x - n = e.b ∧ y = e.a) = true := by simp; omega
      rw [if_pos h1, if_neg (by omega), if_pos (by omega), h2]; simp [ind]
    · rw [if_neg h1]
      by_cases h3 : x = n + e.a ∧ y = e.b
      · have h2 : decide (x - n = e.a ∧ y = e.b) = true := by simp; omega
        rw [if_pos h3, if_neg (by omega), if_pos (by omega), h2]; simp [ind]
      · rw [if_neg h3]
        by_cases h4 : x < n
        · rw [if_pos h4, if_pos h4]
        · rw [if_neg h4, if_neg h4]
          have h5 : decide (x - n = e.a ∧ y = e.b) = false := by simp; omega
          have h6 : decide (x - n = e.b ∧ y = e.a) = false := by simp; omega
          rw [h5, h6]; simp
  · rw [if_neg hn]
    funext x y
    unfold mN
    rw [adjB_snoc, Bool.eq_false_iff.2 hn]; simp

theorem direct_snoc (a b : Nat) (es : List E) (e : E) : direct a b (es ++ [e]) = direct a b es + (if nd a b e = true then 0 else 1) := by
  unfold direct
  rw [List.countP_append, List.countP_singleton]
  cases nd a b e <;> simp

theorem mN_bound (n a b : Nat) (es : List E) (x y : Nat) : 0 ≤ mN n a b es x y ∧ mN n a b es x y ≤ 120 := by
  unfold mN
  have h1 := ind_nonneg (adjB a b es (x - n) y)
  have h2 := ind_le (adjB a b es (x - n) y)
  split
  · split
    · split <;> omega
    · omega
  · split <;> omega

/-- An edge that is named from the lesser end is between both just if its ends are the least and the greatest. -/
theorem nd_iff {a b : Nat} {e : E} (h : e.a < e.b) : nd a b e = !(decide (e.a = min a b) && decide (e.b = max a b)) := by
  unfold nd
  congr 1
  rw [Bool.eq_iff_iff, Bool.or_eq_true, Bool.and_eq_true, decide_eq_true_eq, decide_eq_true_eq, decide_eq_true_eq, decide_eq_true_eq]
  by_cases hab : a ≤ b
  · rw [Nat.min_eq_left hab, Nat.max_eq_right hab]; omega
  · rw [Nat.min_eq_right (by omega), Nat.max_eq_left (by omega)]; omega

theorem direct_le (a b : Nat) (es : List E) : direct a b es ≤ es.length := List.countP_le_length

end Go.Proofs.YtkpoobnldgfapabGreatDoor.Pl

/- isthmuslaw.FlowCounts in plain terms: both graphs count alike; a told way is gone along. -/
namespace Go.Proofs.YtkpoobnldgfapabGreatDoor.Pl

theorem perm_of_sub {l es : List E} (hn : l.Nodup) (hs : ∀ e, e ∈ l → e ∈ es) (hl : l.length = es.length) : l.Perm es := by
  induction l generalizing es with
  | nil => rw [List.eq_nil_of_length_eq_zero hl.symm]
  | cons a l ih =>
    rw [List.nodup_cons] at hn
    have ha := hs a (by simp)
    have h0 := List.length_pos_of_mem ha
    have := ih (es := es.erase a) hn.2 (fun e he => (List.mem_erase_of_ne (fun h => hn.1 (by rw [← h]; exact he))).2 (hs e (by simp [he]))) (by
      rw [List.length_erase_of_mem ha]
      rw [List.length_cons] at hl
      omega)
    exact (this.cons a).trans (List.perm_cons_erase ha).symm

/-- As many, and the same ones. -/
theorem Made.perm' {n m : Nat} {es fs : List E} (h : Made n m es fs) : es.Perm fs :=
  perm_of_sub (List.Pairwise.imp (fun hlt e => by rw [e] at hlt; omega) h.sorted) (fun e he => (h.mem e).1 he) h.len

theorem cutE_perm {es fs : List E} (h : es.Perm fs) : cutE es = cutE fs := by
  funext R; unfold cutE; rw [h.countP_eq]

theorem capL_perm {as bs : List (Nat × Nat)} (h : as.Perm bs) : capL as = capL bs := by
  funext R; unfold capL; rw [h.countP_eq]

theorem capN_perm {n a b : Nat} {es fs : List E} (h : es.Perm fs) : capL (arcsN n a b ++ arcsNE a b es) = capL (arcsN n a b ++ arcsNE a b fs) := by
  refine capL_perm (List.Perm.append_left _ ?_)
  unfold arcsNE
  exact h.flatMap_right _

theorem MinCap.same {c : (Nat → Bool) → Int} {s t : Nat} {most : Nat} {v v' : Nat} (h : MinCap c s t most v) (h' : MinCap c s t most v') : v = v' := by
  have := h.unique h'; omega

/-- The first edge of the rest of a way. -/
theorem Trail.at {l : List E} {k : Nat} {e : E} {y t : Nat} (hk : l[k]? = some e) (h : Trail (l.drop k) y t) :
    (e.a = y ∧ Trail (l.drop (k + 1)) e.b t) ∨ (e.b = y ∧ e.a ≠ y ∧ Trail (l.drop (k + 1)) e.a t) := by
  have hl := (List.getElem?_eq_some_iff.1 hk)
  rw [List.drop_eq_getElem_cons hl.1, hl.2] at h
  exact h

theorem Trail.end {l : List E} {k : Nat} {y t : Nat} (hk : k = l.length) (h : Trail (l.drop k) y t) : y = t := by
  rw [hk, List.drop_length] at h; exact h

end Go.Proofs.YtkpoobnldgfapabGreatDoor.Pl
