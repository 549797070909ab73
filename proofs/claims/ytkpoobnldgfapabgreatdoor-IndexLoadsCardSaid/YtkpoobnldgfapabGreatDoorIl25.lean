/- Part 25 of the proof: D2. -/
import Derived.Test.YtkpoobnldgfapabGreatDoorIl14
import Derived.Test.YtkpoobnldgfapabGreatDoorIl15
import Derived.Test.YtkpoobnldgfapabGreatDoorIl18
set_option linter.unusedVariables false
set_option linter.unusedSimpArgs false
namespace Go.Proofs.YtkpoobnldgfapabGreatDoor.Pl
end Go.Proofs.YtkpoobnldgfapabGreatDoor.Pl
namespace Go.Proofs.YtkpoobnldgfapabGreatDoor.Pl
def delAt (es : List E) (k : Nat) : List E := es.take k ++ es.drop (k + 1)
def Nd (es : List E) : Prop := es.Pairwise (fun e f => e.id ≠ f.id)
theorem Sorted.nd {es : List E} (h : Sorted es) : Nd es := h.imp (fun h e => by omega)
theorem delAt_sublist (es : List E) (k : Nat) : (delAt es k).Sublist es := by
  unfold delAt
  have h := List.drop_sublist_drop_left es (show k ≤ k + 1 by omega)
  have h2 : (es.take k ++ es.drop (k + 1)).Sublist (es.take k ++ es.drop k) := List.Sublist.append (List.Sublist.refl _) h
  rw [List.take_append_drop] at h2
  exact h2
theorem delAt_length {es : List E} {k : Nat} (hk : k < es.length) : (delAt es k).length + 1 = es.length := by
  unfold delAt
  rw [List.length_append, List.length_take, List.length_drop]
  omega
theorem Nd.ne {es : List E} (h : Nd es) {i j : Nat} {e f : E} (hi : es[i]? = some e) (hj : es[j]? = some f) (hij : i ≠ j) : e.id ≠ f.id := by
  obtain ⟨h1, h2⟩ := List.getElem?_eq_some_iff.1 hi
  obtain ⟨h3, h4⟩ := List.getElem?_eq_some_iff.1 hj
  unfold Nd at h
  rw [List.pairwise_iff_getElem] at h
  rcases Nat.lt_trichotomy i j with g | g | g
  · have := h i j h1 h3 g
    rw [h2, h4] at this
    exact this
  · exact absurd g hij
  · have := h j i h3 h1 g
    rw [h2, h4] at this
    exact fun e => this e.symm
theorem mem_delAt {es : List E} (h : Nd es) {k : Nat} {e : E} (hk : es[k]? = some e) (f : E) : f ∈ delAt es k ↔ f ∈ es ∧ f.id ≠ e.id := by
  unfold delAt
  rw [List.mem_append]
  constructor
  · rintro (hf | hf)
    · obtain ⟨i, hi, hfi⟩ := mem_take_get hf
      exact ⟨List.mem_of_getElem? hfi, h.ne hfi hk (by omega)⟩
    · obtain ⟨i, hi, hfi⟩ := mem_drop_get hf
      exact ⟨List.mem_of_getElem? hfi, h.ne hfi hk (by omega)⟩
  · rintro ⟨hf, hne⟩
    obtain ⟨i, hi⟩ := List.mem_iff_getElem?.1 hf
    rcases Nat.lt_trichotomy i k with g | g | g
    · refine .inl (List.mem_iff_getElem?.2 ⟨i, ?_⟩)
      rw [List.getElem?_take, if_pos g]; exact hi
    · subst g
      rw [hk] at hi
      cases hi
      exact absurd rfl hne
    · refine .inr (List.mem_iff_getElem?.2 ⟨i - (k + 1), ?_⟩)
      rw [List.getElem?_drop]
      have : k + 1 + (i - (k + 1)) = i := by omega
      rw [this]; exact hi
structure GM (n : Nat) (es fs : List E) : Prop where
  sorted : Sorted es
  over : ∀ e, e ∈ es → e.a < n ∧ e.b < n
  mem : ∀ e, e ∈ es ↔ e ∈ fs
  len : es.length = fs.length
  le : es.length ≤ 120
  nd : Nd fs
theorem GM.nil (n : Nat) : GM n [] [] := ⟨List.Pairwise.nil, fun _ h => (by cases h), fun _ => Iff.rfl, rfl, by simp, List.Pairwise.nil⟩
theorem GM.hasId {n : Nat} {es fs : List E} (h : GM n es fs) (t : Int) : hasId es t = hasId fs t := by
  rw [Bool.eq_iff_iff, hasId_iff, hasId_iff]
  exact ⟨fun ⟨e, h1, h2⟩ => ⟨e, (h.mem e).1 h1, h2⟩, fun ⟨e, h1, h2⟩ => ⟨e, (h.mem e).2 h1, h2⟩⟩
theorem GM.add {n : Nat} {es fs : List E} (h : GM n es fs) {e : E} (hh : Pl.hasId es e.id = false) (ha : e.a < n) (hb : e.b < n) (hl : es.length < 120) : GM n (es.take (posOf es e.id) ++ e :: es.drop (posOf es e.id)) (fs ++ [e]) := by
  refine ⟨sorted_ins h.sorted e hh, fun f hf => ?_, fun f => ?_, ?_, ?_, ?_⟩
  · rcases mem_ins.1 hf with rfl | hf
    · exact ⟨ha, hb⟩
    · exact h.over f hf
  · rw [mem_ins, List.mem_append, List.mem_singleton, h.mem]; exact or_comm
  · have := h.len
    simp only [List.length_append, List.length_take, List.length_cons, List.length_drop, List.length_nil]
    have := posOf_le es e.id
    omega
  · simp only [List.length_append, List.length_take, List.length_cons, List.length_drop]
    have := posOf_le es e.id
    omega
  · unfold Nd
    rw [List.pairwise_append]
    refine ⟨h.nd, by simp, fun f hf g hg => ?_⟩
    rw [List.mem_singleton] at hg
    subst hg
    intro hid
    have : Pl.hasId fs g.id = true := hasId_iff.2 ⟨f, hf, by rw [hid]⟩
    rw [← h.hasId, hh] at this
    cases this
theorem GM.drop {n : Nat} {es fs : List E} (h : GM n es fs) {i k : Nat} {e f : E} (hi : es[i]? = some e) (hk : fs[k]? = some f) (hid : e.id = f.id) : GM n (delAt es i) (delAt fs k) := by
  have l1 := delAt_length (List.getElem?_eq_some_iff.1 hi).1
  have l2 := delAt_length (List.getElem?_eq_some_iff.1 hk).1
  refine ⟨h.sorted.sublist (delAt_sublist _ _), fun g hg => h.over g ((delAt_sublist _ _).subset hg), fun g => ?_, ?_, ?_, h.nd.sublist (delAt_sublist _ _)⟩
  · rw [mem_delAt h.sorted.nd hi, mem_delAt h.nd hk, h.mem, hid]
  · have := h.len; omega
  · have := h.le; omega
theorem sorted_ext {es fs : List E} (h1 : Sorted es) (h2 : Sorted fs) (hm : ∀ e, e ∈ es ↔ e ∈ fs) : es = fs := by
  induction es generalizing fs with
  | nil =>
    cases fs with
    | nil => rfl
    | cons f fs => exact absurd ((hm f).2 List.mem_cons_self) (by simp)
  | cons e es ih =>
    cases fs with
    | nil => exact absurd ((hm e).1 List.mem_cons_self) (by simp)
    | cons f fs =>
      obtain ⟨a1, a2⟩ := List.pairwise_cons.1 h1
      obtain ⟨b1, b2⟩ := List.pairwise_cons.1 h2
      have hef : e = f := by
        rcases List.mem_cons.1 ((hm e).1 List.mem_cons_self) with h | h
        · exact h
        · rcases List.mem_cons.1 ((hm f).2 List.mem_cons_self) with g | g
          · exact g.symm
          · have := a1 f g; have := b1 e h; omega
      subst hef
      congr 1
      refine ih a2 b2 fun g => ?_
      constructor
      · intro hg
        rcases List.mem_cons.1 ((hm g).1 (List.mem_cons_of_mem _ hg)) with h | h
        · subst h; have := a1 g hg; omega
        · exact h
      · intro hg
        rcases List.mem_cons.1 ((hm g).2 (List.mem_cons_of_mem _ hg)) with h | h
        · subst h; have := b1 g hg; omega
        · exact h
end Go.Proofs.YtkpoobnldgfapabGreatDoor.Pl
namespace Go.Proofs.YtkpoobnldgfapabGreatDoor.Pl
def Trail : List E → Nat → Nat → Prop
  | [], x, b => x = b
  | e :: l, x, b => (e.a = x ∧ Trail l e.b b) ∨ (e.b = x ∧ e.a ≠ x ∧ Trail l e.a b)
theorem Trail.snoc {l : List E} {x y z : Nat} {e : E} (h : Trail l x y) (he : (e.a = y ∧ z = e.b) ∨ (e.b = y ∧ e.a ≠ y ∧ z = e.a)) : Trail (l ++ [e]) x z := by
  induction l generalizing x with
  | nil =>
    have h : x = y := h
    subst h
    rcases he with ⟨h1, h2⟩ | ⟨h1, h2, h3⟩
    · exact .inl ⟨h1, h2.symm⟩
    · exact .inr ⟨h1, h2, h3.symm⟩
  | cons f l ih =>
    rcases h with ⟨h1, h2⟩ | ⟨h1, h2, h3⟩
    · exact .inl ⟨h1, ih h2⟩
    · exact .inr ⟨h1, h2, ih h3⟩
def eA (es : List E) (i : Nat) : Nat := (es[i]?.getD ⟨0, 0, 0⟩).a
def eB (es : List E) (i : Nat) : Nat := (es[i]?.getD ⟨0, 0, 0⟩).b
theorem eA_at {es : List E} {i : Nat} {e : E} (h : es[i]? = some e) : eA es i = e.a := by unfold eA; rw [h]; rfl
theorem eB_at {es : List E} {i : Nat} {e : E} (h : es[i]? = some e) : eB es i = e.b := by unfold eB; rw [h]; rfl
def srcW (es : List E) (x : Nat → Bool) (i : Nat) : Nat := if x i = true then eA es i else eB es i
def dstW (es : List E) (x : Nat → Bool) (i : Nat) : Nat := if x i = true then eB es i else eA es i
def exL (es : List E) (x L : Nat → Bool) (v : Nat) : Int :=
  bsum es.length fun i => ind (L i) * (ind (decide (srcW es x i = v)) - ind (decide (dstW es x i = v)))
theorem bsum_two (n : Nat) (f : Nat → Int) : bsum (2 * n) f = bsum n (fun i => f (2 * i) + f (2 * i + 1)) := by
  induction n with
  | zero => rfl
  | succ n ih =>
    rw [show 2 * (n + 1) = 2 * n + 1 + 1 by omega]
    simp only [bsum]
    rw [ih]; omega
theorem arcsE_at (es : List E) (i : Nat) : (arcsE es)[2 * i]? = (es[i]?).map (fun e => (e.a, e.b)) ∧ (arcsE es)[2 * i + 1]? = (es[i]?).map (fun e => (e.b, e.a)) := by
  induction es generalizing i with
  | nil => simp [arcsE]
  | cons e es ih =>
    have hc : arcsE (e :: es) = (e.a, e.b) :: (e.b, e.a) :: arcsE es := by simp [arcsE]
    rw [hc]
    cases i with
    | zero => simp
    | succ i =>
      rw [show 2 * (i + 1) = 2 * i + 1 + 1 by omega]
      simpa using ih i
theorem arcsE_fr {es : List E} {i : Nat} (hi : i < es.length) : frL (arcsE es) (2 * i) = eA es i ∧ toL (arcsE es) (2 * i) = eB es i ∧ frL (arcsE es) (2 * i + 1) = eB es i ∧ toL (arcsE es) (2 * i + 1) = eA es i := by
  obtain ⟨h1, h2⟩ := arcsE_at es i
  have he := List.getElem?_eq_getElem hi
  unfold frL toL
  rw [h1, h2, eA_at he, eB_at he, he]
  exact ⟨rfl, rfl, rfl, rfl⟩
theorem exL_flow (es : List E) (u : Nat → Bool) (v : Nat) (m : Nat) (hm : m = 2 * es.length) :
    exL es (fun i => u (2 * i)) (fun i => u (2 * i) != u (2 * i + 1)) v = exc m (frL (arcsE es)) (toL (arcsE es)) u v := by
  subst hm
  unfold exL exc
  rw [bsum_two]
  refine bsum_congr fun i hi => ?_
  obtain ⟨h1, h2, h3, h4⟩ := arcsE_fr hi
  rw [h1, h2, h3, h4]
  have key : ∀ (p q : Bool) (A B : Nat), ind (p != q) * (ind (decide ((if p = true then A else B) = v)) - ind (decide ((if p = true then B else A) = v))) = ind p * (ind (decide (A = v)) - ind (decide (B = v))) + ind q * (ind (decide (B = v)) - ind (decide (A = v))) := by
    intro p q A B
    cases p <;> cases q <;> simp [ind] <;> omega
  exact key _ _ _ _
def nextP (es : List E) (x L : Nat → Bool) (y i : Nat) : Bool := L i && decide (srcW es x i = y)
structure Peel (es : List E) (x : Nat → Bool) (a b r : Nat) (L : Nat → Bool) (ws : List (List E)) (y : Nat) (l : List E) : Prop where
  ex : ∀ v, v < 1000 → v ≠ b → exL es x L v = r * ind (decide (v = a)) + ind (decide (v = y))
  nodup : (ws.flatten ++ l).Nodup
  fresh : ∀ i e, es[i]? = some e → L i = true → e ∉ ws.flatten ++ l
  sub : ∀ e, e ∈ ws.flatten ++ l → e ∈ es
  whole : ∀ w, w ∈ ws → Trail w a b
  part : Trail l a y
theorem exL_less {es : List E} {x L : Nat → Bool} {i : Nat} (hi : i < es.length) (hL : L i = true) (v : Nat) :
    exL es x (upd L i false) v = exL es x L v - ind (decide (srcW es x i = v)) + ind (decide (dstW es x i = v)) := by
  unfold exL
  rw [bsum_upd (k := i) hi (f := fun j => ind (upd L i false j) * (ind (decide (srcW es x j = v)) - ind (decide (dstW es x j = v)))) (g := fun j => ind (L j) * (ind (decide (srcW es x j = v)) - ind (decide (dstW es x j = v)))) (fun j _ hne => by rw [upd_ne _ _ _ _ hne])]
  simp only [upd_same, hL, ind_true, ind_false]
  omega
theorem Peel.go {es : List E} {x : Nat → Bool} {a b r : Nat} {L : Nat → Bool} {ws : List (List E)} {y : Nat} {l : List E} {i : Nat} {e : E} (h : Peel es x a b r L ws y l) (hn : es.Nodup) (he : es[i]? = some e) (hne : e.a ≠ e.b) (hi : nextP es x L y i = true) :
    Peel es x a b r (upd L i false) ws (if e.a = y then e.b else e.a) (l ++ [e]) := by
  unfold nextP at hi
  rw [Bool.and_eq_true, decide_eq_true_eq] at hi
  obtain ⟨hL, hs⟩ := hi
  have hil := (List.getElem?_eq_some_iff.1 he).1
  have hd : dstW es x i = (if e.a = y then e.b else e.a) ∧ ((e.a = y ∧ (if e.a = y then e.b else e.a) = e.b) ∨ (e.b = y ∧ e.a ≠ y ∧ (if e.a = y then e.b else e.a) = e.a)) := by
    unfold srcW at hs
    unfold dstW
    rw [eA_at he, eB_at he] at *
    by_cases hx : x i = true
    · rw [if_pos hx] at hs ⊢
      rw [if_pos hs]
      exact ⟨rfl, .inl ⟨hs, rfl⟩⟩
    · rw [if_neg hx] at hs ⊢
      have : e.a ≠ y := fun h' => hne (by omega)
      rw [if_neg this]
      exact ⟨rfl, .inr ⟨hs, this, rfl⟩⟩
  obtain ⟨hd1, hd2⟩ := hd
  have hfr := h.fresh i e he hL
  refine ⟨fun v hv hvb => ?_, ?_, fun j f hj hLj => ?_, fun f hf => ?_, h.whole, h.part.snoc hd2⟩
  · rw [exL_less hil hL, h.ex v hv hvb, hs, hd1]
    have e1 : decide (v = y) = decide (y = v) := by rw [decide_eq_decide]; exact eq_comm
    have e2 : decide (v = (if e.a = y then e.b else e.a)) = decide ((if e.a = y then e.b else e.a) = v) := by rw [decide_eq_decide]; exact eq_comm
    rw [e1, e2]; omega
  · rw [← List.append_assoc, List.nodup_append]
    exact ⟨h.nodup, by simp, fun p hp q hq e' => by simp at hq; subst hq; subst e'; exact hfr hp⟩
  · have hji : j ≠ i := fun e' => by subst e'; rw [upd_same] at hLj; cases hLj
    rw [upd_ne _ _ _ _ hji] at hLj
    rw [← List.append_assoc, List.mem_append]
    rintro (h' | h')
    · exact h.fresh j f hj hLj h'
    · simp at h'
      subst h'
      have x1 := List.getElem?_eq_some_iff.1 hj
      have x2 := List.getElem?_eq_some_iff.1 he
      exact hji ((List.getElem_inj hn).1 (x1.2.trans x2.2.symm))
  · rw [← List.append_assoc, List.mem_append] at hf
    rcases hf with hf | hf
    · exact h.sub f hf
    · simp at hf; subst hf; exact List.mem_of_getElem? he
theorem Peel.start {es : List E} {u : Nat → Bool} {a b k : Nat} (hk : FlowK (arcsE es).length 1000 (frL (arcsE es)) (toL (arcsE es)) a b u (k + 1)) (hl : (arcsE es).length = 2 * es.length) (ha : a < 1000) :
    Peel es (fun i => u (2 * i)) a b k (fun i => u (2 * i) != u (2 * i + 1)) [] a [] := by
  refine ⟨fun v hv hvb => ?_, by simp, fun _ _ _ _ h => by simp at h, fun _ h => by simp at h, fun _ h => by simp at h, rfl⟩
  rw [exL_flow es u v _ hl]
  by_cases e : v = a
  · subst e
    rw [hk.val, decide_eq_true rfl, ind_true]; omega
  · rw [hk.bal v hv e hvb, decide_eq_false e, ind_false]; omega
structure WaysOk (es : List E) (a b : Nat) (ws : List (List E)) : Prop where
  nodup : ws.flatten.Nodup
  sub : ∀ e, e ∈ ws.flatten → e ∈ es
  whole : ∀ w, w ∈ ws → Trail w a b
theorem WaysOk.nil (es : List E) (a b : Nat) : WaysOk es a b [] := ⟨by simp, fun _ h => by simp at h, fun _ h => by simp at h⟩
theorem Peel.ok {es : List E} {x : Nat → Bool} {a b r : Nat} {L : Nat → Bool} {ws : List (List E)} {l : List E} (h : Peel es x a b r L ws b l) : WaysOk es a b (ws ++ [l]) := by
  have hf : (ws ++ [l]).flatten = ws.flatten ++ l := by simp
  refine ⟨by rw [hf]; exact h.nodup, fun e he => by rw [hf] at he; exact h.sub e he, fun w hw => ?_⟩
  rcases List.mem_append.1 hw with hw | hw
  · exact h.whole w hw
  · simp at hw; subst hw; exact h.part
end Go.Proofs.YtkpoobnldgfapabGreatDoor.Pl
namespace Go.Proofs.YtkpoobnldgfapabGreatDoor.Pl
def cutM (N : Nat) (r : Nat → Nat → Int) (R : Nat → Bool) : Int := bsum N fun x => bsum N fun y => ind (R x && !R y) * r x y
def upd2 (r : Nat → Nat → Int) (x y : Nat) (v : Int) : Nat → Nat → Int := fun a b => if a = x ∧ b = y then v else r a b
theorem upd2_at (r : Nat → Nat → Int) (x y : Nat) (v : Int) : upd2 r x y v x y = v := by unfold upd2; simp
theorem upd2_ne {r : Nat → Nat → Int} {x y : Nat} {v : Int} {a b : Nat} (h : ¬ (a = x ∧ b = y)) : upd2 r x y v a b = r a b := by unfold upd2; rw [if_neg h]
theorem cutM_upd {N x y : Nat} (hx : x < N) (hy : y < N) (r : Nat → Nat → Int) (v : Int) (R : Nat → Bool) : cutM N (upd2 r x y v) R = cutM N r R + ind (R x && !R y) * (v - r x y) := by
  unfold cutM
  rw [bsum_upd (k := x) hx (f := fun a => bsum N fun b => ind (R a && !R b) * upd2 r x y v a b) (g := fun a => bsum N fun b => ind (R a && !R b) * r a b) (fun a _ ha => bsum_congr fun b _ => by rw [upd2_ne (fun h => ha h.1)])]
  rw [bsum_upd (n := N) (k := y) hy (f := fun b => ind (R x && !R b) * upd2 r x y v x b) (g := fun b => ind (R x && !R b) * r x b) (fun b _ hb => by rw [upd2_ne (fun h => hb h.2)])]
  rw [upd2_at, Int.mul_sub]
  omega
def step2 (r : Nat → Nat → Int) (x y : Nat) : Nat → Nat → Int := upd2 (upd2 r x y (r x y - 1)) y x (upd2 r x y (r x y - 1) y x + 1)
theorem step2_cut {N x y : Nat} (hx : x < N) (hy : y < N) (r : Nat → Nat → Int) (R : Nat → Bool) : cutM N (step2 r x y) R = cutM N r R - ind (R x) + ind (R y) := by
  unfold step2
  rw [cutM_upd hy hx, cutM_upd hx hy]
  have e1 : ind (R x && !R y) * (r x y - 1 - r x y) = - ind (R x && !R y) := by
    have : r x y - 1 - r x y = -1 := by omega
    rw [this]; omega
  have e2 : ind (R y && !R x) * (upd2 r x y (r x y - 1) y x + 1 - upd2 r x y (r x y - 1) y x) = ind (R y && !R x) := by
    have : upd2 r x y (r x y - 1) y x + 1 - upd2 r x y (r x y - 1) y x = 1 := by omega
    rw [this]; omega
  rw [e1, e2]
  cases R x <;> cases R y <;> simp [ind] <;> omega
theorem cutM_nonneg {N : Nat} {r : Nat → Nat → Int} (h : ∀ x y, x < N → y < N → 0 ≤ r x y) (R : Nat → Bool) : 0 ≤ cutM N r R := by
  unfold cutM
  exact bsum_nonneg fun x hx => bsum_nonneg fun y hy => Int.mul_nonneg (ind_nonneg _) (h x y hx hy)
structure Pushed (N to : Nat) (seen0 : Nat → Bool) (r : Nat → Nat → Int) (x : Nat) (ok : Bool) (seen : Nat → Bool) (r' : Nat → Nat → Int) : Prop where
  grow : ∀ v, seen0 v = true → seen v = true
  no : ok = false → (∀ u v, r' u v = r u v) ∧ seen x = true ∧ (seen to = true → seen0 to = true) ∧ ∀ v y, v < N → y < N → seen v = true → seen0 v = false → 0 < r v y → seen y = true
  cut : ok = true → ∀ R, cutM N r' R = cutM N r R - ind (R x) + ind (R to)
  row : ∀ u v, seen0 u = true → r u v ≤ r' u v
  col : ∀ u v, seen0 v = true → r' u v ≤ r u v
  up : ∀ u v, r' u v ≤ r u v + 1
  pos : (∀ u v, 0 ≤ r u v) → ∀ u v, 0 ≤ r' u v
structure Pushing (N to : Nat) (seen0 : Nat → Bool) (r : Nat → Nat → Int) (x j : Nat) (seen : Nat → Bool) : Prop where
  grow : ∀ v, seen0 v = true → seen v = true
  self : seen x = true
  to' : seen to = true → seen0 to = true
  old : ∀ v y, v < N → y < N → seen v = true → seen0 v = false → v ≠ x → 0 < r v y → seen y = true
  new : ∀ y, y < j → y < N → 0 < r x y → seen y = true
theorem Pushing.start {N to : Nat} {seen0 : Nat → Bool} (r : Nat → Nat → Int) {x : Nat} (hne : x ≠ to) : Pushing N to seen0 r x 0 (upd seen0 x true) := by
  refine ⟨fun v h => ?_, by simp [upd], fun h => ?_, fun v y _ _ h h0 hv _ => ?_, fun y h => by omega⟩
  · unfold upd; split <;> simp_all
  · unfold upd at h; rw [if_neg (fun e => hne e.symm)] at h; exact h
  · unfold upd at h; rw [if_neg hv] at h; rw [h] at h0; cases h0
theorem Pushing.fail {N to : Nat} {seen0 seen seen' : Nat → Bool} {r r' : Nat → Nat → Int} {x j : Nat} (h : Pushing N to seen0 r x j seen) (hp : Pushed N to seen r j false seen' r') : Pushing N to seen0 r x (j + 1) seen' := by
  obtain ⟨_, h1, h2, h3⟩ := hp.no rfl
  refine ⟨fun v hv => hp.grow v (h.grow v hv), hp.grow x h.self, fun ht => h.to' (h2 ht), fun v y hv hy hs h0 hne hr => ?_, fun y hy hN hr => ?_⟩
  · by_cases e : seen v = true
    · exact hp.grow y (h.old v y hv hy e h0 hne hr)
    · exact h3 v y hv hy hs (by simpa using e) hr
  · by_cases e : y = j
    · subst e; exact h1
    · exact hp.grow y (h.new y (by omega) hN hr)
theorem Pushing.goes {N to : Nat} {seen0 seen seen' : Nat → Bool} {r r' : Nat → Nat → Int} {x j : Nat} (hx : x < N) (hj : j < N) (h0 : seen0 x = false) (h : Pushing N to seen0 r x j seen) (hr : 0 < r x j) (hs : seen j = false) (hp : Pushed N to seen r j true seen' r') :
    Pushed N to seen0 r x true seen' (step2 r' x j) := by
  have hxj : x ≠ j := fun e => by have := h.self; rw [e, hs] at this; cases this
  have hj0 : seen0 j = false := by
    cases e : seen0 j with
    | false => rfl
    | true => rw [h.grow j e] at hs; cases hs
  have hval : ∀ u v, step2 r' x j u v = if u = j ∧ v = x then r' j x + 1 else if u = x ∧ v = j then r' x j - 1 else r' u v := by
    intro u v
    unfold step2
    by_cases e1 : u = j ∧ v = x
    · obtain ⟨rfl, rfl⟩ := e1
      rw [upd2_at, upd2_ne (fun h => hxj h.1.symm), if_pos ⟨rfl, rfl⟩]
    · rw [upd2_ne e1, if_neg e1]
      unfold upd2
      rfl
  have hxx := hp.row x j h.self
  have hcx := hp.col j x h.self
  refine ⟨fun v hv => hp.grow v (h.grow v hv), fun e => (by cases e), fun _ R => ?_, fun u v hu => ?_, fun u v hv => ?_, fun u v => ?_, fun hpos u v => ?_⟩
  · rw [step2_cut hx hj, hp.cut rfl R]; omega
  · have h1 : u ≠ x := fun e => by rw [e, h0] at hu; cases hu
    have h2 : u ≠ j := fun e => by rw [e, hj0] at hu; cases hu
    rw [hval, if_neg (fun e => h2 e.1), if_neg (fun e => h1 e.1)]
    exact hp.row u v (h.grow u hu)
  · have h1 : v ≠ x := fun e => by rw [e, h0] at hv; cases hv
    have h2 : v ≠ j := fun e => by rw [e, hj0] at hv; cases hv
    rw [hval, if_neg (fun e => h1 e.2), if_neg (fun e => h2 e.2)]
    exact hp.col u v (h.grow v hv)
  · rw [hval]
    have := hp.up u v
    split
    · rename_i e; obtain ⟨rfl, rfl⟩ := e; omega
    · split
      · rename_i e; obtain ⟨rfl, rfl⟩ := e; omega
      · exact this
  · have hp0 := hp.pos hpos
    rw [hval]
    split
    · have := hp0 j x; omega
    · split
      · rename_i e; obtain ⟨rfl, rfl⟩ := e; omega
      · exact hp0 u v
structure Gone (N s t : Nat) (r0 r : Nat → Nat → Int) (k : Nat) : Prop where
  cut : ∀ R : Nat → Bool, R s = true → R t = false → cutM N r R + k = cutM N r0 R
  pos : ∀ u v, 0 ≤ r u v
  up : ∀ u v, r u v ≤ r0 u v + k
theorem Gone.start (N s t : Nat) {r : Nat → Nat → Int} (h : ∀ u v, 0 ≤ r u v) : Gone N s t r r 0 := ⟨fun _ _ _ => by omega, h, fun _ _ => by omega⟩
theorem Gone.more {N s t : Nat} {r0 r r' : Nat → Nat → Int} {k : Nat} {seen : Nat → Bool} (h : Gone N s t r0 r k) (hp : Pushed N t (fun _ => false) r s true seen r') : Gone N s t r0 r' (k + 1) := by
  refine ⟨fun R h1 h2 => ?_, hp.pos h.pos, fun u v => ?_⟩
  · have a := h.cut R h1 h2
    have b := hp.cut rfl R
    rw [h1, h2, ind_true, ind_false] at b
    omega
  · have a := h.up u v
    have b := hp.up u v
    omega
theorem Gone.le {N s t : Nat} {r0 r : Nat → Nat → Int} {k : Nat} (h : Gone N s t r0 r k) (R : Nat → Bool) (h1 : R s = true) (h2 : R t = false) : (k : Int) ≤ cutM N r0 R := by
  have := h.cut R h1 h2
  have := cutM_nonneg (N := N) (r := r) (fun x y _ _ => h.pos x y) R
  omega
end Go.Proofs.YtkpoobnldgfapabGreatDoor.Pl
namespace Go.Proofs.YtkpoobnldgfapabGreatDoor.Pl
end Go.Proofs.YtkpoobnldgfapabGreatDoor.Pl
namespace Go.Proofs.YtkpoobnldgfapabGreatDoor.Pl
end Go.Proofs.YtkpoobnldgfapabGreatDoor.Pl
namespace Go.Proofs.YtkpoobnldgfapabGreatDoor.Pl
theorem MinCap.same {c : (Nat → Bool) → Int} {s t : Nat} {most : Nat} {v v' : Nat} (h : MinCap c s t most v) (h' : MinCap c s t most v') : v = v' := by
  have := h.unique h'; omega
theorem Trail.at {l : List E} {k : Nat} {e : E} {y t : Nat} (hk : l[k]? = some e) (h : Trail (l.drop k) y t) :
    (e.a = y ∧ Trail (l.drop (k + 1)) e.b t) ∨ (e.b = y ∧ e.a ≠ y ∧ Trail (l.drop (k + 1)) e.a t) := by
  have hl := (List.getElem?_eq_some_iff.1 hk)
  rw [List.drop_eq_getElem_cons hl.1, hl.2] at h
  exact h
theorem Trail.end {l : List E} {k : Nat} {y t : Nat} (hk : k = l.length) (h : Trail (l.drop k) y t) : y = t := by
  rw [hk, List.drop_length] at h; exact h
end Go.Proofs.YtkpoobnldgfapabGreatDoor.Pl

