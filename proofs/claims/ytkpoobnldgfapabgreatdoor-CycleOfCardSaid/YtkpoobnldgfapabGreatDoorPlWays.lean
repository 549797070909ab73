/- flow.Ways in plain terms: what is left of a flow comes apart into ways. -/
import Derived.Test.YtkpoobnldgfapabGreatDoorP2
set_option linter.unusedVariables false
set_option linter.unusedSimpArgs false
namespace Go.Proofs.YtkpoobnldgfapabGreatDoor.Pl

/-- Edges one behind the other, from x to b. -/
def Trail : List E → Nat → Nat → Prop
  | [], x, b => x = b
  | e :: l, x, b => (e.a = x ∧ Trail l e.b b) ∨ (e.b = x ∧ e.a ≠ x ∧ Trail l e.a b)

theorem Trail.snoc {l : List E} {x y z : Nat} {e : E} (h : Trail l x y) (he : (e.a = y ∧ z = e.b) ∨ (e.b = y ∧ e.a ≠ y ∧ z = e.a)) : Trail (l ++ [e]) x z := by
  induction l generalizing x with
  | nil =>
    have h : x = y := h
    subst h
    rcases he with ⟨h1, h2⟩ | ⟨h1, h2, h3⟩
    · exact .inl ⟨h1, h2.symm⟩
    · exact .inr ⟨h1, h2, h3.symm⟩
  | cons f l ih =>
    rcases h with ⟨h1, h2⟩ | ⟨h1, h2, h3⟩
    · exact .inl ⟨h1, ih h2⟩
    · exact .inr ⟨h1, h2, ih h3⟩

def eA (es : List E) (i : Nat) : Nat := (es[i]?.getD ⟨0, 0, 0⟩).a
def eB (es : List E) (i : Nat) : Nat := (es[i]?.getD ⟨0, 0, 0⟩).b
theorem eA_at {es : List E} {i : Nat} {e : E} (h : es[i]? = some e) : eA es i = e.a := by unfold eA; rw [h]; rfl
theorem eB_at {es : List E} {i : Nat} {e : E} (h : es[i]? = some e) : eB es i = e.b := by unfold eB; rw [h]; rfl

/-- From where an edge is gone, to where. -/
def srcW (es : List E) (x : Nat → Bool) (i : Nat) : Nat := if x i = true then eA es i else eB es i
def dstW (es : List E) (x : Nat → Bool) (i : Nat) : Nat := if x i = true then eB es i else eA es i

/-- What goes out of v more than comes in, of the edges that are left. -/
def exL (es : List E) (x L : Nat → Bool) (v : Nat) : Int :=
  bsum es.length fun i => ind (L i) * (ind (decide (srcW es x i = v)) - ind (decide (dstW es x i = v)))

theorem bsum_two (n : Nat) (f : Nat → Int) : bsum (2 * n) f = bsum n (fun i => f (2 * i) + f (2 * i + 1)) := by
  induction n with
  | zero => rfl
  | succ n ih =>
    rw [show 2 * (n + 1) = 2 * n + 1 + 1 by omega]
    simp only [bsum]
    rw [ih]; omega

theorem arcsE_at (es : List E) (i : Nat) : (arcsE es)[2 * i]? = (es[i]?).map (fun e => (e.a, e.b)) ∧ (arcsE es)[2 * i + 1]? = (es[i]?).map (fun e => (e.b, e.a)) := by
  induction es generalizing i with
  | nil => simp [arcsE]
  | cons e es ih =>
    have hc : arcsE (e :: es) = (e.a, e.b) :: (e.b, e.a) :: arcsE es := by simp [arcsE]
    rw [hc]
    cases i with
    | zero => simp
    | succ i =>
      rw [show 2 * (i + 1) = 2 * i + 1 + 1 by omega]
      simpa using ih i

theorem arcsE_fr {es : List E} {i : Nat} (hi : i < es.length) : frL (arcsE es) (2 * i) = eA es i ∧ toL (arcsE es) (2 * i) = eB es i ∧ frL (arcsE es) (2 * i + 1) = eB es i ∧ toL (arcsE es) (2 * i + 1) = eA es i := by
  obtain ⟨h1, h2⟩ := arcsE_at es i
  have he := List.getElem?_eq_getElem hi
  unfold frL toL
  rw [h1, h2, eA_at he, eB_at he, he]
  exact ⟨rfl, rfl, rfl, rfl⟩

/-- An edge that is gone both ways is gone none. -/
theorem exL_flow (es : List E) (u : Nat → Bool) (v : Nat) (m : Nat) (hm : m = 2 * es.length) :
    exL es (fun i => u (2 * i)) (fun i => u (2 * i) != u (2 * i + 1)) v = exc m (frL (arcsE es)) (toL (arcsE es)) u v := by
  subst hm
  unfold exL exc
  rw [bsum_two]
  refine bsum_congr fun i hi => ?_
  obtain ⟨h1, h2, h3, h4⟩ := arcsE_fr hi
  rw [h1, h2, h3, h4]
  have key : ∀ (p q : Bool) (A B : Nat), ind (p != q) * (ind (decide ((if p = true then A else B) = v)) - ind (decide ((if p = true then B else A) = v))) = ind p * (ind (decide (A = v)) - ind (decide (B = v))) + ind q * (ind (decide (B = v)) - ind (decide (A = v))) := by
    intro p q A B
    cases p <;> cases q <;> simp [ind] <;> omega
  exact key _ _ _ _

theorem bsum_some {n : Nat} {f : Nat → Int} (h : 0 < bsum n f) : ∃ i, i < n ∧ 0 < f i := by
  apply Classical.byContradiction
  intro hn
  have : bsum n f ≤ bsum n (fun _ => 0) := bsum_le fun i hi => by
    apply Classical.byContradiction
    intro h'
    exact hn ⟨i, hi, by omega⟩
  rw [bsum_zero] at this
  omega

/-- The edge that is taken next: it is left, and goes out of y. -/
def nextP (es : List E) (x L : Nat → Bool) (y i : Nat) : Bool := L i && decide (srcW es x i = y)

/-- In the midst of taking a flow apart: ws are whole ways; l leads from a to y; r are to come behind it. -/
structure Peel (es : List E) (x : Nat → Bool) (a b r : Nat) (L : Nat → Bool) (ws : List (List E)) (y : Nat) (l : List E) : Prop where
  ex : ∀ v, v < 1000 → v ≠ b → exL es x L v = r * ind (decide (v = a)) + ind (decide (v = y))
  nodup : (ws.flatten ++ l).Nodup
  fresh : ∀ i e, es[i]? = some e → L i = true → e ∉ ws.flatten ++ l
  sub : ∀ e, e ∈ ws.flatten ++ l → e ∈ es
  whole : ∀ w, w ∈ ws → Trail w a b
  part : Trail l a y

theorem Peel.exists_next {es : List E} {x : Nat → Bool} {a b r : Nat} {L : Nat → Bool} {ws : List (List E)} {y : Nat} {l : List E} (h : Peel es x a b r L ws y l) (hy : y < 1000) (hyb : y ≠ b) : ∃ i, i < es.length ∧ nextP es x L y i = true := by
  have he := h.ex y hy hyb
  have hp : 0 < exL es x L y := by
    rw [he, decide_eq_true rfl, ind_true]
    have := Int.mul_nonneg (Int.natCast_nonneg r) (ind_nonneg (decide (y = a)))
    omega
  obtain ⟨i, hi, hf⟩ := bsum_some hp
  refine ⟨i, hi, ?_⟩
  unfold nextP
  revert hf
  cases L i <;> by_cases e : srcW es x i = y <;> simp [ind, e]
  split <;> omega

theorem exL_less {es : List E} {x L : Nat → Bool} {i : Nat} (hi : i < es.length) (hL : L i = true) (v : Nat) :
    exL es x (upd L i false) v = exL es x L v - ind (decide (srcW es x i = v)) + ind (decide (dstW es x i = v)) := by
  unfold exL
  rw [bsum_upd (k := i) hi (f := fun j => ind (upd L i false j) * (ind (decide (srcW es x j = v)) - ind (decide (dstW es x j = v)))) (g := fun j => ind (L j) * (ind (decide (srcW es x j = v)) - ind (decide (dstW es x j = v)))) (fun j _ hne => by rw [upd_ne _ _ _ _ hne])]
  simp only [upd_same, hL, ind_true, ind_false]
  omega

theorem Peel.go {es : List E} {x : Nat → Bool} {a b r : Nat} {L : Nat → Bool} {ws : List (List E)} {y : Nat} {l : List E} {i : Nat} {e : E} (h : Peel es x a b r L ws y l) (hn : es.Nodup) (he : es[i]? = some e) (hne : e.a ≠ e.b) (hi : nextP es x L y i = true) :
    Peel es x a b r (upd L i false) ws (if e.a = y then e.b else e.a) (l ++ [e]) := by
  unfold nextP at hi
  rw [Bool.and_eq_true, decide_eq_true_eq] at hi
  obtain ⟨hL, hs⟩ := hi
  have hil := (List.getElem?_eq_some_iff.1 he).1
  have hd : dstW es x i = (if e.a = y then e.b else e.a) ∧ ((e.a = y ∧ (if e.a = y then e.b else e.a) = e.b) ∨ (e.b = y ∧ e.a ≠ y ∧ (if e.a = y then e.b else e.a) = e.a)) := by
    unfold srcW at hs
    unfold dstW
    rw [eA_at he, eB_at he] at *
    by_cases hx : x i = true
    · rw [if_pos hx] at hs ⊢
      rw [if_pos hs]
      exact ⟨rfl, .inl ⟨hs, rfl⟩⟩
    · rw [if_neg hx] at hs ⊢
      have : e.a ≠ y := fun h' => hne (by omega)
      rw [if_neg this]
      exact ⟨rfl, .inr ⟨hs, this, rfl⟩⟩
  obtain ⟨hd1, hd2⟩ := hd
  have hfr := h.fresh i e he hL
  refine ⟨fun v hv hvb => ?_, ?_, fun j f hj hLj => ?_, fun f hf => ?_, h.whole, h.part.snoc hd2⟩
  · rw [exL_less hil hL, h.ex v hv hvb, hs, hd1]
    have e1 : decide (v = y) = decide (y = v) := by rw [decide_eq_decide]; exact eq_comm
    have e2 : decide (v = (if e.a = y then e.b else e.a)) = decide ((if e.a = y then e.b else e.a) = v) := by rw [decide_eq_decide]; exact eq_comm
    rw [e1, e2]; omega
  · rw [← List.append_assoc, List.nodup_append]
    exact ⟨h.nodup, by simp, fun p hp q hq e' => by simp at hq; subst hq; subst e'; exact hfr hp⟩
  · have hji : j ≠ i := fun e' => by subst e'; rw [upd_same] at hLj; cases hLj
    rw [upd_ne _ _ _ _ hji] at hLj
    rw [← List.append_assoc, List.mem_append]
    rintro (h' | h')
    · exact h.fresh j f hj hLj h'
    · simp at h'
      subst h'
      have x1 := List.getElem?_eq_some_iff.1 hj
      have x2 := List.getElem?_eq_some_iff.1 he
      exact hji ((List.getElem_inj hn).1 (x1.2.trans x2.2.symm))
  · rw [← List.append_assoc, List.mem_append] at hf
    rcases hf with hf | hf
    · exact h.sub f hf
    · simp at hf; subst hf; exact List.mem_of_getElem? he

/-- One way is whole. -/
theorem Peel.next {es : List E} {x : Nat → Bool} {a b r : Nat} {L : Nat → Bool} {ws : List (List E)} {l : List E} (h : Peel es x a b (r + 1) L ws b l) : Peel es x a b r L (ws ++ [l]) a [] := by
  have hf : (ws ++ [l]).flatten ++ [] = ws.flatten ++ l := by simp
  refine ⟨fun v hv hvb => ?_, by rw [hf]; exact h.nodup, fun i e he hL => by rw [hf]; exact h.fresh i e he hL, fun e he => by rw [hf] at he; exact h.sub e he, fun w hw => ?_, rfl⟩
  · rw [h.ex v hv hvb, decide_eq_false hvb, ind_false]
    rw [show ((r + 1 : Nat) : Int) = (r : Int) + 1 by omega, Int.add_mul]; omega
  · rcases List.mem_append.1 hw with hw | hw
    · exact h.whole w hw
    · simp at hw; subst hw; exact h.part

theorem Peel.start {es : List E} {u : Nat → Bool} {a b k : Nat} (hk : FlowK (arcsE es).length 1000 (frL (arcsE es)) (toL (arcsE es)) a b u (k + 1)) (hl : (arcsE es).length = 2 * es.length) (ha : a < 1000) :
    Peel es (fun i => u (2 * i)) a b k (fun i => u (2 * i) != u (2 * i + 1)) [] a [] := by
  refine ⟨fun v hv hvb => ?_, by simp, fun _ _ _ _ h => by simp at h, fun _ h => by simp at h, fun _ h => by simp at h, rfl⟩
  rw [exL_flow es u v _ hl]
  by_cases e : v = a
  · subst e
    rw [hk.val, decide_eq_true rfl, ind_true]; omega
  · rw [hk.bal v hv e hvb, decide_eq_false e, ind_false]; omega

/-- What Ways tells: as many ways as are, no edge twice, each from a to b. -/
structure WaysOk (es : List E) (a b : Nat) (ws : List (List E)) : Prop where
  nodup : ws.flatten.Nodup
  sub : ∀ e, e ∈ ws.flatten → e ∈ es
  whole : ∀ w, w ∈ ws → Trail w a b

theorem WaysOk.nil (es : List E) (a b : Nat) : WaysOk es a b [] := ⟨by simp, fun _ h => by simp at h, fun _ h => by simp at h⟩

theorem Peel.ok {es : List E} {x : Nat → Bool} {a b r : Nat} {L : Nat → Bool} {ws : List (List E)} {l : List E} (h : Peel es x a b r L ws b l) : WaysOk es a b (ws ++ [l]) := by
  have hf : (ws ++ [l]).flatten = ws.flatten ++ l := by simp
  refine ⟨by rw [hf]; exact h.nodup, fun e he => by rw [hf] at he; exact h.sub e he, fun w hw => ?_⟩
  rcases List.mem_append.1 hw with hw | hw
  · exact h.whole w hw
  · simp at hw; subst hw; exact h.part

/-- How many edges are left. -/
def leftN (es : List E) (L : Nat → Bool) : Nat := (List.range es.length).countP L

theorem leftN_less {es : List E} {L : Nat → Bool} {i : Nat} (hi : i < es.length) (hL : L i = true) : leftN es (upd L i false) < leftN es L := by
  unfold leftN
  have key : ∀ n, i < n → (List.range n).countP (upd L i false) + 1 = (List.range n).countP L := by
    intro n hn
    induction n with
    | zero => omega
    | succ n ih =>
      rw [List.range_succ, List.countP_append, List.countP_append]
      by_cases e : i = n
      · subst e
        have h1 : (List.range i).countP (upd L i false) = (List.range i).countP L := by
          refine List.countP_congr fun j hj => ?_
          rw [upd_ne _ _ _ _ (by have := List.mem_range.1 hj; omega)]
        rw [h1]
        simp [upd_same, hL]
      · have h2 : upd L i false n = L n := upd_ne _ _ _ _ (fun h => e h.symm)
        have := ih (by omega)
        simp only [List.countP_singleton, h2]
        omega
  have := key _ hi
  omega

end Go.Proofs.YtkpoobnldgfapabGreatDoor.Pl
