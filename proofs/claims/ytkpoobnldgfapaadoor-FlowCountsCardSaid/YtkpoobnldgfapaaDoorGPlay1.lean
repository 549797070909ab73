/- isthmuslaw.GraphPlays: both graphs, and what is done to them. -/
import Derived.Test.YtkpoobnldgfapaaDoorGDel2
import Derived.Test.YtkpoobnldgfapaaDoorRDrop
import Derived.Test.YtkpoobnldgfapaaDoorRSort
import Derived.Test.YtkpoobnldgfapaaDoorLSameE
import Derived.Test.YtkpoobnldgfapaaDoorIntsR
import Derived.Test.YtkpoobnldgfapaaDoorAsErr
set_option linter.unusedVariables false
set_option linter.unusedSimpArgs false
namespace Go.Proofs.YtkpoobnldgfapaaDoor
open Go.RowKit Pl

/-- Both graphs, each in blocks of its own; block X is none of them. -/
def GpS (w : World) (X n gb rb : Nat) (es fs : List E) (wr : World) : Prop :=
  ∃ F1 F2 : Nat → Prop, Gr F1 wr gb n es ∧ RGr F2 wr rb n fs ∧ (∀ k, F1 k → w.heap.size ≤ k ∧ k < wr.heap.size ∧ k ≠ X) ∧ (∀ k, F2 k → w.heap.size ≤ k ∧ k < wr.heap.size ∧ k ≠ X) ∧ (∀ k, F1 k → ¬ F2 k) ∧ Keep Nb w wr ∧ X < wr.heap.size

theorem GpS.keepN {w wr w' : World} {X n gb rb : Nat} {es fs : List E} (h : GpS w X n gb rb es fs wr) (k : Keep Nb wr w') : GpS w X n gb rb es fs w' := by
  obtain ⟨F1, F2, m1, m2, m3, m4, m5, m6, m7⟩ := h
  have z := k.size
  exact ⟨F1, F2, m1.keep k (fun _ _ e => e), m2.keep k (fun _ _ e => e), fun j h => by have := m3 j h; omega, fun j h => by have := m4 j h; omega, m5, m6.trans k, by omega⟩

/-- What is newer than both may turn. -/
theorem GpS.keepT {w wr w' : World} {X n gb rb : Nat} {es fs : List E} (h : GpS w X n gb rb es fs wr) (k : Keep (fun j => wr.heap.size ≤ j) wr w') : GpS w X n gb rb es fs w' :=
  h.keepN (k.mono (fun j hj e => by omega))

theorem GpS.keep {w wr : World} {X n gb rb : Nat} {es fs : List E} (h : GpS w X n gb rb es fs wr) : Keep Nb w wr := by
  obtain ⟨F1, F2, m1, m2, m3, m4, m5, m6, m7⟩ := h; exact m6

theorem GpS.gr {w wr : World} {X n gb rb : Nat} {es fs : List E} (h : GpS w X n gb rb es fs wr) : Gr (fun _ => True) wr gb n es := by
  obtain ⟨F1, F2, m1, m2, m3, m4, m5, m6, m7⟩ := h; exact m1.mono (fun _ _ => trivial)
theorem GpS.rgr {w wr : World} {X n gb rb : Nat} {es fs : List E} (h : GpS w X n gb rb es fs wr) : RGr (fun _ => True) wr rb n fs := by
  obtain ⟨F1, F2, m1, m2, m3, m4, m5, m6, m7⟩ := h; exact m2.mono (fun _ _ => trivial)

/-- A new block that is none of them. -/
theorem GpS.newX {w wr : World} {X n gb rb : Nat} {es fs : List E} (h : GpS w X n gb rb es fs wr) (ob : Obj) : GpS w wr.heap.size n gb rb es fs (wr.alloc ob) := by
  obtain ⟨F1, F2, m1, m2, m3, m4, m5, m6, m7⟩ := h
  exact ⟨F1, F2, m1.alloc ob, m2.alloc ob, fun j h => by have := m3 j h; simp only [World.size_alloc]; omega, fun j h => by have := m4 j h; simp only [World.size_alloc]; omega, m5, m6.alloc ob, by simp⟩

def dropEs (es : List E) (t : Int) : List E := if hasId es t = true then delAt es (posOf es t) else es

theorem gp_drop {w wr : World} {X n gb rb : Nat} {es fs : List E} (h : GpS w X n gb rb es fs wr) (hM : GM n es fs) (t : Int) :
    Calls Tryd.prog 25 #[.pointer (some ⟨gb, 0, none⟩), .int .i64 t] wr fun e w' => e = .returned (errV (if hasId es t = true then 0 else 7)) ∧ GpS w X n gb rb (dropEs es t) fs w' ∧ Keep (fun k => k ≠ X) wr w' := by
  obtain ⟨F1, F2, m1, m2, m3, m4, m5, m6, m7⟩ := h
  refine (drop_any F1 wr gb n es t m1 hM.sorted (by have := hM.le; omega)).mono ?_
  rintro e w' ⟨he, hg, hk⟩
  have z := hk.size
  have z0 := m6.size
  refine ⟨by rw [he]; cases hasId es t <;> rfl, ⟨F1, F2, hg, m2.keep hk (fun k a b => m5 k b a), fun k h => by have := m3 k h; omega, fun k h => by have := m4 k h; omega, m5, m6.trans' hk (fun _ _ e => e) (fun k hk e => by have := m3 k e; show False; omega), by omega⟩, hk.mono (fun k _ h => (m3 k h).2.2)⟩

theorem GM.dropped {n : Nat} {es fs : List E} (h : GM n es fs) {t : Int} {k : Nat} {f : E} (hh : hasId fs t = true) (hk : fs[k]? = some f) (hf : (f.id : Int) = t) : GM n (dropEs es t) (delAt fs k) := by
  rw [← h.hasId] at hh
  unfold dropEs
  rw [if_pos hh]
  obtain ⟨e, he, hid⟩ := pos_at h.sorted hh
  exact h.drop he hk (by omega)

theorem gp_rdrop {w wr : World} {X n gb rb : Nat} {es' es fs : List E} (h : GpS w X n gb rb es' fs wr) (hM : GM n es fs) (t : Int) (he : es' = dropEs es t) :
    Calls Tryd.prog 26 #[.pointer (some ⟨rb, 0, none⟩), .int .i64 t] wr fun e w' => e = .returned (.int .i64 (if hasId es t = true then 0 else 7)) ∧ (∃ fs', GM n es' fs' ∧ GpS w X n gb rb es' fs' w') ∧ Keep (fun k => k ≠ X) wr w' := by
  obtain ⟨F1, F2, m1, m2, m3, m4, m5, m6, m7⟩ := h
  refine (rdrop_any F2 wr rb n fs t m2 (by have := hM.le; have := hM.len; omega)).mono ?_
  rintro e w' ⟨⟨fs', hg, hc⟩, hk⟩
  have z := hk.size
  have z0 := m6.size
  have hS : GpS w X n gb rb es' fs' w' := by
    refine ⟨F1, _, m1.keep hk m5, hg.tight, fun k h => by have := m3 k h; omega, fun k h => ?_, fun k h1 h2 => ?_, m6.trans' hk (fun _ _ e => e) (fun k hk e => by have := m4 k e; show False; omega), by omega⟩
    · obtain ⟨h | h, h'⟩ := h
      · have := m4 k h; omega
      · omega
    · obtain ⟨h | h, h'⟩ := h2
      · exact m5 k h1 h
      · have := m3 k h1; omega
  rcases hc with ⟨h1, h2, h3⟩ | ⟨k, f, h1, h2, h3, h4, h5⟩
  · refine ⟨by rw [h1, hM.hasId, h2]; rfl, ⟨fs', ?_, hS⟩, hk.mono (fun k _ h => (m4 k h).2.2)⟩
    rw [he, h3]
    unfold dropEs
    rw [hM.hasId, h2, if_neg (by simp)]
    exact hM
  · refine ⟨by rw [h1, hM.hasId, h2]; rfl, ⟨fs', ?_, hS⟩, hk.mono (fun k _ h => (m4 k h).2.2)⟩
    rw [he, h5]
    exact GM.dropped hM h2 h3 h4

theorem gp_add {w wr : World} {X n gb rb : Nat} {es fs : List E} (h : GpS w X n gb rb es fs wr) (hM : GM n es fs) (hn : n ≤ 40) (id a b : Int) :
    Calls Tryd.prog 27 #[.pointer (some ⟨gb, 0, none⟩), .int .i64 id, .int .i64 a, .int .i64 b] wr fun e w' => e = .returned (errV (addErr n es id a b)) ∧ GpS w X n gb rb (addEs n es id a b) fs w' ∧ Keep (fun k => k ≠ X) wr w' := by
  obtain ⟨F1, F2, m1, m2, m3, m4, m5, m6, m7⟩ := h
  refine (add_any F1 wr gb n es id a b m1 (fun k h => (m3 k h).2.1) hM.sorted hn hM.le).mono ?_
  rintro e w' ⟨he, hg, hk⟩
  have z := hk.size
  have z0 := m6.size
  refine ⟨by rw [he]; unfold errV errVal; rfl, ⟨_, F2, hg.tightT, m2.keep hk (fun k a b => m5 k b a), fun k h => ?_, fun k h => by have := m4 k h; omega, fun k h1 h2 => ?_, m6.trans' hk (fun _ _ e => e) (fun k hk e => by have := m3 k e; show False; omega), by omega⟩, hk.mono (fun k _ h => (m3 k h).2.2)⟩
  · obtain ⟨h | h, h'⟩ := h
    · have := m3 k h; omega
    · omega
  · obtain ⟨h | h, h'⟩ := h1
    · exact m5 k h h2
    · have := m4 k h2; omega

theorem GM.added {n : Nat} {es fs : List E} (ih : GM n es fs) (id a b : Int) : GM n (addEs n es id a b) (raddEs n fs id a b) ∧ addErr n fs id a b = addErr n es id a b := by
  unfold addEs raddEs addErr
  rw [← ih.hasId, ← ih.len]
  refine ⟨?_, rfl⟩
  by_cases hb : addBad n id a b ∨ a = b ∨ hasId es id = true ∨ 120 ≤ es.length
  · rw [if_pos hb, if_pos hb]; exact ih
  · rw [if_neg hb, if_neg hb]
    have h1 : ¬ addBad n id a b := fun h => hb (.inl h)
    have h2 : hasId es id = false := by
      cases h : hasId es id with
      | false => rfl
      | true => exact absurd (.inr (.inr (.inl h))) hb
    have h3 : es.length < 120 := Nat.lt_of_not_le fun h => hb (.inr (.inr (.inr h)))
    unfold addBad at h1
    have e1 : ((mkE id a b).id : Int) = id := by unfold mkE; simp only; omega
    have := ih.add (e := mkE id a b) (by rw [e1]; exact h2) (by unfold mkE; simp only; omega) (by unfold mkE; simp only; omega) h3
    rw [e1] at this
    exact this

theorem gp_radd {w wr : World} {X n gb rb : Nat} {es' es fs : List E} (h : GpS w X n gb rb es' fs wr) (hM : GM n es fs) (hn : n ≤ 40) (id a b : Int) (he : es' = addEs n es id a b) :
    Calls Tryd.prog 28 #[.pointer (some ⟨rb, 0, none⟩), .int .i64 id, .int .i64 a, .int .i64 b] wr fun e w' => e = .returned (.int .i64 (addErr n es id a b)) ∧ (∃ fs', GM n es' fs' ∧ GpS w X n gb rb es' fs' w') ∧ Keep (fun k => k ≠ X) wr w' := by
  obtain ⟨F1, F2, m1, m2, m3, m4, m5, m6, m7⟩ := h
  refine (radd_any F2 wr rb n fs id a b m2 (fun k h => (m4 k h).2.1) hn (by have := hM.le; have := hM.len; omega)).mono ?_
  rintro e w' ⟨h1, hg, hk⟩
  have z := hk.size
  have z0 := m6.size
  refine ⟨by rw [h1, (GM.added hM id a b).2], ⟨raddEs n fs id a b, by rw [he]; exact (GM.added hM id a b).1, ⟨F1, _, m1.keep hk m5, hg.tight, fun k h => by have := m3 k h; omega, fun k h => ?_, fun k h1 h2 => ?_, m6.trans' hk (fun _ _ e => e) (fun k hk e => by have := m4 k e; show False; omega), by omega⟩⟩, hk.mono (fun k _ h => (m4 k h).2.2)⟩
  · obtain ⟨h | h, h'⟩ := h
    · have := m4 k h; omega
    · omega
  · obtain ⟨h | h, h'⟩ := h2
    · exact m5 k h1 h
    · have := m3 k h1; omega

/-- The edge of a number, or none. -/
def Pick (es : List E) (t : Int) (f : E) (r : Int) : Prop :=
  (hasId es t = true ∧ f ∈ es ∧ (f.id : Int) = t ∧ r = 0) ∨ (hasId es t = false ∧ f = ⟨0, 0, 0⟩ ∧ r = 7)

theorem pick_edge {es : List E} (hs : Sorted es) (t : Int) : ∃ f r, Pick es t f r := by
  cases h : hasId es t with
  | true =>
    obtain ⟨e, he, hid⟩ := pos_at hs h
    exact ⟨e, 0, .inl ⟨h, List.mem_of_getElem? he, hid, rfl⟩⟩
  | false => exact ⟨⟨0, 0, 0⟩, 7, .inr ⟨h, rfl, rfl⟩⟩

theorem Pick.unique {es : List E} (hs : Sorted es) {t : Int} {f f' : E} {r r' : Int} (h : Pick es t f r) (h' : Pick es t f' r') : f = f' ∧ r = r' := by
  rcases h with ⟨a1, a2, a3, a4⟩ | ⟨a1, a2, a3⟩ <;> rcases h' with ⟨b1, b2, b3, b4⟩ | ⟨b1, b2, b3⟩
  · exact ⟨sorted_inj hs _ _ a2 b2 (by omega), by omega⟩
  · rw [a1] at b1; cases b1
  · rw [a1] at b1; cases b1
  · exact ⟨by rw [a2, b2], by omega⟩

theorem gp_edge (F : Nat → Prop) (w : World) (gb n : Nat) (es : List E) (t : Int) (f : E) (r : Int) (hG : Gr F w gb n es) (hs : Sorted es) (hl : es.length ≤ 120) (hP : Pick es t f r) :
    Calls Tryd.prog 23 #[.pointer (some ⟨gb, 0, none⟩), .int .i64 t] w fun e w' => e = .returned (.tuple #[.agg #[.int .i64 f.id, .int .i64 f.a, .int .i64 f.b], errV r]) ∧ Keep Nb w w' := by
  rcases hP with ⟨a1, a2, a3, a4⟩ | ⟨a1, a2, a3⟩
  · obtain ⟨e, he, hid⟩ := pos_at hs a1
    have hef : e = f := sorted_inj hs _ _ (List.mem_of_getElem? he) a2 (by omega)
    subst hef
    rw [← hid] at he a1 ⊢
    rw [a4]
    exact gedge_hit F w gb n es e hG hs (by omega) he a1
  · subst a2
    rw [a3]
    exact gedge_miss F w gb n es t hG hs (by omega) a1

def kpI (x : Int) (e : E) : Bool := decide ((e.a : Int) = x) || decide ((e.b : Int) = x)
def atV (n : Nat) (es : List E) (x : Int) : List E := if outB n x = true then [] else es.filter (kpI x)
def atR (n : Nat) (x : Int) : Int := if outB n x = true then 2 else 0

theorem gp_at (F : Nat → Prop) (w : World) (gb n : Nat) (es : List E) (x : Int) (hG : Gr F w gb n es) (hl : es.length ≤ 120) (L : List E) (r : Int) (hL : atV n es x = L) (hr : atR n x = r) :
    Calls Tryd.prog 30 #[.pointer (some ⟨gb, 0, none⟩), .int .i64 x] w fun e w' => ∃ o c, e = .returned (.tuple #[.slice o L.length c, errV r]) ∧ Sl (fun k => w.heap.size ≤ k) w' 55 3 o L.length c (ecs L) ∧ Keep Nb w w' := by
  unfold atV at hL
  unfold atR at hr
  cases ho : outB n x with
  | true =>
    rw [ho, if_pos rfl] at hL hr
    subst hL hr
    refine (at_err F w gb n es x hG ho).mono ?_
    rintro e w' ⟨rfl, hk⟩
    exact ⟨none, 0, rfl, Sl.nil _ _ _ _, hk⟩
  | false =>
    rw [ho, if_neg (by simp)] at hL hr
    obtain ⟨h1, h2⟩ := outB_false.1 ho
    obtain ⟨x', rfl⟩ := Int.eq_ofNat_of_zero_le h1
    have hkp : kpI (x' : Int) = kp x' := by
      funext e
      unfold kpI kp
      rw [Bool.eq_iff_iff, Bool.or_eq_true, decide_eq_true_eq, decide_eq_true_eq, decide_eq_true_eq]
      omega
    rw [hkp] at hL
    subst hL hr
    refine (at_any F w gb n es x' hG (by omega) (by omega)).mono ?_
    rintro e w' ⟨o, c, rfl, hS, hk⟩
    exact ⟨o, c, rfl, hS, hk⟩

theorem gp_sorted {n : Nat} {es fs ds : List E} (hM : GM n es fs) (hp : ds.Perm fs) (hs : ds.Pairwise (fun a b => ¬ b.id < a.id)) : ds = es := by
  refine sorted_ext ?_ hM.sorted (fun e => by rw [hM.mem, hp.mem_iff])
  have hnd : Nd ds := (hp.pairwise_iff (fun h e => h e.symm)).2 hM.nd
  exact (hs.and hnd).imp (fun h => by have := h.1; have := h.2; omega)

end Go.Proofs.YtkpoobnldgfapaaDoor
