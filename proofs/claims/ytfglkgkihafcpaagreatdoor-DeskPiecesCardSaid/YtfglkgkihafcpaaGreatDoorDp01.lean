/- Part 1 of the proof: A1. -/
import Derived.WalkKit
import Derived.WalkSpells
import Derived.WalkLawsBesides
import Derived.Lib.Hide
import Derived.Test.YtfglkgkihafcpaaGreatDoorRows
import Derived.ProofKit
import Derived.OpenShut
import Derived.Deep.SlicePairs
import Derived.Maps.Keyed
import Derived.Maps.OwnSet
import Derived.Maps.OwnOps
set_option linter.unusedVariables false
set_option linter.unusedSimpArgs false
namespace Go.Proofs.YtfglkgkihafcpaaGreatDoor
open Go.RowKit
def Iv (lo hi : Nat) : Nat → Prop := fun k => lo ≤ k ∧ k < hi
def Nb : Nat → Prop := fun _ => False
structure Keep (F : Nat → Prop) (w w' : World) : Prop where
 os : w'.os = w.os
 tape : w'.tape = w.tape
 output : w'.output = w.output
 size : w.heap.size ≤ w'.heap.size
 block : ∀ k, k < w.heap.size → ¬ F k → w'.heap[k]? = w.heap[k]?
namespace Keep
theorem refl (F : Nat → Prop) (w : World) : Keep F w w := ⟨rfl, rfl, rfl, Nat.le_refl _, fun _ _ _ => rfl⟩
theorem trans' {F G H : Nat → Prop} {a b c : World} (h : Keep F a b) (g : Keep G b c) (hF : ∀ k, k < a.heap.size → F k → H k) (hG : ∀ k, k < a.heap.size → G k → H k) : Keep H a c :=
 ⟨g.os.trans h.os, g.tape.trans h.tape, g.output.trans h.output, Nat.le_trans h.size g.size, fun k hk hn =>
  (g.block k (Nat.lt_of_lt_of_le hk h.size) (fun e => hn (hG k hk e))).trans (h.block k hk (fun e => hn (hF k hk e)))⟩
theorem trans {F : Nat → Prop} {a b c : World} (h : Keep F a b) (g : Keep F b c) : Keep F a c := h.trans' g (fun _ _ h => h) (fun _ _ h => h)
theorem mono {F G : Nat → Prop} {a b : World} (h : Keep F a b) (hF : ∀ k, k < a.heap.size → F k → G k) : Keep G a b :=
 ⟨h.os, h.tape, h.output, h.size, fun k hk hn => h.block k hk (fun e => hn (hF k hk e))⟩
theorem of_nb {F : Nat → Prop} {a b : World} (h : Keep Nb a b) : Keep F a b := h.mono (fun _ _ e => e.elim)
theorem drew {F : Nat → Prop} {a w : World} (h : Keep F a w) : Keep F a w.drew := ⟨h.os, h.tape, h.output, h.size, h.block⟩
theorem drewN {F : Nat → Prop} {a w : World} (h : Keep F a w) (n : Nat) : Keep F a (w.drewN n) := ⟨h.os, h.tape, h.output, h.size, h.block⟩
theorem alloc {F : Nat → Prop} {a w : World} (h : Keep F a w) (o : Obj) : Keep F a (w.alloc o) :=
 ⟨h.os, h.tape, h.output, by have := h.size; simp; omega, fun k hk hn => (Below.heap_alloc w o k (Nat.lt_of_lt_of_le hk h.size)).trans (h.block k hk hn)⟩
theorem setCell {F : Nat → Prop} {a w : World} (h : Keep F a w) {p : Addr} (hp : F p.block ∨ a.heap.size ≤ p.block) (v : Value) : Keep F a (w.setCell p v) :=
 ⟨h.os, h.tape, h.output, by have := h.size; simp [World.setCell]; omega, fun k hk hn =>
  (Below.heap_setCell w p v k (fun e => by rcases hp with hp | hp
                                           ·exact hn (e ▸ hp)
                                           ·omega)).trans (h.block k hk hn)⟩
theorem below {a b : World} (h : Below a.heap.size a b) : Keep Nb a b := ⟨h.os, h.tape, h.output, h.size, fun k hk _ => h.block k hk⟩
theorem to_below {F : Nat → Prop} {a b : World} (h : Keep F a b) (hF : ∀ k, k < a.heap.size → ¬ F k) : Below a.heap.size a b := ⟨h.os, h.tape, h.output, h.size, fun k hk => h.block k hk (hF k hk)⟩
theorem cell {F : Nat → Prop} {a b : World} (h : Keep F a b) {p : Addr} {v : Value} (hc : a.cell? p = some v) (hn : ¬ F p.block) : b.cell? p = some v :=
 (World.cell?_of_block (h.block p.block (World.block_lt_of_cell? a p hc) hn)).trans hc
theorem frozen {F : Nat → Prop} {a b : World} (h : Keep F a b) {p : Addr} (hp : p.block < a.heap.size) (hn : ¬ F p.block) : b.frozen? p = a.frozen? p :=
 World.frozen?_of_block (h.block p.block hp hn)
end Keep
def Row (w : World) (b : Nat) (T : TypeId) (l : List Value) : Prop :=
 ∃ cur : Array Value, w.heap[b]? = some (.cells cur T (0, 0)) ∧ cur.toList.take l.length = l
namespace Row
variable {w : World} {b : Nat} {T : TypeId} {l : List Value}
theorem lt (h : Row w b T l) : b < w.heap.size := by
 obtain ⟨cur, h, _⟩ := h
 exact (Array.getElem?_eq_some_iff.1 h).1
theorem cell (h : Row w b T l) {i : Nat} {v : Value} (hi : l[i]? = some v) : w.cell? ⟨b, i, none⟩ = some v := by
 obtain ⟨cur, h, ht⟩ := h
 have hlt := (List.getElem?_eq_some_iff.1 hi).1
 rw [← ht, List.getElem?_take, if_pos hlt] at hi
 simp [World.cell?, h]
 simpa using hi
theorem frozen (h : Row w b T l) (i : Nat) (s : Option Nat) : w.frozen? ⟨b, i, s⟩ = false := by
 obtain ⟨cur, h, _⟩ := h
 simp [World.frozen?, h]
theorem of_heap {w' : World} (h : Row w b T l) (e : w'.heap[b]? = w.heap[b]?) : Row w' b T l := by
 obtain ⟨cur, h, ht⟩ := h
 exact ⟨cur, e.trans h, ht⟩
theorem keep {F : Nat → Prop} {w' : World} (h : Row w b T l) (k : Keep F w w') (hn : ¬ F b) : Row w' b T l := h.of_heap (k.block b h.lt hn)
theorem set (h : Row w b T l) {i : Nat} (hi : i < l.length) (v : Value) : Row (w.setCell ⟨b, i, none⟩ v) b T (l.set i v) := by
 obtain ⟨cur, h, ht⟩ := h
 refine ⟨cur.setIfInBounds i v, ?_, ?_⟩
 ·simp [World.setCell, Array.getElem?_modify, h]
 ·rw [List.length_set, Array.toList_setIfInBounds]
  conv => rhs; rw [← ht]
  rw [List.take_set]
theorem set_other (h : Row w b T l) {p : Addr} (hp : p.block ≠ b) (v : Value) : Row (w.setCell p v) b T l :=
 h.of_heap (Below.heap_setCell w p v b (fun e => hp e.symm))
theorem alloc (h : Row w b T l) (o : Obj) : Row (w.alloc o) b T l := h.of_heap (Below.heap_alloc w o b h.lt)
theorem drew (h : Row w b T l) : Row w.drew b T l := h
theorem new (w : World) (cur : Array Value) (T : TypeId) : Row (w.alloc (.cells cur T)) w.heap.size T cur.toList :=
 ⟨cur, heap_alloc_new w _, List.take_length⟩
end Row
structure Sl (F : Nat → Prop) (w : World) (T : TypeId) (sz : Nat) (o : Option Addr) (n c : Nat) (l : List Value) : Prop where
 own : w.ownsRow 0 T sz (.slice o n c) n l
 foot : ∀ a, o = some a → F a.block
namespace Sl
variable {F : Nat → Prop} {w : World} {T : TypeId} {sz : Nat} {o : Option Addr} {n c : Nat} {l : List Value}
theorem len (h : Sl F w T sz o n c l) : l.length = n * sz := h.own.1
theorem nil (F : Nat → Prop) (w : World) (T : TypeId) (sz : Nat) : Sl F w T sz none 0 0 [] := ⟨World.ownsRow_nil w 0 T sz, fun _ h => by cases h⟩
theorem cases (h : Sl F w T sz o n c l) : (o = none ∧ n = 0 ∧ c = 0 ∧ l = []) ∨ ∃ g, o = some ⟨g, 0, none⟩ ∧ F g ∧ n ≤ c ∧ c ≤ maxLen ∧ Row w g T l ∧ (∃ cur : Array Value, w.heap[g]? = some (.cells cur T (0, 0)) ∧ cur.size = c * sz) := by
 rcases h.own.2 with ⟨e, hn⟩ | ⟨g, cap, cur, e, _, hg, hnc, hcm, hcs, ht⟩
 ·simp only [Value.slice.injEq] at e
  obtain ⟨rfl, rfl, rfl⟩ := e
  exact .inl ⟨rfl, rfl, rfl, List.eq_nil_of_length_eq_zero (by simpa using h.len)⟩
 ·simp only [Value.slice.injEq, true_and] at e
  obtain ⟨rfl, rfl⟩ := e
  exact .inr ⟨g, rfl, h.foot _ rfl, hnc, hcm, ⟨cur, hg, by rw [h.len]; exact ht⟩, cur, hg, hcs⟩
theorem pos (h : Sl F w T sz o n c l) (hn : 0 < n) : ∃ g, o = some ⟨g, 0, none⟩ ∧ F g ∧ n ≤ c ∧ Row w g T l := by
 rcases h.cases with ⟨_, h0, _⟩ | ⟨g, h1, h2, h3, _, h4, _⟩
 ·omega
 ·exact ⟨g, h1, h2, h3, h4⟩
theorem of_heap {w' : World} (h : Sl F w T sz o n c l) (e : ∀ k, k < w.heap.size → F k → w'.heap[k]? = w.heap[k]?) : Sl F w' T sz o n c l := by
 refine ⟨⟨h.own.1, ?_⟩, h.foot⟩
 rcases h.own.2 with hn | ⟨g, cap, cur, e1, hb, hg, rest⟩
 ·exact .inl hn
 ·refine .inr ⟨g, cap, cur, e1, hb, ?_, rest⟩
  simp only [Value.slice.injEq, true_and] at e1
  rw [e g (Array.getElem?_eq_some_iff.1 hg).1 (by have := h.foot _ e1.1; exact this)]
  exact hg
theorem of_block {w' : World} (h : Sl F w T sz o n c l) (e : ∀ a, o = some a → w'.heap[a.block]? = w.heap[a.block]?) : Sl F w' T sz o n c l := by
 refine ⟨⟨h.own.1, ?_⟩, h.foot⟩
 rcases h.own.2 with hn | ⟨g, cap, cur, e1, hb, hg, rest⟩
 ·exact .inl hn
 ·refine .inr ⟨g, cap, cur, e1, hb, ?_, rest⟩
  simp only [Value.slice.injEq, true_and] at e1
  rw [e _ e1.1]
  exact hg
theorem set_ne (h : Sl F w T sz o n c l) {p : Addr} (hp : ∀ a, o = some a → a.block ≠ p.block) (v : Value) : Sl F (w.setCell p v) T sz o n c l :=
 h.of_block fun a ha => Below.heap_setCell w p v a.block (hp a ha)
theorem keep {G : Nat → Prop} {w' : World} (h : Sl F w T sz o n c l) (k : Keep G w w') (d : ∀ k, F k → ¬ G k) : Sl F w' T sz o n c l :=
 h.of_heap fun i hi hF => k.block i hi (d i hF)
theorem mono {G : Nat → Prop} (h : Sl F w T sz o n c l) (hG : ∀ k, F k → G k) : Sl G w T sz o n c l := ⟨h.own, fun a ha => hG _ (h.foot a ha)⟩
theorem lt (h : Sl F w T sz o n c l) {a : Addr} (ha : o = some a) : a.block < w.heap.size := by
 rcases h.cases with ⟨h0, _⟩ | ⟨g, h1, _, _, _, h4, _⟩
 ·rw [h0] at ha; cases ha
 ·rw [h1] at ha; cases ha; exact h4.lt
theorem tight (h : Sl F w T sz o n c l) : Sl (fun k => F k ∧ k < w.heap.size) w T sz o n c l := ⟨h.own, fun a ha => ⟨h.foot a ha, h.lt ha⟩⟩
theorem set (h : Sl F w T 1 o n c l) {g i : Nat} (ho : o = some ⟨g, 0, none⟩) (hi : i < n) (v : Value) : Sl F (w.setCell ⟨g, i, none⟩ v) T 1 o n c (l.set i v) := by
 refine ⟨⟨by rw [List.length_set]; exact h.own.1, ?_⟩, h.foot⟩
 rcases h.own.2 with ⟨e, _⟩ | ⟨g', cap, cur, e1, hb, hg, h1, h2, h3, h4⟩
 ·rw [ho] at e; simp at e
 ·simp only [ho, Value.slice.injEq, Option.some.injEq, Addr.mk.injEq, and_true, true_and] at e1
  obtain ⟨rfl, rfl⟩ := e1
  refine .inr ⟨g, c, cur.setIfInBounds i v, by rw [ho], hb, ?_, h1, h2, by simpa using h3, ?_⟩
  ·simp [World.setCell, Array.getElem?_modify, hg]
  ·rw [Array.toList_setIfInBounds, List.take_set, h4]
theorem alloc (h : Sl F w T sz o n c l) (ob : Obj) : Sl F (w.alloc ob) T sz o n c l := h.of_heap fun k hk _ => Below.heap_alloc w ob k hk
theorem drew (h : Sl F w T sz o n c l) : Sl F w.drew T sz o n c l := ⟨h.own, h.foot⟩
end Sl
def ints (l : List Nat) : List Value := l.map fun (x : Nat) => Value.int .i64 x
@[simp] theorem ints_length (l : List Nat) : (ints l).length = l.length := by simp [ints]
theorem ints_get {l : List Nat} {i x : Nat} (h : l[i]? = some x) : (ints l)[i]? = some (.int .i64 x) := by simp [ints, h]
theorem ints_append (l m : List Nat) : ints (l ++ m) = ints l ++ ints m := by simp [ints]
theorem ints_one (l : List Nat) : ∀ u ∈ ints l, u.oneCell' = true := by
 intro u hu; obtain ⟨_, _, rfl⟩ := List.mem_map.1 hu; rfl
end Go.Proofs.YtfglkgkihafcpaaGreatDoor
namespace Go.Proofs.YtfglkgkihafcpaaGreatDoor
open Go.RowKit
end Go.Proofs.YtfglkgkihafcpaaGreatDoor
namespace Go.Proofs.YtfglkgkihafcpaaGreatDoor
open Go.RowKit Go.ChangeShapes Go.WideShapes Go.ChangeAt
theorem own : ownKnob Tryz.prog.godebug = none := by kernel_rfl
end Go.Proofs.YtfglkgkihafcpaaGreatDoor
namespace Go.Proofs.YtfglkgkihafcpaaGreatDoor
open Go.RowKit Go.Maps
structure Enc {α : Type} (P : Program) (k : TypeId) (enc : α → Value) (D : α → Prop) : Prop where
 keyed : Keyed P k
 ok : ∀ {a : α}, D a → ∃ l, keyOf P k (enc a) = some l
 inj : ∀ {a b : α}, enc a = enc b → a = b
section plain
variable {α : Type} [DecidableEq α]
def mget (m : List (α × Value)) (a : α) : Option Value := (m.find? (fun p => decide (p.1 = a))).map (·.2)
def mdel (m : List (α × Value)) (a : α) : List (α × Value) := m.filter (fun p => decide (p.1 ≠ a))
def mset (m : List (α × Value)) (a : α) (v : Value) : List (α × Value) :=
 if m.any (fun p => decide (p.1 = a)) then m.map (fun p => if p.1 = a then (a, v) else p) else m ++ [(a, v)]
theorem mget_nil (a : α) : mget [] a = none := rfl
theorem mget_cons (p : α × Value) (m : List (α × Value)) (a : α) : mget (p :: m) a = if p.1 = a then some p.2 else mget m a := by
 unfold mget; rw [List.find?_cons]; by_cases h : p.1 = a <;> simp [h]
theorem mget_append (m m' : List (α × Value)) (a : α) : mget (m ++ m') a = (mget m a).or (mget m' a) := by
 induction m with
 | nil => simp [mget_nil]
 | cons p m ih => rw [List.cons_append, mget_cons, mget_cons, ih]; split <;> simp
theorem mget_none {m : List (α × Value)} {a : α} : mget m a = none ↔ ∀ p ∈ m, p.1 ≠ a := by
 unfold mget; simp [List.find?_eq_none]
theorem mget_map_set (m : List (α × Value)) (a b : α) (v : Value) : mget (m.map (fun p => if p.1 = a then (a, v) else p)) b = if b = a then (if m.any (fun p => decide (p.1 = a)) then some v else none) else mget m b := by
 induction m with
 | nil => simp [mget_nil]
 | cons p m ih =>
  rw [List.map_cons, mget_cons, mget_cons, ih]
  by_cases hp : p.1 = a
  ·subst hp
   by_cases hb : b = p.1
   ·simp [hb]
   ·have : ¬ p.1 = b := fun e => hb e.symm
    simp [hb, this]
  ·by_cases hb : b = a
   ·subst hb
    have hp' : decide (p.1 = b) = false := by simp [hp]
    rw [List.any_cons, hp', if_neg hp, if_neg hp, if_pos rfl, if_pos rfl, Bool.false_or]
   ·simp [hp, hb]
theorem mget_mset (m : List (α × Value)) (a b : α) (v : Value) : mget (mset m a v) b = if b = a then some v else mget m b := by
 unfold mset
 by_cases h : m.any (fun p => decide (p.1 = a)) = true
 ·rw [if_pos h, mget_map_set, h]; simp
 ·rw [if_neg h, mget_append]
  have hn : mget m a = none := mget_none.2 (fun p hp e => h (List.any_eq_true.2 ⟨p, hp, by simpa using e⟩))
  by_cases hb : b = a
  ·subst hb; simp [hn, mget_cons]
  ·have : ¬ a = b := fun e => hb e.symm
   simp [hb, mget_cons, this, mget_nil]
theorem mget_mdel (m : List (α × Value)) (a b : α) : mget (mdel m a) b = if b = a then none else mget m b := by
 induction m with
 | nil => simp [mdel, mget_nil]
 | cons p m ih =>
  unfold mdel at ih ⊢
  rw [List.filter_cons]
  by_cases hp : p.1 = a
  ·subst hp
   simp only [ne_eq, not_true_eq_false, decide_false, Bool.false_eq_true, if_false, ih, mget_cons]
   by_cases hb : b = p.1
   ·simp [hb]
   ·have : ¬ p.1 = b := fun e => hb e.symm
    simp [hb, this]
  ·simp only [ne_eq, hp, not_false_eq_true, decide_true, if_true, mget_cons, ih]
   by_cases hb : b = a
   ·subst hb; simp [hp]
   ·simp [hb]
theorem mget_isSome {m : List (α × Value)} {a : α} : (mget m a).isSome = m.any (fun p => decide (p.1 = a)) := by
 induction m with
 | nil => rfl
 | cons p m ih => rw [mget_cons, List.any_cons, ← ih]; by_cases h : p.1 = a <;> simp [h]
theorem mem_keys_iff {m : List (α × Value)} {a : α} : a ∈ m.map (·.1) ↔ (mget m a).isSome = true := by
 rw [mget_isSome]; simp
end plain
section mem
variable {α : Type}
def MapAt (enc : α → Value) (D : α → Prop) (w : World) (b : Nat) (m : List (α × Value)) : Prop :=
 ∃ es clock, w.heap[b]? = some (.map es clock) ∧ es.toList.map (fun e => (e.key, e.val)) = m.map (fun p => (enc p.1, p.2)) ∧ (∀ p ∈ m, D p.1) ∧ m.Pairwise (fun p q => p.1 ≠ q.1) ∧
  (es.toList.map (·.born)).Pairwise (· ≠ ·) ∧ ∀ e ∈ es.toList, e.born < clock
variable {enc : α → Value} {D : α → Prop} {w : World} {b : Nat} {m : List (α × Value)} {P : Program} {k : TypeId}
theorem MapAt.lt (h : MapAt enc D w b m) : b < w.heap.size := by
 obtain ⟨es, clock, hb, _⟩ := h
 exact (Array.getElem?_eq_some_iff.1 hb).1
theorem MapAt.of_heap {w' : World} (h : MapAt enc D w b m) (e : w'.heap[b]? = w.heap[b]?) : MapAt enc D w' b m := by
 obtain ⟨es, clock, hb, rest⟩ := h
 exact ⟨es, clock, e.trans hb, rest⟩
theorem MapAt.keep {F : Nat → Prop} {w' : World} (h : MapAt enc D w b m) (k : Keep F w w') (hn : ¬ F b) : MapAt enc D w' b m := h.of_heap (k.block b h.lt hn)
theorem MapAt.alloc (h : MapAt enc D w b m) (o : Obj) : MapAt enc D (w.alloc o) b m := h.of_heap (Below.heap_alloc w o b h.lt)
theorem MapAt.drew (h : MapAt enc D w b m) : MapAt enc D w.drew b m := h
theorem MapAt.setCell (h : MapAt enc D w b m) (p : Addr) (hp : p.block ≠ b) (v : Value) : MapAt enc D (w.setCell p v) b m := h.of_heap (Below.heap_setCell w p v b (fun e => hp e.symm))
theorem MapAt.made (enc : α → Value) (D : α → Prop) (w : World) : MapAt enc D (w.alloc (.map #[] 0)) w.heap.size [] :=
 ⟨#[], 0, (MapKept.heap_alloc w _).1, by simp, by simp, List.Pairwise.nil, by simp, by simp⟩
theorem MapAt.nodup (h : MapAt enc D w b m) : m.Pairwise (fun p q => p.1 ≠ q.1) := by obtain ⟨_, _, _, _, _, h, _⟩ := h; exact h
theorem keep_setBlock {w : World} {b : Nat} {o o' : Obj} (hb : w.heap[b]? = some o) : Keep (fun i => i = b) w (ChangeMaps.setBlock w b o') :=
 ⟨rfl, rfl, rfl, by simp [ChangeMaps.setBlock], fun i _ hn => by simp only [ChangeMaps.setBlock, Array.getElem?_setIfInBounds]; rw [if_neg (fun e => hn e.symm)]⟩
theorem entries_find [DecidableEq α] (E : Enc P k enc D) {es : List MapEntry} (hm : es.map (fun e => (e.key, e.val)) = m.map (fun p => (enc p.1, p.2))) (hD : ∀ p ∈ m, D p.1) {a : α} (ha : D a) (w : World) :
  ((Instr.findKey k (enc a) es).run P w = .ok none w ∧ mget m a = none) ∨
   ∃ j v, (Instr.findKey k (enc a) es).run P w = .ok (some (j, v)) w ∧ m[j]? = some (a, v) ∧ ∃ e, es[j]? = some e ∧ e.key = enc a := by
 obtain ⟨l, hl⟩ := E.ok ha
 have hk : ∀ e ∈ es, ∃ l, keyOf P k e.key = some l := by
  intro e he
  have : (e.key, e.val) ∈ m.map (fun p => (enc p.1, p.2)) := hm ▸ List.mem_map.2 ⟨e, he, rfl⟩
  obtain ⟨p, hp, hpe⟩ := List.mem_map.1 this
  simp only [Prod.mk.injEq] at hpe
  rw [← hpe.1]; exact E.ok (hD p hp)
 rcases E.keyed.find w hl es hk with ⟨h1, h2⟩ | ⟨j, e, h1, h2, h3⟩
 ·refine .inl ⟨h1, mget_none.2 fun p hp hpa => ?_⟩
  have : (enc p.1, p.2) ∈ es.map (fun e => (e.key, e.val)) := hm ▸ List.mem_map.2 ⟨p, hp, rfl⟩
  obtain ⟨e, he, hee⟩ := List.mem_map.1 this
  simp only [Prod.mk.injEq] at hee
  exact h2 e he (by rw [hee.1, hpa])
 ·refine .inr ⟨j, e.val, h1, ?_, e, h2, h3⟩
  have : (es.map (fun e => (e.key, e.val)))[j]? = some (e.key, e.val) := by simp [h2]
  rw [hm] at this
  simp only [List.getElem?_map, Option.map_eq_some_iff] at this
  obtain ⟨p, hp, hpe⟩ := this
  simp only [Prod.mk.injEq] at hpe
  rw [hp]
  congr 1
  exact Prod.ext (E.inj (by rw [hpe.1, h3])) hpe.2
theorem mget_of_get [DecidableEq α] {m : List (α × Value)} (hn : m.Pairwise (fun p q => p.1 ≠ q.1)) {j : Nat} {a : α} {v : Value} (h : m[j]? = some (a, v)) : mget m a = some v := by
 induction m generalizing j with
 | nil => simp at h
 | cons p m ih =>
  rw [List.pairwise_cons] at hn
  rw [mget_cons]
  cases j with
  | zero => simp at h; simp [h]
  | succ j =>
   simp at h
   have := hn.1 _ (List.mem_of_getElem? h)
   rw [if_neg this]
   exact ih hn.2 h
theorem MapAt.look [DecidableEq α] (E : Enc P k enc D) {t e : TypeId} (ht : P.underlying t = some (.map k e)) {z : Value} (hz : (zeroValue e).run P w = .ok z w) (h : MapAt enc D w b m) {a : α} (ha : D a) (c : Bool) :
  (Instr.lookup t (.map (some b)) (enc a) c).run P w = .ok (if c then .tuple #[(mget m a).getD z, .bool (mget m a).isSome] else (mget m a).getD z) w := by
 obtain ⟨es, clock, hb, hm, hD, hn, _, _⟩ := h
 obtain ⟨l, hl⟩ := E.ok ha
 rcases entries_find E hm hD ha w with ⟨h1, h2⟩ | ⟨j, v, h1, h2, _⟩
 ·rw [h2]
  simp [Instr.lookup, run_underlying ht, MapKept.run_getObj_map hb, E.keyed.check w _ hl, h1, hz, Result.andThen]
 ·rw [mget_of_get hn h2]
  simp [Instr.lookup, run_underlying ht, MapKept.run_getObj_map hb, E.keyed.check w _ hl, h1, Result.andThen]
theorem map_modify_pairs {es : List MapEntry} {j : Nat} {key val : Value} {m : List (α × Value)} [DecidableEq α] {a : α} {v0 : Value} (hk : key = enc a)
  (hm : es.map (fun e => (e.key, e.val)) = m.map (fun p => (enc p.1, p.2))) (hn : m.Pairwise (fun p q => p.1 ≠ q.1)) (hj : m[j]? = some (a, v0)) :
  (es.modify j (fun e => { e with key := key, val := val })).map (fun e => (e.key, e.val)) = (m.map (fun p => if p.1 = a then (a, val) else p)).map (fun p => (enc p.1, p.2)) := by
 induction m generalizing es j with
 | nil => simp at hj
 | cons p m ih =>
  cases es with
  | nil => simp at hm
  | cons e es =>
   simp only [List.map_cons, List.cons.injEq] at hm
   rw [List.pairwise_cons] at hn
   cases j with
   | zero =>
    simp at hj
    subst hj
    simp only [List.modify_zero_cons, List.map_cons, if_true, hk]
    congr 1
    rw [hm.2, List.map_map]
    refine List.map_congr_left fun q hq => ?_
    have := hn.1 q hq
    simp only [Function.comp]
    rw [if_neg (fun e => this e.symm)]
   | succ j =>
    simp at hj
    have hne : ¬ p.1 = a := hn.1 _ (List.mem_of_getElem? hj)
    simp only [List.modify_succ_cons, List.map_cons, if_neg hne, hm.1]
    congr 1
    exact ih hm.2 hn.2 hj
theorem pairwise_mset [DecidableEq α] {m : List (α × Value)} (hn : m.Pairwise (fun p q => p.1 ≠ q.1)) (a : α) (v : Value) : (mset m a v).Pairwise (fun p q => p.1 ≠ q.1) := by
 unfold mset
 split
 ·rw [List.pairwise_map]
  refine hn.imp fun {p q} h => ?_
  by_cases h1 : p.1 = a <;> by_cases h2 : q.1 = a <;> simp [h1, h2]
  ·exact h (by rw [h1, h2])
  ·exact fun e => h2 e.symm
  ·exact h
 ·rename_i hh
  rw [List.pairwise_append]
  refine ⟨hn, by simp, fun p hp q hq => ?_⟩
  simp at hq; subst hq
  exact fun e => hh (List.any_eq_true.2 ⟨p, hp, by simpa using e⟩)
theorem dom_mset [DecidableEq α] {m : List (α × Value)} (hD : ∀ p ∈ m, D p.1) {a : α} (ha : D a) (v : Value) : ∀ p ∈ mset m a v, D p.1 := by
 unfold mset
 split
 ·intro p hp
  obtain ⟨q, hq, rfl⟩ := List.mem_map.1 hp
  split
  ·exact ha
  ·exact hD q hq
 ·intro p hp
  rcases List.mem_append.1 hp with h | h
  ·exact hD p h
  ·simp at h; subst h; exact ha
theorem MapAt.store [DecidableEq α] (E : Enc P k enc D) {t e : TypeId} (ht : P.underlying t = some (.map k e)) (h : MapAt enc D w b m) {a : α} (ha : D a) (v : Value) :
  ∃ w', (Instr.mapUpdate t (.map (some b)) (enc a) v).run P w = .ok () w' ∧ MapAt enc D w' b (mset m a v) ∧ Keep (fun i => i = b) w w' := by
 obtain ⟨es, clock, hb, hm, hD, hn, hs, hc⟩ := h
 obtain ⟨l, hl⟩ := E.ok ha
 rcases entries_find E hm hD ha w with ⟨h1, h2⟩ | ⟨j, v0, h1, h2, e0, h3, h4⟩
 ·refine ⟨ChangeMaps.setBlock w b (.map (es.push ⟨enc a, v, clock⟩) (clock + 1)), ?_, ⟨es.push ⟨enc a, v, clock⟩, clock + 1, ChangeMaps.heap_setBlock_same hb _, ?_, dom_mset hD ha v, pairwise_mset hn a v, ?_, ?_⟩, keep_setBlock hb⟩
  ·simp [Instr.mapUpdate, run_underlying ht, MapKept.run_getObj_map hb, E.keyed.check w false hl, h1, MapKept.run_setObj_map _ hb, Result.andThen, ChangeMaps.setBlock]
  ·have : ¬ (m.any (fun p => decide (p.1 = a)) = true) := by rw [← mget_isSome, h2]; simp
   unfold mset
   rw [if_neg this]
   simp [hm]
  ·simp only [Array.toList_push, List.map_append, List.map_cons, List.map_nil]
   rw [List.pairwise_append]
   refine ⟨hs, by simp, fun p hp q hq => ?_⟩
   obtain ⟨e, he, rfl⟩ := List.mem_map.1 hp
   simp at hq; subst hq
   have := hc e he
   omega
  ·intro e he
   simp only [Array.toList_push, List.mem_append, List.mem_singleton] at he
   rcases he with he | rfl
   ·have := hc e he; omega
   ·show clock < clock + 1; omega
 ·refine ⟨ChangeMaps.setBlock w b (.map (es.modify j fun e => { e with key := enc a, val := v }) clock), ?_, ⟨es.modify j fun e => { e with key := enc a, val := v }, clock, ChangeMaps.heap_setBlock_same hb _, ?_, dom_mset hD ha v, pairwise_mset hn a v, ?_, ?_⟩, keep_setBlock hb⟩
  ·have e1 : (((es[j]?).map (·.key)).getD (enc a)) = enc a := by
    have : es[j]? = some e0 := by simpa using h3
    rw [this]; simpa using h4
   simp [Instr.mapUpdate, run_underlying ht, MapKept.run_getObj_map hb, E.keyed.check w false hl, h1, e1, E.keyed.stays w hl, MapKept.run_setObj_map _ hb, Result.andThen, ChangeMaps.setBlock]
  ·have : m.any (fun p => decide (p.1 = a)) = true := by rw [← mget_isSome, mget_of_get hn h2]; rfl
   unfold mset
   rw [if_pos this]
   rw [Array.toList_modify]
   exact map_modify_pairs rfl hm hn h2
  ·rw [Array.toList_modify]
   have : ∀ (l : List MapEntry) (j : Nat), (l.modify j (fun e => { e with key := enc a, val := v })).map (·.born) = l.map (·.born) := by
    intro l
    induction l with
    | nil => intro j; simp
    | cons x l ih => intro j; cases j <;> simp [ih]
   rw [this]; exact hs
  ·intro e he
   rw [Array.toList_modify] at he
   have : ∀ (l : List MapEntry) (j : Nat), (∀ e ∈ l, e.born < clock) → ∀ e ∈ l.modify j (fun e => { e with key := enc a, val := v }), e.born < clock := by
    intro l
    induction l with
    | nil => intro j _ e he; simp at he
    | cons x l ih =>
     intro j hl e he
     cases j with
     | zero =>
      simp at he
      rcases he with rfl | he
      ·exact hl x (by simp)
      ·exact hl e (by simp [he])
     | succ j =>
      simp at he
      rcases he with rfl | he
      ·exact hl e (by simp)
      ·exact ih j (fun e he => hl e (by simp [he])) e he
   exact this _ _ hc e he
theorem wpList_mapset {P : Program} {w w' : World} {ops : Array Oper} {rest : List Oper} {o : Oper} {a : Act} {Q : Exit → Act → World → Prop} (hg : o.guard = none) (m x v : Operand) (t : TypeId)
  (hop : o.op = Op.mapUpdate t m x v) {vm vx vv : Value} (hm : a.eval m = vm) (hx : a.eval x = vx) (hv : a.eval v = vv)
  (hrun : (Instr.mapUpdate t vm vx vv).run P w = .ok () w') (h : wpList P ops Q rest (a.put o.dst undef) w') : wpList P ops Q (o :: rest) a w := by
 refine wpList_plain hg fun K' hK' => ?_
 unfold Oper.wp
 simp [execOp, hop, hm, hx, hv, hrun, Result.andThen]
 exact hK' _ _ h
def encN (x : Nat) : Value := .int .i64 x
def DN (x : Nat) : Prop := x < 9223372036854775808
theorem encN_enc (hk : P.underlying k = some (.int .i64)) : Enc P k encN DN :=
 ⟨int_keyed hk, fun {a} ha => ⟨_, keyOf_int_mk hk (by
   unfold DN at ha
   have h1 : IntKind.i64.min = -9223372036854775808 := by decide
   have h2 : IntKind.i64.max = 9223372036854775807 := by decide
   simp only [Lit.wf, h1, h2, Bool.and_eq_true, decide_eq_true_eq]
   omega)⟩, fun {a b} h => by
  simp only [encN, Value.int.injEq, true_and] at h
  omega⟩
end mem
end Go.Proofs.YtfglkgkihafcpaaGreatDoor
namespace Go.Proofs.YtfglkgkihafcpaaGreatDoor
open Go.RowKit Go.Maps
theorem mdel_none {α : Type} [DecidableEq α] {m : List (α × Value)} {a : α} (h : mget m a = none) : mdel m a = m := by
 unfold mdel
 rw [List.filter_eq_self]
 intro p hp
 have := mget_none.1 h p hp
 simpa using this
theorem mdel_at {α : Type} [DecidableEq α] {m : List (α × Value)} (hn : m.Pairwise (fun p q => p.1 ≠ q.1)) {j : Nat} {a : α} {v : Value} (h : m[j]? = some (a, v)) : mdel m a = m.eraseIdx j := by
 induction m generalizing j with
 | nil => simp at h
 | cons p m ih =>
  rw [List.pairwise_cons] at hn
  cases j with
  | zero =>
   simp at h
   subst h
   unfold mdel
   rw [List.filter_cons]
   simp only [ne_eq, not_true_eq_false, decide_false, Bool.false_eq_true, if_false, List.eraseIdx_cons_zero]
   rw [List.filter_eq_self]
   intro q hq
   have := hn.1 q hq
   simpa using fun e => this e.symm
  | succ j =>
   simp at h
   have hne : p.1 ≠ a := hn.1 _ (List.mem_of_getElem? h)
   have := ih hn.2 h
   unfold mdel at this ⊢
   rw [List.filter_cons, if_pos (by simpa using hne), this, List.eraseIdx_cons_succ]
theorem map_eraseIdx' {α β : Type} (f : α → β) (l : List α) (j : Nat) : (l.eraseIdx j).map f = (l.map f).eraseIdx j := by
 induction l generalizing j with
 | nil => rfl
 | cons x l ih => cases j <;> simp [ih]
section
variable {α : Type} {enc : α → Value} {D : α → Prop} {w : World} {b : Nat} {m : List (α × Value)} {P : Program} {k : TypeId}
theorem MapAt.del [DecidableEq α] (E : Enc P k enc D) {t e : TypeId} (ht : P.underlying t = some (.map k e)) (h : MapAt enc D w b m) {a : α} (ha : D a) (ty : TypeId) :
  ∃ w', (Builtin.delete_ #[t, k] ty #[.map (some b), enc a]).run P w = .ok (.tuple #[]) w' ∧ MapAt enc D w' b (mdel m a) ∧ Keep (fun i => i = b) w w' := by
 obtain ⟨es, clock, hb, hm, hD, hn, hs, hc⟩ := h
 obtain ⟨l, hl⟩ := E.ok ha
 rcases entries_find E hm hD ha w with ⟨h1, h2⟩ | ⟨j, v0, h1, h2, e0, h3, h4⟩
 ·refine ⟨ChangeMaps.setBlock w b (.map es clock), ?_, ⟨es, clock, ChangeMaps.heap_setBlock_same hb _, ?_⟩, keep_setBlock hb⟩
  ·simp [Builtin.delete_, run_underlying ht, MapKept.run_getObj_map hb, E.keyed.check w _ hl, h1, MapKept.run_setObj_map _ hb, Result.andThen, ChangeMaps.setBlock]
  ·rw [mdel_none h2]; exact ⟨hm, hD, hn, hs, hc⟩
 ·have hjl : j < es.toList.length := (List.getElem?_eq_some_iff.1 h3).1
  have hjs : j < es.size := by simpa using hjl
  have hsub : (es.eraseIdxIfInBounds j).toList = es.toList.eraseIdx j := by
   unfold Array.eraseIdxIfInBounds
   rw [dif_pos hjs]
   simp
  refine ⟨ChangeMaps.setBlock w b (.map (es.eraseIdxIfInBounds j) clock), ?_, ⟨es.eraseIdxIfInBounds j, clock, ChangeMaps.heap_setBlock_same hb _, ?_, ?_, ?_, ?_, ?_⟩, keep_setBlock hb⟩
  ·simp [Builtin.delete_, run_underlying ht, MapKept.run_getObj_map hb, E.keyed.check w _ hl, h1, MapKept.run_setObj_map _ hb, Result.andThen, ChangeMaps.setBlock]
  ·rw [hsub, map_eraseIdx', hm, mdel_at hn h2, map_eraseIdx']
  ·intro p hp
   unfold mdel at hp
   exact hD p (List.mem_filter.1 hp).1
  ·unfold mdel; exact hn.filter _
  ·rw [hsub, map_eraseIdx']
   exact hs.sublist (List.eraseIdx_sublist _ _)
  ·intro e he
   rw [hsub] at he
   exact hc e ((List.eraseIdx_sublist _ _).subset he)
end
theorem wpList_mapdel {P : Program} {w w' : World} {ops : Array Oper} {rest : List Oper} {o : Oper} {a : Act} {Q : Exit → Act → World → Prop} (hg : o.guard = none) (m x : Operand) (t k : TypeId)
  (hop : o.op = Op.call { callee := Callee.builtin Builtin.delete, args := #[m, x], argTypes := #[t, k] }) {vm vx v' : Value} (hm : a.eval m = vm) (hx : a.eval x = vx)
  (hrun : (Builtin.delete_ #[t, k] o.type #[vm, vx]).run P w = .ok v' w') (h : wpList P ops Q rest (a.put o.dst v') w') : wpList P ops Q (o :: rest) a w := by
 refine wpList_plain hg fun K' hK' => ?_
 unfold Oper.wp execOp
 simp only [hop, resolve, invoke, builtin, Sem.run_bind, Sem.run_pure, Result.andThen_ok, List.map_toArray, List.map_cons, List.map_nil, hm, hx, hrun]
 exact hK' _ _ h
end Go.Proofs.YtfglkgkihafcpaaGreatDoor
namespace Go.Proofs.YtfglkgkihafcpaaGreatDoor
open Go.RowKit
def Bl (o : Option Addr) : Nat → Prop := fun k => ∃ a, o = some a ∧ a.block = k
def ElemT (P : Program) (e : TypeId) (z : Value) (size bytes : Nat) : Prop := (P.info? e).map (fun i => (i.zero, i.size, i.bytes)) = some (some z, size, bytes)
theorem run_app {P : Program} {w : World} {F : Nat → Prop} (t ty e : TypeId) {z : Value} {size bytes : Nat} (ht : P.underlying t = some (.slice e)) (hE : ElemT P e z size bytes)
  (hzs : z.cells.size = size) (hsz : 0 < size) {o : Option Addr} {n c : Nat} {xs : List Value} (hS : Sl F w e size o n c xs)
  (a : Addr) (m c2 : Nat) (news : List Value) (hl : news.length = m * size) (hnews : ∀ j u, news[j]? = some u → w.cell? (a.add j) = some u) (h1 : ∀ u ∈ news, u.oneCell' = true)
  (h63 : n + m ≤ maxLen) (hbytes : (n + m) * bytes ≤ 140737488355328) (hm : 0 < m) :
  ∃ g c' w', (Builtin.append_ #[t, t] ty #[.slice o n c, .slice (some a) m c2]).run P w = .ok (.slice (some ⟨g, 0, none⟩) (n + m) c') w' ∧
   Sl (fun k => F k ∨ k = w.heap.size) w' e size (some ⟨g, 0, none⟩) (n + m) c' (xs ++ news) ∧ Keep (Bl o) w w' ∧ (o = some ⟨g, 0, none⟩ ∨ g = w.heap.size) := by
 obtain ⟨i, hi, hz, hsize, hby⟩ := info_parts hE
 subst hsize
 subst hby
 have hown := hS.own
 have hsmall : n + m ≤ 9223372036854775807 := by simp only [maxLen] at h63; omega
 have hlen : (xs ++ news).length = (n + m) * i.size := by rw [List.length_append, hown.1, hl, Nat.add_mul]
 have grown : ∀ (old : Nat), old < n + m →
   Sl (fun k => F k ∨ k = w.heap.size) (w.drew.alloc (.cells (xs.toArray ++ news.toArray ++ Builtin.zeroCells z.cells (grownCap w (n + m) old e - (n + m))) e)) e i.size
    (some ⟨w.heap.size, 0, none⟩) (n + m) (grownCap w (n + m) old e) (xs ++ news) ∧
   Keep (Bl o) w (w.drew.alloc (.cells (xs.toArray ++ news.toArray ++ Builtin.zeroCells z.cells (grownCap w (n + m) old e - (n + m))) e)) := by
  intro old ho
  have hge := grownCap_ge w (n + m) old e
  have hcm : grownCap w (n + m) old e ≤ maxLen := grownCap_le_maxLen w (n + m) old e h63
  refine ⟨⟨⟨hlen, .inr ⟨w.heap.size, _, _, rfl, Nat.zero_le _, heap_alloc_new w.drew _, hge, hcm, ?_, ?_⟩⟩, fun a ha => by simp at ha; exact .inr (by rw [← ha])⟩, ((Keep.refl (Bl o) w).drew).alloc _⟩
  ·simp only [Array.size_append, List.size_toArray, size_zeroCells, hzs, hown.1, hl, ← Nat.add_mul]
   congr 1
   omega
  ·simp only [Array.toList_append, List.append_assoc]
   rw [← List.append_assoc, ← hlen]
   exact List.take_left
 rcases hown.2 with ⟨ev, hn⟩ | ⟨g, cap, cur, ev, _, hg, hnc, hcm, hcs, htake⟩
 ·simp only [Value.slice.injEq] at ev
  obtain ⟨rfl, rfl, rfl⟩ := ev
  have hx : xs = [] := List.eq_nil_of_length_eq_zero (by simpa using hown.1)
  subst hx
  have hr := run_append_nil (P := P) w t ty e i z ht hi hz a m c2 news hl hnews hm (by omega) (by have hb := hbytes; simp only [Nat.zero_add] at hb; omega)
  have hgr := grown 0 (by omega)
  simp only [Nat.zero_add, List.nil_append, Array.empty_append] at hgr ⊢
  exact ⟨_, _, _, hr, hgr.1, hgr.2, .inr rfl⟩
 ·simp only [Value.slice.injEq, true_and] at ev
  obtain ⟨rfl, rfl⟩ := ev
  by_cases hroom : n + m ≤ c
  ·have hfit : n * i.size + news.length ≤ cur.size := by rw [hl, hcs, ← Nat.add_mul]; exact Nat.mul_le_mul_right _ hroom
   have hr := run_append_room (P := P) w t ty e i ht hi g n c cur hg a m c2 news hl hnews h1 hroom hfit
   refine ⟨_, _, _, hr, ⟨⟨hlen, .inr ⟨g, c, _, rfl, Nat.zero_le _, setRow_heap w g cur _ e _ hg, hroom, hcm, ?_, ?_⟩⟩, fun a ha => .inl (hS.foot a ha)⟩, ?_, .inl rfl⟩
   ·simp only [List.size_toArray, List.length_append, List.length_take, List.length_drop, Array.length_toList]
    omega
   ·rw [htake, ← hlen]
    exact List.take_left
   ·exact ⟨rfl, rfl, rfl, by simp, fun k _ hk => setRow_other w g k _ (fun e => hk ⟨_, rfl, e.symm⟩)⟩
  ·have holds : ∀ j u, xs[j]? = some u → w.cell? ((⟨g, 0, none⟩ : Addr).add j) = some u := hown.cells (g := g) rfl
   have hr := run_append_grow (P := P) w t ty e i z ht hi hz ⟨g, 0, none⟩ n c xs hown.1 holds a m c2 news hl hnews (by omega) (by omega) (growslice_fits (by omega) hbytes)
   have hgr := grown c (by omega)
   exact ⟨_, _, _, hr, hgr.1, hgr.2, .inr rfl⟩
theorem run_app1 {P : Program} {w : World} {F : Nat → Prop} (t ty e : TypeId) {z : Value} {bytes : Nat} (ht : P.underlying t = some (.slice e)) (hE : ElemT P e z 1 bytes)
  (hzs : z.cells.size = 1) {o : Option Addr} {n c : Nat} {xs : List Value} (hS : Sl F w e 1 o n c xs) (x : Value) (hx : x.oneCell' = true)
  (h63 : n + 1 ≤ 1000000) (hbytes : bytes ≤ 1000000) :
  ∃ g c' w', (Builtin.append_ #[t, t] ty #[.slice o n c, .slice (some ⟨w.heap.size, 0, none⟩) 1 1]).run P (w.alloc (.cells #[x] e)) = .ok (.slice (some ⟨g, 0, none⟩) (n + 1) c') w' ∧
   Sl (fun k => F k ∨ k = w.heap.size + 1) w' e 1 (some ⟨g, 0, none⟩) (n + 1) c' (xs ++ [x]) ∧ Keep (Bl o) w w' ∧ (o = some ⟨g, 0, none⟩ ∨ g = w.heap.size + 1) := by
 have hcell : ∀ j u, [x][j]? = some u → (w.alloc (.cells #[x] e)).cell? ((⟨w.heap.size, 0, none⟩ : Addr).add j) = some u := by
  intro j u hj
  have : j = 0 := by
   have := (List.getElem?_eq_some_iff.1 hj).1
   simp at this; exact this
  subst this
  simp at hj; subst hj
  show (w.alloc (.cells #[x] e)).cell? ⟨w.heap.size, 0, none⟩ = _
  rw [World.cell?_alloc_at _ _ _ _ rfl]; rfl
 have hb : (n + 1) * bytes ≤ 140737488355328 := by
  have := Nat.mul_le_mul h63 hbytes
  omega
 obtain ⟨g, c', w', h1, h2, h3, h4⟩ := run_app (P := P) (w := w.alloc (.cells #[x] e)) t ty e ht hE hzs (by omega) (hS.alloc _) ⟨w.heap.size, 0, none⟩ 1 1 [x] rfl hcell
  (by intro u hu; simp at hu; rw [hu]; exact hx) (by simp only [maxLen]; omega) hb (by omega)
 simp only [World.size_alloc] at h2 h4
 exact ⟨g, c', w', h1, h2, ((Keep.refl (Bl o) w).alloc _).trans h3, h4⟩
theorem run_appN {P : Program} {w : World} {F : Nat → Prop} (t ty e : TypeId) {z : Value} {size bytes : Nat} (ht : P.underlying t = some (.slice e)) (hE : ElemT P e z size bytes)
  (hzs : z.cells.size = size) (hsz : 0 < size) {o : Option Addr} {n c : Nat} {xs : List Value} (hS : Sl F w e size o n c xs) (x : List Value) (m : Nat) (hx : ∀ u ∈ x, u.oneCell' = true) (hl : x.length = m * size) (hm : 0 < m)
  (h63 : n + m ≤ 1000000) (hbytes : bytes ≤ 1000000) :
  ∃ g c' w', (Builtin.append_ #[t, t] ty #[.slice o n c, .slice (some ⟨w.heap.size, 0, none⟩) m m]).run P (w.alloc (.cells x.toArray e)) = .ok (.slice (some ⟨g, 0, none⟩) (n + m) c') w' ∧
   Sl (fun k => F k ∨ k = w.heap.size + 1) w' e size (some ⟨g, 0, none⟩) (n + m) c' (xs ++ x) ∧ Keep (Bl o) w w' ∧ (o = some ⟨g, 0, none⟩ ∨ g = w.heap.size + 1) := by
 have hcell : ∀ j u, x[j]? = some u → (w.alloc (.cells x.toArray e)).cell? ((⟨w.heap.size, 0, none⟩ : Addr).add j) = some u := by
  intro j u hj
  rw [show (⟨w.heap.size, 0, none⟩ : Addr).add j = ⟨w.heap.size, j, none⟩ from by unfold Addr.add; split <;> simp_all]
  rw [World.cell?_alloc_at _ _ _ _ rfl]
  simpa using hj
 have hb : (n + m) * bytes ≤ 140737488355328 := by
  have := Nat.mul_le_mul h63 hbytes
  omega
 obtain ⟨g, c', w', h1, h2, h3, h4⟩ := run_app (P := P) (w := w.alloc (.cells x.toArray e)) t ty e ht hE hzs hsz (hS.alloc _) ⟨w.heap.size, 0, none⟩ m m x hl hcell
  hx (by simp only [maxLen]; omega) hb hm
 simp only [World.size_alloc] at h2 h4
 exact ⟨g, c', w', h1, h2, ((Keep.refl (Bl o) w).alloc _).trans h3, h4⟩
theorem wpList_app {P : Program} {w w' : World} {ops : Array Oper} {rest : List Oper} {o : Oper} {a : Act} {Q : Exit → Act → World → Prop} (hg : o.guard = none) (s x : Operand) (t : TypeId)
  (hop : o.op = Op.call { callee := Callee.builtin Builtin.append, args := #[s, x], argTypes := #[t, t] }) {v vx v' : Value} (hs : a.eval s = v) (hx : a.eval x = vx)
  (hrun : (Builtin.append_ #[t, t] o.type #[v, vx]).run P w = .ok v' w') (h : wpList P ops Q rest (a.put o.dst v') w') : wpList P ops Q (o :: rest) a w := by
 refine wpList_plain hg fun K' hK' => ?_
 unfold Oper.wp execOp
 simp only [hop, resolve, invoke, builtin, Sem.run_bind, Sem.run_pure, Result.andThen_ok, List.map_toArray, List.map_cons, List.map_nil, hs, hx, hrun]
 exact hK' _ _ h
theorem Bl_none (k : Nat) : ¬ Bl none k := by rintro ⟨a, ha, _⟩; cases ha
theorem Keep.of_none {w w' : World} (h : Keep (Bl none) w w') : Keep Nb w w' := h.mono (fun k _ hk => absurd hk (Bl_none k))
theorem run_app_nil1 {P : Program} {w : World} (F : Nat → Prop) (t ty e : TypeId) {z : Value} {bytes : Nat} (ht : P.underlying t = some (.slice e)) (hE : ElemT P e z 1 bytes)
  (hzs : z.cells.size = 1) (x : Value) (hx : x.oneCell' = true) (hbytes : bytes ≤ 1000000) :
  ∃ g c' w', (Builtin.append_ #[t, t] ty #[.slice none 0 0, .slice (some ⟨w.heap.size, 0, none⟩) 1 1]).run P (w.alloc (.cells #[x] e)) = .ok (.slice (some ⟨g, 0, none⟩) 1 c') w' ∧
   Sl (fun k => F k ∨ k = w.heap.size + 1) w' e 1 (some ⟨g, 0, none⟩) 1 c' [x] ∧ Keep Nb w w' ∧ g = w.heap.size + 1 := by
 obtain ⟨g, c', w', h1, h2, h3, h4⟩ := run_app1 (P := P) t ty e ht hE hzs (Sl.nil F w e 1) x hx (by omega) hbytes
 refine ⟨g, c', w', h1, h2, h3.of_none, ?_⟩
 rcases h4 with h4 | h4
 ·cases h4
 ·exact h4
end Go.Proofs.YtfglkgkihafcpaaGreatDoor
namespace Go.Proofs.YtfglkgkihafcpaaGreatDoor
open Go.RowKit
structure Rw where
 o : Option Addr
 n : Nat
 c : Nat
def Rw.val (r : Rw) : Value := .slice r.o r.n r.c
structure Mat (F : Nat → Prop) (w : World) (T e : TypeId) (o : Option Addr) (n c : Nat) (rows : List Rw) (ll : List (List Nat)) : Prop where
 out : Sl F w T 1 o n c (rows.map Rw.val)
 len : rows.length = ll.length
 row : ∀ (i : Nat) r l, rows[i]? = some r → ll[i]? = some l → Sl F w e 1 r.o r.n r.c (ints l)
 ne : ∀ (i : Nat) r a, rows[i]? = some r → r.o = some a → ¬ Bl o a.block
 nn : ∀ (i j : Nat) r s a b, i ≠ j → rows[i]? = some r → rows[j]? = some s → r.o = some a → s.o = some b → a.block ≠ b.block
namespace Mat
variable {F : Nat → Prop} {w : World} {T e : TypeId} {o : Option Addr} {n c : Nat} {rows : List Rw} {ll : List (List Nat)}
theorem nil (F : Nat → Prop) (w : World) (T e : TypeId) : Mat F w T e none 0 0 [] [] :=
 ⟨Sl.nil F w T 1, rfl, fun i r l h => by simp at h, fun i r a h => by simp at h, fun i j r s a b _ h => by simp at h⟩
theorem n_eq (h : Mat F w T e o n c rows ll) : n = ll.length := by
 have := h.out.len
 simp only [List.length_map, Nat.mul_one] at this
 rw [← this, h.len]
theorem of_heap {w' : World} (h : Mat F w T e o n c rows ll) (he : ∀ k, k < w.heap.size → F k → w'.heap[k]? = w.heap[k]?) : Mat F w' T e o n c rows ll :=
 ⟨h.out.of_heap he, h.len, fun i r l h1 h2 => (h.row i r l h1 h2).of_heap he, h.ne, h.nn⟩
theorem keep {G : Nat → Prop} {w' : World} (h : Mat F w T e o n c rows ll) (k : Keep G w w') (d : ∀ k, F k → ¬ G k) : Mat F w' T e o n c rows ll :=
 h.of_heap fun i hi hF => k.block i hi (d i hF)
theorem mono {G : Nat → Prop} (h : Mat F w T e o n c rows ll) (hG : ∀ k, F k → G k) : Mat G w T e o n c rows ll :=
 ⟨h.out.mono hG, h.len, fun i r l h1 h2 => (h.row i r l h1 h2).mono hG, h.ne, h.nn⟩
theorem alloc (h : Mat F w T e o n c rows ll) (ob : Obj) : Mat F (w.alloc ob) T e o n c rows ll := h.of_heap fun k hk _ => Below.heap_alloc w ob k hk
theorem tight (h : Mat F w T e o n c rows ll) : Mat (fun k => F k ∧ k < w.heap.size) w T e o n c rows ll :=
 ⟨h.out.tight, h.len, fun i r l h1 h2 => (h.row i r l h1 h2).tight, h.ne, h.nn⟩
theorem rowLt (h : Mat F w T e o n c rows ll) {i : Nat} {r : Rw} {a : Addr} (h1 : rows[i]? = some r) (ha : r.o = some a) : a.block < w.heap.size := by
 have hi : i < ll.length := by rw [← h.len]; exact (List.getElem?_eq_some_iff.1 h1).1
 exact (h.row i r ll[i] h1 (by simp [hi])).lt ha
theorem push {w' : World} {g c' : Nat} (h : Mat F w T e o n c rows ll) (hS : Sl F w' T 1 (some ⟨g, 0, none⟩) (n + 1) c' (rows.map Rw.val ++ [.slice none 0 0])) (hk : Keep (Bl o) w w')
  (hg : o = some ⟨g, 0, none⟩ ∨ g = w.heap.size + 1) : Mat F w' T e (some ⟨g, 0, none⟩) (n + 1) c' (rows ++ [⟨none, 0, 0⟩]) (ll ++ [[]]) := by
 refine ⟨by simpa [Rw.val] using hS, by simp [h.len], fun i r l h1 h2 => ?_, fun i r a h1 ha => ?_, fun i j r s a b hij h1 h2 ha hb => ?_⟩
 ·by_cases hi : i < rows.length
  ·rw [List.getElem?_append_left hi] at h1
   rw [List.getElem?_append_left (by rw [← h.len]; exact hi)] at h2
   refine (h.row i r l h1 h2).of_block fun a ha => hk.block _ (h.rowLt h1 ha) (h.ne i r a h1 ha)
  ·have hi' : i = rows.length := by
    have := (List.getElem?_eq_some_iff.1 h1).1
    simp at this; omega
   subst hi'
   simp at h1
   subst h1
   rw [h.len] at h2
   simp at h2
   subst h2
   exact Sl.nil F w' e 1
 ·by_cases hi : i < rows.length
  ·rw [List.getElem?_append_left hi] at h1
   rintro ⟨a', ha', hb⟩
   simp at ha'
   subst ha'
   rcases hg with hg | hg
   ·exact h.ne i r a h1 ha ⟨_, hg, hb⟩
   ·have := h.rowLt h1 ha
    simp at hb; omega
  ·have hi' : i = rows.length := by
    have := (List.getElem?_eq_some_iff.1 h1).1
    simp at this; omega
   subst hi'
   simp at h1
   subst h1
   cases ha
 ·by_cases hi : i < rows.length
  ·by_cases hj : j < rows.length
   ·rw [List.getElem?_append_left hi] at h1
    rw [List.getElem?_append_left hj] at h2
    exact h.nn i j r s a b hij h1 h2 ha hb
   ·have hj' : j = rows.length := by
     have := (List.getElem?_eq_some_iff.1 h2).1
     simp at this; omega
    subst hj'
    simp at h2
    subst h2
    cases hb
  ·have hi' : i = rows.length := by
    have := (List.getElem?_eq_some_iff.1 h1).1
    simp at this; omega
   subst hi'
   simp at h1
   subst h1
   cases ha
theorem setRow {w' : World} {go g c' i : Nat} {r : Rw} {l : List Nat} {x : Nat} (h : Mat F w T e (some ⟨go, 0, none⟩) n c rows ll) (hr : rows[i]? = some r) (hl : ll[i]? = some l)
  (hS : Sl F w' e 1 (some ⟨g, 0, none⟩) (r.n + 1) c' (ints l ++ [.int .i64 x])) (hk : Keep (Bl r.o) w w') (hg : r.o = some ⟨g, 0, none⟩ ∨ g = w.heap.size + 1) :
  Mat F (w'.setCell ⟨go, i, none⟩ (.slice (some ⟨g, 0, none⟩) (r.n + 1) c')) T e (some ⟨go, 0, none⟩) n c (rows.set i ⟨some ⟨g, 0, none⟩, r.n + 1, c'⟩) (ll.set i (l ++ [x])) := by
 have hin : i < rows.length := (List.getElem?_eq_some_iff.1 hr).1
 have hgo : go < w.heap.size := h.out.lt rfl
 have hn : i < n := by have := h.out.len; simp at this; omega
 have hggo : g ≠ go := by
  rcases hg with hg | hg
  ·intro e1; exact h.ne i r _ hr hg ⟨_, rfl, e1.symm⟩
  ·omega
 have hout' : Sl F w' T 1 (some ⟨go, 0, none⟩) n c (rows.map Rw.val) := h.out.of_block fun a ha => hk.block _ (h.out.lt ha) (fun hb => by
  obtain ⟨a', ha', hb'⟩ := hb
  simp at ha; subst ha
  exact h.ne i r a' hr ha' ⟨_, rfl, by simpa using hb'.symm⟩)
 refine ⟨?_, by simp [h.len], fun j s m h1 h2 => ?_, fun j s a h1 ha => ?_, fun j k s t a b hjk h1 h2 ha hb => ?_⟩
 ·rw [List.map_set]
  exact hout'.set rfl hn _
 ·by_cases hij : i = j
  ·subst hij
   simp [hin] at h1
   rw [List.getElem?_set_self (by rw [← h.len]; exact hin)] at h2
   simp at h2
   subst h1; subst h2
   rw [ints_append]
   refine (Sl.set_ne hS (p := ⟨go, i, none⟩) (fun a ha => ?_) _)
   simp at ha; subst ha; exact hggo
  ·rw [List.getElem?_set_ne hij] at h1 h2
   have h3 := h.row j s m h1 h2
   have h4 : Sl F w' e 1 s.o s.n s.c (ints m) := h3.of_block fun a ha => hk.block _ (h3.lt ha) (fun hb => by
    obtain ⟨a', ha', hb'⟩ := hb
    exact h.nn i j r s a' a hij hr h1 ha' ha hb')
   exact h4.set_ne (p := ⟨go, i, none⟩) (fun a ha e1 => h.ne j s a h1 ha ⟨_, rfl, e1.symm⟩) _
 ·by_cases hij : i = j
  ·subst hij
   simp [hin] at h1
   subst h1
   simp at ha; subst ha
   rintro ⟨a', ha', hb⟩
   simp at ha'; subst ha'
   exact hggo hb.symm
  ·rw [List.getElem?_set_ne hij] at h1
   exact h.ne j s a h1 ha
 ·by_cases hij : i = j
  ·subst hij
   rw [List.getElem?_set_ne hjk] at h2
   simp [hin] at h1
   subst h1
   simp at ha; subst ha
   rcases hg with hg | hg
   ·exact h.nn i k r t _ b hjk hr h2 hg hb
   ·have := h.rowLt h2 hb
    show g ≠ b.block
    omega
  ·rw [List.getElem?_set_ne hij] at h1
   by_cases hik : i = k
   ·subst hik
    simp [hin] at h2
    subst h2
    simp at hb; subst hb
    rcases hg with hg | hg
    ·exact h.nn j i s r a _ hjk h1 hr ha hg
    ·have := h.rowLt h1 ha
     show a.block ≠ g
     omega
   ·rw [List.getElem?_set_ne hik] at h2
    exact h.nn j k s t a b hjk h1 h2 ha hb
end Mat
end Go.Proofs.YtfglkgkihafcpaaGreatDoor

