/- Memory: what a call may touch ('Keep'), rows of cells, slices. Nothing of one program stands here. -/
import Derived.WalkKit
import Derived.WalkSpells
import Derived.WalkLawsBesides
import Derived.Lib.Hide
namespace Go.Proofs.Ytkpoobnldgfapaa
open Go.RowKit

/-- The blocks from lo on, below hi. -/
def Iv (lo hi : Nat) : Nat → Prop := fun k => lo ≤ k ∧ k < hi
def Nb : Nat → Prop := fun _ => False
def Or2 (F G : Nat → Prop) : Nat → Prop := fun k => F k ∨ G k

/-- Of what was there in w, only blocks in F may have turned. -/
structure Keep (F : Nat → Prop) (w w' : World) : Prop where
  os : w'.os = w.os
  tape : w'.tape = w.tape
  output : w'.output = w.output
  size : w.heap.size ≤ w'.heap.size
  block : ∀ k, k < w.heap.size → ¬ F k → w'.heap[k]? = w.heap[k]?

namespace Keep
theorem refl (F : Nat → Prop) (w : World) : Keep F w w := ⟨rfl, rfl, rfl, Nat.le_refl _, fun _ _ _ => rfl⟩

theorem trans' {F G H : Nat → Prop} {a b c : World} (h : Keep F a b) (g : Keep G b c) (hF : ∀ k, k < a.heap.size → F k → H k) (hG : ∀ k, k < a.heap.size → G k → H k) : Keep H a c :=
  ⟨g.os.trans h.os, g.tape.trans h.tape, g.output.trans h.output, Nat.le_trans h.size g.size, fun k hk hn =>
    (g.block k (Nat.lt_of_lt_of_le hk h.size) (fun e => hn (hG k hk e))).trans (h.block k hk (fun e => hn (hF k hk e)))⟩

theorem trans {F : Nat → Prop} {a b c : World} (h : Keep F a b) (g : Keep F b c) : Keep F a c := h.trans' g (fun _ _ h => h) (fun _ _ h => h)

theorem mono {F G : Nat → Prop} {a b : World} (h : Keep F a b) (hF : ∀ k, k < a.heap.size → F k → G k) : Keep G a b :=
  ⟨h.os, h.tape, h.output, h.size, fun k hk hn => h.block k hk (fun e => hn (hF k hk e))⟩

theorem of_nb {F : Nat → Prop} {a b : World} (h : Keep Nb a b) : Keep F a b := h.mono (fun _ _ e => e.elim)

theorem drew {F : Nat → Prop} {a w : World} (h : Keep F a w) : Keep F a w.drew := ⟨h.os, h.tape, h.output, h.size, h.block⟩

theorem drewN {F : Nat → Prop} {a w : World} (h : Keep F a w) (n : Nat) : Keep F a (w.drewN n) := ⟨h.os, h.tape, h.output, h.size, h.block⟩

theorem alloc {F : Nat → Prop} {a w : World} (h : Keep F a w) (o : Obj) : Keep F a (w.alloc o) :=
  ⟨h.os, h.tape, h.output, by have := h.size; simp; omega, fun k hk hn => (Below.heap_alloc w o k (Nat.lt_of_lt_of_le hk h.size)).trans (h.block k hk hn)⟩

theorem setCell {F : Nat → Prop} {a w : World} (h : Keep F a w) {p : Addr} (hp : F p.block ∨ a.heap.size ≤ p.block) (v : Value) : Keep F a (w.setCell p v) :=
  ⟨h.os, h.tape, h.output, by have := h.size; simp [World.setCell]; omega, fun k hk hn =>
    (Below.heap_setCell w p v k (fun e => by rcases hp with hp | hp
                                             · exact hn (e ▸ hp)
                                             · omega)).trans (h.block k hk hn)⟩

theorem grown {F : Nat → Prop} {a w w' : World} {row : Option Nat} (h : Keep F a w) (g : w.grownBy w' row) (hr : ∀ k, row = some k → F k ∨ a.heap.size ≤ k) : Keep F a w' :=
  ⟨g.os.trans h.os, g.tape.trans h.tape, g.output.trans h.output, Nat.le_trans h.size g.size, fun k hk hn =>
    (g.block k (Nat.lt_of_lt_of_le hk h.size) (fun e => by rcases hr k e.symm with hp | hp
                                                           · exact hn hp
                                                           · omega)).trans (h.block k hk hn)⟩

theorem below {a b : World} (h : Below a.heap.size a b) : Keep Nb a b := ⟨h.os, h.tape, h.output, h.size, fun k hk _ => h.block k hk⟩

theorem to_below {F : Nat → Prop} {a b : World} (h : Keep F a b) (hF : ∀ k, k < a.heap.size → ¬ F k) : Below a.heap.size a b := ⟨h.os, h.tape, h.output, h.size, fun k hk => h.block k hk (hF k hk)⟩

theorem cell {F : Nat → Prop} {a b : World} (h : Keep F a b) {p : Addr} {v : Value} (hc : a.cell? p = some v) (hn : ¬ F p.block) : b.cell? p = some v :=
  (World.cell?_of_block (h.block p.block (World.block_lt_of_cell? a p hc) hn)).trans hc

theorem frozen {F : Nat → Prop} {a b : World} (h : Keep F a b) {p : Addr} (hp : p.block < a.heap.size) (hn : ¬ F p.block) : b.frozen? p = a.frozen? p :=
  World.frozen?_of_block (h.block p.block hp hn)
end Keep

/-- Block b is a row of cells of type T that begins with l. -/
def Row (w : World) (b : Nat) (T : TypeId) (l : List Value) : Prop :=
  ∃ cur : Array Value, w.heap[b]? = some (.cells cur T (0, 0)) ∧ cur.toList.take l.length = l

namespace Row
variable {w : World} {b : Nat} {T : TypeId} {l : List Value}

theorem lt (h : Row w b T l) : b < w.heap.size := by
  obtain ⟨cur, h, _⟩ := h
  exact (Array.getElem?_eq_some_iff.1 h).1

theorem cell (h : Row w b T l) {i : Nat} {v : Value} (hi : l[i]? = some v) : w.cell? ⟨b, i, none⟩ = some v := by
  obtain ⟨cur, h, ht⟩ := h
  have hlt := (List.getElem?_eq_some_iff.1 hi).1
  rw [← ht, List.getElem?_take, if_pos hlt] at hi
  simp [World.cell?, h]
  simpa using hi

theorem frozen (h : Row w b T l) (i : Nat) (s : Option Nat) : w.frozen? ⟨b, i, s⟩ = false := by
  obtain ⟨cur, h, _⟩ := h
  simp [World.frozen?, h]

theorem of_heap {w' : World} (h : Row w b T l) (e : w'.heap[b]? = w.heap[b]?) : Row w' b T l := by
  obtain ⟨cur, h, ht⟩ := h
  exact ⟨cur, e.trans h, ht⟩

theorem keep {F : Nat → Prop} {w' : World} (h : Row w b T l) (k : Keep F w w') (hn : ¬ F b) : Row w' b T l := h.of_heap (k.block b h.lt hn)

theorem set (h : Row w b T l) {i : Nat} (hi : i < l.length) (v : Value) : Row (w.setCell ⟨b, i, none⟩ v) b T (l.set i v) := by
  obtain ⟨cur, h, ht⟩ := h
  refine ⟨cur.setIfInBounds i v, ?_, ?_⟩
  · simp [World.setCell, Array.getElem?_modify, h]
  · rw [List.length_set, Array.toList_setIfInBounds]
    conv => rhs; rw [← ht]
    rw [List.take_set]

theorem set_other (h : Row w b T l) {p : Addr} (hp : p.block ≠ b) (v : Value) : Row (w.setCell p v) b T l :=
  h.of_heap (Below.heap_setCell w p v b (fun e => hp e.symm))

theorem alloc (h : Row w b T l) (o : Obj) : Row (w.alloc o) b T l := h.of_heap (Below.heap_alloc w o b h.lt)
theorem drew (h : Row w b T l) : Row w.drew b T l := h
theorem drewN (h : Row w b T l) (n : Nat) : Row (w.drewN n) b T l := h

theorem new (w : World) (cur : Array Value) (T : TypeId) : Row (w.alloc (.cells cur T)) w.heap.size T cur.toList :=
  ⟨cur, heap_alloc_new w _, List.take_length⟩
end Row

/-- A slice value of n elements (each of sz cells) that begins at the head of a block in F; or nil. -/
structure Sl (F : Nat → Prop) (w : World) (T : TypeId) (sz : Nat) (o : Option Addr) (n c : Nat) (l : List Value) : Prop where
  own : w.ownsRow 0 T sz (.slice o n c) n l
  foot : ∀ a, o = some a → F a.block

namespace Sl
variable {F : Nat → Prop} {w : World} {T : TypeId} {sz : Nat} {o : Option Addr} {n c : Nat} {l : List Value}

theorem len (h : Sl F w T sz o n c l) : l.length = n * sz := h.own.1

theorem nil (F : Nat → Prop) (w : World) (T : TypeId) (sz : Nat) : Sl F w T sz none 0 0 [] := ⟨World.ownsRow_nil w 0 T sz, fun _ h => by cases h⟩

theorem cases (h : Sl F w T sz o n c l) : (o = none ∧ n = 0 ∧ c = 0 ∧ l = []) ∨ ∃ g, o = some ⟨g, 0, none⟩ ∧ F g ∧ n ≤ c ∧ c ≤ maxLen ∧ Row w g T l ∧ (∃ cur : Array Value, w.heap[g]? = some (.cells cur T (0, 0)) ∧ cur.size = c * sz) := by
  rcases h.own.2 with ⟨e, hn⟩ | ⟨g, cap, cur, e, _, hg, hnc, hcm, hcs, ht⟩
  · simp only [Value.slice.injEq] at e
    obtain ⟨rfl, rfl, rfl⟩ := e
    exact .inl ⟨rfl, rfl, rfl, List.eq_nil_of_length_eq_zero (by simpa using h.len)⟩
  · simp only [Value.slice.injEq, true_and] at e
    obtain ⟨rfl, rfl⟩ := e
    exact .inr ⟨g, rfl, h.foot _ rfl, hnc, hcm, ⟨cur, hg, by rw [h.len]; exact ht⟩, cur, hg, hcs⟩

theorem pos (h : Sl F w T sz o n c l) (hn : 0 < n) : ∃ g, o = some ⟨g, 0, none⟩ ∧ F g ∧ n ≤ c ∧ Row w g T l := by
  rcases h.cases with ⟨_, h0, _⟩ | ⟨g, h1, h2, h3, _, h4, _⟩
  · omega
  · exact ⟨g, h1, h2, h3, h4⟩

theorem of_heap {w' : World} (h : Sl F w T sz o n c l) (e : ∀ k, k < w.heap.size → F k → w'.heap[k]? = w.heap[k]?) : Sl F w' T sz o n c l := by
  refine ⟨⟨h.own.1, ?_⟩, h.foot⟩
  rcases h.own.2 with hn | ⟨g, cap, cur, e1, hb, hg, rest⟩
  · exact .inl hn
  · refine .inr ⟨g, cap, cur, e1, hb, ?_, rest⟩
    simp only [Value.slice.injEq, true_and] at e1
    rw [e g (Array.getElem?_eq_some_iff.1 hg).1 (by have := h.foot _ e1.1; exact this)]
    exact hg

theorem of_block {w' : World} (h : Sl F w T sz o n c l) (e : ∀ a, o = some a → w'.heap[a.block]? = w.heap[a.block]?) : Sl F w' T sz o n c l := by
  refine ⟨⟨h.own.1, ?_⟩, h.foot⟩
  rcases h.own.2 with hn | ⟨g, cap, cur, e1, hb, hg, rest⟩
  · exact .inl hn
  · refine .inr ⟨g, cap, cur, e1, hb, ?_, rest⟩
    simp only [Value.slice.injEq, true_and] at e1
    rw [e _ e1.1]
    exact hg

theorem set_ne (h : Sl F w T sz o n c l) {p : Addr} (hp : ∀ a, o = some a → a.block ≠ p.block) (v : Value) : Sl F (w.setCell p v) T sz o n c l :=
  h.of_block fun a ha => Below.heap_setCell w p v a.block (hp a ha)

theorem keep {G : Nat → Prop} {w' : World} (h : Sl F w T sz o n c l) (k : Keep G w w') (d : ∀ k, F k → ¬ G k) : Sl F w' T sz o n c l :=
  h.of_heap fun i hi hF => k.block i hi (d i hF)

theorem mono {G : Nat → Prop} (h : Sl F w T sz o n c l) (hG : ∀ k, F k → G k) : Sl G w T sz o n c l := ⟨h.own, fun a ha => hG _ (h.foot a ha)⟩

theorem lt (h : Sl F w T sz o n c l) {a : Addr} (ha : o = some a) : a.block < w.heap.size := by
  rcases h.cases with ⟨h0, _⟩ | ⟨g, h1, _, _, _, h4, _⟩
  · rw [h0] at ha; cases ha
  · rw [h1] at ha; cases ha; exact h4.lt

/-- The blocks are below the heap's size: so they lie in an interval. -/
theorem tight (h : Sl F w T sz o n c l) : Sl (fun k => F k ∧ k < w.heap.size) w T sz o n c l := ⟨h.own, fun a ha => ⟨h.foot a ha, h.lt ha⟩⟩

theorem set (h : Sl F w T 1 o n c l) {g i : Nat} (ho : o = some ⟨g, 0, none⟩) (hi : i < n) (v : Value) : Sl F (w.setCell ⟨g, i, none⟩ v) T 1 o n c (l.set i v) := by
  refine ⟨⟨by rw [List.length_set]; exact h.own.1, ?_⟩, h.foot⟩
  rcases h.own.2 with ⟨e, _⟩ | ⟨g', cap, cur, e1, hb, hg, h1, h2, h3, h4⟩
  · rw [ho] at e; simp at e
  · simp only [ho, Value.slice.injEq, Option.some.injEq, Addr.mk.injEq, and_true, true_and] at e1
    obtain ⟨rfl, rfl⟩ := e1
    refine .inr ⟨g, c, cur.setIfInBounds i v, by rw [ho], hb, ?_, h1, h2, by simpa using h3, ?_⟩
    · simp [World.setCell, Array.getElem?_modify, hg]
    · rw [Array.toList_setIfInBounds, List.take_set, h4]

theorem set_other (h : Sl F w T sz o n c l) {p : Addr} (hp : ¬ F p.block) (v : Value) : Sl F (w.setCell p v) T sz o n c l :=
  h.of_heap fun k _ hk => Below.heap_setCell w p v k (fun e => hp (e ▸ hk))

theorem alloc (h : Sl F w T sz o n c l) (ob : Obj) : Sl F (w.alloc ob) T sz o n c l := h.of_heap fun k hk _ => Below.heap_alloc w ob k hk
theorem drew (h : Sl F w T sz o n c l) : Sl F w.drew T sz o n c l := ⟨h.own, h.foot⟩
theorem drewN (h : Sl F w T sz o n c l) (m : Nat) : Sl F (w.drewN m) T sz o n c l := ⟨h.own, h.foot⟩

/-- What an append leaves. -/
theorem of_own {F : Nat → Prop} {w0 w w' : World} {T : TypeId} {sz : Nat} {v v' : Value} {n' : Nat} {l' : List Value} (hown : w'.ownsRow 0 T sz v' n' l') : ∃ o c, v' = .slice o n' c := by
  rcases hown.2 with ⟨rfl, rfl⟩ | ⟨g, cap, cur, rfl, _⟩
  · exact ⟨_, _, rfl⟩
  · exact ⟨_, _, rfl⟩
end Sl

/-- Numbers as values. -/
def ints (l : List Nat) : List Value := l.map fun (x : Nat) => Value.int .i64 x

@[simp] theorem ints_length (l : List Nat) : (ints l).length = l.length := by simp [ints]
theorem ints_get {l : List Nat} {i x : Nat} (h : l[i]? = some x) : (ints l)[i]? = some (.int .i64 x) := by simp [ints, h]
theorem ints_append (l m : List Nat) : ints (l ++ m) = ints l ++ ints m := by simp [ints]
theorem ints_one (l : List Nat) : ∀ u ∈ ints l, u.oneCell' = true := by
  intro u hu; obtain ⟨_, _, rfl⟩ := List.mem_map.1 hu; rfl

end Go.Proofs.Ytkpoobnldgfapaa
