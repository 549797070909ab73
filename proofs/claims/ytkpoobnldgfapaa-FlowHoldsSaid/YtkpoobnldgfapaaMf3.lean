/- Merged by a program of mine: Mem Prs LawKit MapLib MapDel Sets1 Sets2 Sets3 Sets4 App Mat Sets5. -/
import Derived.Test.YtkpoobnldgfapaaMf1
import Derived.Test.YtkpoobnldgfapaaMf2
import Derived.WalkKit
import Derived.WalkSpells
import Derived.WalkLawsBesides
import Derived.Lib.Hide
import Derived.Test.YtkpoobnldgfapaaRows
import Derived.ProofKit
import Derived.OpenShut
import Derived.Deep.SlicePairs
import Derived.Maps.Keyed
import Derived.Maps.OwnSet
import Derived.Maps.OwnOps
import Derived.Test.YtkpoobnldgfapaaProg
import Derived.Deep.QuietTactic
import Derived.BigQuiet
import Derived.Deep.RegionWith
/- Memory: what a call may touch ('Keep'), rows of cells, slices. Nothing of one program stands here. -/
namespace Go.Proofs.Ytkpoobnldgfapaa
open Go.RowKit

/-- The blocks from lo on, below hi. -/
def Iv (lo hi : Nat) : Nat → Prop := fun k => lo ≤ k ∧ k < hi
def Nb : Nat → Prop := fun _ => False
def Or2 (F G : Nat → Prop) : Nat → Prop := fun k => F k ∨ G k

/-- Of what was there in w, only blocks in F may have turned. -/
structure Keep (F : Nat → Prop) (w w' : World) : Prop where
  os : w'.os = w.os
  tape : w'.tape = w.tape
  output : w'.output = w.output
  size : w.heap.size ≤ w'.heap.size
  block : ∀ k, k < w.heap.size → ¬ F k → w'.heap[k]? = w.heap[k]?

namespace Keep
theorem refl (F : Nat → Prop) (w : World) : Keep F w w := ⟨rfl, rfl, rfl, Nat.le_refl _, fun _ _ _ => rfl⟩

theorem trans' {F G H : Nat → Prop} {a b c : World} (h : Keep F a b) (g : Keep G b c) (hF : ∀ k, k < a.heap.size → F k → H k) (hG : ∀ k, k < a.heap.size → G k → H k) : Keep H a c :=
  ⟨g.os.trans h.os, g.tape.trans h.tape, g.output.trans h.output, Nat.le_trans h.size g.size, fun k hk hn =>
    (g.block k (Nat.lt_of_lt_of_le hk h.size) (fun e => hn (hG k hk e))).trans (h.block k hk (fun e => hn (hF k hk e)))⟩

theorem trans {F : Nat → Prop} {a b c : World} (h : Keep F a b) (g : Keep F b c) : Keep F a c := h.trans' g (fun _ _ h => h) (fun _ _ h => h)

theorem mono {F G : Nat → Prop} {a b : World} (h : Keep F a b) (hF : ∀ k, k < a.heap.size → F k → G k) : Keep G a b :=
  ⟨h.os, h.tape, h.output, h.size, fun k hk hn => h.block k hk (fun e => hn (hF k hk e))⟩

theorem of_nb {F : Nat → Prop} {a b : World} (h : Keep Nb a b) : Keep F a b := h.mono (fun _ _ e => e.elim)

theorem drew {F : Nat → Prop} {a w : World} (h : Keep F a w) : Keep F a w.drew := ⟨h.os, h.tape, h.output, h.size, h.block⟩

theorem drewN {F : Nat → Prop} {a w : World} (h : Keep F a w) (n : Nat) : Keep F a (w.drewN n) := ⟨h.os, h.tape, h.output, h.size, h.block⟩

theorem alloc {F : Nat → Prop} {a w : World} (h : Keep F a w) (o : Obj) : Keep F a (w.alloc o) :=
  ⟨h.os, h.tape, h.output, by have := h.size; simp; omega, fun k hk hn => (Below.heap_alloc w o k (Nat.lt_of_lt_of_le hk h.size)).trans (h.block k hk hn)⟩

theorem setCell {F : Nat → Prop} {a w : World} (h : Keep F a w) {p : Addr} (hp : F p.block ∨ a.heap.size ≤ p.block) (v : Value) : Keep F a (w.setCell p v) :=
  ⟨h.os, h.tape, h.output, by have := h.size; simp [World.setCell]; omega, fun k hk hn =>
    (Below.heap_setCell w p v k (fun e => by rcases hp with hp | hp
                                             · exact hn (e ▸ hp)
                                             · omega)).trans (h.block k hk hn)⟩

theorem grown {F : Nat → Prop} {a w w' : World} {row : Option Nat} (h : Keep F a w) (g : w.grownBy w' row) (hr : ∀ k, row = some k → F k ∨ a.heap.size ≤ k) : Keep F a w' :=
  ⟨g.os.trans h.os, g.tape.trans h.tape, g.output.trans h.output, Nat.le_trans h.size g.size, fun k hk hn =>
    (g.block k (Nat.lt_of_lt_of_le hk h.size) (fun e => by rcases hr k e.symm with hp | hp
                                                           · exact hn hp
                                                           · omega)).trans (h.block k hk hn)⟩

theorem below {a b : World} (h : Below a.heap.size a b) : Keep Nb a b := ⟨h.os, h.tape, h.output, h.size, fun k hk _ => h.block k hk⟩

theorem to_below {F : Nat → Prop} {a b : World} (h : Keep F a b) (hF : ∀ k, k < a.heap.size → ¬ F k) : Below a.heap.size a b := ⟨h.os, h.tape, h.output, h.size, fun k hk => h.block k hk (hF k hk)⟩

theorem cell {F : Nat → Prop} {a b : World} (h : Keep F a b) {p : Addr} {v : Value} (hc : a.cell? p = some v) (hn : ¬ F p.block) : b.cell? p = some v :=
  (World.cell?_of_block (h.block p.block (World.block_lt_of_cell? a p hc) hn)).trans hc

theorem frozen {F : Nat → Prop} {a b : World} (h : Keep F a b) {p : Addr} (hp : p.block < a.heap.size) (hn : ¬ F p.block) : b.frozen? p = a.frozen? p :=
  World.frozen?_of_block (h.block p.block hp hn)
end Keep

/-- Block b is a row of cells of type T that begins with l. -/
def Row (w : World) (b : Nat) (T : TypeId) (l : List Value) : Prop :=
  ∃ cur : Array Value, w.heap[b]? = some (.cells cur T (0, 0)) ∧ cur.toList.take l.length = l

namespace Row
variable {w : World} {b : Nat} {T : TypeId} {l : List Value}

theorem lt (h : Row w b T l) : b < w.heap.size := by
  obtain ⟨cur, h, _⟩ := h
  exact (Array.getElem?_eq_some_iff.1 h).1

theorem cell (h : Row w b T l) {i : Nat} {v : Value} (hi : l[i]? = some v) : w.cell? ⟨b, i, none⟩ = some v := by
  obtain ⟨cur, h, ht⟩ := h
  have hlt := (List.getElem?_eq_some_iff.1 hi).1
  rw [← ht, List.getElem?_take, if_pos hlt] at hi
  simp [World.cell?, h]
  simpa using hi

theorem frozen (h : Row w b T l) (i : Nat) (s : Option Nat) : w.frozen? ⟨b, i, s⟩ = false := by
  obtain ⟨cur, h, _⟩ := h
  simp [World.frozen?, h]

theorem of_heap {w' : World} (h : Row w b T l) (e : w'.heap[b]? = w.heap[b]?) : Row w' b T l := by
  obtain ⟨cur, h, ht⟩ := h
  exact ⟨cur, e.trans h, ht⟩

theorem keep {F : Nat → Prop} {w' : World} (h : Row w b T l) (k : Keep F w w') (hn : ¬ F b) : Row w' b T l := h.of_heap (k.block b h.lt hn)

theorem set (h : Row w b T l) {i : Nat} (hi : i < l.length) (v : Value) : Row (w.setCell ⟨b, i, none⟩ v) b T (l.set i v) := by
  obtain ⟨cur, h, ht⟩ := h
  refine ⟨cur.setIfInBounds i v, ?_, ?_⟩
  · simp [World.setCell, Array.getElem?_modify, h]
  · rw [List.length_set, Array.toList_setIfInBounds]
    conv => rhs; rw [← ht]
    rw [List.take_set]

theorem set_other (h : Row w b T l) {p : Addr} (hp : p.block ≠ b) (v : Value) : Row (w.setCell p v) b T l :=
  h.of_heap (Below.heap_setCell w p v b (fun e => hp e.symm))

theorem alloc (h : Row w b T l) (o : Obj) : Row (w.alloc o) b T l := h.of_heap (Below.heap_alloc w o b h.lt)
theorem drew (h : Row w b T l) : Row w.drew b T l := h
theorem drewN (h : Row w b T l) (n : Nat) : Row (w.drewN n) b T l := h

theorem new (w : World) (cur : Array Value) (T : TypeId) : Row (w.alloc (.cells cur T)) w.heap.size T cur.toList :=
  ⟨cur, heap_alloc_new w _, List.take_length⟩
end Row

/-- A slice value of n elements (each of sz cells) that begins at the head of a block in F; or nil. -/
structure Sl (F : Nat → Prop) (w : World) (T : TypeId) (sz : Nat) (o : Option Addr) (n c : Nat) (l : List Value) : Prop where
  own : w.ownsRow 0 T sz (.slice o n c) n l
  foot : ∀ a, o = some a → F a.block

namespace Sl
variable {F : Nat → Prop} {w : World} {T : TypeId} {sz : Nat} {o : Option Addr} {n c : Nat} {l : List Value}

theorem len (h : Sl F w T sz o n c l) : l.length = n * sz := h.own.1

theorem nil (F : Nat → Prop) (w : World) (T : TypeId) (sz : Nat) : Sl F w T sz none 0 0 [] := ⟨World.ownsRow_nil w 0 T sz, fun _ h => by cases h⟩

theorem cases (h : Sl F w T sz o n c l) : (o = none ∧ n = 0 ∧ c = 0 ∧ l = []) ∨ ∃ g, o = some ⟨g, 0, none⟩ ∧ F g ∧ n ≤ c ∧ c ≤ maxLen ∧ Row w g T l ∧ (∃ cur : Array Value, w.heap[g]? = some (.cells cur T (0, 0)) ∧ cur.size = c * sz) := by
  rcases h.own.2 with ⟨e, hn⟩ | ⟨g, cap, cur, e, _, hg, hnc, hcm, hcs, ht⟩
  · simp only [Value.slice.injEq] at e
    obtain ⟨rfl, rfl, rfl⟩ := e
    exact .inl ⟨rfl, rfl, rfl, List.eq_nil_of_length_eq_zero (by simpa using h.len)⟩
  · simp only [Value.slice.injEq, true_and] at e
    obtain ⟨rfl, rfl⟩ := e
    exact .inr ⟨g, rfl, h.foot _ rfl, hnc, hcm, ⟨cur, hg, by rw [h.len]; exact ht⟩, cur, hg, hcs⟩

theorem pos (h : Sl F w T sz o n c l) (hn : 0 < n) : ∃ g, o = some ⟨g, 0, none⟩ ∧ F g ∧ n ≤ c ∧ Row w g T l := by
  rcases h.cases with ⟨_, h0, _⟩ | ⟨g, h1, h2, h3, _, h4, _⟩
  · omega
  · exact ⟨g, h1, h2, h3, h4⟩

theorem of_heap {w' : World} (h : Sl F w T sz o n c l) (e : ∀ k, k < w.heap.size → F k → w'.heap[k]? = w.heap[k]?) : Sl F w' T sz o n c l := by
  refine ⟨⟨h.own.1, ?_⟩, h.foot⟩
  rcases h.own.2 with hn | ⟨g, cap, cur, e1, hb, hg, rest⟩
  · exact .inl hn
  · refine .inr ⟨g, cap, cur, e1, hb, ?_, rest⟩
    simp only [Value.slice.injEq, true_and] at e1
    rw [e g (Array.getElem?_eq_some_iff.1 hg).1 (by have := h.foot _ e1.1; exact this)]
    exact hg

theorem of_block {w' : World} (h : Sl F w T sz o n c l) (e : ∀ a, o = some a → w'.heap[a.block]? = w.heap[a.block]?) : Sl F w' T sz o n c l := by
  refine ⟨⟨h.own.1, ?_⟩, h.foot⟩
  rcases h.own.2 with hn | ⟨g, cap, cur, e1, hb, hg, rest⟩
  · exact .inl hn
  · refine .inr ⟨g, cap, cur, e1, hb, ?_, rest⟩
    simp only [Value.slice.injEq, true_and] at e1
    rw [e _ e1.1]
    exact hg

theorem set_ne (h : Sl F w T sz o n c l) {p : Addr} (hp : ∀ a, o = some a → a.block ≠ p.block) (v : Value) : Sl F (w.setCell p v) T sz o n c l :=
  h.of_block fun a ha => Below.heap_setCell w p v a.block (hp a ha)

theorem keep {G : Nat → Prop} {w' : World} (h : Sl F w T sz o n c l) (k : Keep G w w') (d : ∀ k, F k → ¬ G k) : Sl F w' T sz o n c l :=
  h.of_heap fun i hi hF => k.block i hi (d i hF)

theorem mono {G : Nat → Prop} (h : Sl F w T sz o n c l) (hG : ∀ k, F k → G k) : Sl G w T sz o n c l := ⟨h.own, fun a ha => hG _ (h.foot a ha)⟩

theorem lt (h : Sl F w T sz o n c l) {a : Addr} (ha : o = some a) : a.block < w.heap.size := by
  rcases h.cases with ⟨h0, _⟩ | ⟨g, h1, _, _, _, h4, _⟩
  · rw [h0] at ha; cases ha
  · rw [h1] at ha; cases ha; exact h4.lt

/-- The blocks are below the heap's size: so they lie in an interval. -/
theorem tight (h : Sl F w T sz o n c l) : Sl (fun k => F k ∧ k < w.heap.size) w T sz o n c l := ⟨h.own, fun a ha => ⟨h.foot a ha, h.lt ha⟩⟩

theorem set (h : Sl F w T 1 o n c l) {g i : Nat} (ho : o = some ⟨g, 0, none⟩) (hi : i < n) (v : Value) : Sl F (w.setCell ⟨g, i, none⟩ v) T 1 o n c (l.set i v) := by
  refine ⟨⟨by rw [List.length_set]; exact h.own.1, ?_⟩, h.foot⟩
  rcases h.own.2 with ⟨e, _⟩ | ⟨g', cap, cur, e1, hb, hg, h1, h2, h3, h4⟩
  · rw [ho] at e; simp at e
  · simp only [ho, Value.slice.injEq, Option.some.injEq, Addr.mk.injEq, and_true, true_and] at e1
    obtain ⟨rfl, rfl⟩ := e1
    refine .inr ⟨g, c, cur.setIfInBounds i v, by rw [ho], hb, ?_, h1, h2, by simpa using h3, ?_⟩
    · simp [World.setCell, Array.getElem?_modify, hg]
    · rw [Array.toList_setIfInBounds, List.take_set, h4]

theorem set_other (h : Sl F w T sz o n c l) {p : Addr} (hp : ¬ F p.block) (v : Value) : Sl F (w.setCell p v) T sz o n c l :=
  h.of_heap fun k _ hk => Below.heap_setCell w p v k (fun e => hp (e ▸ hk))

theorem alloc (h : Sl F w T sz o n c l) (ob : Obj) : Sl F (w.alloc ob) T sz o n c l := h.of_heap fun k hk _ => Below.heap_alloc w ob k hk
theorem drew (h : Sl F w T sz o n c l) : Sl F w.drew T sz o n c l := ⟨h.own, h.foot⟩
theorem drewN (h : Sl F w T sz o n c l) (m : Nat) : Sl F (w.drewN m) T sz o n c l := ⟨h.own, h.foot⟩

/-- What an append leaves. -/
theorem of_own {F : Nat → Prop} {w0 w w' : World} {T : TypeId} {sz : Nat} {v v' : Value} {n' : Nat} {l' : List Value} (hown : w'.ownsRow 0 T sz v' n' l') : ∃ o c, v' = .slice o n' c := by
  rcases hown.2 with ⟨rfl, rfl⟩ | ⟨g, cap, cur, rfl, _⟩
  · exact ⟨_, _, rfl⟩
  · exact ⟨_, _, rfl⟩
end Sl

/-- Numbers as values. -/
def ints (l : List Nat) : List Value := l.map fun (x : Nat) => Value.int .i64 x

@[simp] theorem ints_length (l : List Nat) : (ints l).length = l.length := by simp [ints]
theorem ints_get {l : List Nat} {i x : Nat} (h : l[i]? = some x) : (ints l)[i]? = some (.int .i64 x) := by simp [ints, h]
theorem ints_append (l m : List Nat) : ints (l ++ m) = ints l ++ ints m := by simp [ints]
theorem ints_one (l : List Nat) : ∀ u ∈ ints l, u.oneCell' = true := by
  intro u hu; obtain ⟨_, _, rfl⟩ := List.mem_map.1 hu; rfl

end Go.Proofs.Ytkpoobnldgfapaa

/- A slice of pairs of numbers, as an argument. -/
namespace Go.Proofs.Ytkpoobnldgfapaa
open Go.RowKit

/-- A slice of pairs of numbers, as it came. -/
structure Prs (w : World) (b off len : Nat) (A B : Nat → Int) : Prop where
  a : ∀ i, i < len → w.cell? ⟨b, off + i * 2, none⟩ = some (.int .i64 (A i))
  b : ∀ i, i < len → w.cell? ⟨b, off + i * 2 + 1, none⟩ = some (.int .i64 (B i))

theorem Prs.keep {F : Nat → Prop} {w w' : World} {b off len : Nat} {A B : Nat → Int} (h : Prs w b off len A B) (k : Keep F w w') (hb : ¬ F b) : Prs w' b off len A B :=
  ⟨fun i hi => k.cell (h.a i hi) hb, fun i hi => k.cell (h.b i hi) hb⟩

end Go.Proofs.Ytkpoobnldgfapaa

/- For the laws: an argument that is a slice of pairs, opened. -/
namespace Go.Proofs.Ytkpoobnldgfapaa
open Go.RowKit Go.ChangeShapes Go.WideShapes Go.ChangeAt

theorem own : ownKnob Try.prog.godebug = none := by kernel_rfl
theorem laidOut : laidOutB Try.prog = true := by kernel_rfl
theorem cellsPair : Try.prog.cellsOf 31 = 2 := by kernel_rfl
theorem cellsInt : Try.prog.cellsOf 3 = 1 := by kernel_rfl

/-- What a slice of pairs reads as: its cells. -/
theorem open_prs {H : Type} {enc : TypeId × Value → H} {w : World} {base : Nat} {held : Bool} {v : Value} {d : DataW H} {ps : List MemPlace} (hv : ∃ oa len cap, v = .slice oa len cap)
    (h : DataW.Trod enc Try.prog w base (fun _ => true) held 22 v d ps) :
    ∃ oa len cap b off A B, v = .slice oa len cap ∧ len ≤ cap ∧ (0 < len → oa = some ⟨b, off, none⟩) ∧ (0 < len → b < w.heap.size) ∧ Prs w b off len A B := by
  obtain ⟨oa, len, cap, rfl⟩ := hv
  obtain ⟨fuel, hf⟩ := h
  rcases Deep.open_slice_pairs Try.underlying22 Try.underlying31 cellsPair rfl rfl cellsInt cellsInt hf with ⟨hcs, _⟩ | ⟨a, len', cap', m, n, V0, V1, D0, D1, P0, P1, hcs, _, hl, _, hmm, _, hi⟩
  · simp [Value.cells] at hcs
    obtain ⟨rfl, rfl, rfl⟩ := hcs
    exact ⟨none, 0, 0, 0, 0, fun _ => 0, fun _ => 0, rfl, Nat.le_refl _, fun h => absurd h (by omega), fun h => absurd h (by omega), ⟨fun i h => absurd h (by omega), fun i h => absurd h (by omega)⟩⟩
  · simp [Value.cells] at hcs
    obtain ⟨rfl, rfl, rfl⟩ := hcs
    obtain ⟨b, off, spot⟩ := a
    simp only [if_true] at hmm
    have hint : ∀ (v : Value) (y : DataW H × List MemPlace), DataW.trod enc Try.prog w base (fun _ => true) held n 3 [v] = some y → ∃ k, v = .int .i64 k := by
      intro v y hy
      obtain ⟨k, e, _⟩ := DataW.trod_int Try.underlying3 hy
      simp at e
      exact ⟨k, e⟩
    have hA : ∀ i, ∃ k : Int, i < len → V0 i = .int .i64 k := fun i => by
      by_cases h : i < len
      · obtain ⟨_, _, h0, _⟩ := hi i (by omega)
        obtain ⟨k, e⟩ := hint _ _ h0
        exact ⟨k, fun _ => e⟩
      · exact ⟨0, fun h' => absurd h' h⟩
    have hB : ∀ i, ∃ k : Int, i < len → V1 i = .int .i64 k := fun i => by
      by_cases h : i < len
      · obtain ⟨_, _, _, h1⟩ := hi i (by omega)
        obtain ⟨k, e⟩ := hint _ _ h1
        exact ⟨k, fun _ => e⟩
      · exact ⟨0, fun h' => absurd h' h⟩
    have hspot : 0 < len → spot = none := fun h => by
      have := (hi 0 (by omega)).1
      simpa [Addr.add] using World.cell?_spot this
    refine ⟨_, _, _, b, off, fun i => Classical.choose (hA i), fun i => Classical.choose (hB i), rfl, hl, fun h => by rw [hspot h], fun h => ?_, fun i h => ?_, fun i h => ?_⟩
    · have := World.block_lt_of_cell? w _ (hi 0 (by omega)).1
      simpa [Addr.add] using this
    · obtain ⟨c, _, _, _⟩ := hi i (by omega)
      rw [hspot (by omega), Classical.choose_spec (hA i) h, Addr.add_lit] at c
      exact c
    · obtain ⟨_, c, _, _⟩ := hi i (by omega)
      rw [hspot (by omega), Classical.choose_spec (hB i) h, Addr.add_lit] at c
      exact c

end Go.Proofs.Ytkpoobnldgfapaa

/- Maps: a block that holds a map, as a list of keys and values in the order in which they came. Nothing of one program stands here. -/
namespace Go.Proofs.Ytkpoobnldgfapaa
open Go.RowKit Go.Maps

/-- Keys of a Lean type, as values. -/
structure Enc {α : Type} (P : Program) (k : TypeId) (enc : α → Value) (D : α → Prop) : Prop where
  keyed : Keyed P k
  ok : ∀ {a : α}, D a → ∃ l, keyOf P k (enc a) = some l
  inj : ∀ {a b : α}, enc a = enc b → a = b

section plain
variable {α : Type} [DecidableEq α]

def mget (m : List (α × Value)) (a : α) : Option Value := (m.find? (fun p => decide (p.1 = a))).map (·.2)
def mdel (m : List (α × Value)) (a : α) : List (α × Value) := m.filter (fun p => decide (p.1 ≠ a))
def mset (m : List (α × Value)) (a : α) (v : Value) : List (α × Value) :=
  if m.any (fun p => decide (p.1 = a)) then m.map (fun p => if p.1 = a then (a, v) else p) else m ++ [(a, v)]

theorem mget_nil (a : α) : mget [] a = none := rfl

theorem mget_cons (p : α × Value) (m : List (α × Value)) (a : α) : mget (p :: m) a = if p.1 = a then some p.2 else mget m a := by
  unfold mget; rw [List.find?_cons]; by_cases h : p.1 = a <;> simp [h]

theorem mget_append (m m' : List (α × Value)) (a : α) : mget (m ++ m') a = (mget m a).or (mget m' a) := by
  induction m with
  | nil => simp [mget_nil]
  | cons p m ih => rw [List.cons_append, mget_cons, mget_cons, ih]; split <;> simp

theorem mget_none {m : List (α × Value)} {a : α} : mget m a = none ↔ ∀ p ∈ m, p.1 ≠ a := by
  unfold mget; simp [List.find?_eq_none]

theorem mget_map_set (m : List (α × Value)) (a b : α) (v : Value) : mget (m.map (fun p => if p.1 = a then (a, v) else p)) b = if b = a then (if m.any (fun p => decide (p.1 = a)) then some v else none) else mget m b := by
  induction m with
  | nil => simp [mget_nil]
  | cons p m ih =>
    rw [List.map_cons, mget_cons, mget_cons, ih]
    by_cases hp : p.1 = a
    · subst hp
      by_cases hb : b = p.1
      · simp [hb]
      · have : ¬ p.1 = b := fun e => hb e.symm
        simp [hb, this]
    · by_cases hb : b = a
      · subst hb
        have hp' : decide (p.1 = b) = false := by simp [hp]
        rw [List.any_cons, hp', if_neg hp, if_neg hp, if_pos rfl, if_pos rfl, Bool.false_or]
      · simp [hp, hb]

theorem mget_mset (m : List (α × Value)) (a b : α) (v : Value) : mget (mset m a v) b = if b = a then some v else mget m b := by
  unfold mset
  by_cases h : m.any (fun p => decide (p.1 = a)) = true
  · rw [if_pos h, mget_map_set, h]; simp
  · rw [if_neg h, mget_append]
    have hn : mget m a = none := mget_none.2 (fun p hp e => h (List.any_eq_true.2 ⟨p, hp, by simpa using e⟩))
    by_cases hb : b = a
    · subst hb; simp [hn, mget_cons]
    · have : ¬ a = b := fun e => hb e.symm
      simp [hb, mget_cons, this, mget_nil]

theorem mget_mdel (m : List (α × Value)) (a b : α) : mget (mdel m a) b = if b = a then none else mget m b := by
  induction m with
  | nil => simp [mdel, mget_nil]
  | cons p m ih =>
    unfold mdel at ih ⊢
    rw [List.filter_cons]
    by_cases hp : p.1 = a
    · subst hp
      simp only [ne_eq, not_true_eq_false, decide_false, Bool.false_eq_true, if_false, ih, mget_cons]
      by_cases hb : b = p.1
      · simp [hb]
      · have : ¬ p.1 = b := fun e => hb e.symm
        simp [hb, this]
    · simp only [ne_eq, hp, not_false_eq_true, decide_true, if_true, mget_cons, ih]
      by_cases hb : b = a
      · subst hb; simp [hp]
      · simp [hb]

theorem mget_isSome {m : List (α × Value)} {a : α} : (mget m a).isSome = m.any (fun p => decide (p.1 = a)) := by
  induction m with
  | nil => rfl
  | cons p m ih => rw [mget_cons, List.any_cons, ← ih]; by_cases h : p.1 = a <;> simp [h]

theorem mset_length (m : List (α × Value)) (a : α) (v : Value) : (mset m a v).length ≤ m.length + 1 := by
  unfold mset; split <;> simp

theorem mem_keys_iff {m : List (α × Value)} {a : α} : a ∈ m.map (·.1) ↔ (mget m a).isSome = true := by
  rw [mget_isSome]; simp
end plain

section mem
variable {α : Type}

/-- Block b holds a map of these keys and values. -/
def MapAt (enc : α → Value) (D : α → Prop) (w : World) (b : Nat) (m : List (α × Value)) : Prop :=
  ∃ es clock, w.heap[b]? = some (.map es clock) ∧ es.toList.map (fun e => (e.key, e.val)) = m.map (fun p => (enc p.1, p.2)) ∧ (∀ p ∈ m, D p.1) ∧ m.Pairwise (fun p q => p.1 ≠ q.1) ∧
    (es.toList.map (·.born)).Pairwise (· ≠ ·) ∧ ∀ e ∈ es.toList, e.born < clock

variable {enc : α → Value} {D : α → Prop} {w : World} {b : Nat} {m : List (α × Value)} {P : Program} {k : TypeId}

theorem MapAt.lt (h : MapAt enc D w b m) : b < w.heap.size := by
  obtain ⟨es, clock, hb, _⟩ := h
  exact (Array.getElem?_eq_some_iff.1 hb).1

theorem MapAt.of_heap {w' : World} (h : MapAt enc D w b m) (e : w'.heap[b]? = w.heap[b]?) : MapAt enc D w' b m := by
  obtain ⟨es, clock, hb, rest⟩ := h
  exact ⟨es, clock, e.trans hb, rest⟩

theorem MapAt.keep {F : Nat → Prop} {w' : World} (h : MapAt enc D w b m) (k : Keep F w w') (hn : ¬ F b) : MapAt enc D w' b m := h.of_heap (k.block b h.lt hn)
theorem MapAt.alloc (h : MapAt enc D w b m) (o : Obj) : MapAt enc D (w.alloc o) b m := h.of_heap (Below.heap_alloc w o b h.lt)
theorem MapAt.drew (h : MapAt enc D w b m) : MapAt enc D w.drew b m := h
theorem MapAt.drewN (h : MapAt enc D w b m) (n : Nat) : MapAt enc D (w.drewN n) b m := h
theorem MapAt.setCell (h : MapAt enc D w b m) (p : Addr) (hp : p.block ≠ b) (v : Value) : MapAt enc D (w.setCell p v) b m := h.of_heap (Below.heap_setCell w p v b (fun e => hp e.symm))

theorem MapAt.made (enc : α → Value) (D : α → Prop) (w : World) : MapAt enc D (w.alloc (.map #[] 0)) w.heap.size [] :=
  ⟨#[], 0, (MapKept.heap_alloc w _).1, by simp, by simp, List.Pairwise.nil, by simp, by simp⟩

theorem MapAt.dom (h : MapAt enc D w b m) : ∀ p ∈ m, D p.1 := by obtain ⟨_, _, _, _, h, _⟩ := h; exact h
theorem MapAt.nodup (h : MapAt enc D w b m) : m.Pairwise (fun p q => p.1 ≠ q.1) := by obtain ⟨_, _, _, _, _, h, _⟩ := h; exact h

/-- What becomes of the world: the block b alone. -/
theorem keep_setBlock {w : World} {b : Nat} {o o' : Obj} (hb : w.heap[b]? = some o) : Keep (fun i => i = b) w (ChangeMaps.setBlock w b o') :=
  ⟨rfl, rfl, rfl, by simp [ChangeMaps.setBlock], fun i _ hn => by simp only [ChangeMaps.setBlock, Array.getElem?_setIfInBounds]; rw [if_neg (fun e => hn e.symm)]⟩

theorem entries_find [DecidableEq α] (E : Enc P k enc D) {es : List MapEntry} (hm : es.map (fun e => (e.key, e.val)) = m.map (fun p => (enc p.1, p.2))) (hD : ∀ p ∈ m, D p.1) {a : α} (ha : D a) (w : World) :
    ((Instr.findKey k (enc a) es).run P w = .ok none w ∧ mget m a = none) ∨
      ∃ j v, (Instr.findKey k (enc a) es).run P w = .ok (some (j, v)) w ∧ m[j]? = some (a, v) ∧ ∃ e, es[j]? = some e ∧ e.key = enc a := by
  obtain ⟨l, hl⟩ := E.ok ha
  have hk : ∀ e ∈ es, ∃ l, keyOf P k e.key = some l := by
    intro e he
    have : (e.key, e.val) ∈ m.map (fun p => (enc p.1, p.2)) := hm ▸ List.mem_map.2 ⟨e, he, rfl⟩
    obtain ⟨p, hp, hpe⟩ := List.mem_map.1 this
    simp only [Prod.mk.injEq] at hpe
    rw [← hpe.1]; exact E.ok (hD p hp)
  rcases E.keyed.find w hl es hk with ⟨h1, h2⟩ | ⟨j, e, h1, h2, h3⟩
  · refine .inl ⟨h1, mget_none.2 fun p hp hpa => ?_⟩
    have : (enc p.1, p.2) ∈ es.map (fun e => (e.key, e.val)) := hm ▸ List.mem_map.2 ⟨p, hp, rfl⟩
    obtain ⟨e, he, hee⟩ := List.mem_map.1 this
    simp only [Prod.mk.injEq] at hee
    exact h2 e he (by rw [hee.1, hpa])
  · refine .inr ⟨j, e.val, h1, ?_, e, h2, h3⟩
    have : (es.map (fun e => (e.key, e.val)))[j]? = some (e.key, e.val) := by simp [h2]
    rw [hm] at this
    simp only [List.getElem?_map, Option.map_eq_some_iff] at this
    obtain ⟨p, hp, hpe⟩ := this
    simp only [Prod.mk.injEq] at hpe
    rw [hp]
    congr 1
    exact Prod.ext (E.inj (by rw [hpe.1, h3])) hpe.2

theorem mget_of_get [DecidableEq α] {m : List (α × Value)} (hn : m.Pairwise (fun p q => p.1 ≠ q.1)) {j : Nat} {a : α} {v : Value} (h : m[j]? = some (a, v)) : mget m a = some v := by
  induction m generalizing j with
  | nil => simp at h
  | cons p m ih =>
    rw [List.pairwise_cons] at hn
    rw [mget_cons]
    cases j with
    | zero => simp at h; simp [h]
    | succ j =>
      simp at h
      have := hn.1 _ (List.mem_of_getElem? h)
      rw [if_neg this]
      exact ih hn.2 h

theorem MapAt.look [DecidableEq α] (E : Enc P k enc D) {t e : TypeId} (ht : P.underlying t = some (.map k e)) {z : Value} (hz : (zeroValue e).run P w = .ok z w) (h : MapAt enc D w b m) {a : α} (ha : D a) (c : Bool) :
    (Instr.lookup t (.map (some b)) (enc a) c).run P w = .ok (if c then .tuple #[(mget m a).getD z, .bool (mget m a).isSome] else (mget m a).getD z) w := by
  obtain ⟨es, clock, hb, hm, hD, hn, _, _⟩ := h
  obtain ⟨l, hl⟩ := E.ok ha
  rcases entries_find E hm hD ha w with ⟨h1, h2⟩ | ⟨j, v, h1, h2, _⟩
  · rw [h2]
    simp [Instr.lookup, run_underlying ht, MapKept.run_getObj_map hb, E.keyed.check w _ hl, h1, hz, Result.andThen]
  · rw [mget_of_get hn h2]
    simp [Instr.lookup, run_underlying ht, MapKept.run_getObj_map hb, E.keyed.check w _ hl, h1, Result.andThen]

theorem map_modify_pairs {es : List MapEntry} {j : Nat} {key val : Value} {m : List (α × Value)} [DecidableEq α] {a : α} {v0 : Value} (hk : key = enc a)
    (hm : es.map (fun e => (e.key, e.val)) = m.map (fun p => (enc p.1, p.2))) (hn : m.Pairwise (fun p q => p.1 ≠ q.1)) (hj : m[j]? = some (a, v0)) :
    (es.modify j (fun e => { e with key := key, val := val })).map (fun e => (e.key, e.val)) = (m.map (fun p => if p.1 = a then (a, val) else p)).map (fun p => (enc p.1, p.2)) := by
  induction m generalizing es j with
  | nil => simp at hj
  | cons p m ih =>
    cases es with
    | nil => simp at hm
    | cons e es =>
      simp only [List.map_cons, List.cons.injEq] at hm
      rw [List.pairwise_cons] at hn
      cases j with
      | zero =>
        simp at hj
        subst hj
        simp only [List.modify_zero_cons, List.map_cons, if_true, hk]
        congr 1
        rw [hm.2, List.map_map]
        refine List.map_congr_left fun q hq => ?_
        have := hn.1 q hq
        simp only [Function.comp]
        rw [if_neg (fun e => this e.symm)]
      | succ j =>
        simp at hj
        have hne : ¬ p.1 = a := hn.1 _ (List.mem_of_getElem? hj)
        simp only [List.modify_succ_cons, List.map_cons, if_neg hne, hm.1]
        congr 1
        exact ih hm.2 hn.2 hj

theorem pairwise_mset [DecidableEq α] {m : List (α × Value)} (hn : m.Pairwise (fun p q => p.1 ≠ q.1)) (a : α) (v : Value) : (mset m a v).Pairwise (fun p q => p.1 ≠ q.1) := by
  unfold mset
  split
  · rw [List.pairwise_map]
    refine hn.imp fun {p q} h => ?_
    by_cases h1 : p.1 = a <;> by_cases h2 : q.1 = a <;> simp [h1, h2]
    · exact h (by rw [h1, h2])
    · exact fun e => h2 e.symm
    · exact h
  · rename_i hh
    rw [List.pairwise_append]
    refine ⟨hn, by simp, fun p hp q hq => ?_⟩
    simp at hq; subst hq
    exact fun e => hh (List.any_eq_true.2 ⟨p, hp, by simpa using e⟩)

theorem dom_mset [DecidableEq α] {m : List (α × Value)} (hD : ∀ p ∈ m, D p.1) {a : α} (ha : D a) (v : Value) : ∀ p ∈ mset m a v, D p.1 := by
  unfold mset
  split
  · intro p hp
    obtain ⟨q, hq, rfl⟩ := List.mem_map.1 hp
    split
    · exact ha
    · exact hD q hq
  · intro p hp
    rcases List.mem_append.1 hp with h | h
    · exact hD p h
    · simp at h; subst h; exact ha

theorem MapAt.store [DecidableEq α] (E : Enc P k enc D) {t e : TypeId} (ht : P.underlying t = some (.map k e)) (h : MapAt enc D w b m) {a : α} (ha : D a) (v : Value) :
    ∃ w', (Instr.mapUpdate t (.map (some b)) (enc a) v).run P w = .ok () w' ∧ MapAt enc D w' b (mset m a v) ∧ Keep (fun i => i = b) w w' := by
  obtain ⟨es, clock, hb, hm, hD, hn, hs, hc⟩ := h
  obtain ⟨l, hl⟩ := E.ok ha
  rcases entries_find E hm hD ha w with ⟨h1, h2⟩ | ⟨j, v0, h1, h2, e0, h3, h4⟩
  · refine ⟨ChangeMaps.setBlock w b (.map (es.push ⟨enc a, v, clock⟩) (clock + 1)), ?_, ⟨es.push ⟨enc a, v, clock⟩, clock + 1, ChangeMaps.heap_setBlock_same hb _, ?_, dom_mset hD ha v, pairwise_mset hn a v, ?_, ?_⟩, keep_setBlock hb⟩
    · simp [Instr.mapUpdate, run_underlying ht, MapKept.run_getObj_map hb, E.keyed.check w false hl, h1, MapKept.run_setObj_map _ hb, Result.andThen, ChangeMaps.setBlock]
    · have : ¬ (m.any (fun p => decide (p.1 = a)) = true) := by rw [← mget_isSome, h2]; simp
      unfold mset
      rw [if_neg this]
      simp [hm]
    · simp only [Array.toList_push, List.map_append, List.map_cons, List.map_nil]
      rw [List.pairwise_append]
      refine ⟨hs, by simp, fun p hp q hq => ?_⟩
      obtain ⟨e, he, rfl⟩ := List.mem_map.1 hp
      simp at hq; subst hq
      have := hc e he
      omega
    · intro e he
      simp only [Array.toList_push, List.mem_append, List.mem_singleton] at he
      rcases he with he | rfl
      · have := hc e he; omega
      · show clock < clock + 1; omega
  · refine ⟨ChangeMaps.setBlock w b (.map (es.modify j fun e => { e with key := enc a, val := v }) clock), ?_, ⟨es.modify j fun e => { e with key := enc a, val := v }, clock, ChangeMaps.heap_setBlock_same hb _, ?_, dom_mset hD ha v, pairwise_mset hn a v, ?_, ?_⟩, keep_setBlock hb⟩
    · have e1 : (((es[j]?).map (·.key)).getD (enc a)) = enc a := by
        have : es[j]? = some e0 := by simpa using h3
        rw [this]; simpa using h4
      simp [Instr.mapUpdate, run_underlying ht, MapKept.run_getObj_map hb, E.keyed.check w false hl, h1, e1, E.keyed.stays w hl, MapKept.run_setObj_map _ hb, Result.andThen, ChangeMaps.setBlock]
    · have : m.any (fun p => decide (p.1 = a)) = true := by rw [← mget_isSome, mget_of_get hn h2]; rfl
      unfold mset
      rw [if_pos this]
      rw [Array.toList_modify]
      exact map_modify_pairs rfl hm hn h2
    · rw [Array.toList_modify]
      have : ∀ (l : List MapEntry) (j : Nat), (l.modify j (fun e => { e with key := enc a, val := v })).map (·.born) = l.map (·.born) := by
        intro l
        induction l with
        | nil => intro j; simp
        | cons x l ih => intro j; cases j <;> simp [ih]
      rw [this]; exact hs
    · intro e he
      rw [Array.toList_modify] at he
      have : ∀ (l : List MapEntry) (j : Nat), (∀ e ∈ l, e.born < clock) → ∀ e ∈ l.modify j (fun e => { e with key := enc a, val := v }), e.born < clock := by
        intro l
        induction l with
        | nil => intro j _ e he; simp at he
        | cons x l ih =>
          intro j hl e he
          cases j with
          | zero =>
            simp at he
            rcases he with rfl | he
            · exact hl x (by simp)
            · exact hl e (by simp [he])
          | succ j =>
            simp at he
            rcases he with rfl | he
            · exact hl e (by simp)
            · exact ih j (fun e he => hl e (by simp [he])) e he
      exact this _ _ hc e he

/-- At the operation, for the walk: 'm[k] = v' by an equation on its run. -/
theorem wpList_mapset {P : Program} {w w' : World} {ops : Array Oper} {rest : List Oper} {o : Oper} {a : Act} {Q : Exit → Act → World → Prop} (hg : o.guard = none) (m x v : Operand) (t : TypeId)
    (hop : o.op = Op.mapUpdate t m x v) {vm vx vv : Value} (hm : a.eval m = vm) (hx : a.eval x = vx) (hv : a.eval v = vv)
    (hrun : (Instr.mapUpdate t vm vx vv).run P w = .ok () w') (h : wpList P ops Q rest (a.put o.dst undef) w') : wpList P ops Q (o :: rest) a w := by
  refine wpList_plain hg fun K' hK' => ?_
  unfold Oper.wp
  simp [execOp, hop, hm, hx, hv, hrun, Result.andThen]
  exact hK' _ _ h

/-- Natural numbers as keys. -/
def encN (x : Nat) : Value := .int .i64 x
def DN (x : Nat) : Prop := x < 9223372036854775808

theorem encN_enc (hk : P.underlying k = some (.int .i64)) : Enc P k encN DN :=
  ⟨int_keyed hk, fun {a} ha => ⟨_, keyOf_int_mk hk (by
      unfold DN at ha
      have h1 : IntKind.i64.min = -9223372036854775808 := by decide
      have h2 : IntKind.i64.max = 9223372036854775807 := by decide
      simp only [Lit.wf, h1, h2, Bool.and_eq_true, decide_eq_true_eq]
      omega)⟩, fun {a b} h => by
    simp only [encN, Value.int.injEq, true_and] at h
    omega⟩
end mem
end Go.Proofs.Ytkpoobnldgfapaa

/- delete from a map. Nothing of one program stands here. -/
namespace Go.Proofs.Ytkpoobnldgfapaa
open Go.RowKit Go.Maps

theorem mdel_none {α : Type} [DecidableEq α] {m : List (α × Value)} {a : α} (h : mget m a = none) : mdel m a = m := by
  unfold mdel
  rw [List.filter_eq_self]
  intro p hp
  have := mget_none.1 h p hp
  simpa using this

theorem mdel_at {α : Type} [DecidableEq α] {m : List (α × Value)} (hn : m.Pairwise (fun p q => p.1 ≠ q.1)) {j : Nat} {a : α} {v : Value} (h : m[j]? = some (a, v)) : mdel m a = m.eraseIdx j := by
  induction m generalizing j with
  | nil => simp at h
  | cons p m ih =>
    rw [List.pairwise_cons] at hn
    cases j with
    | zero =>
      simp at h
      subst h
      unfold mdel
      rw [List.filter_cons]
      simp only [ne_eq, not_true_eq_false, decide_false, Bool.false_eq_true, if_false, List.eraseIdx_cons_zero]
      rw [List.filter_eq_self]
      intro q hq
      have := hn.1 q hq
      simpa using fun e => this e.symm
    | succ j =>
      simp at h
      have hne : p.1 ≠ a := hn.1 _ (List.mem_of_getElem? h)
      have := ih hn.2 h
      unfold mdel at this ⊢
      rw [List.filter_cons, if_pos (by simpa using hne), this, List.eraseIdx_cons_succ]

theorem map_eraseIdx' {α β : Type} (f : α → β) (l : List α) (j : Nat) : (l.eraseIdx j).map f = (l.map f).eraseIdx j := by
  induction l generalizing j with
  | nil => rfl
  | cons x l ih => cases j <;> simp [ih]

section
variable {α : Type} {enc : α → Value} {D : α → Prop} {w : World} {b : Nat} {m : List (α × Value)} {P : Program} {k : TypeId}

theorem MapAt.del [DecidableEq α] (E : Enc P k enc D) {t e : TypeId} (ht : P.underlying t = some (.map k e)) (h : MapAt enc D w b m) {a : α} (ha : D a) (ty : TypeId) :
    ∃ w', (Builtin.delete_ #[t, k] ty #[.map (some b), enc a]).run P w = .ok (.tuple #[]) w' ∧ MapAt enc D w' b (mdel m a) ∧ Keep (fun i => i = b) w w' := by
  obtain ⟨es, clock, hb, hm, hD, hn, hs, hc⟩ := h
  obtain ⟨l, hl⟩ := E.ok ha
  rcases entries_find E hm hD ha w with ⟨h1, h2⟩ | ⟨j, v0, h1, h2, e0, h3, h4⟩
  · refine ⟨ChangeMaps.setBlock w b (.map es clock), ?_, ⟨es, clock, ChangeMaps.heap_setBlock_same hb _, ?_⟩, keep_setBlock hb⟩
    · simp [Builtin.delete_, run_underlying ht, MapKept.run_getObj_map hb, E.keyed.check w _ hl, h1, MapKept.run_setObj_map _ hb, Result.andThen, ChangeMaps.setBlock]
    · rw [mdel_none h2]; exact ⟨hm, hD, hn, hs, hc⟩
  · have hjl : j < es.toList.length := (List.getElem?_eq_some_iff.1 h3).1
    have hjs : j < es.size := by simpa using hjl
    have hsub : (es.eraseIdxIfInBounds j).toList = es.toList.eraseIdx j := by
      unfold Array.eraseIdxIfInBounds
      rw [dif_pos hjs]
      simp
    refine ⟨ChangeMaps.setBlock w b (.map (es.eraseIdxIfInBounds j) clock), ?_, ⟨es.eraseIdxIfInBounds j, clock, ChangeMaps.heap_setBlock_same hb _, ?_, ?_, ?_, ?_, ?_⟩, keep_setBlock hb⟩
    · simp [Builtin.delete_, run_underlying ht, MapKept.run_getObj_map hb, E.keyed.check w _ hl, h1, MapKept.run_setObj_map _ hb, Result.andThen, ChangeMaps.setBlock]
    · rw [hsub, map_eraseIdx', hm, mdel_at hn h2, map_eraseIdx']
    · intro p hp
      unfold mdel at hp
      exact hD p (List.mem_filter.1 hp).1
    · unfold mdel; exact hn.filter _
    · rw [hsub, map_eraseIdx']
      exact hs.sublist (List.eraseIdx_sublist _ _)
    · intro e he
      rw [hsub] at he
      exact hc e ((List.eraseIdx_sublist _ _).subset he)
end

/-- At the operation, for the walk: 'delete(m, k)' by an equation on its run. -/
theorem wpList_mapdel {P : Program} {w w' : World} {ops : Array Oper} {rest : List Oper} {o : Oper} {a : Act} {Q : Exit → Act → World → Prop} (hg : o.guard = none) (m x : Operand) (t k : TypeId)
    (hop : o.op = Op.call { callee := Callee.builtin Builtin.delete, args := #[m, x], argTypes := #[t, k] }) {vm vx v' : Value} (hm : a.eval m = vm) (hx : a.eval x = vx)
    (hrun : (Builtin.delete_ #[t, k] o.type #[vm, vx]).run P w = .ok v' w') (h : wpList P ops Q rest (a.put o.dst v') w') : wpList P ops Q (o :: rest) a w := by
  refine wpList_plain hg fun K' hK' => ?_
  unfold Oper.wp execOp
  simp only [hop, resolve, invoke, builtin, Sem.run_bind, Sem.run_pure, Result.andThen_ok, List.map_toArray, List.map_cons, List.map_nil, hm, hx, hrun]
  exact hK' _ _ h

end Go.Proofs.Ytkpoobnldgfapaa

/- sets: memory of a Sets; root. -/
namespace Go.Proofs.Ytkpoobnldgfapaa
open Go.RowKit Pl

def fints (n : Nat) (f : Nat → Nat) : List Value := ints ((List.range n).map f)

theorem fints_length (n : Nat) (f : Nat → Nat) : (fints n f).length = n := by simp [fints]
theorem fints_get {n i : Nat} (f : Nat → Nat) (h : i < n) : (fints n f)[i]? = some (.int .i64 (f i)) := by simp [fints, ints, h]
theorem fints_set (n : Nat) (f : Nat → Nat) (i v : Nat) : (fints n f).set i (.int .i64 v) = fints n (upd f i v) := by
  apply List.ext_getElem?
  intro k
  rw [List.getElem?_set]
  by_cases hk : k < n
  · rw [fints_get _ hk]
    by_cases e : i = k
    · subst e; rw [fints_get _ hk]; simp [fints_length, hk, upd]
    · have : k ≠ i := fun h => e h.symm
      simp [e, upd, this, fints_get _ hk]
  · have h1 : (fints n f)[k]? = none := by simp [fints_length]; omega
    have h2 : (fints n (upd f i v))[k]? = none := by simp [fints_length]; omega
    rw [h2]
    by_cases e : i = k
    · subst e; simp [fints_length, hk]
    · simp [e, h1]
theorem fints_snoc (n : Nat) (f : Nat → Nat) : fints (n + 1) f = fints n f ++ [.int .i64 (f n)] := by simp [fints, ints, List.range_succ]

structure SetsMem (F : Nat → Prop) (w : World) (b n : Nat) (up size low : Nat → Nat) (many : Nat) (ou os ol : Option Addr) (cu cs cl : Nat) : Prop where
  head : Row w b 77 [.slice ou n cu, .slice os n cs, .slice ol n cl, .int .i64 many]
  hb : F b
  u : Sl F w 3 1 ou n cu (fints n up)
  s : Sl F w 3 1 os n cs (fints n size)
  l : Sl F w 3 1 ol n cl (fints n low)
  du : ∀ a, ou = some a → a.block ≠ b
  ds : ∀ a, os = some a → a.block ≠ b
  dl : ∀ a, ol = some a → a.block ≠ b
  dus : ∀ a c, ou = some a → os = some c → a.block ≠ c.block
  dul : ∀ a c, ou = some a → ol = some c → a.block ≠ c.block
  dsl : ∀ a c, os = some a → ol = some c → a.block ≠ c.block

namespace SetsMem
variable {F : Nat → Prop} {w : World} {b n : Nat} {up size low : Nat → Nat} {many : Nat} {ou os ol : Option Addr} {cu cs cl : Nat}

theorem drew (h : SetsMem F w b n up size low many ou os ol cu cs cl) : SetsMem F w.drew b n up size low many ou os ol cu cs cl :=
  ⟨h.head.drew, h.hb, h.u.drew, h.s.drew, h.l.drew, h.du, h.ds, h.dl, h.dus, h.dul, h.dsl⟩

theorem keep {G : Nat → Prop} {w' : World} (h : SetsMem F w b n up size low many ou os ol cu cs cl) (k : Keep G w w') (d : ∀ k, F k → ¬ G k) : SetsMem F w' b n up size low many ou os ol cu cs cl :=
  ⟨h.head.keep k (d b h.hb), h.hb, h.u.keep k d, h.s.keep k d, h.l.keep k d, h.du, h.ds, h.dl, h.dus, h.dul, h.dsl⟩

theorem alloc (h : SetsMem F w b n up size low many ou os ol cu cs cl) (o : Obj) : SetsMem F (w.alloc o) b n up size low many ou os ol cu cs cl :=
  ⟨h.head.alloc o, h.hb, h.u.alloc o, h.s.alloc o, h.l.alloc o, h.du, h.ds, h.dl, h.dus, h.dul, h.dsl⟩

theorem of_heap {w' : World} (h : SetsMem F w b n up size low many ou os ol cu cs cl) (e : ∀ k, k < w.heap.size → F k → w'.heap[k]? = w.heap[k]?) : SetsMem F w' b n up size low many ou os ol cu cs cl :=
  ⟨h.head.of_heap (e b h.head.lt h.hb), h.hb, h.u.of_heap e, h.s.of_heap e, h.l.of_heap e, h.du, h.ds, h.dl, h.dus, h.dul, h.dsl⟩

theorem setUp (h : SetsMem F w b n up size low many ou os ol cu cs cl) {g x : Nat} (ho : ou = some ⟨g, 0, none⟩) (hx : x < n) (v : Nat) :
    SetsMem F (w.setCell ⟨g, x, none⟩ (.int .i64 v)) b n (upd up x v) size low many ou os ol cu cs cl := by
  have hF : F g := h.u.foot _ ho
  have d := h.du _ ho
  refine ⟨h.head.set_other (by simpa using d) _, h.hb, ?_, ?_, ?_, h.du, h.ds, h.dl, h.dus, h.dul, h.dsl⟩
  · rw [← fints_set]; exact h.u.set ho hx _
  · exact h.s.set_ne (p := ⟨g, x, none⟩) (fun a ha e => h.dus _ _ ho ha e.symm) _
  · exact h.l.set_ne (p := ⟨g, x, none⟩) (fun a ha e => h.dul _ _ ho ha e.symm) _

theorem setSize (h : SetsMem F w b n up size low many ou os ol cu cs cl) {g x : Nat} (ho : os = some ⟨g, 0, none⟩) (hx : x < n) (v : Nat) :
    SetsMem F (w.setCell ⟨g, x, none⟩ (.int .i64 v)) b n up (upd size x v) low many ou os ol cu cs cl := by
  have d := h.ds _ ho
  refine ⟨h.head.set_other (by simpa using d) _, h.hb, ?_, ?_, ?_, h.du, h.ds, h.dl, h.dus, h.dul, h.dsl⟩
  · exact h.u.set_ne (p := ⟨g, x, none⟩) (fun a ha e => h.dus _ _ ha ho e) _
  · rw [← fints_set]; exact h.s.set ho hx _
  · exact h.l.set_ne (p := ⟨g, x, none⟩) (fun a ha e => h.dsl _ _ ho ha e.symm) _

theorem setLow (h : SetsMem F w b n up size low many ou os ol cu cs cl) {g x : Nat} (ho : ol = some ⟨g, 0, none⟩) (hx : x < n) (v : Nat) :
    SetsMem F (w.setCell ⟨g, x, none⟩ (.int .i64 v)) b n up size (upd low x v) many ou os ol cu cs cl := by
  have d := h.dl _ ho
  refine ⟨h.head.set_other (by simpa using d) _, h.hb, ?_, ?_, ?_, h.du, h.ds, h.dl, h.dus, h.dul, h.dsl⟩
  · exact h.u.set_ne (p := ⟨g, x, none⟩) (fun a ha e => h.dul _ _ ha ho e) _
  · exact h.s.set_ne (p := ⟨g, x, none⟩) (fun a ha e => h.dsl _ _ ha ho e) _
  · rw [← fints_set]; exact h.l.set ho hx _

theorem setMany (h : SetsMem F w b n up size low many ou os ol cu cs cl) (v : Nat) :
    SetsMem F (w.setCell ⟨b, 3, none⟩ (.int .i64 v)) b n up size low v ou os ol cu cs cl :=
  ⟨h.head.set (by simp) _, h.hb, h.u.set_ne h.du _, h.s.set_ne h.ds _, h.l.set_ne h.dl _, h.du, h.ds, h.dl, h.dus, h.dul, h.dsl⟩
end SetsMem


/-- What root leaves: the root, and a forest of the same roots. -/
def RootPost (F : Nat → Prop) (w : World) (b n : Nat) (up size low : Nat → Nat) (many : Nat) (ou os ol : Option Addr) (cu cs cl : Nat) (L : Nat → Nat) (x : Nat) (e : Ending) (w' : World) : Prop :=
  ∃ (r k : Nat) (up' : Nat → Nat), e = .returned (.int .i64 r) ∧ r < n ∧ Root up x r k ∧ SetsMem F w' b n up' size low many ou os ol cu cs cl ∧ SetsInv n up' size low many L ∧ SameRoots n up up' ∧ Keep F w w'

set_option maxHeartbeats 400000 in
theorem root_any (F : Nat → Prop) (w : World) (b n : Nat) (up size low : Nat → Nat) (many : Nat) (ou os ol : Option Addr) (cu cs cl : Nat) (L : Nat → Nat) (x : Nat) (hx : x < n) (hn : n ≤ 40)
    (hM : SetsMem F w b n up size low many ou os ol cu cs cl) (hI : SetsInv n up size low many L) :
    Calls Try.prog 52 #[.pointer (some ⟨b, 0, none⟩), .int .i64 x] w (RootPost F w b n up size low many ou os ol cu cs cl L x) := by
  obtain ⟨d, hd⟩ := hI.forest.deep
  obtain ⟨R, k, hRn, hR⟩ := hI.forest.root hx
  obtain ⟨g, hou, hFg, hgc, hrow⟩ := hM.u.pos (by omega)
  have Hou := Lib.hid hou
  subst hou
  have hc0 := hM.head.cell (i := 0) rfl
  have hP : ∀ r k up' w', r = R → Root up x r k → SetsMem F w' b n up' size low many (some ⟨g, 0, none⟩) os ol cu cs cl → SetsInv n up' size low many L → SameRoots n up up' → Keep F w w' → RootPost F w b n up size low many (some ⟨g, 0, none⟩) os ol cu cs cl L x (.returned (.int .i64 r)) w' :=
    fun r k up' w' e h1 h2 h3 h4 h5 => ⟨r, k, up', rfl, e ▸ hRn, h1, h2, h3, h4, h5⟩
  have HP := Lib.hid hP
  have HR := Lib.hid hR
  clear hP
  go_enter Try.func52, Try.ntmps52
  go_wp2
  go_loop [5] (fun r => ∃ z j : Nat, r = .int .i64 z ∧ z < n ∧ Root up z R j) (fun r => d (intOf r).toNat)
  case atStart => exact ⟨x, k, rfl, hx, hR⟩
  case round =>
    obtain ⟨z, j, rfl, hz, hzR⟩ := hrel
    have hcz := hrow.cell (fints_get up hz)
    have HzR := Lib.hid hzR
    clear hzR
    by_cases hne : up z = z
    · have hne' : ((up z : Int) != (z : Int)) = false := by simp [hne]
      obtain rfl : z = R := ((HzR.out).unique (Root.here hne)).1
      have H := Lib.hid hne; clear hne
      go_wp2
      clear hne' hcz hc0
      go_loopw [1] (fun v wr => ∃ (z' j : Nat) (up' : Nat → Nat), v = .int .i64 z' ∧ z' < n ∧ SetsMem F wr b n up' size low many (some ⟨g, 0, none⟩) os ol cu cs cl ∧ SetsInv n up' size low many L ∧ SameRoots n up up' ∧ Root up' z' z j ∧ Keep F w wr ∧ (∀ y, y < n → up' y ≠ y → d (up' y) < d y)) (fun v _ => d (intOf v).toNat)
      case atStart => exact ⟨x, k, up, rfl, hx, hM, hI, SameRoots.refl n up, hR, Keep.refl F w, hd⟩
      case round =>
        obtain ⟨v, j, up', rfl, hv, hM', hI', hS', hR', hK', hd'⟩ := hrel
        have hc0 := hM'.head.cell (i := 0) rfl
        obtain ⟨g', e', hFg', _, hrow'⟩ := hM'.u.pos (by omega)
        obtain rfl : g = g' := by simpa using e'
        have hcv := hrow'.cell (fints_get up' hv)
        have hf := hrow'.frozen v none
        have hbg := hM'.du _ rfl
        clear e'
        have K1 := Lib.hid hR'
        have K2 := Lib.hid hd'
        clear hR' hd' hRn hR hd
        by_cases hne : up' v = z
        · have hne' : ((up' v : Int) != (z : Int)) = false := by simp [hne]
          have H2 := Lib.hid hne; clear hne
          go_wp2
          go_ret
          exact HP.out _ _ _ _ rfl HR.out hM' hI' hS' hK'
        · have hne' : ((up' v : Int) != (z : Int)) = true := by simp; omega
          have H2 := Lib.hid hne; clear hne
          have hlt : up' v < n := hI'.forest.lt v hv
          go_wp2
          go_region
          have hvz : up' v ≠ v ∧ ∃ j', Root up' (up' v) z j' := by
            have h1 := K1.out
            cases h1 with
            | here h => exact absurd h H2.out
            | step h t => exact ⟨h, _, t⟩
          obtain ⟨hvv, j', hj'⟩ := hvz
          obtain ⟨j2, hj2⟩ := K1.out.compress hj'
          have hdz := (K1.out.deeper hI'.forest.lt K2.out hv).2
          refine ⟨?_, by simpa [intOf] using K2.out v hv hvv⟩
          repeat apply Exists.intro
          refine ⟨⟨up' v, j2, upd up' v z, rfl, hlt, hM'.drew.setUp rfl hv z, hI'.compress hv K1.out, hS'.trans (fun a r k' _ hr => ?_), hj2, hK'.drew.setCell (.inl hFg) _, fun y hy hy2 => ?_⟩, rfl⟩
          · exact K1.out.compress hr
          · by_cases e : y = v
            · subst e; rw [upd_same] at hy2 ⊢; exact hdz (fun e => hy2 e.symm)
            · rw [upd_ne _ _ _ _ e] at hy2 ⊢; exact K2.out y hy hy2
    · have hne' : ((up z : Int) != (z : Int)) = true := by simp; omega
      have H := Lib.hid hne; clear hne
      go_wp2
      go_round
      case rel =>
        refine ⟨up z, j - 1, rfl, hI.forest.lt z hz, ?_⟩
        have h1 := HzR.out
        cases h1 with
        | here h => exact absurd h H.out
        | step _ t => exact t
      case measure => simpa [intOf] using hd z hz H.out

end Go.Proofs.Ytkpoobnldgfapaa

/- sets: right. -/
namespace Go.Proofs.Ytkpoobnldgfapaa
open Go.RowKit Pl

/-- Is the number none of the members? -/
def outB (n : Nat) (x : Int) : Bool := decide (x < 0) || decide ((n : Int) ≤ x)

theorem outB_true {n : Nat} {x : Int} : outB n x = true ↔ x < 0 ∨ (n : Int) ≤ x := by simp [outB]
theorem outB_false {n : Nat} {x : Int} : outB n x = false ↔ 0 ≤ x ∧ x < n := by
  have := @outB_true n x
  cases h : outB n x
  · simp only [h] at this; constructor
    · intro _; constructor <;> (false_or_by_contra; exact absurd (this.2 (by omega)) (by decide))
    · intro _; rfl
  · simp only [h] at this; constructor
    · intro e; cases e
    · intro h2; have := this.1 trivial; omega

theorem right1_any (w : World) (B b n cu : Nat) (ou : Option Addr) (x : Int) (hn : n ≤ 40) (hB : w.cell? ⟨B, 0, none⟩ = some (.pointer (some ⟨b, 0, none⟩))) (hc : w.cell? ⟨b, 0, none⟩ = some (.slice ou n cu)) :
    Calls Try.prog 81 #[.int .i64 x, .pointer (some ⟨B, 0, none⟩)] w fun e w' => e = .returned (.bool (outB n x)) ∧ w = w' := by
  by_cases h : x < 0
  · have e : outB n x = true := outB_true.2 (.inl h)
    have he := Lib.hid e
    clear e
    go_enter Try.func81, Try.ntmps81
    go_wp2
    go_ret
    exact ⟨by rw [he.out]; rfl, rfl⟩
  · by_cases h2 : (n : Int) ≤ x
    · have e : outB n x = true := outB_true.2 (.inr h2)
      have he := Lib.hid e
      clear e
      go_enter Try.func81, Try.ntmps81
      go_wp2
      go_ret
      exact ⟨by rw [he.out]; rfl, rfl⟩
    · have e : outB n x = false := outB_false.2 (by omega)
      have he := Lib.hid e
      clear e
      go_enter Try.func81, Try.ntmps81
      go_wp2
      go_ret
      exact ⟨by rw [he.out]; rfl, rfl⟩

/-- Where the first one stands that is no member; -1: there is none. -/
def firstOut (n : Nat) (l : List Int) : Int := match l.findIdx? (outB n) with | some k => k | none => -1

theorem firstOut_some {n : Nat} {l : List Int} {k : Nat} (h : l.findIdx? (outB n) = some k) : firstOut n l = k := by simp [firstOut, h]
theorem firstOut_none {n : Nat} {l : List Int} (h : l.findIdx? (outB n) = none) : firstOut n l = -1 := by simp [firstOut, h]

theorem indexFunc_right (w : World) (B b n cu : Nat) (ou : Option Addr) (g : Nat) (l : List Int) (c : Nat) (hl : l.length ≤ 2) (hn : n ≤ 40) (hB : w.cell? ⟨B, 0, none⟩ = some (.pointer (some ⟨b, 0, none⟩))) (hc : w.cell? ⟨b, 0, none⟩ = some (.slice ou n cu))
    (hx : ∀ i x, l[i]? = some x → w.cell? ⟨g, i, none⟩ = some (.int .i64 x)) :
    Calls Try.prog 95 #[.slice (some ⟨g, 0, none⟩) l.length c, .func (.func 81) #[] #[.pointer (some ⟨B, 0, none⟩)]] w
      fun e w' => e = .returned (.int .i64 (firstOut n l)) ∧ w = w' := by
  go_enter Try.func95, Try.ntmps95
  go_wp2
  go_loop [8] (fun i => ∃ k : Nat, k ≤ l.length ∧ i = .int .i64 k ∧ ∀ j x, j < k → l[j]? = some x → outB n x = false) (fun i => l.length - (intOf i).toNat)
  case atStart => exact ⟨0, Nat.zero_le _, rfl, fun _ _ h => by omega⟩
  case round =>
    obtain ⟨k, hk, rfl, hall⟩ := hrel
    have Hall := Lib.hid hall
    clear hall
    by_cases hlt : k < l.length
    · have hcx := hx k l[k] (by simp [hlt])
      have HX := Lib.hid hx
      clear hx
      cases ho : outB n l[k]
      · go_wp2_with (go_at_call 81; refine (right1_any _ B b n cu ou _ hn hB hc).mono ?_; rintro e w' ⟨rfl, rfl⟩)
        go_round
        case rel =>
          refine ⟨k + 1, by omega, by go_num, fun j x hj hx => ?_⟩
          by_cases e : j = k
          · subst e; simp [hlt] at hx; rw [← hx]; exact ho
          · exact Hall.out j x (by omega) hx
        case measure => simp [intOf]; omega
      · have hf : l.findIdx? (outB n) = some k := by
          rw [List.findIdx?_eq_some_iff_getElem]
          refine ⟨hlt, ho, fun j hj => ?_⟩
          rw [Hall.out j l[j] hj (by simp)]; decide
        have hff := Lib.hid (firstOut_some hf)
        clear hf
        go_wp2_with (go_at_call 81; refine (right1_any _ B b n cu ou _ hn hB hc).mono ?_; rintro e w' ⟨rfl, rfl⟩)
        go_ret
        exact ⟨by rw [hff.out]; rfl, rfl⟩
    · have hf : l.findIdx? (outB n) = none := by
        rw [List.findIdx?_eq_none_iff]
        intro x hx
        obtain ⟨j, hj⟩ := List.mem_iff_getElem?.1 hx
        have := (List.getElem?_eq_some_iff.1 hj).1
        exact Hall.out j x (by omega) hj
      have hff := Lib.hid (firstOut_none hf)
      clear hf
      go_wp2
      go_ret
      exact ⟨by rw [hff.out]; rfl, rfl⟩

theorem firstOut_neg {n : Nat} {l : List Int} (h : ∀ x ∈ l, outB n x = false) : firstOut n l = -1 := firstOut_none (List.findIdx?_eq_none_iff.2 h)
theorem firstOut_pos {n : Nat} {l : List Int} {x : Int} (hx : x ∈ l) (h : outB n x = true) : ∃ k : Nat, firstOut n l = k := by
  cases e : l.findIdx? (outB n) with
  | some k => exact ⟨k, firstOut_some e⟩
  | none => rw [List.findIdx?_eq_none_iff] at e; rw [e x hx] at h; cases h

/-- right: there are such members: true. -/
theorem right_yes (w : World) (b n cu : Nat) (ou : Option Addr) (g : Nat) (l : List Int) (m c : Nat) (hm : l.length = m) (hl : m ≤ 2) (hn : n ≤ 40) (hc : w.cell? ⟨b, 0, none⟩ = some (.slice ou n cu))
    (hx : ∀ i x, l[i]? = some x → w.cell? ⟨g, i, none⟩ = some (.int .i64 x)) (hin : ∀ x ∈ l, outB n x = false) :
    Calls Try.prog 51 #[.pointer (some ⟨b, 0, none⟩), .slice (some ⟨g, 0, none⟩) m c] w fun e w' => e = .returned (.bool true) ∧ Keep Nb w w' := by
  have hmf : ∀ (fn : Fn) (first cap : Array Value) (w : World), (Instr.makeFunc fn first cap).run Try.prog w = .ok (.func fn first cap) w := fun _ _ _ _ => rfl
  subst hm
  have hf := Lib.hid (firstOut_neg hin)
  have hb := World.block_lt_of_cell? w _ hc
  have hB : (w.alloc (.cells #[.pointer (some ⟨b, 0, none⟩)] 25)).cell? ⟨w.heap.size, 0, none⟩ = some (.pointer (some ⟨b, 0, none⟩)) := by
    rw [World.cell?_alloc_at _ _ _ _ rfl]; rfl
  have hc' : (w.alloc (.cells #[.pointer (some ⟨b, 0, none⟩)] 25)).cell? ⟨b, 0, none⟩ = some (.slice ou n cu) := by
    rw [World.cell?_alloc_past _ _ _ hb]; exact hc
  have hx' : ∀ i x, l[i]? = some x → (w.alloc (.cells #[.pointer (some ⟨b, 0, none⟩)] 25)).cell? ⟨g, i, none⟩ = some (.int .i64 x) := fun i x hi => by
    have h := hx i x hi
    rw [World.cell?_alloc_past _ _ _ (World.block_lt_of_cell? w _ h)]; exact h
  clear hx hin
  have HX := Lib.hid hx'
  clear hx'
  go_enter Try.func51, Try.ntmps51
  go_wp2_with (first | (go_at_call 95; refine (indexFunc_right _ w.heap.size b n cu ou g l c hl hn hB hc' HX.out).mono ?_; rintro e w' ⟨rfl, rfl⟩; rw [hf.out]) | go_in)
  go_ret
  exact ⟨rfl, (Keep.refl Nb w).alloc _⟩

/-- right: there is one that is none of them: false. -/
theorem right_no (w : World) (b n cu : Nat) (ou : Option Addr) (g : Nat) (l : List Int) (m c : Nat) (hm : l.length = m) (hl : m ≤ 2) (hn : n ≤ 40) (hc : w.cell? ⟨b, 0, none⟩ = some (.slice ou n cu))
    (hx : ∀ i x, l[i]? = some x → w.cell? ⟨g, i, none⟩ = some (.int .i64 x)) (x : Int) (hxl : x ∈ l) (hout : outB n x = true) :
    Calls Try.prog 51 #[.pointer (some ⟨b, 0, none⟩), .slice (some ⟨g, 0, none⟩) m c] w fun e w' => e = .returned (.bool false) ∧ Keep Nb w w' := by
  have hmf : ∀ (fn : Fn) (first cap : Array Value) (w : World), (Instr.makeFunc fn first cap).run Try.prog w = .ok (.func fn first cap) w := fun _ _ _ _ => rfl
  subst hm
  obtain ⟨k, hk⟩ := firstOut_pos hxl hout
  have hf := Lib.hid hk
  have hb := World.block_lt_of_cell? w _ hc
  have hB : (w.alloc (.cells #[.pointer (some ⟨b, 0, none⟩)] 25)).cell? ⟨w.heap.size, 0, none⟩ = some (.pointer (some ⟨b, 0, none⟩)) := by
    rw [World.cell?_alloc_at _ _ _ _ rfl]; rfl
  have hc' : (w.alloc (.cells #[.pointer (some ⟨b, 0, none⟩)] 25)).cell? ⟨b, 0, none⟩ = some (.slice ou n cu) := by
    rw [World.cell?_alloc_past _ _ _ hb]; exact hc
  have hx' : ∀ i x, l[i]? = some x → (w.alloc (.cells #[.pointer (some ⟨b, 0, none⟩)] 25)).cell? ⟨g, i, none⟩ = some (.int .i64 x) := fun i x hi => by
    have h := hx i x hi
    rw [World.cell?_alloc_past _ _ _ (World.block_lt_of_cell? w _ h)]; exact h
  clear hx hk hout hxl
  have HX := Lib.hid hx'
  clear hx'
  go_enter Try.func51, Try.ntmps51
  go_wp2_with (first | (go_at_call 95; refine (indexFunc_right _ w.heap.size b n cu ou g l c hl hn hB hc' HX.out).mono ?_; rintro e w' ⟨rfl, rfl⟩; rw [hf.out]) | go_in)
  go_ret
  exact ⟨rfl, (Keep.refl Nb w).alloc _⟩

end Go.Proofs.Ytkpoobnldgfapaa

/- sets: Join. -/
namespace Go.Proofs.Ytkpoobnldgfapaa
open Go.RowKit Pl

theorem two_get {w : World} {a b : Value} {T : TypeId} (l : List Int) (hl : l.map (Value.int .i64) = [a, b]) :
    ∀ i x, l[i]? = some x → (w.alloc (.cells #[a, b] T)).cell? ⟨w.heap.size, i, none⟩ = some (.int .i64 x) := by
  intro i x hi
  have h : (l.map (Value.int .i64))[i]? = some (.int .i64 x) := by simp [hi]
  rw [hl] at h
  rw [World.cell?_alloc_at _ _ _ _ rfl]
  simpa using h

theorem one_get {w : World} {a : Value} {T : TypeId} (l : List Int) (hl : l.map (Value.int .i64) = [a]) :
    ∀ i x, l[i]? = some x → (w.alloc (.cells #[a] T)).cell? ⟨w.heap.size, i, none⟩ = some (.int .i64 x) := by
  intro i x hi
  have h : (l.map (Value.int .i64))[i]? = some (.int .i64 x) := by simp [hi]
  rw [hl] at h
  rw [World.cell?_alloc_at _ _ _ _ rfl]
  simpa using h

/-- The memory and what it means. -/
def Sets (F : Nat → Prop) (w : World) (b n : Nat) (L : Nat → Nat) : Prop :=
  ∃ (up size low : Nat → Nat) (many : Nat) (ou os ol : Option Addr) (cu cs cl : Nat), SetsMem F w b n up size low many ou os ol cu cs cl ∧ SetsInv n up size low many L ∧ n ≤ 40

def JoinPost (F : Nat → Prop) (w : World) (b n : Nat) (L : Nat → Nat) (x y : Nat) (e : Ending) (w' : World) : Prop :=
  e = .returned (.tuple #[.bool (decide (L x ≠ L y)), .nilIface]) ∧ Sets F w' b n (joinL L x y) ∧ Keep F w w'

theorem join_post_comm (F : Nat → Prop) (w : World) (b n : Nat) (L : Nat → Nat) (x y : Nat) (e : Ending) (w' : World) (h : JoinPost F w b n L y x e w') : JoinPost F w b n L x y e w' := by
  obtain ⟨h1, h2, h3⟩ := h
  refine ⟨?_, ?_, h3⟩
  · rw [h1]
    have : decide (L y ≠ L x) = decide (L x ≠ L y) := by simp [eq_comm]
    rw [this]
  · rw [joinL_comm]; exact h2

theorem join_close (F : Nat → Prop) (w w3 : World) (b n gu gs gl cu cs cl : Nat) (up size low : Nat → Nat) (many : Nat) (L : Nat → Nat) (x y p q k1 k2 : Nat) (hx : x < n) (hy : y < n) (hp : p < n) (hq : q < n) (hn : n ≤ 40)
    (hM : SetsMem F w3 b n up size low many (some ⟨gu, 0, none⟩) (some ⟨gs, 0, none⟩) (some ⟨gl, 0, none⟩) cu cs cl) (hI : SetsInv n up size low many L)
    (hR1 : Root up x p k1) (hR2 : Root up y q k2) (hne : p ≠ q) (hK : Keep F w w3) (nq m : Nat) (hm : m = min (low p) (low q)) :
    JoinPost F w b n L x y (.returned (.tuple #[.bool true, .nilIface]))
      (((((w3.drewN nq).setCell ⟨gu, q, none⟩ (.int .i64 p)).setCell ⟨gs, p, none⟩ (.int .i64 ((size p : Int) + (size q : Int)))).setCell ⟨gl, p, none⟩ (.int .i64 m)).setCell ⟨b, 3, none⟩ (.int .i64 ((many : Int) - 1))).drew.drew := by
  obtain ⟨hI', hm1, hL⟩ := hI.link hx hy hR1 hR2 hne
  have e1 : ((size p : Int) + (size q : Int)) = ((size p + size q : Nat) : Int) := by omega
  have e2 : ((many : Int) - 1) = ((many - 1 : Nat) : Int) := by omega
  rw [e1, e2]
  have hM0 : SetsMem F (w3.drewN nq) b n up size low many (some ⟨gu, 0, none⟩) (some ⟨gs, 0, none⟩) (some ⟨gl, 0, none⟩) cu cs cl := hM.of_heap (fun _ _ _ => rfl)
  have hMm := (((hM0.setUp rfl hq p).setSize rfl hp (size p + size q)).setLow rfl hp m).setMany (many - 1)
  subst hm
  have hFu := hM.u.foot _ rfl
  have hFs := hM.s.foot _ rfl
  have hFl := hM.l.foot _ rfl
  have k1 := (hK.drewN nq).setCell (p := ⟨gu, q, none⟩) (.inl hFu) (.int .i64 p)
  have k2 := k1.setCell (p := ⟨gs, p, none⟩) (.inl hFs) (.int .i64 (size p + size q : Nat))
  have k3 := k2.setCell (p := ⟨gl, p, none⟩) (.inl hFl) (.int .i64 (min (low p) (low q) : Nat))
  have k4 := k3.setCell (p := ⟨b, 3, none⟩) (.inl hM.hb) (.int .i64 (many - 1 : Nat))
  refine ⟨by simp [hL], ⟨upd up q p, upd size p (size p + size q), upd low p (min (low p) (low q)), many - 1, some ⟨gu, 0, none⟩, some ⟨gs, 0, none⟩, some ⟨gl, 0, none⟩, cu, cs, cl, ?_, hI', hn⟩, ?_⟩
  · exact hMm.drew.drew
  · exact k4.drew.drew

set_option maxHeartbeats 1000000 in
theorem join_any (F : Nat → Prop) (w : World) (b n : Nat) (L : Nat → Nat) (x y : Nat) (hx : x < n) (hy : y < n) (hS : Sets F w b n L) :
    Calls Try.prog 13 #[.pointer (some ⟨b, 0, none⟩), .int .i64 x, .int .i64 y] w (JoinPost F w b n L x y) := by
  obtain ⟨up, size, low, many, ou, os, ol, cu, cs, cl, hM, hI, hn⟩ := hS
  have hc0 := hM.head.cell (i := 0) rfl
  have hb := hM.head.lt
  have hca : (w.alloc (.cells #[.int .i64 x, .int .i64 y] 3)).cell? ⟨b, 0, none⟩ = some (.slice ou n cu) := by rw [World.cell?_alloc_past _ _ _ hb]; exact hc0
  have hg2 := Lib.hid (two_get (w := w) (T := 3) [(x : Int), (y : Int)] rfl)
  have hin : ∀ z ∈ [(x : Int), (y : Int)], outB n z = false := by
    intro z hz
    simp at hz
    rcases hz with rfl | rfl <;> exact outB_false.2 (by omega)
  have Hin := Lib.hid hin
  clear hin hc0
  go_enter Try.func13, Try.ntmps13
  go_wp2_with fail
  refine (right_yes _ b n cu ou _ [(x : Int), (y : Int)] 2 2 rfl (Nat.le_refl _) hn hca hg2.out Hin.out).mono ?_
  rintro e w1 ⟨rfl, hk1⟩
  have hM1 := (hM.alloc (.cells #[.int .i64 x, .int .i64 y] 3)).keep hk1 (fun _ _ h => h)
  clear hca
  have HK1 := Lib.hid hk1
  clear hk1
  go_wp2_with fail
  refine (root_any F _ b n up size low many ou os ol cu cs cl L x hx hn hM1 hI).mono ?_
  rintro e w2 ⟨r1, k1, up1, rfl, hr1, hR1, hM2, hI2, hS2, hk2⟩
  have HK2 := Lib.hid hk2
  have HR1 := Lib.hid hR1
  clear hk2 hR1
  go_wp2_with fail
  refine (root_any F _ b n up1 size low many ou os ol cu cs cl L y hy hn hM2 hI2).mono ?_
  rintro e w3 ⟨r2, k2, up2, rfl, hr2, hR2, hM3, hI3, hS3, hk3⟩
  obtain ⟨k0, hR0⟩ := hS2 _ _ _ hx HR1.out
  obtain ⟨k1', hR1'⟩ := hS3 _ _ _ hx hR0
  obtain ⟨k2', hR2'⟩ := hS3 _ _ _ hy hR2
  have hKK : Keep F w w3 := (((Keep.refl F w).alloc _).trans HK1.out.of_nb).trans (HK2.out.trans hk3)
  by_cases hrr : r1 = r2
  · have hLL : L x = L y := by rw [← hI3.lab _ _ _ hx hR1', ← hI3.lab _ _ _ hy hR2', hrr]
    have hfin : JoinPost F w b n L x y (.returned (.tuple #[.bool false, .nilIface])) w3 := by
      refine ⟨by simp [hLL], ?_, hKK⟩
      rw [joinL_same hLL]
      exact ⟨up2, size, low, many, ou, os, ol, cu, cs, cl, hM3, hI3, hn⟩
    have HF := Lib.hid hfin
    have hbe : ((r1 : Int) == (r2 : Int)) = true := by simp [hrr]
    clear hfin hLL hrr hKK hR0 hR1' hR2' hR2 hk3
    go_wp2_with fail
    go_ret2
    exact HF.out
  · have hbe : ((r1 : Int) == (r2 : Int)) = false := by simp; omega
    obtain ⟨gu, hou, hFu, hcu', hru⟩ := hM3.u.pos (by omega)
    obtain ⟨gs, hos, hFs, hcs', hrs⟩ := hM3.s.pos (by omega)
    obtain ⟨gl, hol, hFl, hcl', hrl⟩ := hM3.l.pos (by omega)
    subst hou hos hol
    have hc0 := hM3.head.cell (i := 0) rfl
    have hc1 := hM3.head.cell (i := 1) rfl
    have hc2 := hM3.head.cell (i := 2) rfl
    have hc3 := hM3.head.cell (i := 3) rfl
    have hs1 := hrs.cell (fints_get size hr1)
    have hs2 := hrs.cell (fints_get size hr2)
    have hl1 := hrl.cell (fints_get low hr1)
    have hl2 := hrl.cell (fints_get low hr2)
    have hu1 := hru.cell (fints_get up2 hr1)
    have hu2 := hru.cell (fints_get up2 hr2)
    have f1 := hru.frozen r1 none
    have f2 := hru.frozen r2 none
    have f3 := hrs.frozen r1 none
    have f4 := hrs.frozen r2 none
    have f5 := hrl.frozen r1 none
    have f6 := hrl.frozen r2 none
    have f7 := hM3.head.frozen 3 none
    have d1 : gu ≠ b := hM3.du _ rfl
    have d2 : gs ≠ b := hM3.ds _ rfl
    have d3 : gl ≠ b := hM3.dl _ rfl
    have d4 : gu ≠ gs := hM3.dus _ _ rfl rfl
    have d5 : gu ≠ gl := hM3.dul _ _ rfl rfl
    have d6 : gs ≠ gl := hM3.dsl _ _ rfl rfl
    have d1' := d1.symm
    have d2' := d2.symm
    have d3' := d3.symm
    have d4' := d4.symm
    have d5' := d5.symm
    have d6' := d6.symm
    have hLne : L x ≠ L y := (hI3.link hx hy hR1' hR2' hrr).2.2
    have hmany := (hI3.link hx hy hR1' hR2' hrr).2.1
    have b1 : size r1 ≤ n := by rw [hI3.siz _ _ _ hx hR1']; exact cnt_le _ _
    have b2 : size r2 ≤ n := by rw [hI3.siz _ _ _ hy hR2']; exact cnt_le _ _
    have b3 : many ≤ n := by rw [hI3.man]; exact cnt_le _ _
    have H1 := Lib.hid hR1'
    have H2 := Lib.hid hR2'
    have H3 := Lib.hid hKK
    have H4 := Lib.hid hrr
    clear hR1' hR2' hKK hrr hR0 hR2 hk3 hru hrs hrl
    have hv1 := Lib.hid (join_close F w w3 b n gu gs gl cu cs cl up2 size low many L x y r1 r2 k1' k2' hx hy hr1 hr2 hn hM3 hI3 H1.out H2.out H4.out H3.out)
    have hv2 := Lib.hid (join_close F w w3 b n gu gs gl cu cs cl up2 size low many L y x r2 r1 k2' k1' hy hx hr2 hr1 hn hM3 hI3 H2.out H1.out (fun e => H4.out e.symm) H3.out)
    have hcm := Lib.hid (join_post_comm F w b n L x y)
    by_cases hlt : size r1 < size r2
    · have hltb : decide ((size r1 : Int) < (size r2 : Int)) = true := by simpa using hlt
      go_wp2_with fail
      go_quiet (fail)
      go_wp2_with fail
      go_region
      go_wp2_with fail
      go_region
      all_goals (go_wp2_with fail)
      all_goals
        go_ret2
        exact hcm.out _ _ (hv2.out _ _ (by omega))
    · have hltb : decide ((size r1 : Int) < (size r2 : Int)) = false := by simpa using hlt
      go_wp2_with fail
      go_quiet (fail)
      go_wp2_with fail
      go_region
      go_wp2_with fail
      go_region
      all_goals (go_wp2_with fail)
      all_goals
        go_ret2
        exact hv1.out _ _ (by omega)

end Go.Proofs.Ytkpoobnldgfapaa

/- sets: Least, Size, Same, Many. -/
namespace Go.Proofs.Ytkpoobnldgfapaa
open Go.RowKit Pl

theorem SetsMem.lowCell {F : Nat → Prop} {w : World} {b n : Nat} {up size low : Nat → Nat} {many : Nat} {ou os : Option Addr} {g : Nat} {cu cs cl : Nat} (h : SetsMem F w b n up size low many ou os (some ⟨g, 0, none⟩) cu cs cl) {r : Nat} (hr : r < n) :
    w.cell? ⟨g, r, none⟩ = some (.int .i64 (low r)) := by
  obtain ⟨g', e, _, _, hrow⟩ := h.l.pos (by omega)
  obtain rfl : g = g' := by simpa using e
  exact hrow.cell (fints_get low hr)

theorem SetsMem.sizeCell {F : Nat → Prop} {w : World} {b n : Nat} {up size low : Nat → Nat} {many : Nat} {ou ol : Option Addr} {g : Nat} {cu cs cl : Nat} (h : SetsMem F w b n up size low many ou (some ⟨g, 0, none⟩) ol cu cs cl) {r : Nat} (hr : r < n) :
    w.cell? ⟨g, r, none⟩ = some (.int .i64 (size r)) := by
  obtain ⟨g', e, _, _, hrow⟩ := h.s.pos (by omega)
  obtain rfl : g = g' := by simpa using e
  exact hrow.cell (fints_get size hr)

theorem read_fin {F : Nat → Prop} {w w1 w2 : World} {o : Obj} {b n : Nat} {up size low : Nat → Nat} {many : Nat} {ou os ol : Option Addr} {cu cs cl : Nat} {L : Nat → Nat} {p q : Nat}
    (h1 : Keep Nb (w.alloc o) w1) (h2 : Keep F w1.drew w2) (hM : SetsMem F w2 b n up size low many ou os ol cu cs cl) (hI : SetsInv n up size low many L) (hn : n ≤ 40) (he : p = q) :
    p = q ∧ Sets F w2 b n L ∧ Keep F w w2 :=
  ⟨he, ⟨_, _, _, _, _, _, _, _, _, _, hM, hI, hn⟩, ((((Keep.refl F w).alloc o).trans h1.of_nb).drew).trans h2⟩

def ReadPost (F : Nat → Prop) (w : World) (b n : Nat) (L : Nat → Nat) (v : Value) (e : Ending) (w' : World) : Prop :=
  e = .returned v ∧ Sets F w' b n L ∧ Keep F w w'

set_option maxHeartbeats 400000 in
theorem least_any (F : Nat → Prop) (w : World) (b n : Nat) (L : Nat → Nat) (x : Nat) (hx : x < n) (hS : Sets F w b n L) :
    Calls Try.prog 16 #[.pointer (some ⟨b, 0, none⟩), .int .i64 x] w (ReadPost F w b n L (.tuple #[.int .i64 (L x), .nilIface])) := by
  obtain ⟨up, size, low, many, ou, os, ol, cu, cs, cl, hM, hI, hn⟩ := hS
  have hc0 := hM.head.cell (i := 0) rfl
  have hb := hM.head.lt
  have hca : (w.alloc (.cells #[.int .i64 x] 3)).cell? ⟨b, 0, none⟩ = some (.slice ou n cu) := by rw [World.cell?_alloc_past _ _ _ hb]; exact hc0
  have hg2 := Lib.hid (one_get (w := w) (T := 3) [(x : Int)] rfl)
  have hin : ∀ z ∈ [(x : Int)], outB n z = false := by
    intro z hz
    simp at hz
    rw [hz]; exact outB_false.2 (by omega)
  have Hin := Lib.hid hin
  clear hin hc0
  go_enter Try.func16, Try.ntmps16
  go_wp2_with fail
  refine (right_yes _ b n cu ou _ [(x : Int)] 1 1 rfl (by omega) hn hca hg2.out Hin.out).mono ?_
  rintro e w1 ⟨rfl, hk1⟩
  have hM1 := (hM.alloc (.cells #[.int .i64 x] 3)).keep hk1 (fun _ _ h => h)
  clear hca
  have HK1 := Lib.hid hk1
  clear hk1
  obtain ⟨gl, hol, hFl, hcl', hrl⟩ := hM1.l.pos (by omega)
  subst hol
  have hc2 := hM1.head.cell (i := 2) rfl
  go_wp2_with fail
  go_region_with (go_at_call 52; refine (root_any F _ b n up size low many ou os _ cu cs cl L x hx hn hM1.drew hI).mono ?_; rintro e w2 ⟨r1, k1, up1, rfl, hr1, hR1, hM2, hI2, hS2, hk2⟩; have hc2' := hM2.head.cell (i := 2) rfl; have hcl2 := hM2.lowCell hr1; have HF := Lib.hid (read_fin HK1.out hk2 hM2 hI2 hn (hI.lab _ _ _ hx hR1)); clear hk2 hM2 hI2 hS2 hR1)
  all_goals (go_wp2_with fail)
  all_goals
    go_ret2
    exact ⟨by rw [← HF.out.1]; rfl, HF.out.2⟩

set_option maxHeartbeats 400000 in
theorem size_any (F : Nat → Prop) (w : World) (b n : Nat) (L : Nat → Nat) (x : Nat) (hx : x < n) (hS : Sets F w b n L) :
    Calls Try.prog 17 #[.pointer (some ⟨b, 0, none⟩), .int .i64 x] w (ReadPost F w b n L (.tuple #[.int .i64 (cnt n (fun z => decide (L z = L x)) : Nat), .nilIface])) := by
  obtain ⟨up, size, low, many, ou, os, ol, cu, cs, cl, hM, hI, hn⟩ := hS
  have hc0 := hM.head.cell (i := 0) rfl
  have hb := hM.head.lt
  have hca : (w.alloc (.cells #[.int .i64 x] 3)).cell? ⟨b, 0, none⟩ = some (.slice ou n cu) := by rw [World.cell?_alloc_past _ _ _ hb]; exact hc0
  have hg2 := Lib.hid (one_get (w := w) (T := 3) [(x : Int)] rfl)
  have hin : ∀ z ∈ [(x : Int)], outB n z = false := by
    intro z hz
    simp at hz
    rw [hz]; exact outB_false.2 (by omega)
  have Hin := Lib.hid hin
  clear hin hc0
  go_enter Try.func17, Try.ntmps17
  go_wp2_with fail
  refine (right_yes _ b n cu ou _ [(x : Int)] 1 1 rfl (by omega) hn hca hg2.out Hin.out).mono ?_
  rintro e w1 ⟨rfl, hk1⟩
  have hM1 := (hM.alloc (.cells #[.int .i64 x] 3)).keep hk1 (fun _ _ h => h)
  clear hca
  have HK1 := Lib.hid hk1
  clear hk1
  obtain ⟨gs, hos, hFs, hcs', hrs⟩ := hM1.s.pos (by omega)
  subst hos
  have hc1 := hM1.head.cell (i := 1) rfl
  go_wp2_with fail
  go_region_with (go_at_call 52; refine (root_any F _ b n up size low many ou _ ol cu cs cl L x hx hn hM1.drew hI).mono ?_; rintro e w2 ⟨r1, k1, up1, rfl, hr1, hR1, hM2, hI2, hS2, hk2⟩; have hc1' := hM2.head.cell (i := 1) rfl; have hcs2 := hM2.sizeCell hr1; have HF := Lib.hid (read_fin HK1.out hk2 hM2 hI2 hn (hI.siz _ _ _ hx hR1)); clear hk2 hM2 hI2 hS2 hR1)
  all_goals (go_wp2_with fail)
  all_goals
    go_ret2
    exact ⟨by rw [← HF.out.1]; rfl, HF.out.2⟩

theorem sets_fin {F : Nat → Prop} {w w1 w2 w3 : World} {o : Obj} {b n : Nat} {up size low : Nat → Nat} {many : Nat} {ou os ol : Option Addr} {cu cs cl : Nat} {L : Nat → Nat}
    (h1 : Keep Nb (w.alloc o) w1) (h2 : Keep F w1 w2) (h3 : Keep F w2 w3) (hM : SetsMem F w3 b n up size low many ou os ol cu cs cl) (hI : SetsInv n up size low many L) (hn : n ≤ 40) :
    Sets F w3 b n L ∧ Keep F w w3 :=
  ⟨⟨_, _, _, _, _, _, _, _, _, _, hM, hI, hn⟩, (((Keep.refl F w).alloc o).trans h1.of_nb).trans (h2.trans h3)⟩

set_option maxHeartbeats 400000 in
theorem same_any (F : Nat → Prop) (w : World) (b n : Nat) (L : Nat → Nat) (x y : Nat) (hx : x < n) (hy : y < n) (hS : Sets F w b n L) :
    Calls Try.prog 69 #[.pointer (some ⟨b, 0, none⟩), .int .i64 x, .int .i64 y] w (ReadPost F w b n L (.tuple #[.bool (decide (L x = L y)), .nilIface])) := by
  obtain ⟨up, size, low, many, ou, os, ol, cu, cs, cl, hM, hI, hn⟩ := hS
  have hc0 := hM.head.cell (i := 0) rfl
  have hb := hM.head.lt
  have hca : (w.alloc (.cells #[.int .i64 x, .int .i64 y] 3)).cell? ⟨b, 0, none⟩ = some (.slice ou n cu) := by rw [World.cell?_alloc_past _ _ _ hb]; exact hc0
  have hg2 := Lib.hid (two_get (w := w) (T := 3) [(x : Int), (y : Int)] rfl)
  have hin : ∀ z ∈ [(x : Int), (y : Int)], outB n z = false := by
    intro z hz
    simp at hz
    rcases hz with rfl | rfl <;> exact outB_false.2 (by omega)
  have Hin := Lib.hid hin
  clear hin hc0
  go_enter Try.func69, Try.ntmps69
  go_wp2_with fail
  refine (right_yes _ b n cu ou _ [(x : Int), (y : Int)] 2 2 rfl (Nat.le_refl _) hn hca hg2.out Hin.out).mono ?_
  rintro e w1 ⟨rfl, hk1⟩
  have hM1 := (hM.alloc (.cells #[.int .i64 x, .int .i64 y] 3)).keep hk1 (fun _ _ h => h)
  clear hca
  have HK1 := Lib.hid hk1
  clear hk1
  go_wp2_with fail
  refine (root_any F _ b n up size low many ou os ol cu cs cl L x hx hn hM1 hI).mono ?_
  rintro e w2 ⟨r1, k1, up1, rfl, hr1, hR1, hM2, hI2, hS2, hk2⟩
  have HK2 := Lib.hid hk2
  have HR1 := Lib.hid hR1
  clear hk2 hR1
  go_wp2_with fail
  refine (root_any F _ b n up1 size low many ou os ol cu cs cl L y hy hn hM2 hI2).mono ?_
  rintro e w3 ⟨r2, k2, up2, rfl, hr2, hR2, hM3, hI3, hS3, hk3⟩
  obtain ⟨k0, hR0⟩ := hS2 _ _ _ hx HR1.out
  have hiff : ((r1 : Int) == (r2 : Int)) = decide (L x = L y) := by
    rw [Bool.eq_iff_iff]
    simp only [beq_iff_eq, decide_eq_true_eq]
    have e1 := hI2.lab _ _ _ hx hR0
    have e2 := hI2.lab _ _ _ hy hR2
    constructor
    · intro h
      have h' : r1 = r2 := by omega
      rw [← e1, ← e2, h']
    · intro h
      have := hI2.sep _ _ _ _ _ _ hx hy hR0 hR2 h
      rw [this]
  have HF := Lib.hid (sets_fin HK1.out HK2.out hk3 hM3 hI3 hn)
  have HI := Lib.hid hiff
  clear hiff hR0 hk3 hR2
  go_wp2_with fail
  go_ret2
  exact ⟨by rw [HI.out]; rfl, HF.out⟩

theorem many_any (F : Nat → Prop) (w : World) (b n : Nat) (L : Nat → Nat) (hS : Sets F w b n L) :
    Calls Try.prog 14 #[.pointer (some ⟨b, 0, none⟩)] w fun e w' => e = .returned (.int .i64 (cnt n (isRoot L) : Nat)) ∧ w = w' := by
  obtain ⟨up, size, low, many, ou, os, ol, cu, cs, cl, hM, hI, hn⟩ := hS
  have hc3 := hM.head.cell (i := 3) rfl
  have hm := Lib.hid hI.man
  go_enter Try.func14, Try.ntmps14
  go_wp2_with fail
  go_ret
  exact ⟨by rw [hm.out]; rfl, rfl⟩

end Go.Proofs.Ytkpoobnldgfapaa

/- append: what it leaves, as an equation on its run. Nothing of one program stands here. -/
namespace Go.Proofs.Ytkpoobnldgfapaa
open Go.RowKit

/-- The block of a slice's address. -/
def Bl (o : Option Addr) : Nat → Prop := fun k => ∃ a, o = some a ∧ a.block = k

/-- The row of an element type in the program's table. -/
def ElemT (P : Program) (e : TypeId) (z : Value) (size bytes : Nat) : Prop := (P.info? e).map (fun i => (i.zero, i.size, i.bytes)) = some (some z, size, bytes)

theorem Keep.of_grown {w w' : World} {o : Option Addr} {n c : Nat} (h : w.grownBy w' (Value.slice o n c).ownBlock) : Keep (Bl o) w w' := by
  refine ⟨h.os, h.tape, h.output, h.size, fun k hk hn => h.block k hk (fun e => hn ?_)⟩
  cases o with
  | none => simp [Value.ownBlock] at e
  | some a => simp [Value.ownBlock] at e; exact ⟨a, rfl, e.symm⟩

/-- 'append(s, x..)': the new value, where it lies, and that nothing but its old row has turned. -/
theorem run_app {P : Program} {w : World} {F : Nat → Prop} (t ty e : TypeId) {z : Value} {size bytes : Nat} (ht : P.underlying t = some (.slice e)) (hE : ElemT P e z size bytes)
    (hzs : z.cells.size = size) (hsz : 0 < size) {o : Option Addr} {n c : Nat} {xs : List Value} (hS : Sl F w e size o n c xs)
    (a : Addr) (m c2 : Nat) (news : List Value) (hl : news.length = m * size) (hnews : ∀ j u, news[j]? = some u → w.cell? (a.add j) = some u) (h1 : ∀ u ∈ news, u.oneCell' = true)
    (h63 : n + m ≤ maxLen) (hbytes : (n + m) * bytes ≤ 140737488355328) (hm : 0 < m) :
    ∃ g c' w', (Builtin.append_ #[t, t] ty #[.slice o n c, .slice (some a) m c2]).run P w = .ok (.slice (some ⟨g, 0, none⟩) (n + m) c') w' ∧
      Sl (fun k => F k ∨ k = w.heap.size) w' e size (some ⟨g, 0, none⟩) (n + m) c' (xs ++ news) ∧ Keep (Bl o) w w' ∧ (o = some ⟨g, 0, none⟩ ∨ g = w.heap.size) := by
  obtain ⟨i, hi, hz, hsize, hby⟩ := info_parts hE
  subst hsize
  subst hby
  have hown := hS.own
  have hsmall : n + m ≤ 9223372036854775807 := by simp only [maxLen] at h63; omega
  have hlen : (xs ++ news).length = (n + m) * i.size := by rw [List.length_append, hown.1, hl, Nat.add_mul]
  have grown : ∀ (old : Nat), old < n + m →
      Sl (fun k => F k ∨ k = w.heap.size) (w.drew.alloc (.cells (xs.toArray ++ news.toArray ++ Builtin.zeroCells z.cells (grownCap w (n + m) old e - (n + m))) e)) e i.size
        (some ⟨w.heap.size, 0, none⟩) (n + m) (grownCap w (n + m) old e) (xs ++ news) ∧
      Keep (Bl o) w (w.drew.alloc (.cells (xs.toArray ++ news.toArray ++ Builtin.zeroCells z.cells (grownCap w (n + m) old e - (n + m))) e)) := by
    intro old ho
    have hge := grownCap_ge w (n + m) old e
    have hcm : grownCap w (n + m) old e ≤ maxLen := grownCap_le_maxLen w (n + m) old e h63
    refine ⟨⟨⟨hlen, .inr ⟨w.heap.size, _, _, rfl, Nat.zero_le _, heap_alloc_new w.drew _, hge, hcm, ?_, ?_⟩⟩, fun a ha => by simp at ha; exact .inr (by rw [← ha])⟩, ((Keep.refl (Bl o) w).drew).alloc _⟩
    · simp only [Array.size_append, List.size_toArray, size_zeroCells, hzs, hown.1, hl, ← Nat.add_mul]
      congr 1
      omega
    · simp only [Array.toList_append, List.append_assoc]
      rw [← List.append_assoc, ← hlen]
      exact List.take_left
  rcases hown.2 with ⟨ev, hn⟩ | ⟨g, cap, cur, ev, _, hg, hnc, hcm, hcs, htake⟩
  · simp only [Value.slice.injEq] at ev
    obtain ⟨rfl, rfl, rfl⟩ := ev
    have hx : xs = [] := List.eq_nil_of_length_eq_zero (by simpa using hown.1)
    subst hx
    have hr := run_append_nil (P := P) w t ty e i z ht hi hz a m c2 news hl hnews hm (by omega) (by have hb := hbytes; simp only [Nat.zero_add] at hb; omega)
    have hgr := grown 0 (by omega)
    simp only [Nat.zero_add, List.nil_append, Array.empty_append] at hgr ⊢
    exact ⟨_, _, _, hr, hgr.1, hgr.2, .inr rfl⟩
  · simp only [Value.slice.injEq, true_and] at ev
    obtain ⟨rfl, rfl⟩ := ev
    by_cases hroom : n + m ≤ c
    · have hfit : n * i.size + news.length ≤ cur.size := by rw [hl, hcs, ← Nat.add_mul]; exact Nat.mul_le_mul_right _ hroom
      have hr := run_append_room (P := P) w t ty e i ht hi g n c cur hg a m c2 news hl hnews h1 hroom hfit
      refine ⟨_, _, _, hr, ⟨⟨hlen, .inr ⟨g, c, _, rfl, Nat.zero_le _, setRow_heap w g cur _ e _ hg, hroom, hcm, ?_, ?_⟩⟩, fun a ha => .inl (hS.foot a ha)⟩, ?_, .inl rfl⟩
      · simp only [List.size_toArray, List.length_append, List.length_take, List.length_drop, Array.length_toList]
        omega
      · rw [htake, ← hlen]
        exact List.take_left
      · exact ⟨rfl, rfl, rfl, by simp, fun k _ hk => setRow_other w g k _ (fun e => hk ⟨_, rfl, e.symm⟩)⟩
    · have holds : ∀ j u, xs[j]? = some u → w.cell? ((⟨g, 0, none⟩ : Addr).add j) = some u := hown.cells (g := g) rfl
      have hr := run_append_grow (P := P) w t ty e i z ht hi hz ⟨g, 0, none⟩ n c xs hown.1 holds a m c2 news hl hnews (by omega) (by omega) (growslice_fits (by omega) hbytes)
      have hgr := grown c (by omega)
      exact ⟨_, _, _, hr, hgr.1, hgr.2, .inr rfl⟩

/-- 'append(s, x)', x one cell: x lies in the block that buildSlice has just laid. -/
theorem run_app1 {P : Program} {w : World} {F : Nat → Prop} (t ty e : TypeId) {z : Value} {bytes : Nat} (ht : P.underlying t = some (.slice e)) (hE : ElemT P e z 1 bytes)
    (hzs : z.cells.size = 1) {o : Option Addr} {n c : Nat} {xs : List Value} (hS : Sl F w e 1 o n c xs) (x : Value) (hx : x.oneCell' = true)
    (h63 : n + 1 ≤ 1000000) (hbytes : bytes ≤ 1000000) :
    ∃ g c' w', (Builtin.append_ #[t, t] ty #[.slice o n c, .slice (some ⟨w.heap.size, 0, none⟩) 1 1]).run P (w.alloc (.cells #[x] e)) = .ok (.slice (some ⟨g, 0, none⟩) (n + 1) c') w' ∧
      Sl (fun k => F k ∨ k = w.heap.size + 1) w' e 1 (some ⟨g, 0, none⟩) (n + 1) c' (xs ++ [x]) ∧ Keep (Bl o) w w' ∧ (o = some ⟨g, 0, none⟩ ∨ g = w.heap.size + 1) := by
  have hcell : ∀ j u, [x][j]? = some u → (w.alloc (.cells #[x] e)).cell? ((⟨w.heap.size, 0, none⟩ : Addr).add j) = some u := by
    intro j u hj
    have : j = 0 := by
      have := (List.getElem?_eq_some_iff.1 hj).1
      simp at this; exact this
    subst this
    simp at hj; subst hj
    show (w.alloc (.cells #[x] e)).cell? ⟨w.heap.size, 0, none⟩ = _
    rw [World.cell?_alloc_at _ _ _ _ rfl]; rfl
  have hb : (n + 1) * bytes ≤ 140737488355328 := by
    have := Nat.mul_le_mul h63 hbytes
    omega
  obtain ⟨g, c', w', h1, h2, h3, h4⟩ := run_app (P := P) (w := w.alloc (.cells #[x] e)) t ty e ht hE hzs (by omega) (hS.alloc _) ⟨w.heap.size, 0, none⟩ 1 1 [x] rfl hcell
    (by intro u hu; simp at hu; rw [hu]; exact hx) (by simp only [maxLen]; omega) hb (by omega)
  simp only [World.size_alloc] at h2 h4
  exact ⟨g, c', w', h1, h2, ((Keep.refl (Bl o) w).alloc _).trans h3, h4⟩

/-- .. x of several cells. -/
theorem run_appN {P : Program} {w : World} {F : Nat → Prop} (t ty e : TypeId) {z : Value} {size bytes : Nat} (ht : P.underlying t = some (.slice e)) (hE : ElemT P e z size bytes)
    (hzs : z.cells.size = size) (hsz : 0 < size) {o : Option Addr} {n c : Nat} {xs : List Value} (hS : Sl F w e size o n c xs) (x : List Value) (m : Nat) (hx : ∀ u ∈ x, u.oneCell' = true) (hl : x.length = m * size) (hm : 0 < m)
    (h63 : n + m ≤ 1000000) (hbytes : bytes ≤ 1000000) :
    ∃ g c' w', (Builtin.append_ #[t, t] ty #[.slice o n c, .slice (some ⟨w.heap.size, 0, none⟩) m m]).run P (w.alloc (.cells x.toArray e)) = .ok (.slice (some ⟨g, 0, none⟩) (n + m) c') w' ∧
      Sl (fun k => F k ∨ k = w.heap.size + 1) w' e size (some ⟨g, 0, none⟩) (n + m) c' (xs ++ x) ∧ Keep (Bl o) w w' ∧ (o = some ⟨g, 0, none⟩ ∨ g = w.heap.size + 1) := by
  have hcell : ∀ j u, x[j]? = some u → (w.alloc (.cells x.toArray e)).cell? ((⟨w.heap.size, 0, none⟩ : Addr).add j) = some u := by
    intro j u hj
    rw [show (⟨w.heap.size, 0, none⟩ : Addr).add j = ⟨w.heap.size, j, none⟩ from by unfold Addr.add; split <;> simp_all]
    rw [World.cell?_alloc_at _ _ _ _ rfl]
    simpa using hj
  have hb : (n + m) * bytes ≤ 140737488355328 := by
    have := Nat.mul_le_mul h63 hbytes
    omega
  obtain ⟨g, c', w', h1, h2, h3, h4⟩ := run_app (P := P) (w := w.alloc (.cells x.toArray e)) t ty e ht hE hzs hsz (hS.alloc _) ⟨w.heap.size, 0, none⟩ m m x hl hcell
    hx (by simp only [maxLen]; omega) hb hm
  simp only [World.size_alloc] at h2 h4
  exact ⟨g, c', w', h1, h2, ((Keep.refl (Bl o) w).alloc _).trans h3, h4⟩

/-- At the operation, for the walk: 'append' by an equation on its run. -/
theorem wpList_app {P : Program} {w w' : World} {ops : Array Oper} {rest : List Oper} {o : Oper} {a : Act} {Q : Exit → Act → World → Prop} (hg : o.guard = none) (s x : Operand) (t : TypeId)
    (hop : o.op = Op.call { callee := Callee.builtin Builtin.append, args := #[s, x], argTypes := #[t, t] }) {v vx v' : Value} (hs : a.eval s = v) (hx : a.eval x = vx)
    (hrun : (Builtin.append_ #[t, t] o.type #[v, vx]).run P w = .ok v' w') (h : wpList P ops Q rest (a.put o.dst v') w') : wpList P ops Q (o :: rest) a w := by
  refine wpList_plain hg fun K' hK' => ?_
  unfold Oper.wp execOp
  simp only [hop, resolve, invoke, builtin, Sem.run_bind, Sem.run_pure, Result.andThen_ok, List.map_toArray, List.map_cons, List.map_nil, hs, hx, hrun]
  exact hK' _ _ h

theorem Bl_none (k : Nat) : ¬ Bl none k := by rintro ⟨a, ha, _⟩; cases ha
theorem Keep.of_none {w w' : World} (h : Keep (Bl none) w w') : Keep Nb w w' := h.mono (fun k _ hk => absurd hk (Bl_none k))

/-- 'append(nil, x)'. -/
theorem run_app_nil1 {P : Program} {w : World} (F : Nat → Prop) (t ty e : TypeId) {z : Value} {bytes : Nat} (ht : P.underlying t = some (.slice e)) (hE : ElemT P e z 1 bytes)
    (hzs : z.cells.size = 1) (x : Value) (hx : x.oneCell' = true) (hbytes : bytes ≤ 1000000) :
    ∃ g c' w', (Builtin.append_ #[t, t] ty #[.slice none 0 0, .slice (some ⟨w.heap.size, 0, none⟩) 1 1]).run P (w.alloc (.cells #[x] e)) = .ok (.slice (some ⟨g, 0, none⟩) 1 c') w' ∧
      Sl (fun k => F k ∨ k = w.heap.size + 1) w' e 1 (some ⟨g, 0, none⟩) 1 c' [x] ∧ Keep Nb w w' ∧ g = w.heap.size + 1 := by
  obtain ⟨g, c', w', h1, h2, h3, h4⟩ := run_app1 (P := P) t ty e ht hE hzs (Sl.nil F w e 1) x hx (by omega) hbytes
  refine ⟨g, c', w', h1, h2, h3.of_none, ?_⟩
  rcases h4 with h4 | h4
  · cases h4
  · exact h4

end Go.Proofs.Ytkpoobnldgfapaa

/- Slices of slices of numbers. Nothing of one program stands here. -/
namespace Go.Proofs.Ytkpoobnldgfapaa
open Go.RowKit

structure Rw where
  o : Option Addr
  n : Nat
  c : Nat

def Rw.val (r : Rw) : Value := .slice r.o r.n r.c

structure Mat (F : Nat → Prop) (w : World) (T e : TypeId) (o : Option Addr) (n c : Nat) (rows : List Rw) (ll : List (List Nat)) : Prop where
  out : Sl F w T 1 o n c (rows.map Rw.val)
  len : rows.length = ll.length
  row : ∀ (i : Nat) r l, rows[i]? = some r → ll[i]? = some l → Sl F w e 1 r.o r.n r.c (ints l)
  ne : ∀ (i : Nat) r a, rows[i]? = some r → r.o = some a → ¬ Bl o a.block
  nn : ∀ (i j : Nat) r s a b, i ≠ j → rows[i]? = some r → rows[j]? = some s → r.o = some a → s.o = some b → a.block ≠ b.block

namespace Mat
variable {F : Nat → Prop} {w : World} {T e : TypeId} {o : Option Addr} {n c : Nat} {rows : List Rw} {ll : List (List Nat)}

theorem nil (F : Nat → Prop) (w : World) (T e : TypeId) : Mat F w T e none 0 0 [] [] :=
  ⟨Sl.nil F w T 1, rfl, fun i r l h => by simp at h, fun i r a h => by simp at h, fun i j r s a b _ h => by simp at h⟩

theorem n_eq (h : Mat F w T e o n c rows ll) : n = ll.length := by
  have := h.out.len
  simp only [List.length_map, Nat.mul_one] at this
  rw [← this, h.len]

theorem of_heap {w' : World} (h : Mat F w T e o n c rows ll) (he : ∀ k, k < w.heap.size → F k → w'.heap[k]? = w.heap[k]?) : Mat F w' T e o n c rows ll :=
  ⟨h.out.of_heap he, h.len, fun i r l h1 h2 => (h.row i r l h1 h2).of_heap he, h.ne, h.nn⟩

theorem keep {G : Nat → Prop} {w' : World} (h : Mat F w T e o n c rows ll) (k : Keep G w w') (d : ∀ k, F k → ¬ G k) : Mat F w' T e o n c rows ll :=
  h.of_heap fun i hi hF => k.block i hi (d i hF)

theorem mono {G : Nat → Prop} (h : Mat F w T e o n c rows ll) (hG : ∀ k, F k → G k) : Mat G w T e o n c rows ll :=
  ⟨h.out.mono hG, h.len, fun i r l h1 h2 => (h.row i r l h1 h2).mono hG, h.ne, h.nn⟩

theorem alloc (h : Mat F w T e o n c rows ll) (ob : Obj) : Mat F (w.alloc ob) T e o n c rows ll := h.of_heap fun k hk _ => Below.heap_alloc w ob k hk
theorem drew (h : Mat F w T e o n c rows ll) : Mat F w.drew T e o n c rows ll := h.of_heap fun _ _ _ => rfl

theorem tight (h : Mat F w T e o n c rows ll) : Mat (fun k => F k ∧ k < w.heap.size) w T e o n c rows ll :=
  ⟨h.out.tight, h.len, fun i r l h1 h2 => (h.row i r l h1 h2).tight, h.ne, h.nn⟩

theorem rowLt (h : Mat F w T e o n c rows ll) {i : Nat} {r : Rw} {a : Addr} (h1 : rows[i]? = some r) (ha : r.o = some a) : a.block < w.heap.size := by
  have hi : i < ll.length := by rw [← h.len]; exact (List.getElem?_eq_some_iff.1 h1).1
  exact (h.row i r ll[i] h1 (by simp [hi])).lt ha

/-- One row more, an empty one. -/
theorem push {w' : World} {g c' : Nat} (h : Mat F w T e o n c rows ll) (hS : Sl F w' T 1 (some ⟨g, 0, none⟩) (n + 1) c' (rows.map Rw.val ++ [.slice none 0 0])) (hk : Keep (Bl o) w w')
    (hg : o = some ⟨g, 0, none⟩ ∨ g = w.heap.size + 1) : Mat F w' T e (some ⟨g, 0, none⟩) (n + 1) c' (rows ++ [⟨none, 0, 0⟩]) (ll ++ [[]]) := by
  refine ⟨by simpa [Rw.val] using hS, by simp [h.len], fun i r l h1 h2 => ?_, fun i r a h1 ha => ?_, fun i j r s a b hij h1 h2 ha hb => ?_⟩
  · by_cases hi : i < rows.length
    · rw [List.getElem?_append_left hi] at h1
      rw [List.getElem?_append_left (by rw [← h.len]; exact hi)] at h2
      refine (h.row i r l h1 h2).of_block fun a ha => hk.block _ (h.rowLt h1 ha) (h.ne i r a h1 ha)
    · have hi' : i = rows.length := by
        have := (List.getElem?_eq_some_iff.1 h1).1
        simp at this; omega
      subst hi'
      simp at h1
      subst h1
      rw [h.len] at h2
      simp at h2
      subst h2
      exact Sl.nil F w' e 1
  · by_cases hi : i < rows.length
    · rw [List.getElem?_append_left hi] at h1
      rintro ⟨a', ha', hb⟩
      simp at ha'
      subst ha'
      rcases hg with hg | hg
      · exact h.ne i r a h1 ha ⟨_, hg, hb⟩
      · have := h.rowLt h1 ha
        simp at hb; omega
    · have hi' : i = rows.length := by
        have := (List.getElem?_eq_some_iff.1 h1).1
        simp at this; omega
      subst hi'
      simp at h1
      subst h1
      cases ha
  · by_cases hi : i < rows.length
    · by_cases hj : j < rows.length
      · rw [List.getElem?_append_left hi] at h1
        rw [List.getElem?_append_left hj] at h2
        exact h.nn i j r s a b hij h1 h2 ha hb
      · have hj' : j = rows.length := by
          have := (List.getElem?_eq_some_iff.1 h2).1
          simp at this; omega
        subst hj'
        simp at h2
        subst h2
        cases hb
    · have hi' : i = rows.length := by
        have := (List.getElem?_eq_some_iff.1 h1).1
        simp at this; omega
      subst hi'
      simp at h1
      subst h1
      cases ha

/-- One number more in a row. -/
theorem setRow {w' : World} {go g c' i : Nat} {r : Rw} {l : List Nat} {x : Nat} (h : Mat F w T e (some ⟨go, 0, none⟩) n c rows ll) (hr : rows[i]? = some r) (hl : ll[i]? = some l)
    (hS : Sl F w' e 1 (some ⟨g, 0, none⟩) (r.n + 1) c' (ints l ++ [.int .i64 x])) (hk : Keep (Bl r.o) w w') (hg : r.o = some ⟨g, 0, none⟩ ∨ g = w.heap.size + 1) :
    Mat F (w'.setCell ⟨go, i, none⟩ (.slice (some ⟨g, 0, none⟩) (r.n + 1) c')) T e (some ⟨go, 0, none⟩) n c (rows.set i ⟨some ⟨g, 0, none⟩, r.n + 1, c'⟩) (ll.set i (l ++ [x])) := by
  have hin : i < rows.length := (List.getElem?_eq_some_iff.1 hr).1
  have hgo : go < w.heap.size := h.out.lt rfl
  have hn : i < n := by have := h.out.len; simp at this; omega
  have hggo : g ≠ go := by
    rcases hg with hg | hg
    · intro e1; exact h.ne i r _ hr hg ⟨_, rfl, e1.symm⟩
    · omega
  have hout' : Sl F w' T 1 (some ⟨go, 0, none⟩) n c (rows.map Rw.val) := h.out.of_block fun a ha => hk.block _ (h.out.lt ha) (fun hb => by
    obtain ⟨a', ha', hb'⟩ := hb
    simp at ha; subst ha
    exact h.ne i r a' hr ha' ⟨_, rfl, by simpa using hb'.symm⟩)
  refine ⟨?_, by simp [h.len], fun j s m h1 h2 => ?_, fun j s a h1 ha => ?_, fun j k s t a b hjk h1 h2 ha hb => ?_⟩
  · rw [List.map_set]
    exact hout'.set rfl hn _
  · by_cases hij : i = j
    · subst hij
      simp [hin] at h1
      rw [List.getElem?_set_self (by rw [← h.len]; exact hin)] at h2
      simp at h2
      subst h1; subst h2
      rw [ints_append]
      refine (Sl.set_ne hS (p := ⟨go, i, none⟩) (fun a ha => ?_) _)
      simp at ha; subst ha; exact hggo
    · rw [List.getElem?_set_ne hij] at h1 h2
      have h3 := h.row j s m h1 h2
      have h4 : Sl F w' e 1 s.o s.n s.c (ints m) := h3.of_block fun a ha => hk.block _ (h3.lt ha) (fun hb => by
        obtain ⟨a', ha', hb'⟩ := hb
        exact h.nn i j r s a' a hij hr h1 ha' ha hb')
      exact h4.set_ne (p := ⟨go, i, none⟩) (fun a ha e1 => h.ne j s a h1 ha ⟨_, rfl, e1.symm⟩) _
  · by_cases hij : i = j
    · subst hij
      simp [hin] at h1
      subst h1
      simp at ha; subst ha
      rintro ⟨a', ha', hb⟩
      simp at ha'; subst ha'
      exact hggo hb.symm
    · rw [List.getElem?_set_ne hij] at h1
      exact h.ne j s a h1 ha
  · by_cases hij : i = j
    · subst hij
      rw [List.getElem?_set_ne hjk] at h2
      simp [hin] at h1
      subst h1
      simp at ha; subst ha
      rcases hg with hg | hg
      · exact h.nn i k r t _ b hjk hr h2 hg hb
      · have := h.rowLt h2 hb
        show g ≠ b.block
        omega
    · rw [List.getElem?_set_ne hij] at h1
      by_cases hik : i = k
      · subst hik
        simp [hin] at h2
        subst h2
        simp at hb; subst hb
        rcases hg with hg | hg
        · exact h.nn j i s r a _ hjk h1 hr ha hg
        · have := h.rowLt h1 ha
          show a.block ≠ g
          omega
      · rw [List.getElem?_set_ne hik] at h2
        exact h.nn j k s t a b hjk h1 h2 ha hb
end Mat

end Go.Proofs.Ytkpoobnldgfapaa

/- sets: All. -/
namespace Go.Proofs.Ytkpoobnldgfapaa
open Go.RowKit Pl

theorem elem_int : ElemT Try.prog 3 (.int .i64 0) 1 8 := by unfold ElemT; kernel_rfl
theorem elem_ints : ElemT Try.prog 37 (.slice none 0 0) 1 24 := by unfold ElemT; kernel_rfl
theorem zero_int (w : World) : (zeroValue 3).run Try.prog w = .ok (.int .i64 0) w := by kernel_rfl

def AllPost (F : Nat → Prop) (w : World) (b n : Nat) (L : Nat → Nat) (e : Ending) (w' : World) : Prop :=
  ∃ (o : Option Addr) (m c : Nat) (rows : List Rw), e = .returned (.slice o m c) ∧ Mat (Iv w.heap.size w'.heap.size) w' 37 3 o m c rows (parts n L) ∧ Sets F w' b n L ∧ Keep F w w'

theorem SetsMem.tight {F : Nat → Prop} {w : World} {b n : Nat} {up size low : Nat → Nat} {many : Nat} {ou os ol : Option Addr} {cu cs cl : Nat} (h : SetsMem F w b n up size low many ou os ol cu cs cl) :
    SetsMem (fun k => F k ∧ k < w.heap.size) w b n up size low many ou os ol cu cs cl :=
  ⟨h.head, ⟨h.hb, h.head.lt⟩, h.u.tight, h.s.tight, h.l.tight, h.du, h.ds, h.dl, h.dus, h.dul, h.dsl⟩

theorem SetsMem.mono {F G : Nat → Prop} {w : World} {b n : Nat} {up size low : Nat → Nat} {many : Nat} {ou os ol : Option Addr} {cu cs cl : Nat} (h : SetsMem F w b n up size low many ou os ol cu cs cl) (hG : ∀ k, F k → G k) :
    SetsMem G w b n up size low many ou os ol cu cs cl :=
  ⟨h.head, hG _ h.hb, h.u.mono hG, h.s.mono hG, h.l.mono hG, h.du, h.ds, h.dl, h.dus, h.dul, h.dsl⟩

theorem parts_len_le (n : Nat) (L : Nat → Nat) : (parts n L).length ≤ n := by rw [parts_length]; exact cnt_le _ _

/-- The relation of All's loop. -/
def AllRel (F : Nat → Prop) (w : World) (b n : Nat) (up size low : Nat → Nat) (many : Nat) (ou os ol : Option Addr) (cu cs cl : Nat) (L rt : Nat → Nat) (k : Nat) (o : Option Addr) (m c : Nat) (rows : List Rw) (mp : List (Nat × Value)) (up' : Nat → Nat) (wr : World) : Prop :=
  SetsMem F wr b n up' size low many ou os ol cu cs cl ∧ SetsInv n up' size low many L ∧ SameRoots n up up' ∧ Mat (fun j => w.heap.size < j) wr 37 3 o m c rows (parts k L) ∧ MapAt encN DN wr w.heap.size mp ∧
    (∀ x, x < n → mget mp (rt x) = if L x < k then some (.int .i64 (cnt (L x) (isRoot L) : Nat)) else none) ∧ Keep F w wr

theorem parts_get {k : Nat} {L : Nat → Nat} {r : Nat} (hr : r < k) (h : L r = r) : ∃ l, (parts k L)[cnt r (isRoot L)]? = some l := by
  have h1 : isRoot L r = true := by simp [isRoot, h]
  have := cnt_lt hr h1
  rw [← parts_length k] at this
  exact ⟨_, List.getElem?_eq_getElem this⟩

theorem parts_part_le {k : Nat} {L : Nat → Nat} {i : Nat} {l : List Nat} (h : (parts k L)[i]? = some l) : l.length ≤ k := by
  have := List.mem_of_getElem? h
  unfold parts at this
  obtain ⟨r, _, rfl⟩ := List.mem_map.1 this
  exact Nat.le_trans (List.length_filter_le _ _) (by simp)

/-- The row that a number goes to. -/
theorem mat_at {F : Nat → Prop} {w : World} {T e : TypeId} {o : Option Addr} {n c : Nat} {rows : List Rw} {ll : List (List Nat)} (h : Mat F w T e o n c rows ll) {i : Nat} {l : List Nat} (hl : ll[i]? = some l) :
    ∃ go r, o = some ⟨go, 0, none⟩ ∧ rows[i]? = some r ∧ i < n ∧ n ≤ c ∧ w.cell? ⟨go, i, none⟩ = some (.slice r.o r.n r.c) ∧ w.frozen? ⟨go, i, none⟩ = false ∧ Sl F w e 1 r.o r.n r.c (ints l) ∧ r.n = l.length ∧ ¬ Bl r.o go := by
  have hi : i < ll.length := (List.getElem?_eq_some_iff.1 hl).1
  have hn := h.n_eq
  have hr : rows[i]? = some (rows[i]'(by rw [h.len]; exact hi)) := by simp
  obtain ⟨go, h1, h2, h3, h4⟩ := h.out.pos (by omega)
  refine ⟨go, _, h1, hr, by omega, h3, h4.cell (by simp [hr, Rw.val]), h4.frozen _ _, h.row _ _ _ hr hl, ?_, ?_⟩
  · have := (h.row _ _ _ hr hl).len
    simp at this; omega
  · rintro ⟨a, ha, hb⟩
    exact h.ne _ _ a hr ha ⟨_, h1, hb.symm⟩

theorem Pl.Canon.less {n k : Nat} {L : Nat → Nat} (C : Canon n L) (h : k ≤ n) : Canon k L := ⟨fun x hx => C.le x (by omega), fun x hx => C.idem x (by omega)⟩

/-- A number that is no root goes to its row. -/
theorem all_other {F : Nat → Prop} {w : World} {b n : Nat} {up size low : Nat → Nat} {many : Nat} {ou os ol : Option Addr} {cu cs cl : Nat} {L rt : Nat → Nat} {k go m c : Nat} {rows : List Rw} {mp : List (Nat × Value)} {up' : Nat → Nat} {wr : World}
    (hF : ∀ j, F j → j < w.heap.size) (h : AllRel F w b n up size low many ou os ol cu cs cl L rt k (some ⟨go, 0, none⟩) m c rows mp up' wr) (hk : k < n) (hroot : L k ≠ k) {r : Rw} (hr : rows[cnt (L k) (isRoot L)]? = some r)
    {l : List Nat} (hl : (parts k L)[cnt (L k) (isRoot L)]? = some l) {g c' : Nat} {w4 : World} (hS : Sl (fun j => w.heap.size < j ∨ j = wr.heap.size + 1) w4 3 1 (some ⟨g, 0, none⟩) (r.n + 1) c' (ints l ++ [.int .i64 k]))
    (hk4 : Keep (Bl r.o) wr w4) (hg : r.o = some ⟨g, 0, none⟩ ∨ g = wr.heap.size + 1) :
    AllRel F w b n up size low many ou os ol cu cs cl L rt (k + 1) (some ⟨go, 0, none⟩) m c (rows.set (cnt (L k) (isRoot L)) ⟨some ⟨g, 0, none⟩, r.n + 1, c'⟩) mp up'
      (w4.setCell ⟨go, cnt (L k) (isRoot L), none⟩ (.slice (some ⟨g, 0, none⟩) (r.n + 1) c')) := by
  obtain ⟨hM, hI, hSR, hMat, hMap, hget, hK⟩ := h
  have hsz : w.heap.size < wr.heap.size := hMap.lt
  have hgo : w.heap.size < go := hMat.out.foot _ rfl
  have hbl : ∀ j, Bl r.o j → w.heap.size < j := by
    rintro j ⟨a, ha, rfl⟩
    have := (hMat.row _ _ _ hr hl).foot a ha
    exact this
  have hM4 : SetsMem F w4 b n up' size low many ou os ol cu cs cl := hM.keep hk4 (fun j hj hb => by have := hF j hj; have := hbl j hb; omega)
  have hM5 : SetsMem F (w4.setCell ⟨go, cnt (L k) (isRoot L), none⟩ (.slice (some ⟨g, 0, none⟩) (r.n + 1) c')) b n up' size low many ou os ol cu cs cl :=
    hM4.of_heap (fun j _ hj => Below.heap_setCell w4 _ _ j (fun e => by have := hF j hj; simp at e; omega))
  refine ⟨hM5, hI, hSR, ?_, ?_, ?_, ?_⟩
  · rw [parts_succ_other (hI.canon.less (by omega)) hroot]
    have e : (parts k L).modify (cnt (L k) (isRoot L)) (fun p => p ++ [k]) = (parts k L).set (cnt (L k) (isRoot L)) (l ++ [k]) := by
      rw [List.modify_eq_set]; rw [hl]; rfl
    rw [e]
    exact hMat.setRow hr hl (hS.mono (fun j hj => by rcases hj with h | h <;> omega)) hk4 hg
  · refine (hMap.keep hk4 (fun hb => by have := hbl _ hb; omega)).setCell _ ?_ _
    show go ≠ w.heap.size
    omega
  · intro x hx
    rw [hget x hx]
    by_cases h1 : L x < k
    · rw [if_pos h1, if_pos (by omega)]
    · have : L x ≠ k := fun e => hroot (by rw [← e]; exact hI.canon.idem x hx)
      rw [if_neg h1, if_neg (by omega)]
  · refine (hK.trans' hk4 (H := fun j => F j) (fun _ _ h => h) (fun j hj hb => ?_)).setCell (.inr (by show w.heap.size ≤ go; omega)) _
    have := hbl j hb; omega

theorem mat_row_bl {F : Nat → Prop} {w : World} {T e : TypeId} {o : Option Addr} {n c : Nat} {rows : List Rw} {ll : List (List Nat)} (h : Mat F w T e o n c rows ll) : ∀ j, Bl o j → F j := by
  rintro j ⟨a, ha, rfl⟩
  exact h.out.foot a ha

/-- A number that is a root has a new row. -/
theorem all_root {F : Nat → Prop} {w : World} {b n : Nat} {up size low : Nat → Nat} {many : Nat} {ou os ol : Option Addr} {cu cs cl : Nat} {L rt : Nat → Nat} {k m c : Nat} {o : Option Addr} {rows : List Rw} {mp : List (Nat × Value)} {up' : Nat → Nat} {wr w2 w3 w4 : World}
    (hF : ∀ j, F j → j < w.heap.size) (h : AllRel F w b n up size low many ou os ol cu cs cl L rt k o m c rows mp up' wr) (hk : k < n) (hroot : L k = k)
    (hrt : ∀ x y, x < n → y < n → (rt x = rt y ↔ L x = L y))
    (hm2 : MapAt encN DN w2 w.heap.size (mset mp (rt k) (.int .i64 m))) (hk2 : Keep (fun i => i = w.heap.size) wr w2)
    {go c1 : Nat} (hS3 : Sl (fun j => w.heap.size < j ∨ j = w2.heap.size + 1) w3 37 1 (some ⟨go, 0, none⟩) (m + 1) c1 (rows.map Rw.val ++ [.slice none 0 0])) (hk3 : Keep (Bl o) w2 w3) (hg3 : o = some ⟨go, 0, none⟩ ∨ go = w2.heap.size + 1)
    {g c' : Nat} (hS4 : Sl (fun j => w.heap.size < j ∨ j = w3.heap.size + 1) w4 3 1 (some ⟨g, 0, none⟩) 1 c' [.int .i64 k]) (hk4 : Keep Nb w3 w4) (hg4 : g = w3.heap.size + 1) :
    AllRel F w b n up size low many ou os ol cu cs cl L rt (k + 1) (some ⟨go, 0, none⟩) (m + 1) c1 ((rows ++ [(⟨none, 0, 0⟩ : Rw)]).set m ⟨some ⟨g, 0, none⟩, 1, c'⟩) (mset mp (rt k) (.int .i64 m)) up'
      (w4.setCell ⟨go, m, none⟩ (.slice (some ⟨g, 0, none⟩) 1 c')) := by
  obtain ⟨hM, hI, hSR, hMat, hMap, hget, hK⟩ := h
  have hsz : w.heap.size < wr.heap.size := hMap.lt
  have hsz2 : w.heap.size < w2.heap.size := hm2.lt
  have hn : m = (parts k L).length := hMat.n_eq
  have hbl : ∀ j, Bl o j → w.heap.size < j := mat_row_bl hMat
  have hsz3 := hk3.size
  have hMat2 : Mat (fun j => w.heap.size < j) w2 37 3 o m c rows (parts k L) := hMat.keep hk2 (fun j hj e => by omega)
  have hMat3 := Mat.push hMat2 (hS3.mono (G := fun j => w.heap.size < j) (fun j hj => by rcases hj with h | h <;> omega)) hk3 hg3
  have hMat4 := Mat.setRow (x := k) (l := []) (r := ⟨none, 0, 0⟩) (i := m) hMat3 (by rw [hn, ← hMat.len]; simp) (by rw [hn]; simp) (hS4.mono (G := fun j => w.heap.size < j) (fun j hj => by rcases hj with h | h <;> omega)) (hk4.of_nb) (.inr hg4)
  have hgo : w.heap.size < go := hMat3.out.foot _ rfl
  have hM2 : SetsMem F w2 b n up' size low many ou os ol cu cs cl := hM.keep hk2 (fun j hj e => by have := hF j hj; omega)
  have hM3 : SetsMem F w3 b n up' size low many ou os ol cu cs cl := hM2.keep hk3 (fun j hj e => by have := hF j hj; have := hbl j e; omega)
  have hM4 : SetsMem F w4 b n up' size low many ou os ol cu cs cl := hM3.keep hk4 (fun _ _ e => e)
  have hM5 : SetsMem F (w4.setCell ⟨go, m, none⟩ (.slice (some ⟨g, 0, none⟩) 1 c')) b n up' size low many ou os ol cu cs cl :=
    hM4.of_heap (fun j _ hj => Below.heap_setCell w4 _ _ j (fun e => by have := hF j hj; simp at e; omega))
  refine ⟨hM5, hI, hSR, ?_, ?_, ?_, ?_⟩
  · rw [parts_succ_root (hI.canon.less (by omega)) hroot]
    have e : (parts k L ++ [[]]).set m ([] ++ [k]) = parts k L ++ [[k]] := by rw [hn]; simp
    rw [← e]
    exact hMat4
  · refine ((hm2.keep hk3 (fun hb => by have := hbl _ hb; omega)).keep hk4 (fun e => e)).setCell _ ?_ _
    show go ≠ w.heap.size
    omega
  · intro x hx
    rw [mget_mset]
    by_cases h1 : rt x = rt k
    · have h2 : L x = k := by rw [(hrt x k hx hk).1 h1, hroot]
      rw [if_pos h1, if_pos (by omega), h2, hn, parts_length]
    · have h2 : L x ≠ k := fun e => h1 ((hrt x k hx hk).2 (by rw [e, hroot]))
      rw [if_neg h1, hget x hx]
      by_cases h3 : L x < k
      · rw [if_pos h3, if_pos (by omega)]
      · rw [if_neg h3, if_neg (by omega)]
  · have k2 : Keep F w w2 := hK.trans' hk2 (fun _ _ h => h) (fun j hj e => by omega)
    have k3 : Keep F w w3 := k2.trans' hk3 (fun _ _ h => h) (fun j hj e => by have := hbl j e; omega)
    exact (k3.trans hk4.of_nb).setCell (.inr (by show w.heap.size ≤ go; omega)) _

/-- Of each member its root: they do not turn. -/
theorem roots_exist {n : Nat} {up size low : Nat → Nat} {many : Nat} {L : Nat → Nat} (I : SetsInv n up size low many L) :
    ∃ rt : Nat → Nat, (∀ x, x < n → rt x < n ∧ ∃ k, Root up x (rt x) k) ∧ ∀ x y, x < n → y < n → (rt x = rt y ↔ L x = L y) := by
  have h : ∀ x, ∃ r, x < n → r < n ∧ ∃ k, Root up x r k := fun x => by
    by_cases hx : x < n
    · obtain ⟨r, k, h1, h2⟩ := I.forest.root hx
      exact ⟨r, fun _ => ⟨h1, k, h2⟩⟩
    · exact ⟨0, fun h => absurd h hx⟩
  refine ⟨fun x => Classical.choose (h x), fun x hx => Classical.choose_spec (h x) hx, fun x y hx hy => ?_⟩
  obtain ⟨_, k1, h1⟩ := Classical.choose_spec (h x) hx
  obtain ⟨_, k2, h2⟩ := Classical.choose_spec (h y) hy
  constructor
  · intro e
    rw [← I.lab _ _ _ hx h1, ← I.lab _ _ _ hy h2]
    show low (Classical.choose (h x)) = low (Classical.choose (h y))
    have e' : Classical.choose (h x) = Classical.choose (h y) := e
    rw [e']
  · exact fun e => I.sep _ _ _ _ _ _ hx hy h1 h2 e

theorem all_called {F : Nat → Prop} {w : World} {b n : Nat} {up size low : Nat → Nat} {many : Nat} {ou os ol : Option Addr} {cu cs cl : Nat} {L rt : Nat → Nat} {k m c : Nat} {o : Option Addr} {rows : List Rw} {mp : List (Nat × Value)} {up' up1 : Nat → Nat} {wr w1 : World} {x r j : Nat}
    (hF : ∀ j, F j → j < w.heap.size) (hrt : ∀ x, x < n → rt x < n ∧ ∃ k, Root up x (rt x) k) (h : AllRel F w b n up size low many ou os ol cu cs cl L rt k o m c rows mp up' wr) (hx : x < n)
    (hR : Root up' x r j) (hM : SetsMem F w1 b n up1 size low many ou os ol cu cs cl) (hI1 : SetsInv n up1 size low many L) (hS : SameRoots n up' up1) (hk : Keep F wr w1) :
    r = rt x ∧ AllRel F w b n up size low many ou os ol cu cs cl L rt k o m c rows mp up1 w1 := by
  obtain ⟨_, hI, hSR, hMat, hMap, hget, hK⟩ := h
  obtain ⟨_, k0, h0⟩ := hrt x hx
  obtain ⟨k1, h1⟩ := hSR _ _ _ hx h0
  refine ⟨(h1.unique hR).1, hM, hI1, hSR.trans hS, hMat.keep hk (fun j hj e => by have := hF j e; omega), hMap.keep hk (fun e => by have := hF _ e; omega), hget, hK.trans hk⟩

theorem all_fin {F F' : Nat → Prop} {w : World} {b n : Nat} {up size low : Nat → Nat} {many : Nat} {ou os ol : Option Addr} {cu cs cl : Nat} {L rt : Nat → Nat} {k m c : Nat} {o : Option Addr} {rows : List Rw} {mp : List (Nat × Value)} {up' : Nat → Nat} {wr : World}
    (hF2 : ∀ j, F' j → F j) (hn : n ≤ 40) (h : AllRel F' w b n up size low many ou os ol cu cs cl L rt k o m c rows mp up' wr) (hk : k = n) : AllPost F w b n L (.returned (.slice o m c)) wr := by
  subst hk
  obtain ⟨hM, hI, hSR, hMat, hMap, hget, hK⟩ := h
  exact ⟨o, m, c, rows, rfl, hMat.tight.mono (fun j hj => ⟨by omega, hj.2⟩), ⟨_, _, _, _, _, _, _, _, _, _, hM.mono hF2, hI, hn⟩, hK.mono (fun j _ hj => hF2 j hj)⟩

theorem nat40 {x : Nat} (h : x < 40) : DN x := by unfold DN; omega

set_option maxHeartbeats 1000000 in
set_option maxRecDepth 20000 in
theorem all_any (F : Nat → Prop) (w : World) (b n : Nat) (L : Nat → Nat) (hS : Sets F w b n L) :
    Calls Try.prog 15 #[.pointer (some ⟨b, 0, none⟩)] w (AllPost F w b n L) := by
  obtain ⟨up, size, low, many, ou, os, ol, cu, cs, cl, hM0, hI, hn⟩ := hS
  have hM := hM0.tight
  obtain ⟨F', hF'⟩ : ∃ F' : Nat → Prop, F' = fun k => F k ∧ k < w.heap.size := ⟨_, rfl⟩
  rw [← hF'] at hM
  have hFF : ∀ j, F' j → j < w.heap.size := fun j hj => by rw [hF'] at hj; exact hj.2
  have hFF2 : ∀ j, F' j → F j := fun j hj => by rw [hF'] at hj; exact hj.1
  clear hF'
  obtain ⟨rt, hrt1, hrt2⟩ := roots_exist hI
  have hc0 := hM.head.cell (i := 0) rfl
  have hb := hM.head.lt
  have hc0' : (w.alloc (.map #[] 0)).cell? ⟨b, 0, none⟩ = some (.slice ou n cu) := by rw [World.cell?_alloc_past _ _ _ hb]; exact hc0
  have hmm := @run_makeMap Try.prog
  have H0 : AllRel F' w b n up size low many ou os ol cu cs cl L rt 0 none 0 0 [] [] up (w.alloc (.map #[] 0)) :=
    ⟨hM.alloc _, hI, SameRoots.refl n up, Mat.nil _ _ _ _, MapAt.made encN DN w, fun x _ => by simp [mget_nil], (Keep.refl F' w).alloc _⟩
  have HH := Lib.hid H0
  have HR1 := Lib.hid hrt1
  have HR2 := Lib.hid hrt2
  have HF1 := Lib.hid hFF
  have HF2 := Lib.hid hFF2
  clear H0 hrt1 hrt2 hFF hFF2 hc0
  go_enter Try.func15, Try.ntmps15
  go_wp2_with fail
  go_loopw [4, 15] (fun out i wr => ∃ (k : Nat) (o : Option Addr) (m c : Nat) (rows : List Rw) (mp : List (Nat × Value)) (up' : Nat → Nat), k ≤ n ∧ i = .int .i64 k ∧ out = .slice o m c ∧ AllRel F' w b n up size low many ou os ol cu cs cl L rt k o m c rows mp up' wr)
    (fun _ i _ => n - (intOf i).toNat)
  case atStart => exact ⟨0, none, 0, 0, [], [], up, Nat.zero_le _, rfl, rfl, HH.out⟩
  case round =>
    obtain ⟨k, o, m, c, rows, mp, up', hk, rfl, rfl, hrel⟩ := hrel
    have HREL := Lib.hid hrel
    clear hrel hc0' hmm
    by_cases hlt : k < n
    · have hMr := HREL.out.1
      have hIr := HREL.out.2.1
      have hdn := Lib.hid (nat40 (show rt k < 40 from Nat.lt_of_lt_of_le (HR1.out k hlt).1 hn))
      have hcr := hMr.head.cell (i := 0) rfl
      go_wp2_with fail
      refine (root_any F' wr b n up' size low many ou os ol cu cs cl L k hlt hn hMr hIr).mono ?_
      rintro e w1 ⟨r, j, up1, rfl, hr, hR, hM1, hI1, hS1, hk1⟩
      obtain ⟨er, hrel1⟩ := all_called HF1.out HR1.out HREL.out hlt hR hM1 hI1 hS1 hk1
      subst er
      clear hR hMr hIr hM1 hI1 hS1 hk1 hcr HREL
      have hMat1 := hrel1.2.2.2.1
      have hMap1 := hrel1.2.2.2.2.1
      have hget1 := hrel1.2.2.2.2.2.1 k hlt
      have HREL := Lib.hid hrel1
      have hlook := hMap1.look (encN_enc Try.underlying3) Try.underlying80 (zero_int w1) hdn.out true
      rw [hget1] at hlook
      clear hget1 hrel1
      by_cases hroot : L k = k
      · rw [if_neg (show ¬ L k < k by omega)] at hlook
        simp only [if_true, Option.getD_none, Option.isSome_none, encN] at hlook
        obtain ⟨w2, hrun2, hm2, hk2⟩ := hMap1.store (encN_enc Try.underlying3) Try.underlying80 hdn.out (.int .i64 m)
        have hsz1 := hMap1.lt
        have hMat2 : Mat (fun j => w.heap.size < j) w2 37 3 o m c rows (parts k L) := hMat1.keep hk2 (fun j hj e => by omega)
        have hmk := hMat1.n_eq
        have hmk2 := parts_len_le k L
        obtain ⟨go, c1, w3, happ3, hS3, hk3, hg3⟩ := run_app1 (P := Try.prog) 35 35 37 Try.underlying35 elem_ints rfl hMat2.out (.slice none 0 0) rfl (by omega) (by omega)
        obtain ⟨go', e3, hFg, hmc, hrow3⟩ := hS3.pos (by omega)
        obtain rfl : go = go' := by simpa using e3
        have hcell : w3.cell? ⟨go, m, none⟩ = some (.slice none 0 0) := hrow3.cell (by
          have : m = (rows.map Rw.val).length := by rw [List.length_map, hMat1.len]; exact hmk
          rw [this]; simp)
        have hfr := hrow3.frozen m none
        obtain ⟨g, c', w4, happ4, hS4, hk4, hg4⟩ := run_app_nil1 (P := Try.prog) (w := w3) (fun j => w.heap.size < j) 37 37 3 Try.underlying37 elem_int rfl (.int .i64 k) rfl (by omega)
        have hcell4 := hk4.cell hcell (fun e => e)
        have hfr4 := (hk4.frozen (p := ⟨go, m, none⟩) hrow3.lt (fun e => e)).trans hfr
        have hnext := Lib.hid (all_root HF1.out HREL.out hlt hroot HR2.out hm2 hk2 hS3 hk3 hg3 hS4 hk4 hg4)
        have hm40 : m < 1000 := by omega
        have H2 := Lib.hid hrun2
        have H3 := Lib.hid happ3
        have H4 := Lib.hid happ4
        clear hrun2 happ3 happ4 hMat1 hMap1 hroot hS4 hk4 hg4 hS3 hk3 hg3 hm2 hk2 hMat2 hmk hmk2 e3 hrow3 hsz1
        go_wp2_with (first | (at_mapUpdate; refine wpList_mapset rfl _ _ _ _ rfl rfl rfl rfl H2.out ?_) | (at_builtin; refine wpList_app rfl _ _ _ rfl rfl rfl H3.out ?_) | (at_builtin; refine wpList_app rfl _ _ _ rfl rfl rfl H4.out ?_))
        go_roundw
        case rel =>
          exact ⟨k + 1, _, _, _, _, _, up1, by omega, by go_num, rfl, hnext.out⟩
        case measure => simp [intOf]; omega
      · have hle : L k < k := by have := HREL.out.2.1.canon.le k hlt; omega
        rw [if_pos hle] at hlook
        simp only [if_true, Option.getD_some, Option.isSome_some, encN] at hlook
        obtain ⟨l, hl⟩ := parts_get hle (HREL.out.2.1.canon.idem k hlt)
        obtain ⟨go, r0, rfl, hrow, him, hmc, hcell, hfr, hSl, hrn, hnb⟩ := mat_at hMat1 hl
        have hll := parts_part_le hl
        obtain ⟨g, c', w4, happ, hS4, hk4, hg4⟩ := run_app1 (P := Try.prog) 37 37 3 Try.underlying37 elem_int rfl hSl (.int .i64 k) rfl (by omega) (by omega)
        have hcell4 := hk4.cell hcell hnb
        have hfr4 := (hk4.frozen (p := ⟨go, cnt (L k) (isRoot L), none⟩) (World.block_lt_of_cell? w1 _ hcell) hnb).trans hfr
        have hnext := Lib.hid (all_other HF1.out HREL.out hlt hroot hrow hl hS4 hk4 hg4)
        have hg5 := Lib.hid hg4
        clear hMat1 hMap1 hle hroot hl hrow hS4 hk4 hnb hSl hg4 hrn
        generalize cnt (L k) (isRoot L) = idx at *
        have Happ := Lib.hid happ
        clear happ
        go_wp2_with (at_builtin; refine wpList_app rfl _ _ _ rfl rfl rfl Happ.out ?_)
        go_roundw
        case rel =>
          exact ⟨k + 1, _, m, c, _, mp, up1, by omega, by go_num, rfl, hnext.out⟩
        case measure => simp [intOf]; omega
    · have hfin := Lib.hid (all_fin HF2.out hn HREL.out (show k = n by omega))
      have hcr := HREL.out.1.head.cell (i := 0) rfl
      go_wp2_with fail
      go_ret
      exact hfin.out

end Go.Proofs.Ytkpoobnldgfapaa
