/- Maps: a block that holds a map, as a list of keys and values in the order in which they came. Nothing of one program stands here. -/
import Derived.Test.YtkpoobnldgfapaaMem
import Derived.Maps.Keyed
import Derived.Maps.OwnSet
import Derived.Maps.OwnOps
namespace Go.Proofs.Ytkpoobnldgfapaa
open Go.RowKit Go.Maps

/-- Keys of a Lean type, as values. -/
structure Enc {α : Type} (P : Program) (k : TypeId) (enc : α → Value) (D : α → Prop) : Prop where
  keyed : Keyed P k
  ok : ∀ {a : α}, D a → ∃ l, keyOf P k (enc a) = some l
  inj : ∀ {a b : α}, enc a = enc b → a = b

section plain
variable {α : Type} [DecidableEq α]

def mget (m : List (α × Value)) (a : α) : Option Value := (m.find? (fun p => decide (p.1 = a))).map (·.2)
def mdel (m : List (α × Value)) (a : α) : List (α × Value) := m.filter (fun p => decide (p.1 ≠ a))
def mset (m : List (α × Value)) (a : α) (v : Value) : List (α × Value) :=
  if m.any (fun p => decide (p.1 = a)) then m.map (fun p => if p.1 = a then (a, v) else p) else m ++ [(a, v)]

theorem mget_nil (a : α) : mget [] a = none := rfl

theorem mget_cons (p : α × Value) (m : List (α × Value)) (a : α) : mget (p :: m) a = if p.1 = a then some p.2 else mget m a := by
  unfold mget; rw [List.find?_cons]; by_cases h : p.1 = a <;> simp [h]

theorem mget_append (m m' : List (α × Value)) (a : α) : mget (m ++ m') a = (mget m a).or (mget m' a) := by
  induction m with
  | nil => simp [mget_nil]
  | cons p m ih => rw [List.cons_append, mget_cons, mget_cons, ih]; split <;> simp

theorem mget_none {m : List (α × Value)} {a : α} : mget m a = none ↔ ∀ p ∈ m, p.1 ≠ a := by
  unfold mget; simp [List.find?_eq_none]

theorem mget_map_set (m : List (α × Value)) (a b : α) (v : Value) : mget (m.map (fun p => if p.1 = a then (a, v) else p)) b = if b = a then (if m.any (fun p => decide (p.1 = a)) then some v else none) else mget m b := by
  induction m with
  | nil => simp [mget_nil]
  | cons p m ih =>
    rw [List.map_cons, mget_cons, mget_cons, ih]
    by_cases hp : p.1 = a
    · subst hp
      by_cases hb : b = p.1
      · simp [hb]
      · have : ¬ p.1 = b := fun e => hb e.symm
        simp [hb, this]
    · by_cases hb : b = a
      · subst hb
        have hp' : decide (p.1 = b) = false := by simp [hp]
        rw [List.any_cons, hp', if_neg hp, if_neg hp, if_pos rfl, if_pos rfl, Bool.false_or]
      · simp [hp, hb]

theorem mget_mset (m : List (α × Value)) (a b : α) (v : Value) : mget (mset m a v) b = if b = a then some v else mget m b := by
  unfold mset
  by_cases h : m.any (fun p => decide (p.1 = a)) = true
  · rw [if_pos h, mget_map_set, h]; simp
  · rw [if_neg h, mget_append]
    have hn : mget m a = none := mget_none.2 (fun p hp e => h (List.any_eq_true.2 ⟨p, hp, by simpa using e⟩))
    by_cases hb : b = a
    · subst hb; simp [hn, mget_cons]
    · have : ¬ a = b := fun e => hb e.symm
      simp [hb, mget_cons, this, mget_nil]

theorem mget_mdel (m : List (α × Value)) (a b : α) : mget (mdel m a) b = if b = a then none else mget m b := by
  induction m with
  | nil => simp [mdel, mget_nil]
  | cons p m ih =>
    unfold mdel at ih ⊢
    rw [List.filter_cons]
    by_cases hp : p.1 = a
    · subst hp
      simp only [ne_eq, not_true_eq_false, decide_false, Bool.false_eq_true, if_false, ih, mget_cons]
      by_cases hb : b = p.1
      · simp [hb]
      · have : ¬ p.1 = b := fun e => hb e.symm
        simp [hb, this]
    · simp only [ne_eq, hp, not_false_eq_true, decide_true, if_true, mget_cons, ih]
      by_cases hb : b = a
      · subst hb; simp [hp]
      · simp [hb]

theorem mget_isSome {m : List (α × Value)} {a : α} : (mget m a).isSome = m.any (fun p => decide (p.1 = a)) := by
  induction m with
  | nil => rfl
  | cons p m ih => rw [mget_cons, List.any_cons, ← ih]; by_cases h : p.1 = a <;> simp [h]

theorem mset_length (m : List (α × Value)) (a : α) (v : Value) : (mset m a v).length ≤ m.length + 1 := by
  unfold mset; split <;> simp

theorem mem_keys_iff {m : List (α × Value)} {a : α} : a ∈ m.map (·.1) ↔ (mget m a).isSome = true := by
  rw [mget_isSome]; simp
end plain

section mem
variable {α : Type}

/-- Block b holds a map of these keys and values. -/
def MapAt (enc : α → Value) (D : α → Prop) (w : World) (b : Nat) (m : List (α × Value)) : Prop :=
  ∃ es clock, w.heap[b]? = some (.map es clock) ∧ es.toList.map (fun e => (e.key, e.val)) = m.map (fun p => (enc p.1, p.2)) ∧ (∀ p ∈ m, D p.1) ∧ m.Pairwise (fun p q => p.1 ≠ q.1) ∧
    (es.toList.map (·.born)).Pairwise (· ≠ ·) ∧ ∀ e ∈ es.toList, e.born < clock

variable {enc : α → Value} {D : α → Prop} {w : World} {b : Nat} {m : List (α × Value)} {P : Program} {k : TypeId}

theorem MapAt.lt (h : MapAt enc D w b m) : b < w.heap.size := by
  obtain ⟨es, clock, hb, _⟩ := h
  exact (Array.getElem?_eq_some_iff.1 hb).1

theorem MapAt.of_heap {w' : World} (h : MapAt enc D w b m) (e : w'.heap[b]? = w.heap[b]?) : MapAt enc D w' b m := by
  obtain ⟨es, clock, hb, rest⟩ := h
  exact ⟨es, clock, e.trans hb, rest⟩

theorem MapAt.keep {F : Nat → Prop} {w' : World} (h : MapAt enc D w b m) (k : Keep F w w') (hn : ¬ F b) : MapAt enc D w' b m := h.of_heap (k.block b h.lt hn)
theorem MapAt.alloc (h : MapAt enc D w b m) (o : Obj) : MapAt enc D (w.alloc o) b m := h.of_heap (Below.heap_alloc w o b h.lt)
theorem MapAt.drew (h : MapAt enc D w b m) : MapAt enc D w.drew b m := h
theorem MapAt.drewN (h : MapAt enc D w b m) (n : Nat) : MapAt enc D (w.drewN n) b m := h
theorem MapAt.setCell (h : MapAt enc D w b m) (p : Addr) (hp : p.block ≠ b) (v : Value) : MapAt enc D (w.setCell p v) b m := h.of_heap (Below.heap_setCell w p v b (fun e => hp e.symm))

theorem MapAt.made (enc : α → Value) (D : α → Prop) (w : World) : MapAt enc D (w.alloc (.map #[] 0)) w.heap.size [] :=
  ⟨#[], 0, (MapKept.heap_alloc w _).1, by simp, by simp, List.Pairwise.nil, by simp, by simp⟩

theorem MapAt.dom (h : MapAt enc D w b m) : ∀ p ∈ m, D p.1 := by obtain ⟨_, _, _, _, h, _⟩ := h; exact h
theorem MapAt.nodup (h : MapAt enc D w b m) : m.Pairwise (fun p q => p.1 ≠ q.1) := by obtain ⟨_, _, _, _, _, h, _⟩ := h; exact h

/-- What becomes of the world: the block b alone. -/
theorem keep_setBlock {w : World} {b : Nat} {o o' : Obj} (hb : w.heap[b]? = some o) : Keep (fun i => i = b) w (ChangeMaps.setBlock w b o') :=
  ⟨rfl, rfl, rfl, by simp [ChangeMaps.setBlock], fun i _ hn => by simp only [ChangeMaps.setBlock, Array.getElem?_setIfInBounds]; rw [if_neg (fun e => hn e.symm)]⟩

theorem entries_find [DecidableEq α] (E : Enc P k enc D) {es : List MapEntry} (hm : es.map (fun e => (e.key, e.val)) = m.map (fun p => (enc p.1, p.2))) (hD : ∀ p ∈ m, D p.1) {a : α} (ha : D a) (w : World) :
    ((Instr.findKey k (enc a) es).run P w = .ok none w ∧ mget m a = none) ∨
      ∃ j v, (Instr.findKey k (enc a) es).run P w = .ok (some (j, v)) w ∧ m[j]? = some (a, v) ∧ ∃ e, es[j]? = some e ∧ e.key = enc a := by
  obtain ⟨l, hl⟩ := E.ok ha
  have hk : ∀ e ∈ es, ∃ l, keyOf P k e.key = some l := by
    intro e he
    have : (e.key, e.val) ∈ m.map (fun p => (enc p.1, p.2)) := hm ▸ List.mem_map.2 ⟨e, he, rfl⟩
    obtain ⟨p, hp, hpe⟩ := List.mem_map.1 this
    simp only [Prod.mk.injEq] at hpe
    rw [← hpe.1]; exact E.ok (hD p hp)
  rcases E.keyed.find w hl es hk with ⟨h1, h2⟩ | ⟨j, e, h1, h2, h3⟩
  · refine .inl ⟨h1, mget_none.2 fun p hp hpa => ?_⟩
    have : (enc p.1, p.2) ∈ es.map (fun e => (e.key, e.val)) := hm ▸ List.mem_map.2 ⟨p, hp, rfl⟩
    obtain ⟨e, he, hee⟩ := List.mem_map.1 this
    simp only [Prod.mk.injEq] at hee
    exact h2 e he (by rw [hee.1, hpa])
  · refine .inr ⟨j, e.val, h1, ?_, e, h2, h3⟩
    have : (es.map (fun e => (e.key, e.val)))[j]? = some (e.key, e.val) := by simp [h2]
    rw [hm] at this
    simp only [List.getElem?_map, Option.map_eq_some_iff] at this
    obtain ⟨p, hp, hpe⟩ := this
    simp only [Prod.mk.injEq] at hpe
    rw [hp]
    congr 1
    exact Prod.ext (E.inj (by rw [hpe.1, h3])) hpe.2

theorem mget_of_get [DecidableEq α] {m : List (α × Value)} (hn : m.Pairwise (fun p q => p.1 ≠ q.1)) {j : Nat} {a : α} {v : Value} (h : m[j]? = some (a, v)) : mget m a = some v := by
  induction m generalizing j with
  | nil => simp at h
  | cons p m ih =>
    rw [List.pairwise_cons] at hn
    rw [mget_cons]
    cases j with
    | zero => simp at h; simp [h]
    | succ j =>
      simp at h
      have := hn.1 _ (List.mem_of_getElem? h)
      rw [if_neg this]
      exact ih hn.2 h

theorem MapAt.look [DecidableEq α] (E : Enc P k enc D) {t e : TypeId} (ht : P.underlying t = some (.map k e)) {z : Value} (hz : (zeroValue e).run P w = .ok z w) (h : MapAt enc D w b m) {a : α} (ha : D a) (c : Bool) :
    (Instr.lookup t (.map (some b)) (enc a) c).run P w = .ok (if c then .tuple #[(mget m a).getD z, .bool (mget m a).isSome] else (mget m a).getD z) w := by
  obtain ⟨es, clock, hb, hm, hD, hn, _, _⟩ := h
  obtain ⟨l, hl⟩ := E.ok ha
  rcases entries_find E hm hD ha w with ⟨h1, h2⟩ | ⟨j, v, h1, h2, _⟩
  · rw [h2]
    simp [Instr.lookup, run_underlying ht, MapKept.run_getObj_map hb, E.keyed.check w _ hl, h1, hz, Result.andThen]
  · rw [mget_of_get hn h2]
    simp [Instr.lookup, run_underlying ht, MapKept.run_getObj_map hb, E.keyed.check w _ hl, h1, Result.andThen]

theorem map_modify_pairs {es : List MapEntry} {j : Nat} {key val : Value} {m : List (α × Value)} [DecidableEq α] {a : α} {v0 : Value} (hk : key = enc a)
    (hm : es.map (fun e => (e.key, e.val)) = m.map (fun p => (enc p.1, p.2))) (hn : m.Pairwise (fun p q => p.1 ≠ q.1)) (hj : m[j]? = some (a, v0)) :
    (es.modify j (fun e => { e with key := key, val := val })).map (fun e => (e.key, e.val)) = (m.map (fun p => if p.1 = a then (a, val) else p)).map (fun p => (enc p.1, p.2)) := by
  induction m generalizing es j with
  | nil => simp at hj
  | cons p m ih =>
    cases es with
    | nil => simp at hm
    | cons e es =>
      simp only [List.map_cons, List.cons.injEq] at hm
      rw [List.pairwise_cons] at hn
      cases j with
      | zero =>
        simp at hj
        subst hj
        simp only [List.modify_zero_cons, List.map_cons, if_true, hk]
        congr 1
        rw [hm.2, List.map_map]
        refine List.map_congr_left fun q hq => ?_
        have := hn.1 q hq
        simp only [Function.comp]
        rw [if_neg (fun e => this e.symm)]
      | succ j =>
        simp at hj
        have hne : ¬ p.1 = a := hn.1 _ (List.mem_of_getElem? hj)
        simp only [List.modify_succ_cons, List.map_cons, if_neg hne, hm.1]
        congr 1
        exact ih hm.2 hn.2 hj

theorem pairwise_mset [DecidableEq α] {m : List (α × Value)} (hn : m.Pairwise (fun p q => p.1 ≠ q.1)) (a : α) (v : Value) : (mset m a v).Pairwise (fun p q => p.1 ≠ q.1) := by
  unfold mset
  split
  · rw [List.pairwise_map]
    refine hn.imp fun {p q} h => ?_
    by_cases h1 : p.1 = a <;> by_cases h2 : q.1 = a <;> simp [h1, h2]
    · exact h (by rw [h1, h2])
    · exact fun e => h2 e.symm
    · exact h
  · rename_i hh
    rw [List.pairwise_append]
    refine ⟨hn, by simp, fun p hp q hq => ?_⟩
    simp at hq; subst hq
    exact fun e => hh (List.any_eq_true.2 ⟨p, hp, by simpa using e⟩)

theorem dom_mset [DecidableEq α] {m : List (α × Value)} (hD : ∀ p ∈ m, D p.1) {a : α} (ha : D a) (v : Value) : ∀ p ∈ mset m a v, D p.1 := by
  unfold mset
  split
  · intro p hp
    obtain ⟨q, hq, rfl⟩ := List.mem_map.1 hp
    split
    · exact ha
    · exact hD q hq
  · intro p hp
    rcases List.mem_append.1 hp with h | h
    · exact hD p h
    · simp at h; subst h; exact ha

theorem MapAt.store [DecidableEq α] (E : Enc P k enc D) {t e : TypeId} (ht : P.underlying t = some (.map k e)) (h : MapAt enc D w b m) {a : α} (ha : D a) (v : Value) :
    ∃ w', (Instr.mapUpdate t (.map (some b)) (enc a) v).run P w = .ok () w' ∧ MapAt enc D w' b (mset m a v) ∧ Keep (fun i => i = b) w w' := by
  obtain ⟨es, clock, hb, hm, hD, hn, hs, hc⟩ := h
  obtain ⟨l, hl⟩ := E.ok ha
  rcases entries_find E hm hD ha w with ⟨h1, h2⟩ | ⟨j, v0, h1, h2, e0, h3, h4⟩
  · refine ⟨ChangeMaps.setBlock w b (.map (es.push ⟨enc a, v, clock⟩) (clock + 1)), ?_, ⟨es.push ⟨enc a, v, clock⟩, clock + 1, ChangeMaps.heap_setBlock_same hb _, ?_, dom_mset hD ha v, pairwise_mset hn a v, ?_, ?_⟩, keep_setBlock hb⟩
    · simp [Instr.mapUpdate, run_underlying ht, MapKept.run_getObj_map hb, E.keyed.check w false hl, h1, MapKept.run_setObj_map _ hb, Result.andThen, ChangeMaps.setBlock]
    · have : ¬ (m.any (fun p => decide (p.1 = a)) = true) := by rw [← mget_isSome, h2]; simp
      unfold mset
      rw [if_neg this]
      simp [hm]
    · simp only [Array.toList_push, List.map_append, List.map_cons, List.map_nil]
      rw [List.pairwise_append]
      refine ⟨hs, by simp, fun p hp q hq => ?_⟩
      obtain ⟨e, he, rfl⟩ := List.mem_map.1 hp
      simp at hq; subst hq
      have := hc e he
      omega
    · intro e he
      simp only [Array.toList_push, List.mem_append, List.mem_singleton] at he
      rcases he with he | rfl
      · have := hc e he; omega
      · show clock < clock + 1; omega
  · refine ⟨ChangeMaps.setBlock w b (.map (es.modify j fun e => { e with key := enc a, val := v }) clock), ?_, ⟨es.modify j fun e => { e with key := enc a, val := v }, clock, ChangeMaps.heap_setBlock_same hb _, ?_, dom_mset hD ha v, pairwise_mset hn a v, ?_, ?_⟩, keep_setBlock hb⟩
    · have e1 : (((es[j]?).map (·.key)).getD (enc a)) = enc a := by
        have : es[j]? = some e0 := by simpa using h3
        rw [this]; simpa using h4
      simp [Instr.mapUpdate, run_underlying ht, MapKept.run_getObj_map hb, E.keyed.check w false hl, h1, e1, E.keyed.stays w hl, MapKept.run_setObj_map _ hb, Result.andThen, ChangeMaps.setBlock]
    · have : m.any (fun p => decide (p.1 = a)) = true := by rw [← mget_isSome, mget_of_get hn h2]; rfl
      unfold mset
      rw [if_pos this]
      rw [Array.toList_modify]
      exact map_modify_pairs rfl hm hn h2
    · rw [Array.toList_modify]
      have : ∀ (l : List MapEntry) (j : Nat), (l.modify j (fun e => { e with key := enc a, val := v })).map (·.born) = l.map (·.born) := by
        intro l
        induction l with
        | nil => intro j; simp
        | cons x l ih => intro j; cases j <;> simp [ih]
      rw [this]; exact hs
    · intro e he
      rw [Array.toList_modify] at he
      have : ∀ (l : List MapEntry) (j : Nat), (∀ e ∈ l, e.born < clock) → ∀ e ∈ l.modify j (fun e => { e with key := enc a, val := v }), e.born < clock := by
        intro l
        induction l with
        | nil => intro j _ e he; simp at he
        | cons x l ih =>
          intro j hl e he
          cases j with
          | zero =>
            simp at he
            rcases he with rfl | he
            · exact hl x (by simp)
            · exact hl e (by simp [he])
          | succ j =>
            simp at he
            rcases he with rfl | he
            · exact hl e (by simp)
            · exact ih j (fun e he => hl e (by simp [he])) e he
      exact this _ _ hc e he

/-- At the operation, for the walk: 'm[k] = v' by an equation on its run. -/
theorem wpList_mapset {P : Program} {w w' : World} {ops : Array Oper} {rest : List Oper} {o : Oper} {a : Act} {Q : Exit → Act → World → Prop} (hg : o.guard = none) (m x v : Operand) (t : TypeId)
    (hop : o.op = Op.mapUpdate t m x v) {vm vx vv : Value} (hm : a.eval m = vm) (hx : a.eval x = vx) (hv : a.eval v = vv)
    (hrun : (Instr.mapUpdate t vm vx vv).run P w = .ok () w') (h : wpList P ops Q rest (a.put o.dst undef) w') : wpList P ops Q (o :: rest) a w := by
  refine wpList_plain hg fun K' hK' => ?_
  unfold Oper.wp
  simp [execOp, hop, hm, hx, hv, hrun, Result.andThen]
  exact hK' _ _ h

/-- Natural numbers as keys. -/
def encN (x : Nat) : Value := .int .i64 x
def DN (x : Nat) : Prop := x < 9223372036854775808

theorem encN_enc (hk : P.underlying k = some (.int .i64)) : Enc P k encN DN :=
  ⟨int_keyed hk, fun {a} ha => ⟨_, keyOf_int_mk hk (by
      unfold DN at ha
      have h1 : IntKind.i64.min = -9223372036854775808 := by decide
      have h2 : IntKind.i64.max = 9223372036854775807 := by decide
      simp only [Lit.wf, h1, h2, Bool.and_eq_true, decide_eq_true_eq]
      omega)⟩, fun {a b} h => by
    simp only [encN, Value.int.injEq, true_and] at h
    omega⟩
end mem
end Go.Proofs.Ytkpoobnldgfapaa
