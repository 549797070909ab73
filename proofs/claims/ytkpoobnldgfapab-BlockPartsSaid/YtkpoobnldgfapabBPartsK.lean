/- isthmuskeep.BlockParts: what its walk holds. -/
import Derived.Test.YtkpoobnldgfapabPlBp
import Derived.Test.YtkpoobnldgfapabMapEnt
import Derived.Test.YtkpoobnldgfapabMapLeft
import Derived.Test.YtkpoobnldgfapabA6
import Derived.Test.YtkpoobnldgfapabMake
set_option linter.unusedVariables false
set_option linter.unusedSimpArgs false
namespace Go.Proofs.Ytkpoobnldgfapab
open Go.RowKit Pl Go.Maps

theorem elem_mapIB : ElemT Try.prog 32 (.map none) 1 8 := by unfold ElemT; kernel_rfl
theorem zero_boolB (w : World) : (zeroValue 4).run Try.prog w = .ok (.bool false) w := by kernel_rfl
theorem zero_intP (w : World) : (zeroValue 3).run Try.prog w = .ok (.int .i64 0) w := by kernel_rfl

theorem run_makeM (n : Nat) (hn : n ≤ 1000000) : ∃ Z : Array Value, Z.toList = List.replicate n (.map none) ∧ ∀ w : World, (Instr.makeSlice 33 (.int .i64 (n : Nat)) (.int .i64 (n : Nat))).run Try.prog w = .ok (.slice (some ⟨w.heap.size, 0, none⟩) n n) (w.alloc (.cells Z 32)) := by
  obtain ⟨i, hi, hz, hs, hby⟩ := info_parts elem_mapIB
  refine ⟨madeCells (Value.map none).cells (n * 1), ?_, fun w => ?_⟩
  · rw [show (Value.map none).cells = #[Value.map none] from rfl, Nat.mul_one, toList_madeCells_one]
  · have := run_make (P := Try.prog) (w := w) 33 32 i (.map none) Try.underlying33 hi hz .i64 .i64 (n : Int) (n : Int) (by omega) (by omega) (by rw [hby]; omega) (by omega)
    rw [hs] at this
    simpa using this

/-- The row of maps, the first i made. -/
def atRow (n B i : Nat) : List Value := (List.range n).map (fun x => if x < i then .map (some (B + x)) else .map none)
theorem atRow_len (n B i : Nat) : (atRow n B i).length = n := by simp [atRow]
theorem atRow_get {n B i x : Nat} (h : x < n) : (atRow n B i)[x]? = some (if x < i then .map (some (B + x)) else .map none) := by simp [atRow, h]
theorem atRow_zero (n B : Nat) : atRow n B 0 = List.replicate n (.map none) := by
  apply List.ext_getElem?
  intro j
  by_cases hj : j < n
  · rw [atRow_get hj, if_neg (by omega)]; simp [hj]
  · rw [List.getElem?_eq_none (by rw [atRow_len]; omega), List.getElem?_eq_none (by simp; omega)]
theorem atRow_set {n B i : Nat} (hi : i < n) : (atRow n B i).set i (.map (some (B + i))) = atRow n B (i + 1) := by
  apply List.ext_getElem?
  intro j
  by_cases hj : j < n
  · rw [atRow_get hj]
    by_cases e : i = j
    · subst e
      rw [List.getElem?_set_self (by rw [atRow_len]; exact hi), if_pos (by omega)]
    · rw [List.getElem?_set_ne e, atRow_get hj]
      by_cases h : j < i
      · rw [if_pos h, if_pos (by omega)]
      · rw [if_neg h, if_neg (by omega)]
  · rw [List.getElem?_eq_none (by rw [List.length_set, atRow_len]; omega), List.getElem?_eq_none (by rw [atRow_len]; omega)]

/-- The row of maps in memory, the first i made; the maps lie one behind the other. -/
structure AtM (w : World) (ab B n i : Nat) (AT : Nat → List (Nat × Value)) : Prop where
  lt : ab < B
  row : Row w ab 32 (atRow n B i)
  maps : ∀ x, x < i → MapAt encN DN w (B + x) (AT x)

theorem AtM.keep {G : Nat → Prop} {w w' : World} {ab B n i : Nat} {AT : Nat → List (Nat × Value)} (h : AtM w ab B n i AT) (k : Keep G w w') (h1 : ¬ G ab) (h2 : ∀ x, x < i → ¬ G (B + x)) : AtM w' ab B n i AT :=
  ⟨h.lt, h.row.keep k h1, fun x hx => (h.maps x hx).keep k (h2 x hx)⟩

theorem AtM.make {w : World} {ab B n i : Nat} (h : AtM w ab B n i (fun _ => [])) (hz : w.heap.size = B + i) (hi : i < n) :
    AtM ((w.alloc (.map #[] 0)).setCell ⟨ab, i, none⟩ (.map (some (B + i)))) ab B n (i + 1) (fun _ => []) ∧ ((w.alloc (.map #[] 0)).setCell ⟨ab, i, none⟩ (.map (some (B + i)))).heap.size = B + (i + 1) ∧
      Keep (fun k => k = ab) w ((w.alloc (.map #[] 0)).setCell ⟨ab, i, none⟩ (.map (some (B + i)))) := by
  have hlt := h.lt
  have kA : Keep Nb w (w.alloc (.map #[] 0)) := (Keep.refl Nb w).alloc _
  have kB : Keep (fun k => k = ab) (w.alloc (.map #[] 0)) ((w.alloc (.map #[] 0)).setCell ⟨ab, i, none⟩ (.map (some (B + i)))) := Keep.setCell (p := ⟨ab, i, none⟩) (Keep.refl (fun j => j = ab) _) (.inl rfl) _
  refine ⟨⟨hlt, ?_, fun x hx => ?_⟩, by simp; omega, kA.of_nb.trans kB⟩
  · have := (h.row.keep kA (fun e => e)).set (i := i) (by rw [atRow_len]; exact hi) (.map (some (B + i)))
    rwa [atRow_set hi] at this
  · by_cases e : x = i
    · subst e
      have := MapAt.made encN DN w
      rw [hz] at this
      exact this.keep kB (fun e => by omega)
    · exact ((h.maps x (by omega)).keep kA (fun e => e)).keep kB (fun e => by omega)

theorem keys_mset {m : List (Nat × Value)} {k c : Nat} {v : Value} : c ∈ (mset m k v).map (·.1) ↔ c = k ∨ c ∈ m.map (·.1) := by
  rw [mem_keys_iff, mem_keys_iff, mget_mset]
  by_cases e : c = k
  · rw [if_pos e]; simp [e]
  · rw [if_neg e]; simp [e]

theorem AtM.two {w : World} {ab B n a b k : Nat} {AT : Nat → List (Nat × Value)} (h : AtM w ab B n n AT) (ha : a < n) (hb : b < n) (hne : a ≠ b) (hk : DN k) :
    ∃ (w1 : World) (st1 : Int) (v1 : Value) (w2 w3 : World) (st2 : Int) (v2 : Value) (w4 : World),
      (Instr.mapEntry 32 (.map (some (B + a))) (.int .i64 (k : Nat))).run Try.prog w = .ok (.tuple #[v1, .int .i64 st1]) w1 ∧
      (Instr.entryStore 32 (.map (some (B + a))) (.int .i64 st1) (.bool true)).run Try.prog w1 = .ok () w2 ∧
      (Instr.mapEntry 32 (.map (some (B + b))) (.int .i64 (k : Nat))).run Try.prog w2 = .ok (.tuple #[v2, .int .i64 st2]) w3 ∧
      (Instr.entryStore 32 (.map (some (B + b))) (.int .i64 st2) (.bool true)).run Try.prog w3 = .ok () w4 ∧
      Keep (fun i => i = B + a) w w1 ∧ Keep (fun i => i = B + a) w1 w2 ∧ Keep (fun i => i = B + b) w2 w3 ∧ Keep (fun i => i = B + b) w3 w4 ∧
      AtM w4 ab B n n (fun x => if x = a ∨ x = b then mset (AT x) k (.bool true) else AT x) := by
  obtain ⟨w1, st1, r1, m1, k1, s1⟩ := (h.maps a ha).entry (encN_enc Try.underlying3) Try.underlying32 (zero_boolB w) (a := k) hk
  obtain ⟨w2, r2, m2, k2⟩ := s1 w1 rfl (.bool true)
  have hb2 : MapAt encN DN w2 (B + b) (AT b) := ((h.maps b hb).keep k1 (fun e => by omega)).keep k2 (fun e => by omega)
  obtain ⟨w3, st2, r3, m3, k3, s3⟩ := hb2.entry (encN_enc Try.underlying3) Try.underlying32 (zero_boolB w2) (a := k) hk
  obtain ⟨w4, r4, m4, k4⟩ := s3 w3 rfl (.bool true)
  refine ⟨w1, st1, _, w2, w3, st2, _, w4, r1, r2, r3, r4, k1, k2, k3, k4, h.lt, ?_, fun x hx => ?_⟩
  · have hlt := h.lt
    exact (((h.row.keep k1 (fun e => by omega)).keep k2 (fun e => by omega)).keep k3 (fun e => by omega)).keep k4 (fun e => by omega)
  · by_cases e1 : x = a
    · subst e1
      rw [if_pos (.inl rfl)]
      exact (m2.keep k3 (fun e => by omega)).keep k4 (fun e => by omega)
    · by_cases e2 : x = b
      · subst e2
        rw [if_pos (.inr rfl)]
        exact m4
      · rw [if_neg (by omega)]
        exact ((((h.maps x hx).keep k1 (fun e => by omega)).keep k2 (fun e => by omega)).keep k3 (fun e => by omega)).keep k4 (fun e => by omega)

/-- Which parts the maps name. -/
def AtK (es : List E) (ps : List (List Nat)) (k i : Nat) (AT : Nat → List (Nat × Value)) : Prop := ∀ x c, c ∈ (AT x).map (·.1) ↔ TouchT es ps k i x c

theorem AtK.next {es : List E} (hs : Sorted es) {ps : List (List Nat)} {k i : Nat} {AT : Nat → List (Nat × Value)} (h : AtK es ps k i AT) {p : List Nat} (hp : ps[k]? = some p) {e : E} (he : e ∈ es) (hi : p[i]? = some e.id) :
    AtK es ps k (i + 1) (fun x => if x = e.a ∨ x = e.b then mset (AT x) k (.bool true) else AT x) := fun x c => by
  rw [TouchT.next hs hp he hi]
  by_cases hx : x = e.a ∨ x = e.b
  · have ht : touch e x := by unfold touch; rcases hx with h | h <;> simp [h]
    simp only [if_pos hx]
    rw [keys_mset, h x c]
    constructor
    · rintro (h1 | h1)
      · exact .inr ⟨h1, ht⟩
      · exact .inl h1
    · rintro (h1 | ⟨h1, _⟩)
      · exact .inr h1
      · exact .inl h1
  · have ht : ¬ touch e x := by unfold touch; omega
    simp only [if_neg hx]
    rw [h x c]
    exact ⟨.inl, fun h => h.elim id (fun h => absurd h.2 ht)⟩

/-- Which twos are counted. -/
def Vis0 (AT : Nat → List (Nat × Value)) (x p q : Nat) : Prop := ∃ y, y < x ∧ p ∈ (AT y).map (·.1) ∧ q ∈ (AT y).map (·.1)
def BInvB (BM : List ((Nat × Nat) × Value)) (vis : Nat → Nat → Prop) : Prop := ∀ p q v, mget BM (p, q) = some v → v = .int .i64 1 ∧ vis p q

theorem BInvB.imp {BM : List ((Nat × Nat) × Value)} {vis vis' : Nat → Nat → Prop} (h : BInvB BM vis) (f : ∀ p q, vis p q → vis' p q) : BInvB BM vis' := fun p q v hv => ⟨(h p q v hv).1, f p q (h p q v hv).2⟩
theorem BInvB.set {BM : List ((Nat × Nat) × Value)} {vis vis' : Nat → Nat → Prop} (h : BInvB BM vis) {p q : Nat} (f : ∀ p q, vis p q → vis' p q) (hv : vis' p q) : BInvB (mset BM (p, q) (.int .i64 1)) vis' := fun p' q' v hg => by
  rw [mget_mset] at hg
  by_cases e : (p', q') = (p, q)
  · rw [if_pos e] at hg
    cases hg; cases e
    exact ⟨rfl, hv⟩
  · rw [if_neg e] at hg
    exact ⟨(h p' q' v hg).1, f p' q' (h p' q' v hg).2⟩

/-- Two parts have but one node in common. -/
def OneN (AT : Nat → List (Nat × Value)) : Prop := ∀ p q y z, p < q → p ∈ (AT y).map (·.1) → q ∈ (AT y).map (·.1) → p ∈ (AT z).map (·.1) → q ∈ (AT z).map (·.1) → y = z

theorem AtK.one {es : List E} (hne : ∀ e, e ∈ es → e.a ≠ e.b) {ps : List (List Nat)} (hB : BlkList es ps) {AT : Nat → List (Nat × Value)} (h : AtK es ps ps.length 0 AT) : OneN AT := fun p q y z hpq h1 h2 h3 h4 => by
  rw [h, TouchT.all] at h1 h2 h3 h4
  obtain ⟨a, ha, t1⟩ := h1
  obtain ⟨b, hb, t2⟩ := h2
  obtain ⟨a', ha', t3⟩ := h3
  obtain ⟨b', hb', t4⟩ := h4
  rw [ha] at ha'; cases ha'
  rw [hb] at hb'; cases hb'
  exact hB.one_node hne ha hb hpq t1 t2 t3 t4

/-- The nodes at which several parts meet. -/
def cutsA (AT : Nat → List (Nat × Value)) (n : Nat) : List Nat := (List.range n).filter (fun x => decide (1 < (AT x).length))
theorem cutsA_succ (AT : Nat → List (Nat × Value)) (n : Nat) : cutsA AT (n + 1) = if 1 < (AT n).length then cutsA AT n ++ [n] else cutsA AT n := by
  unfold cutsA
  rw [List.range_succ, List.filter_append]
  by_cases h : 1 < (AT n).length
  · rw [if_pos h]; simp [h]
  · rw [if_neg h]; simp [h]

theorem two_of_len {m : List (Nat × Value)} (hn : m.Pairwise (fun p q => p.1 ≠ q.1)) : 1 < m.length ↔ ∃ c d, c ≠ d ∧ c ∈ m.map (·.1) ∧ d ∈ m.map (·.1) := by
  constructor
  · intro h
    match m, h with
    | a :: b :: r, _ =>
      rw [List.pairwise_cons] at hn
      exact ⟨a.1, b.1, hn.1 b List.mem_cons_self, by simp, by simp⟩
  · rintro ⟨c, d, hcd, hc, hd⟩
    match m with
    | [] => simp at hc
    | [a] => simp at hc hd; omega
    | a :: b :: r => simp

theorem AtK.cuts {es : List E} {n : Nat} (hne : ∀ e, e ∈ es → e.a ≠ e.b) {ps : List (List Nat)} (hB : BlkList es ps) {AT : Nat → List (Nat × Value)} (h : AtK es ps ps.length 0 AT) (hn : ∀ x, x < n → (AT x).Pairwise (fun p q => p.1 ≠ q.1))
    {cs : List Nat} (hc : ∀ x, x ∈ cs ↔ x < n ∧ Pl.Sep es x) (hr : cs.Pairwise (· < ·)) : cs = cutsA AT n := by
  refine rising_ext hr (List.pairwise_lt_range.sublist List.filter_sublist) fun x => ?_
  unfold cutsA
  rw [hc, List.mem_filter, List.mem_range, decide_eq_true_eq]
  refine and_congr_right fun hx => ?_
  rw [two_of_len (hn x hx), hB.sep hne]
  constructor
  · rintro ⟨c, d, p, q, hcd, h1, h2, t1, t2⟩
    exact ⟨c, d, hcd, (h x c).2 (TouchT.all.2 ⟨p, h1, t1⟩), (h x d).2 (TouchT.all.2 ⟨q, h2, t2⟩)⟩
  · rintro ⟨c, d, hcd, h1, h2⟩
    obtain ⟨p, hp, t1⟩ := TouchT.all.1 ((h x c).1 h1)
    obtain ⟨q, hq, t2⟩ := TouchT.all.1 ((h x d).1 h2)
    exact ⟨c, d, p, q, hcd, hp, hq, t1, t2⟩

theorem mget_of_mem {α : Type} [DecidableEq α] {m : List (α × Value)} (hn : m.Pairwise (fun p q => p.1 ≠ q.1)) {p : α × Value} (h : p ∈ m) : mget m p.1 = some p.2 := by
  obtain ⟨j, hj⟩ := List.mem_iff_getElem?.1 h
  exact mget_of_get (a := p.1) (v := p.2) hn hj

/-- A set of ids as a map. -/
def idSet (l : List Nat) : List (Nat × Value) := l.map (fun i => (i, .bool true))
theorem idSet_none {l : List Nat} {x : Nat} (h : x ∉ l) : mget (idSet l) x = none := mget_none.2 fun p hp e => by
  obtain ⟨i, hi, rfl⟩ := List.mem_map.1 hp
  exact h (e ▸ hi)
theorem idSet_set {l : List Nat} {x : Nat} (h : x ∉ l) : mset (idSet l) x (.bool true) = idSet (l ++ [x]) := by
  have h1 : ¬ ((idSet l).any (fun p => decide (p.1 = x)) = true) := by
    rw [← mget_isSome, idSet_none h]; simp
  unfold mset
  rw [if_neg h1]
  unfold idSet
  rw [List.map_append]; rfl

end Go.Proofs.Ytkpoobnldgfapab
