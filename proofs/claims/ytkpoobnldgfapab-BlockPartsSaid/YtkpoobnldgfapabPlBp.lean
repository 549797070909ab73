/- Blocks and the nodes that they touch: plain. -/
import Derived.Test.YtkpoobnldgfapabD1
import Derived.Test.YtkpoobnldgfapabP4
set_option linter.unusedVariables false
set_option linter.unusedSimpArgs false
namespace Go.Proofs.Ytkpoobnldgfapab.Pl

/-- A block's list touches a node. -/
def TouchL (es : List E) (p : List Nat) (x : Nat) : Prop := ∃ e, e ∈ es ∧ e.id ∈ p ∧ touch e x

/-- Of the first k parts, and of the k-th's first i edges, which parts touch x. -/
def TouchT (es : List E) (ps : List (List Nat)) (k i x c : Nat) : Prop := ∃ p, ps[c]? = some p ∧ ((c < k ∧ TouchL es p x) ∨ (c = k ∧ TouchL es (p.take i) x))

theorem TouchT.zero {es : List E} {ps : List (List Nat)} {x c : Nat} : ¬ TouchT es ps 0 0 x c := by
  rintro ⟨p, _, ⟨h, _⟩ | ⟨_, e, _, h, _⟩⟩
  · omega
  · simp at h

theorem TouchT.row {es : List E} {ps : List (List Nat)} {k x c : Nat} {p : List Nat} (hp : ps[k]? = some p) : TouchT es ps k p.length x c ↔ TouchT es ps (k + 1) 0 x c := by
  constructor
  · rintro ⟨q, hq, ⟨h1, h2⟩ | ⟨h1, h2⟩⟩
    · exact ⟨q, hq, .inl ⟨by omega, h2⟩⟩
    · subst h1
      rw [hp] at hq; cases hq
      rw [List.take_length] at h2
      exact ⟨p, hp, .inl ⟨by omega, h2⟩⟩
  · rintro ⟨q, hq, ⟨h1, h2⟩ | ⟨h1, e, _, h, _⟩⟩
    · by_cases hc : c = k
      · subst hc
        rw [hp] at hq; cases hq
        exact ⟨p, hp, .inr ⟨rfl, by rw [List.take_length]; exact h2⟩⟩
      · exact ⟨q, hq, .inl ⟨by omega, h2⟩⟩
    · simp at h

theorem TouchT.next {es : List E} (hs : Sorted es) {ps : List (List Nat)} {k i x c : Nat} {p : List Nat} (hp : ps[k]? = some p) {e : E} (he : e ∈ es) (hi : p[i]? = some e.id) : TouchT es ps k (i + 1) x c ↔ (TouchT es ps k i x c ∨ (c = k ∧ touch e x)) := by
  have hT : TouchL es (p.take (i + 1)) x ↔ (TouchL es (p.take i) x ∨ touch e x) := by
    rw [List.take_add_one, hi]
    constructor
    · rintro ⟨f, hf, hm, ht⟩
      rcases List.mem_append.1 hm with h | h
      · exact .inl ⟨f, hf, h, ht⟩
      · have : f = e := sorted_inj hs f e hf he (by simpa using h)
        exact .inr (this ▸ ht)
    · rintro (⟨f, hf, hm, ht⟩ | ht)
      · exact ⟨f, hf, List.mem_append.2 (.inl hm), ht⟩
      · exact ⟨e, he, by simp, ht⟩
  constructor
  · rintro ⟨q, hq, h | ⟨h1, h2⟩⟩
    · exact .inl ⟨q, hq, .inl h⟩
    · subst h1
      rw [hp] at hq; cases hq
      rcases hT.1 h2 with h | h
      · exact .inl ⟨p, hp, .inr ⟨rfl, h⟩⟩
      · exact .inr ⟨rfl, h⟩
  · rintro (⟨q, hq, h | ⟨h1, h2⟩⟩ | ⟨h1, h2⟩)
    · exact ⟨q, hq, .inl h⟩
    · subst h1
      rw [hp] at hq; cases hq
      exact ⟨p, hp, .inr ⟨rfl, hT.2 (.inl h2)⟩⟩
    · subst h1
      exact ⟨p, hp, .inr ⟨rfl, hT.2 (.inr h2)⟩⟩

theorem TouchT.all {es : List E} {ps : List (List Nat)} {x c : Nat} : TouchT es ps ps.length 0 x c ↔ ∃ p, ps[c]? = some p ∧ TouchL es p x := by
  constructor
  · rintro ⟨p, hp, ⟨_, h⟩ | ⟨_, e, _, h, _⟩⟩
    · exact ⟨p, hp, h⟩
    · simp at h
  · rintro ⟨p, hp, h⟩
    exact ⟨p, hp, .inl ⟨(List.getElem?_eq_some_iff.1 hp).1, h⟩⟩

theorem BlkList.nodup {es : List E} {ps : List (List Nat)} (h : BlkList es ps) : ps.flatten.Nodup := by
  unfold List.Nodup
  rw [List.pairwise_flatten]
  refine ⟨fun p hp => (h.rise p hp).imp fun h => Nat.ne_of_lt h, ?_⟩
  refine h.heads.imp_of_mem fun {p q} hp hq hlt x hx y hy => ?_
  rintro rfl
  obtain ⟨e, he, rfl⟩ := (h.ids x).1 (List.mem_flatten.2 ⟨p, hp, hx⟩)
  have : p = q := rising_ext (h.rise p hp) (h.rise q hq) fun z => by
    constructor
    · intro hz
      obtain ⟨f, hf, rfl⟩ := (h.ids z).1 (List.mem_flatten.2 ⟨p, hp, hz⟩)
      exact (h.cls q hq e f he hf hy).2 ((h.cls p hp e f he hf hx).1 hz)
    · intro hz
      obtain ⟨f, hf, rfl⟩ := (h.ids z).1 (List.mem_flatten.2 ⟨q, hq, hz⟩)
      exact (h.cls p hp e f he hf hx).2 ((h.cls q hq e f he hf hy).1 hz)
  subst this; omega

theorem BlkList.len {es : List E} (hs : Sorted es) {ps : List (List Nat)} (h : BlkList es ps) : ps.flatten.length = es.length := by
  have hn : (es.map (·.id)).Nodup := by
    unfold List.Nodup
    rw [List.pairwise_map]
    exact List.Pairwise.imp (fun h => Nat.ne_of_lt h) hs
  have := ((List.perm_ext_iff_of_nodup h.nodup hn).2 fun x => by rw [h.ids, List.mem_map]).length_eq
  rw [this, List.length_map]

/-- Two blocks have at most one node in common. -/
theorem BlkList.one_node {es : List E} (hne : ∀ e, e ∈ es → e.a ≠ e.b) {ps : List (List Nat)} (h : BlkList es ps) {c d : Nat} {p q : List Nat} (hp : ps[c]? = some p) (hq : ps[d]? = some q) (hcd : c < d) {x y : Nat} (hx1 : TouchL es p x) (hx2 : TouchL es q x) (hy1 : TouchL es p y) (hy2 : TouchL es q y) : x = y := by
  apply Classical.byContradiction
  intro hxy
  obtain ⟨e1, m1, i1, t1⟩ := hx1
  obtain ⟨f1, m2, i2, t2⟩ := hx2
  obtain ⟨e2, m3, i3, t3⟩ := hy1
  obtain ⟨f2, m4, i4, t4⟩ := hy2
  have hpm := List.mem_of_getElem? hp
  have hqm := List.mem_of_getElem? hq
  have hB := Blk.two hne m1 m2 ((h.cls p hpm e1 e2 m1 m3 i1).1 i3) ((h.cls q hqm f1 f2 m2 m4 i2).1 i4) hxy t1 t2 t3 t4
  have i5 : f1.id ∈ p := (h.cls p hpm e1 f1 m1 m2 i1).2 hB
  have hd := h.heads
  rw [List.pairwise_iff_getElem] at hd
  obtain ⟨l1, q1⟩ := List.getElem?_eq_some_iff.1 hp
  obtain ⟨l2, q2⟩ := List.getElem?_eq_some_iff.1 hq
  have hlt := hd c d l1 l2 hcd
  rw [q1, q2] at hlt
  have : p = q := rising_ext (h.rise p hpm) (h.rise q hqm) fun z => by
    constructor
    · intro hz
      obtain ⟨g, hg, rfl⟩ := (h.ids z).1 (List.mem_flatten.2 ⟨p, hpm, hz⟩)
      exact (h.cls q hqm f1 g m2 hg i2).2 ((h.cls p hpm f1 g m2 hg i5).1 hz)
    · intro hz
      obtain ⟨g, hg, rfl⟩ := (h.ids z).1 (List.mem_flatten.2 ⟨q, hqm, hz⟩)
      exact (h.cls p hpm f1 g m2 hg i5).2 ((h.cls q hqm f1 g m2 hg i2).1 hz)
  subst this; omega

/-- A node parts just if two blocks touch it. -/
theorem BlkList.sep {es : List E} (hne : ∀ e, e ∈ es → e.a ≠ e.b) {ps : List (List Nat)} (h : BlkList es ps) {x : Nat} : Pl.Sep es x ↔ ∃ (c d : Nat) (p q : List Nat), c ≠ d ∧ ps[c]? = some p ∧ ps[d]? = some q ∧ TouchL es p x ∧ TouchL es q x := by
  rw [sep_iff hne]
  constructor
  · rintro ⟨e, f, he, hf, te, tf, hB⟩
    obtain ⟨p, hp, h1⟩ := List.mem_flatten.1 ((h.ids e.id).2 ⟨e, he, rfl⟩)
    obtain ⟨q, hq, h2⟩ := List.mem_flatten.1 ((h.ids f.id).2 ⟨f, hf, rfl⟩)
    obtain ⟨c, hc⟩ := List.mem_iff_getElem?.1 hp
    obtain ⟨d, hd⟩ := List.mem_iff_getElem?.1 hq
    refine ⟨c, d, p, q, ?_, hc, hd, ⟨e, he, h1, te⟩, ⟨f, hf, h2, tf⟩⟩
    rintro rfl
    rw [hc] at hd; cases hd
    exact hB ((h.cls p hp e f he hf h1).1 h2)
  · rintro ⟨c, d, p, q, hcd, hc, hd, ⟨e, he, h1, te⟩, ⟨f, hf, h2, tf⟩⟩
    refine ⟨e, f, he, hf, te, tf, fun hB => ?_⟩
    have hpm := List.mem_of_getElem? hc
    have i5 : f.id ∈ p := (h.cls p hpm e f he hf h1).2 hB
    have hn := h.nodup
    unfold List.Nodup at hn
    rw [List.pairwise_flatten] at hn
    have hd2 := hn.2
    rw [List.pairwise_iff_getElem] at hd2
    obtain ⟨l1, q1⟩ := List.getElem?_eq_some_iff.1 hc
    obtain ⟨l2, q2⟩ := List.getElem?_eq_some_iff.1 hd
    rcases Nat.lt_or_gt_of_ne hcd with hlt | hlt
    · exact hd2 c d l1 l2 hlt f.id (by rw [q1]; exact i5) f.id (by rw [q2]; exact h2) rfl
    · exact hd2 d c l2 l1 hlt f.id (by rw [q2]; exact h2) f.id (by rw [q1]; exact i5) rfl

/-- The blocks of one edge are the bridges. -/
def loneOf (ps : List (List Nat)) : List Nat := (ps.filter (fun p => decide (p.length = 1))).map (fun p => p.headD 0)

theorem BlkList.lone {es : List E} (hs : Sorted es) (hne : ∀ e, e ∈ es → e.a ≠ e.b) {ps : List (List Nat)} (h : BlkList es ps) : loneOf ps = brE es := by
  refine rising_ext ?_ (brE_sorted hs) fun x => ?_
  · unfold loneOf
    rw [List.pairwise_map]
    exact (h.heads.sublist List.filter_sublist)
  · unfold loneOf brE
    rw [List.mem_map, List.mem_map]
    constructor
    · rintro ⟨p, hp, rfl⟩
      obtain ⟨hp, h1⟩ := List.mem_filter.1 hp
      have h1 : p.length = 1 := by simpa using h1
      obtain ⟨a, rfl⟩ := List.length_eq_one_iff.1 h1
      obtain ⟨e, he, hid⟩ := (h.ids a).1 (List.mem_flatten.2 ⟨[a], hp, by simp⟩)
      refine ⟨e, List.mem_filter.2 ⟨he, ?_⟩, by simpa using hid⟩
      rw [decide_eq_true_eq, lone_iff hs hne he]
      intro f hf hB
      have h2 : f.id ∈ [a] := (h.cls [a] hp e f he hf (by simp [hid])).2 hB
      exact sorted_inj hs f e hf he (by rw [hid]; simpa using h2)
    · rintro ⟨e, he, rfl⟩
      obtain ⟨he, h0⟩ := List.mem_filter.1 he
      rw [decide_eq_true_eq, lone_iff hs hne he] at h0
      obtain ⟨p, hp, h1⟩ := List.mem_flatten.1 ((h.ids e.id).2 ⟨e, he, rfl⟩)
      have hall : ∀ x, x ∈ p → x = e.id := fun x hx => by
        obtain ⟨f, hf, rfl⟩ := (h.ids x).1 (List.mem_flatten.2 ⟨p, hp, hx⟩)
        rw [h0 f hf ((h.cls p hp e f he hf h1).1 hx)]
      have hpe : p = [e.id] := rising_ext (h.rise p hp) (List.pairwise_singleton _ _) fun x => by
        constructor
        · intro hx; simp [hall x hx]
        · intro hx
          have hx : x = e.id := by simpa using hx
          rw [hx]; exact h1
      exact ⟨p, List.mem_filter.2 ⟨hp, by rw [hpe]; rfl⟩, by rw [hpe]; rfl⟩

theorem BlkList.lens {es : List E} (hs : Sorted es) {ps : List (List Nat)} (h : BlkList es ps) : ps.length ≤ es.length ∧ ∀ p, p ∈ ps → p.length ≤ es.length := by
  constructor
  · have h1 : (ps.map (fun p => p.headD 0)).Nodup := by
      unfold List.Nodup
      rw [List.pairwise_map]
      exact h.heads.imp fun {a b} h e => by omega
    have := len_le_of_mem h1 (k := es.map (·.id)) (fun i hi => by
      obtain ⟨p, hp, rfl⟩ := List.mem_map.1 hi
      have hm : p.headD 0 ∈ p := by
        cases p with
        | nil => exact absurd rfl (h.ne _ hp)
        | cons a l => exact List.mem_cons_self
      obtain ⟨e, he, hid⟩ := (h.ids _).1 (List.mem_flatten.2 ⟨p, hp, hm⟩)
      exact List.mem_map.2 ⟨e, he, hid⟩)
    simpa using this
  · intro p hp
    have h1 : p.Nodup := (h.rise p hp).imp fun h => Nat.ne_of_lt h
    have := len_le_of_mem h1 (k := es.map (·.id)) (fun i hi => by
      obtain ⟨e, he, hid⟩ := (h.ids i).1 (List.mem_flatten.2 ⟨p, hp, hi⟩)
      exact List.mem_map.2 ⟨e, he, hid⟩)
    simpa using this

theorem pos_mem {es : List E} (hs : Sorted es) {e : E} (he : e ∈ es) : es[posOf es e.id]? = some e ∧ hasId es e.id = true := by
  obtain ⟨k, hk⟩ := List.mem_iff_getElem?.1 he
  have hp : posOf es e.id = k := posOf_eq (Nat.le_of_lt (List.getElem?_eq_some_iff.1 hk).1) (fun j f hj hf => by have := hs.lt hf hk hj; omega) (fun j f hj hf => by
    rcases Nat.lt_or_eq_of_le hj with h | h
    · have := hs.lt hk hf h; omega
    · subst h; rw [hk] at hf; cases hf; omega)
  exact ⟨by rw [hp]; exact hk, by unfold hasId; rw [List.any_eq_true]; exact ⟨e, he, by simp⟩⟩

theorem loneOf_succ {ps : List (List Nat)} {k : Nat} {p : List Nat} (hp : ps[k]? = some p) : loneOf (ps.take (k + 1)) = if p.length = 1 then loneOf (ps.take k) ++ [p.headD 0] else loneOf (ps.take k) := by
  unfold loneOf
  rw [List.take_add_one, hp, Option.toList_some, List.filter_append, List.map_append]
  by_cases h : p.length = 1
  · rw [if_pos h]; simp [h]
  · rw [if_neg h]; simp [h]

/-- The ids that were seen. -/
def seenIds (ps : List (List Nat)) (k i : Nat) : List Nat := (ps.take k).flatten ++ ((ps[k]?).getD []).take i

theorem seenIds_row {ps : List (List Nat)} {k : Nat} {p : List Nat} (hp : ps[k]? = some p) : seenIds ps k p.length = seenIds ps (k + 1) 0 := by
  unfold seenIds
  rw [hp, List.take_add_one, hp, Option.toList_some, List.flatten_append]
  simp
theorem seenIds_next {ps : List (List Nat)} {k i id : Nat} {p : List Nat} (hp : ps[k]? = some p) (hi : p[i]? = some id) : seenIds ps k (i + 1) = seenIds ps k i ++ [id] := by
  unfold seenIds
  rw [hp, Option.getD_some, List.take_add_one, hi, Option.toList_some, List.append_assoc]
theorem seenIds_fresh {ps : List (List Nat)} (hn : ps.flatten.Nodup) {k i id : Nat} {p : List Nat} (hp : ps[k]? = some p) (hi : p[i]? = some id) : id ∉ seenIds ps k i := by
  unfold List.Nodup at hn
  rw [List.pairwise_flatten] at hn
  obtain ⟨h1, h2⟩ := hn
  have hpm := List.mem_of_getElem? hp
  unfold seenIds
  rw [hp, Option.getD_some]
  intro hm
  rcases List.mem_append.1 hm with hm | hm
  · obtain ⟨q, hq, hqi⟩ := List.mem_flatten.1 hm
    obtain ⟨j, hj⟩ := List.mem_iff_getElem?.1 hq
    rw [List.getElem?_take] at hj
    split at hj
    · rename_i hjk
      rw [List.pairwise_iff_getElem] at h2
      obtain ⟨l1, q1⟩ := List.getElem?_eq_some_iff.1 hj
      obtain ⟨l2, q2⟩ := List.getElem?_eq_some_iff.1 hp
      exact h2 j k l1 l2 hjk id (by rw [q1]; exact hqi) id (by rw [q2]; exact List.mem_of_getElem? hi) rfl
    · cases hj
  · obtain ⟨j, hj⟩ := List.mem_iff_getElem?.1 hm
    rw [List.getElem?_take] at hj
    split at hj
    · rename_i hji
      have := h1 p hpm
      rw [List.pairwise_iff_getElem] at this
      obtain ⟨l1, q1⟩ := List.getElem?_eq_some_iff.1 hj
      obtain ⟨l2, q2⟩ := List.getElem?_eq_some_iff.1 hi
      exact this j i l1 l2 hji (by rw [q1, q2])
    · cases hj
theorem seenIds_all {ps : List (List Nat)} : seenIds ps ps.length 0 = ps.flatten := by unfold seenIds; simp

end Go.Proofs.Ytkpoobnldgfapab.Pl
