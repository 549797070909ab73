/- Part 33 of the proof: PlBlkM PlBp. -/
import Derived.Test.YtkpoobnldgfapabGreatDoorIb15
import Derived.Test.YtkpoobnldgfapabGreatDoorIb20
set_option linter.unusedVariables false
set_option linter.unusedSimpArgs false
namespace Go.Proofs.YtkpoobnldgfapabGreatDoor.Pl
theorem oth_cases {e : E} {u v : Nat} (hu : touch e u) (hv : touch e v) : v = u ∨ v = othE e u := by
  unfold touch othE at *
  split <;> omega
theorem Conn.alone {es : List E} {x u : Nat} (c : Conn (ends (less1 es x)) u x) : u = x := by
  have := Conn.keeps (D := fun v => decide (v = x)) (fun e he => by
    have h := (mem_less1.1 he).2
    unfold touch at h
    have h1 : e.a ≠ x := fun h' => h (.inl h')
    have h2 : e.b ≠ x := fun h' => h (.inr h')
    simp [h1, h2]) c
  simpa using this
theorem cut_way {es : List E} {x a b : Nat} (ha : a ≠ x) (hne : ∀ e, e ∈ es → e.a ≠ e.b) (c : Conn (ends es) a b) : Conn (ends (less1 es x)) a b ∨ ∃ e, e ∈ es ∧ touch e x ∧ Conn (ends (less1 es x)) a (othE e x) := by
  classical
  apply Classical.byContradiction
  intro hn
  have h1 : ¬ Conn (ends (less1 es x)) a b := fun h => hn (.inl h)
  have h2 : ∀ e, e ∈ es → touch e x → ¬ Conn (ends (less1 es x)) a (othE e x) := fun e he ht h => hn (.inr ⟨e, he, ht, h⟩)
  have hx : ¬ Conn (ends (less1 es x)) a x := fun h => ha (Conn.alone h)
  have key := Conn.keeps (D := fun v => decide (Conn (ends (less1 es x)) a v)) (fun e he => by
    by_cases ht : touch e x
    · have h3 := h2 e he ht
      have : ∀ v, touch e v → ¬ Conn (ends (less1 es x)) a v := fun v hv => by
        rcases oth_cases ht hv with h | h
        · rw [h]; exact hx
        · rw [h]; exact h3
      have ha := this e.a (.inl rfl)
      have hb := this e.b (.inr rfl)
      simp [ha, hb]
    · have hm : e ∈ less1 es x := mem_less1.2 ⟨he, ht⟩
      have := Conn.of_edge hm
      rw [decide_eq_decide]
      exact ⟨fun h => h.trans this, fun h => h.trans this.symm⟩) c
  rw [decide_eq_decide] at key
  exact h1 (key.1 (Conn.refl _ _))
def HangW (es : List E) (w : Nat) (e f : E) : Prop := ∀ u v, touch e u → u ≠ w → touch f v → v ≠ w → Conn (ends (less1 es w)) u v
theorem HangW.self {es : List E} {w : Nat} {e : E} (he : e ∈ es) : HangW es w e e := fun u v hu huw hv hvw => by
  rcases oth_cases hu hv with h | h
  · rw [h]; exact Conn.refl _ _
  · have hm : e ∈ less1 es w := mem_less1.2 ⟨he, fun hw => by
      rcases oth_cases hu hw with h1 | h1
      · exact huw h1.symm
      · exact hvw (by rw [h, h1])⟩
    have := Conn.of_edge' hm hu
    rw [h]; exact this
theorem Blk.hang {es : List E} (hne : ∀ e, e ∈ es → e.a ≠ e.b) {e f : E} (he : e ∈ es) (h : Blk es e f) (w : Nat) : HangW es w e f := by
  induction h with
  | refl => exact HangW.self he
  | @step f g _ hf hg hs ih =>
    obtain ⟨z, h1, h2, h3⟩ := hs
    intro u v hu huw hv hvw
    by_cases hz : z = w
    · subst hz
      have c1 := ih u (othE f z) hu huw (oth_touch h1) (othE_ne (hne f hf) h1)
      rcases oth_cases h2 hv with h | h
      · exact absurd h hvw
      · rw [h]; exact c1.trans h3
    · have c1 := ih u z hu huw h1 hz
      exact c1.trans (HangW.self hg z v h2 hz hv hvw)
theorem Blk.two {es : List E} (hne : ∀ e, e ∈ es → e.a ≠ e.b) {e1 e2 f1 f2 : E} (m1 : e1 ∈ es) (m2 : f1 ∈ es) (he : Blk es e1 e2) (hf : Blk es f1 f2) {u v : Nat} (huv : u ≠ v) (t1 : touch e1 u) (t2 : touch f1 u) (t3 : touch e2 v) (t4 : touch f2 v) : Blk es e1 f1 := by
  have c1 := he.hang hne m1 u (othE e1 u) v (oth_touch t1) (othE_ne (hne e1 m1) t1) t3 huv.symm
  have c2 := hf.hang hne m2 u (othE f1 u) v (oth_touch t2) (othE_ne (hne f1 m2) t2) t4 huv.symm
  exact Blk.one m1 m2 ⟨u, t1, t2, c1.trans c2.symm⟩
theorem sep_iff {es : List E} (hne : ∀ e, e ∈ es → e.a ≠ e.b) {x : Nat} : Sep es x ↔ ∃ e f, e ∈ es ∧ f ∈ es ∧ touch e x ∧ touch f x ∧ ¬ Blk es e f := by
  constructor
  · rintro ⟨a, b, ha, hb, hc, hs⟩
    rcases cut_way ha hne hc with h | ⟨e, he, te, ce⟩
    · exact absurd h hs
    · rcases cut_way hb hne hc.symm with h | ⟨f, hf, tf, cf⟩
      · exact absurd h.symm hs
      · refine ⟨e, f, he, hf, te, tf, fun hB => hs ?_⟩
        have := hB.hang hne he x (othE e x) (othE f x) (oth_touch te) (othE_ne (hne e he) te) (oth_touch tf) (othE_ne (hne f hf) tf)
        exact (ce.trans this).trans cf.symm
  · rintro ⟨e, f, he, hf, te, tf, hB⟩
    exact ⟨othE e x, othE f x, othE_ne (hne e he) te, othE_ne (hne f hf) tf, (Conn.of_edge' he te).symm.trans (Conn.of_edge' hf tf), fun c => hB (Blk.one he hf ⟨x, te, tf, c⟩)⟩
end Go.Proofs.YtkpoobnldgfapabGreatDoor.Pl

namespace Go.Proofs.YtkpoobnldgfapabGreatDoor.Pl
def TouchL (es : List E) (p : List Nat) (x : Nat) : Prop := ∃ e, e ∈ es ∧ e.id ∈ p ∧ touch e x
def TouchT (es : List E) (ps : List (List Nat)) (k i x c : Nat) : Prop := ∃ p, ps[c]? = some p ∧ ((c < k ∧ TouchL es p x) ∨ (c = k ∧ TouchL es (p.take i) x))
theorem TouchT.zero {es : List E} {ps : List (List Nat)} {x c : Nat} : ¬ TouchT es ps 0 0 x c := by
  rintro ⟨p, _, ⟨h, _⟩ | ⟨_, e, _, h, _⟩⟩
  · omega
  · simp at h
theorem TouchT.row {es : List E} {ps : List (List Nat)} {k x c : Nat} {p : List Nat} (hp : ps[k]? = some p) : TouchT es ps k p.length x c ↔ TouchT es ps (k + 1) 0 x c := by
  constructor
  · rintro ⟨q, hq, ⟨h1, h2⟩ | ⟨h1, h2⟩⟩
    · exact ⟨q, hq, .inl ⟨by omega, h2⟩⟩
    · subst h1
      rw [hp] at hq; cases hq
      rw [List.take_length] at h2
      exact ⟨p, hp, .inl ⟨by omega, h2⟩⟩
  · rintro ⟨q, hq, ⟨h1, h2⟩ | ⟨h1, e, _, h, _⟩⟩
    · by_cases hc : c = k
      · subst hc
        rw [hp] at hq; cases hq
        exact ⟨p, hp, .inr ⟨rfl, by rw [List.take_length]; exact h2⟩⟩
      · exact ⟨q, hq, .inl ⟨by omega, h2⟩⟩
    · simp at h
theorem TouchT.next {es : List E} (hs : Sorted es) {ps : List (List Nat)} {k i x c : Nat} {p : List Nat} (hp : ps[k]? = some p) {e : E} (he : e ∈ es) (hi : p[i]? = some e.id) : TouchT es ps k (i + 1) x c ↔ (TouchT es ps k i x c ∨ (c = k ∧ touch e x)) := by
  have hT : TouchL es (p.take (i + 1)) x ↔ (TouchL es (p.take i) x ∨ touch e x) := by
    rw [List.take_add_one, hi]
    constructor
    · rintro ⟨f, hf, hm, ht⟩
      rcases List.mem_append.1 hm with h | h
      · exact .inl ⟨f, hf, h, ht⟩
      · have : f = e := sorted_inj hs f e hf he (by simpa using h)
        exact .inr (this ▸ ht)
    · rintro (⟨f, hf, hm, ht⟩ | ht)
      · exact ⟨f, hf, List.mem_append.2 (.inl hm), ht⟩
      · exact ⟨e, he, by simp, ht⟩
  constructor
  · rintro ⟨q, hq, h | ⟨h1, h2⟩⟩
    · exact .inl ⟨q, hq, .inl h⟩
    · subst h1
      rw [hp] at hq; cases hq
      rcases hT.1 h2 with h | h
      · exact .inl ⟨p, hp, .inr ⟨rfl, h⟩⟩
      · exact .inr ⟨rfl, h⟩
  · rintro (⟨q, hq, h | ⟨h1, h2⟩⟩ | ⟨h1, h2⟩)
    · exact ⟨q, hq, .inl h⟩
    · subst h1
      rw [hp] at hq; cases hq
      exact ⟨p, hp, .inr ⟨rfl, hT.2 (.inl h2)⟩⟩
    · subst h1
      exact ⟨p, hp, .inr ⟨rfl, hT.2 (.inr h2)⟩⟩
theorem TouchT.all {es : List E} {ps : List (List Nat)} {x c : Nat} : TouchT es ps ps.length 0 x c ↔ ∃ p, ps[c]? = some p ∧ TouchL es p x := by
  constructor
  · rintro ⟨p, hp, ⟨_, h⟩ | ⟨_, e, _, h, _⟩⟩
    · exact ⟨p, hp, h⟩
    · simp at h
  · rintro ⟨p, hp, h⟩
    exact ⟨p, hp, .inl ⟨(List.getElem?_eq_some_iff.1 hp).1, h⟩⟩
theorem BlkList.nodup {es : List E} {ps : List (List Nat)} (h : BlkList es ps) : ps.flatten.Nodup := by
  unfold List.Nodup
  rw [List.pairwise_flatten]
  refine ⟨fun p hp => (h.rise p hp).imp fun h => Nat.ne_of_lt h, ?_⟩
  refine h.heads.imp_of_mem fun {p q} hp hq hlt x hx y hy => ?_
  rintro rfl
  obtain ⟨e, he, rfl⟩ := (h.ids x).1 (List.mem_flatten.2 ⟨p, hp, hx⟩)
  have : p = q := rising_ext (h.rise p hp) (h.rise q hq) fun z => by
    constructor
    · intro hz
      obtain ⟨f, hf, rfl⟩ := (h.ids z).1 (List.mem_flatten.2 ⟨p, hp, hz⟩)
      exact (h.cls q hq e f he hf hy).2 ((h.cls p hp e f he hf hx).1 hz)
    · intro hz
      obtain ⟨f, hf, rfl⟩ := (h.ids z).1 (List.mem_flatten.2 ⟨q, hq, hz⟩)
      exact (h.cls p hp e f he hf hx).2 ((h.cls q hq e f he hf hy).1 hz)
  subst this; omega
theorem BlkList.len {es : List E} (hs : Sorted es) {ps : List (List Nat)} (h : BlkList es ps) : ps.flatten.length = es.length := by
  have hn : (es.map (·.id)).Nodup := by
    unfold List.Nodup
    rw [List.pairwise_map]
    exact List.Pairwise.imp (fun h => Nat.ne_of_lt h) hs
  have := ((List.perm_ext_iff_of_nodup h.nodup hn).2 fun x => by rw [h.ids, List.mem_map]).length_eq
  rw [this, List.length_map]
theorem BlkList.sep {es : List E} (hne : ∀ e, e ∈ es → e.a ≠ e.b) {ps : List (List Nat)} (h : BlkList es ps) {x : Nat} : Pl.Sep es x ↔ ∃ (c d : Nat) (p q : List Nat), c ≠ d ∧ ps[c]? = some p ∧ ps[d]? = some q ∧ TouchL es p x ∧ TouchL es q x := by
  rw [sep_iff hne]
  constructor
  · rintro ⟨e, f, he, hf, te, tf, hB⟩
    obtain ⟨p, hp, h1⟩ := List.mem_flatten.1 ((h.ids e.id).2 ⟨e, he, rfl⟩)
    obtain ⟨q, hq, h2⟩ := List.mem_flatten.1 ((h.ids f.id).2 ⟨f, hf, rfl⟩)
    obtain ⟨c, hc⟩ := List.mem_iff_getElem?.1 hp
    obtain ⟨d, hd⟩ := List.mem_iff_getElem?.1 hq
    refine ⟨c, d, p, q, ?_, hc, hd, ⟨e, he, h1, te⟩, ⟨f, hf, h2, tf⟩⟩
    rintro rfl
    rw [hc] at hd; cases hd
    exact hB ((h.cls p hp e f he hf h1).1 h2)
  · rintro ⟨c, d, p, q, hcd, hc, hd, ⟨e, he, h1, te⟩, ⟨f, hf, h2, tf⟩⟩
    refine ⟨e, f, he, hf, te, tf, fun hB => ?_⟩
    have hpm := List.mem_of_getElem? hc
    have i5 : f.id ∈ p := (h.cls p hpm e f he hf h1).2 hB
    have hn := h.nodup
    unfold List.Nodup at hn
    rw [List.pairwise_flatten] at hn
    have hd2 := hn.2
    rw [List.pairwise_iff_getElem] at hd2
    obtain ⟨l1, q1⟩ := List.getElem?_eq_some_iff.1 hc
    obtain ⟨l2, q2⟩ := List.getElem?_eq_some_iff.1 hd
    rcases Nat.lt_or_gt_of_ne hcd with hlt | hlt
    · exact hd2 c d l1 l2 hlt f.id (by rw [q1]; exact i5) f.id (by rw [q2]; exact h2) rfl
    · exact hd2 d c l2 l1 hlt f.id (by rw [q2]; exact h2) f.id (by rw [q1]; exact i5) rfl
theorem BlkList.lens {es : List E} (hs : Sorted es) {ps : List (List Nat)} (h : BlkList es ps) : ps.length ≤ es.length ∧ ∀ p, p ∈ ps → p.length ≤ es.length := by
  constructor
  · have h1 : (ps.map (fun p => p.headD 0)).Nodup := by
      unfold List.Nodup
      rw [List.pairwise_map]
      exact h.heads.imp fun {a b} h e => by omega
    have := len_le_of_mem h1 (k := es.map (·.id)) (fun i hi => by
      obtain ⟨p, hp, rfl⟩ := List.mem_map.1 hi
      have hm : p.headD 0 ∈ p := by
        cases p with
        | nil => exact absurd rfl (h.ne _ hp)
        | cons a l => exact List.mem_cons_self
      obtain ⟨e, he, hid⟩ := (h.ids _).1 (List.mem_flatten.2 ⟨p, hp, hm⟩)
      exact List.mem_map.2 ⟨e, he, hid⟩)
    simpa using this
  · intro p hp
    have h1 : p.Nodup := (h.rise p hp).imp fun h => Nat.ne_of_lt h
    have := len_le_of_mem h1 (k := es.map (·.id)) (fun i hi => by
      obtain ⟨e, he, hid⟩ := (h.ids i).1 (List.mem_flatten.2 ⟨p, hp, hi⟩)
      exact List.mem_map.2 ⟨e, he, hid⟩)
    simpa using this
end Go.Proofs.YtkpoobnldgfapabGreatDoor.Pl

