/- sets.New: the region that appends to three rows at once, whatever its order: the invariant. -/
import Derived.Test.YtkpoobnldgfapaaSets5
import Derived.Test.YtkpoobnldgfapaaInv
namespace Go.Proofs.Ytkpoobnldgfapaa
open Go.RowKit Pl

theorem eval_put {a : Act} {d t : Nat} {v : Value} (hd : d < a.tmps.size) : (a.put (some d) v).eval (.tmp t) = if t = d then v else a.eval (.tmp t) := by
  simp only [Act.eval, Act.put]
  by_cases h : t = d
  · subst h; simp [hd]
  · have : d ≠ t := fun e => h e.symm
    simp [h, Array.getElem?_setIfInBounds_ne this]

theorem Sl.mono' {F G : Nat → Prop} {w : World} {T : TypeId} {sz : Nat} {o : Option Addr} {n c : Nat} {l : List Value} (h : Sl F w T sz o n c l) (hG : ∀ k, k < w.heap.size → F k → G k) : Sl G w T sz o n c l :=
  ⟨h.own, fun a ha => hG _ (h.lt ha) (h.foot a ha)⟩

/-- One of the three rows: what it waits for is laid, the old row, the new one. -/
structure Ch (id bo ao sb sa k : Nat) (o : Option Addr) (c : Nat) (xs : List Value) (x : Value) (own : Nat → Nat) (done : Nat → Bool) (a : Act) (w : World) : Prop where
  tmp : done bo = true → done ao = false → ∃ blk, a.eval (.tmp sb) = .slice (some ⟨blk, 0, none⟩) 1 1 ∧ w.cell? ⟨blk, 0, none⟩ = some x ∧ own blk = 4
  old : done ao = false → Sl (fun j => own j = id) w 3 1 o k c xs
  new : done ao = true → ∃ g c', a.eval (.tmp sa) = .slice (some ⟨g, 0, none⟩) (k + 1) c' ∧ Sl (fun j => own j = id) w 3 1 (some ⟨g, 0, none⟩) (k + 1) c' (xs ++ [x])

theorem Ch.step {id bo ao sb sa k : Nat} {o : Option Addr} {c : Nat} {xs : List Value} {x : Value} {own own' : Nat → Nat} {done done' : Nat → Bool} {a a' : Act} {w w' : World} {G : Nat → Prop}
    (h : Ch id bo ao sb sa k o c xs x own done a w) (hb : a'.eval (.tmp sb) = a.eval (.tmp sb)) (ha : a'.eval (.tmp sa) = a.eval (.tmp sa)) (h1 : done' bo = done bo) (h2 : done' ao = done ao)
    (hk : Keep G w w') (hG : ∀ j, G j → own j ≠ id ∧ own j ≠ 4) (ho : ∀ j, j < w.heap.size → own' j = own j) : Ch id bo ao sb sa k o c xs x own' done' a' w' := by
  have sl : ∀ {o' : Option Addr} {n' c' : Nat} {l' : List Value}, Sl (fun j => own j = id) w 3 1 o' n' c' l' → Sl (fun j => own' j = id) w' 3 1 o' n' c' l' := fun hs =>
    (hs.mono' (G := fun j => own' j = id ∧ own j = id) (fun j hj e => ⟨by rw [ho j hj]; exact e, e⟩)).keep hk (fun j hj hg => (hG j hg).1 hj.2) |>.mono (fun j hj => hj.1)
  refine ⟨fun hbo hao => ?_, fun hao => sl (h.old (h2 ▸ hao)), fun hao => ?_⟩
  · obtain ⟨blk, e1, e2, e3⟩ := h.tmp (h1 ▸ hbo) (h2 ▸ hao)
    have hlt := World.block_lt_of_cell? w _ e2
    exact ⟨blk, by rw [hb]; exact e1, hk.cell e2 (fun hg => (hG blk hg).2 e3), by rw [ho blk hlt]; exact e3⟩
  · obtain ⟨g, c', e1, e2⟩ := h.new (h2 ▸ hao)
    exact ⟨g, c', by rw [ha]; exact e1, sl e2⟩

/-- The operations of New's region that only reckon or load: (place, slot, value). -/
def newTab (b k cu cs cl : Nat) (ou os ol : Option Addr) : List (Nat × Nat × Value) :=
  [(0, 20, .pointer (some ⟨b, 0, none⟩)), (1, 21, .pointer (some ⟨b, 0, none⟩)), (2, 22, .pointer (some ⟨b, 0, none⟩)), (3, 23, .pointer (some ⟨b, 0, none⟩)), (4, 24, .pointer (some ⟨b, 0, none⟩)), (5, 25, .pointer (some ⟨b, 0, none⟩)), (6, 26, .slice ou k cu), (7, 27, .int .i64 k),
   (10, 30, .pointer (some ⟨b, 0, none⟩)), (11, 31, .pointer (some ⟨b, 0, none⟩)), (12, 32, .pointer (some ⟨b, 1, none⟩)), (13, 33, .slice os k cs),
   (16, 36, .pointer (some ⟨b, 0, none⟩)), (17, 37, .pointer (some ⟨b, 0, none⟩)), (18, 38, .pointer (some ⟨b, 2, none⟩)), (19, 39, .slice ol k cl), (20, 40, .int .i64 k),
   (23, 43, .pointer (some ⟨b, 0, none⟩)), (24, 44, .pointer (some ⟨b, 0, none⟩)), (26, 45, .pointer (some ⟨b, 0, none⟩)), (27, 46, .pointer (some ⟨b, 1, none⟩)), (29, 47, .pointer (some ⟨b, 0, none⟩)), (30, 48, .pointer (some ⟨b, 2, none⟩))]

structure NI (lo b k n cu cs cl : Nat) (ou os ol : Option Addr) (wr : World) (a0 : Act) (done : Nat → Bool) (a : Act) (w : World) : Prop where
  sz : a.tmps.size = 51
  df : a.defers = []
  fr : ∀ t : Nat, t < 20 ∨ 49 ≤ t → a.eval (.tmp t) = a0.eval (.tmp t)
  tab : ∀ e ∈ newTab b k cu cs cl ou os ol, done e.1 = true → a.eval (.tmp e.2.1) = e.2.2
  keep : Keep (fun j => lo ≤ j) wr w
  mem : ∃ own : Nat → Nat, own b = 0 ∧ (∀ j, own j < 5 → lo ≤ j) ∧ (∀ j, w.heap.size ≤ j → own j = 5) ∧
    Row w b 77 [if done 25 then a.eval (.tmp 29) else .slice ou k cu, if done 28 then a.eval (.tmp 35) else .slice os k cs, if done 31 then a.eval (.tmp 42) else .slice ol k cl, .int .i64 n] ∧
    Ch 1 8 9 28 29 k ou cu (fints k fun x => x) (.int .i64 k) own done a w ∧ Ch 2 14 15 34 35 k os cs (fints k fun _ => 1) (.int .i64 1) own done a w ∧ Ch 3 21 22 41 42 k ol cl (fints k fun x => x) (.int .i64 k) own done a w

section
variable {lo b k n cu cs cl : Nat} {ou os ol : Option Addr} {wr : World} {a0 : Act} {done : Nat → Bool} {a : Act} {w : World}

/-- An operation that only reckons or loads has come up. -/
theorem NI.pure (h : NI lo b k n cu cs cl ou os ol wr a0 done a w) {i d : Nat} {v : Value} (hd : 20 ≤ d) (hd2 : d < 49) (hi : i ≠ 8 ∧ i ≠ 9 ∧ i ≠ 14 ∧ i ≠ 15 ∧ i ≠ 21 ∧ i ≠ 22 ∧ i ≠ 25 ∧ i ≠ 28 ∧ i ≠ 31)
    (hs : d ≠ 28 ∧ d ≠ 29 ∧ d ≠ 34 ∧ d ≠ 35 ∧ d ≠ 41 ∧ d ≠ 42) (hv : ∀ e ∈ newTab b k cu cs cl ou os ol, (e.1 = i ↔ e.2.1 = d) ∧ (e.1 = i → e.2.2 = v)) :
    NI lo b k n cu cs cl ou os ol wr a0 (upd done i true) (a.put (some d) v) w := by
  have hdz : d < a.tmps.size := by rw [h.sz]; omega
  have ev : ∀ t : Nat, t ≠ d → (a.put (some d) v).eval (.tmp t) = a.eval (.tmp t) := fun t ht => by rw [eval_put hdz, if_neg ht]
  have un : ∀ j, j ≠ i → upd done i true j = done j := fun j hj => upd_ne _ _ _ _ hj
  obtain ⟨own, o1, o2, o3, hrow, hU, hS, hL⟩ := h.mem
  refine ⟨by simp [Act.put, h.sz], by simp [Act.put, h.df], fun t ht => by rw [ev t (by omega)]; exact h.fr t ht, fun e he hdone => ?_, h.keep, own, o1, o2, o3, ?_, ?_, ?_, ?_⟩
  · by_cases e1 : e.1 = i
    · rw [((hv e he).1).1 e1, eval_put hdz, if_pos rfl, (hv e he).2 e1]
    · have e2 : e.2.1 ≠ d := fun e2 => e1 ((hv e he).1.2 e2)
      rw [ev _ e2]
      exact h.tab e he (by rw [un _ e1] at hdone; exact hdone)
  · rw [un 25 (by omega), un 28 (by omega), un 31 (by omega), ev 29 (by omega), ev 35 (by omega), ev 42 (by omega)]; exact hrow
  · exact hU.step (ev 28 (by omega)) (ev 29 (by omega)) (un 8 (by omega)) (un 9 (by omega)) (Keep.refl Nb w) (fun _ e => e.elim) (fun _ _ => rfl)
  · exact hS.step (ev 34 (by omega)) (ev 35 (by omega)) (un 14 (by omega)) (un 15 (by omega)) (Keep.refl Nb w) (fun _ e => e.elim) (fun _ _ => rfl)
  · exact hL.step (ev 41 (by omega)) (ev 42 (by omega)) (un 21 (by omega)) (un 22 (by omega)) (Keep.refl Nb w) (fun _ e => e.elim) (fun _ _ => rfl)

theorem Row.of_keep {F : Nat → Prop} {w w' : World} {b : Nat} {T : TypeId} {l : List Value} (h : Row w b T l) (hk : Keep F w w') (hn : ¬ F b) : Row w' b T l := h.keep hk hn

/-- A block of one number is laid for a row. -/
theorem NI.build (h : NI lo b k n cu cs cl ou os ol wr a0 done a w) (hlo : lo ≤ w.heap.size) {i d : Nat} {x : Value} (hid : (i = 8 ∧ d = 28 ∧ x = .int .i64 k) ∨ (i = 14 ∧ d = 34 ∧ x = .int .i64 1) ∨ (i = 21 ∧ d = 41 ∧ x = .int .i64 k))
    (hcl : done 9 = true → done 8 = true) (hcl2 : done 15 = true → done 14 = true) (hcl3 : done 22 = true → done 21 = true) (hi : done i = false) :
    NI lo b k n cu cs cl ou os ol wr a0 (upd done i true) (a.put (some d) (.slice (some ⟨w.heap.size, 0, none⟩) 1 1)) (w.alloc (.cells #[x] 3)) := by
  have hd2 : d < 51 := by omega
  have hdz : d < a.tmps.size := by rw [h.sz]; omega
  obtain ⟨v, hv⟩ : ∃ v, v = Value.slice (some ⟨w.heap.size, 0, none⟩) 1 1 := ⟨_, rfl⟩
  rw [← hv]
  have ev : ∀ t : Nat, t ≠ d → (a.put (some d) v).eval (.tmp t) = a.eval (.tmp t) := fun t ht => by rw [eval_put hdz, if_neg ht]
  have evd : (a.put (some d) v).eval (.tmp d) = v := by rw [eval_put hdz, if_pos rfl]
  have un : ∀ j, j ≠ i → upd done i true j = done j := fun j hj => upd_ne _ _ _ _ hj
  obtain ⟨own, o1, o2, o3, hrow, hU, hS, hL⟩ := h.mem
  have hk : Keep Nb w (w.alloc (.cells #[x] 3)) := (Keep.refl Nb w).alloc _
  have hcell : (w.alloc (.cells #[x] 3)).cell? ⟨w.heap.size, 0, none⟩ = some x := by rw [World.cell?_alloc_at _ _ _ _ rfl]; rfl
  have ho : ∀ j, j < w.heap.size → upd own w.heap.size 4 j = own j := fun j hj => upd_ne _ _ _ _ (by omega)
  have hblt := hrow.lt
  refine ⟨by simp [Act.put, h.sz], by simp [Act.put, h.df], fun t ht => by rw [ev t (by omega)]; exact h.fr t ht, fun e he hdone => ?_, h.keep.alloc _, upd own w.heap.size 4, ?_, fun j hj => ?_, fun j hj => ?_, ?_, ?_, ?_, ?_⟩
  · have e1 : e.1 ≠ i ∧ e.2.1 ≠ d := by
      rcases hid with ⟨rfl, rfl, _⟩ | ⟨rfl, rfl, _⟩ | ⟨rfl, rfl, _⟩ <;> (simp only [newTab, List.mem_cons, List.not_mem_nil, or_false] at he; rcases he with rfl | rfl | rfl | rfl | rfl | rfl | rfl | rfl | rfl | rfl | rfl | rfl | rfl | rfl | rfl | rfl | rfl | rfl | rfl | rfl | rfl | rfl | rfl <;> simp)
    rw [ev _ e1.2]
    exact h.tab e he (by rw [un _ e1.1] at hdone; exact hdone)
  · rw [ho b hblt]; exact o1
  · by_cases e : j = w.heap.size
    · omega
    · rw [upd_ne _ _ _ _ e] at hj; exact o2 j hj
  · simp at hj; rw [upd_ne _ _ _ _ (by omega)]; exact o3 j (by omega)
  · rw [un 25 (by omega), un 28 (by omega), un 31 (by omega), ev 29 (by omega), ev 35 (by omega), ev 42 (by omega)]; exact hrow.alloc _
  · by_cases e : i = 8
    · subst e
      obtain ⟨rfl, rfl⟩ : d = 28 ∧ x = .int .i64 k := by rcases hid with ⟨_, h1, h2⟩ | ⟨h, _⟩ | ⟨h, _⟩
                                                         · exact ⟨h1, h2⟩
                                                         · omega
                                                         · omega
      have h9 : done 9 = false := by cases hh : done 9 with
        | false => rfl
        | true => rw [hcl hh] at hi; cases hi
      refine ⟨fun _ _ => ⟨w.heap.size, by rw [evd, hv], hcell, upd_same _ _ _⟩, fun _ => ((hU.old h9).mono' (G := fun j => upd own w.heap.size 4 j = 1) (fun j hj e => by rw [ho j hj]; exact e)).alloc _, fun hh => ?_⟩
      rw [un 9 (by omega), h9] at hh; cases hh
    · exact hU.step (ev 28 (by omega)) (ev 29 (by omega)) (un 8 (by omega)) (un 9 (by omega)) hk (fun _ e => e.elim) ho
  · by_cases e : i = 14
    · subst e
      obtain ⟨rfl, rfl⟩ : d = 34 ∧ x = .int .i64 1 := by rcases hid with ⟨h, _⟩ | ⟨_, h1, h2⟩ | ⟨h, _⟩
                                                         · omega
                                                         · exact ⟨h1, h2⟩
                                                         · omega
      have h9 : done 15 = false := by cases hh : done 15 with
        | false => rfl
        | true => rw [hcl2 hh] at hi; cases hi
      refine ⟨fun _ _ => ⟨w.heap.size, by rw [evd, hv], hcell, upd_same _ _ _⟩, fun _ => ((hS.old h9).mono' (G := fun j => upd own w.heap.size 4 j = 2) (fun j hj e => by rw [ho j hj]; exact e)).alloc _, fun hh => ?_⟩
      rw [un 15 (by omega), h9] at hh; cases hh
    · exact hS.step (ev 34 (by omega)) (ev 35 (by omega)) (un 14 (by omega)) (un 15 (by omega)) hk (fun _ e => e.elim) ho
  · by_cases e : i = 21
    · subst e
      obtain ⟨rfl, rfl⟩ : d = 41 ∧ x = .int .i64 k := by rcases hid with ⟨h, _⟩ | ⟨h, _⟩ | ⟨_, h1, h2⟩
                                                         · omega
                                                         · omega
                                                         · exact ⟨h1, h2⟩
      have h9 : done 22 = false := by cases hh : done 22 with
        | false => rfl
        | true => rw [hcl3 hh] at hi; cases hi
      refine ⟨fun _ _ => ⟨w.heap.size, by rw [evd, hv], hcell, upd_same _ _ _⟩, fun _ => ((hL.old h9).mono' (G := fun j => upd own w.heap.size 4 j = 3) (fun j hj e => by rw [ho j hj]; exact e)).alloc _, fun hh => ?_⟩
      rw [un 22 (by omega), h9] at hh; cases hh
    · exact hL.step (ev 41 (by omega)) (ev 42 (by omega)) (un 21 (by omega)) (un 22 (by omega)) hk (fun _ e => e.elim) ho
/-- Row 1: the append. -/
theorem NI.append9 (h : NI lo b k n cu cs cl ou os ol wr a0 done a w) (hk40 : k ≤ 40) (hlo : lo ≤ w.heap.size) (hb : done 8 = true) (ha : done 9 = false) (hs : done 25 = false) (ty : TypeId) :
    ∃ vx v' w', a.eval (.tmp 28) = vx ∧ (Builtin.append_ #[37, 37] ty #[.slice ou k cu, vx]).run Try.prog w = .ok v' w' ∧
      NI lo b k n cu cs cl ou os ol wr a0 (upd done 9 true) (a.put (some 29) v') w' := by
  have hdz : 29 < a.tmps.size := by rw [h.sz]; omega
  have un : ∀ j, j ≠ 9 → upd done 9 true j = done j := fun j hj => upd_ne _ _ _ _ hj
  obtain ⟨own, o1, o2, o3, hrow, hU, hS, hL⟩ := h.mem
  obtain ⟨blk, e1, e2, e3⟩ := hU.tmp hb ha
  have hcell : ∀ (j : Nat) u, [((.int .i64 k) : Value)][j]? = some u → w.cell? ((⟨blk, 0, none⟩ : Addr).add j) = some u := by
    intro j u hj
    have : j = 0 := by
      have := (List.getElem?_eq_some_iff.1 hj).1
      simp at this; exact this
    subst this
    simp at hj; subst hj
    exact e2
  have hold := hU.old ha
  obtain ⟨g, c', w', h1, h2, h3, h4⟩ := run_app (P := Try.prog) 37 ty 3 Try.underlying37 elem_int rfl (by omega) hold ⟨blk, 0, none⟩ 1 1 [(.int .i64 k)] rfl hcell (by intro u hu; simp at hu; rw [hu]; rfl) (by simp only [maxLen]; omega) (by omega) (by omega)
  refine ⟨_, _, w', e1, h1, ?_⟩
  obtain ⟨v, hv⟩ : ∃ v, v = Value.slice (some ⟨g, 0, none⟩) (k + 1) c' := ⟨_, rfl⟩
  rw [← hv]
  have ev : ∀ t : Nat, t ≠ 29 → (a.put (some 29) v).eval (.tmp t) = a.eval (.tmp t) := fun t ht => by rw [eval_put hdz, if_neg ht]
  have evd : (a.put (some 29) v).eval (.tmp 29) = v := by rw [eval_put hdz, if_pos rfl]
  have hbl : ∀ j, Bl ou j → own j = 1 := by rintro j ⟨a', ha', rfl⟩; exact hold.foot a' ha'
  obtain ⟨own', hown'⟩ : ∃ own' : Nat → Nat, ∀ j, own' j = if w.heap.size ≤ j ∧ j < w'.heap.size then 1 else own j := ⟨fun j => if w.heap.size ≤ j ∧ j < w'.heap.size then 1 else own j, fun _ => rfl⟩
  have ho : ∀ j, j < w.heap.size → own' j = own j := fun j hj => by rw [hown', if_neg (by omega)]
  have hsz := h3.size
  refine ⟨by simp [Act.put, h.sz], by simp [Act.put, h.df], fun t ht => by rw [ev t (by omega)]; exact h.fr t ht, fun e he hdone => ?_, h.keep.trans' h3 (fun _ _ h => h) (fun j hj e => o2 j (by rw [hbl j e]; omega)), own', ?_, fun j hj => ?_, fun j hj => ?_, ?_, ?_, ?_, ?_⟩
  · have e1 : e.1 ≠ 9 ∧ e.2.1 ≠ 29 := by
      simp only [newTab, List.mem_cons, List.not_mem_nil, or_false] at he; rcases he with rfl | rfl | rfl | rfl | rfl | rfl | rfl | rfl | rfl | rfl | rfl | rfl | rfl | rfl | rfl | rfl | rfl | rfl | rfl | rfl | rfl | rfl | rfl <;> simp
    rw [ev _ e1.2]
    exact h.tab e he (by rw [un _ e1.1] at hdone; exact hdone)
  · rw [ho b hrow.lt]; exact o1
  · rw [hown'] at hj
    split at hj
    · omega
    · exact o2 j hj
  · rw [hown', if_neg (by omega)]; exact o3 j (by omega)
  · have hrow' := hrow.keep h3 (fun e => by have := hbl b e; omega)
    rw [un 25 (by omega), un 28 (by omega), un 31 (by omega)]
    rw [hs] at hrow' ⊢
    rw [ev 35 (by omega), ev 42 (by omega)]
    exact hrow'
  · refine ⟨fun _ hh => (by rw [upd_same] at hh; cases hh), fun hh => (by rw [upd_same] at hh; cases hh), fun _ => ⟨g, c', by rw [evd, hv], h2.mono' (fun j hj e => ?_)⟩⟩
    rcases e with e | e
    · rw [hown']
      split
      · rfl
      · exact e
    · rw [hown', if_pos (by omega)]
  · exact hS.step (ev 34 (by omega)) (ev 35 (by omega)) (un 14 (by omega)) (un 15 (by omega)) h3 (fun j e => by have := hbl j e; omega) ho
  · exact hL.step (ev 41 (by omega)) (ev 42 (by omega)) (un 21 (by omega)) (un 22 (by omega)) h3 (fun j e => by have := hbl j e; omega) ho

/-- Row 1: the store. -/
theorem NI.store25 (h : NI lo b k n cu cs cl ou os ol wr a0 done a w) (hs : done 25 = false) :
    NI lo b k n cu cs cl ou os ol wr a0 (upd done 25 true) a (w.setCell ⟨b, 0, none⟩ (a.eval (.tmp 29))) := by
  have un : ∀ j, j ≠ 25 → upd done 25 true j = done j := fun j hj => upd_ne _ _ _ _ hj
  obtain ⟨own, o1, o2, o3, hrow, hU, hS, hL⟩ := h.mem
  have hk : Keep (fun j => j = b) w (w.setCell ⟨b, 0, none⟩ (a.eval (.tmp 29))) := Keep.setCell (F := fun j => j = b) (p := ⟨b, 0, none⟩) (Keep.refl _ w) (.inl rfl) _
  refine ⟨h.sz, h.df, h.fr, fun e he hdone => ?_, h.keep.trans' hk (fun _ _ h => h) (fun j hj e => o2 j (by rw [e, o1]; omega)), own, o1, o2, fun j hj => o3 j (by simpa [World.setCell] using hj), ?_, ?_, ?_, ?_⟩
  · have e1 : e.1 ≠ 25 := by
      simp only [newTab, List.mem_cons, List.not_mem_nil, or_false] at he; rcases he with rfl | rfl | rfl | rfl | rfl | rfl | rfl | rfl | rfl | rfl | rfl | rfl | rfl | rfl | rfl | rfl | rfl | rfl | rfl | rfl | rfl | rfl | rfl <;> simp
    exact h.tab e he (by rw [un _ e1] at hdone; exact hdone)
  · have := hrow.set (i := 0) (by simp) (a.eval (.tmp 29))
    rw [un 28 (by omega), un 31 (by omega), upd_same]
    simpa using this
  · exact hU.step rfl rfl (un 8 (by omega)) (un 9 (by omega)) hk (fun j e => by rw [e, o1]; omega) (fun _ _ => rfl)
  · exact hS.step rfl rfl (un 14 (by omega)) (un 15 (by omega)) hk (fun j e => by rw [e, o1]; omega) (fun _ _ => rfl)
  · exact hL.step rfl rfl (un 21 (by omega)) (un 22 (by omega)) hk (fun j e => by rw [e, o1]; omega) (fun _ _ => rfl)

/-- Row 2: the append. -/
theorem NI.append15 (h : NI lo b k n cu cs cl ou os ol wr a0 done a w) (hk40 : k ≤ 40) (hlo : lo ≤ w.heap.size) (hb : done 14 = true) (ha : done 15 = false) (hs : done 28 = false) (ty : TypeId) :
    ∃ vx v' w', a.eval (.tmp 34) = vx ∧ (Builtin.append_ #[37, 37] ty #[.slice os k cs, vx]).run Try.prog w = .ok v' w' ∧
      NI lo b k n cu cs cl ou os ol wr a0 (upd done 15 true) (a.put (some 35) v') w' := by
  have hdz : 35 < a.tmps.size := by rw [h.sz]; omega
  have un : ∀ j, j ≠ 15 → upd done 15 true j = done j := fun j hj => upd_ne _ _ _ _ hj
  obtain ⟨own, o1, o2, o3, hrow, hU, hS, hL⟩ := h.mem
  obtain ⟨blk, e1, e2, e3⟩ := hS.tmp hb ha
  have hcell : ∀ (j : Nat) u, [((.int .i64 1) : Value)][j]? = some u → w.cell? ((⟨blk, 0, none⟩ : Addr).add j) = some u := by
    intro j u hj
    have : j = 0 := by
      have := (List.getElem?_eq_some_iff.1 hj).1
      simp at this; exact this
    subst this
    simp at hj; subst hj
    exact e2
  have hold := hS.old ha
  obtain ⟨g, c', w', h1, h2, h3, h4⟩ := run_app (P := Try.prog) 37 ty 3 Try.underlying37 elem_int rfl (by omega) hold ⟨blk, 0, none⟩ 1 1 [(.int .i64 1)] rfl hcell (by intro u hu; simp at hu; rw [hu]; rfl) (by simp only [maxLen]; omega) (by omega) (by omega)
  refine ⟨_, _, w', e1, h1, ?_⟩
  obtain ⟨v, hv⟩ : ∃ v, v = Value.slice (some ⟨g, 0, none⟩) (k + 1) c' := ⟨_, rfl⟩
  rw [← hv]
  have ev : ∀ t : Nat, t ≠ 35 → (a.put (some 35) v).eval (.tmp t) = a.eval (.tmp t) := fun t ht => by rw [eval_put hdz, if_neg ht]
  have evd : (a.put (some 35) v).eval (.tmp 35) = v := by rw [eval_put hdz, if_pos rfl]
  have hbl : ∀ j, Bl os j → own j = 2 := by rintro j ⟨a', ha', rfl⟩; exact hold.foot a' ha'
  obtain ⟨own', hown'⟩ : ∃ own' : Nat → Nat, ∀ j, own' j = if w.heap.size ≤ j ∧ j < w'.heap.size then 2 else own j := ⟨fun j => if w.heap.size ≤ j ∧ j < w'.heap.size then 2 else own j, fun _ => rfl⟩
  have ho : ∀ j, j < w.heap.size → own' j = own j := fun j hj => by rw [hown', if_neg (by omega)]
  have hsz := h3.size
  refine ⟨by simp [Act.put, h.sz], by simp [Act.put, h.df], fun t ht => by rw [ev t (by omega)]; exact h.fr t ht, fun e he hdone => ?_, h.keep.trans' h3 (fun _ _ h => h) (fun j hj e => o2 j (by rw [hbl j e]; omega)), own', ?_, fun j hj => ?_, fun j hj => ?_, ?_, ?_, ?_, ?_⟩
  · have e1 : e.1 ≠ 15 ∧ e.2.1 ≠ 35 := by
      simp only [newTab, List.mem_cons, List.not_mem_nil, or_false] at he; rcases he with rfl | rfl | rfl | rfl | rfl | rfl | rfl | rfl | rfl | rfl | rfl | rfl | rfl | rfl | rfl | rfl | rfl | rfl | rfl | rfl | rfl | rfl | rfl <;> simp
    rw [ev _ e1.2]
    exact h.tab e he (by rw [un _ e1.1] at hdone; exact hdone)
  · rw [ho b hrow.lt]; exact o1
  · rw [hown'] at hj
    split at hj
    · omega
    · exact o2 j hj
  · rw [hown', if_neg (by omega)]; exact o3 j (by omega)
  · have hrow' := hrow.keep h3 (fun e => by have := hbl b e; omega)
    rw [un 25 (by omega), un 28 (by omega), un 31 (by omega)]
    rw [hs] at hrow' ⊢
    rw [ev 29 (by omega), ev 42 (by omega)]
    exact hrow'
  · exact hU.step (ev 28 (by omega)) (ev 29 (by omega)) (un 8 (by omega)) (un 9 (by omega)) h3 (fun j e => by have := hbl j e; omega) ho
  · refine ⟨fun _ hh => (by rw [upd_same] at hh; cases hh), fun hh => (by rw [upd_same] at hh; cases hh), fun _ => ⟨g, c', by rw [evd, hv], h2.mono' (fun j hj e => ?_)⟩⟩
    rcases e with e | e
    · rw [hown']
      split
      · rfl
      · exact e
    · rw [hown', if_pos (by omega)]
  · exact hL.step (ev 41 (by omega)) (ev 42 (by omega)) (un 21 (by omega)) (un 22 (by omega)) h3 (fun j e => by have := hbl j e; omega) ho

/-- Row 2: the store. -/
theorem NI.store28 (h : NI lo b k n cu cs cl ou os ol wr a0 done a w) (hs : done 28 = false) :
    NI lo b k n cu cs cl ou os ol wr a0 (upd done 28 true) a (w.setCell ⟨b, 1, none⟩ (a.eval (.tmp 35))) := by
  have un : ∀ j, j ≠ 28 → upd done 28 true j = done j := fun j hj => upd_ne _ _ _ _ hj
  obtain ⟨own, o1, o2, o3, hrow, hU, hS, hL⟩ := h.mem
  have hk : Keep (fun j => j = b) w (w.setCell ⟨b, 1, none⟩ (a.eval (.tmp 35))) := Keep.setCell (F := fun j => j = b) (p := ⟨b, 1, none⟩) (Keep.refl _ w) (.inl rfl) _
  refine ⟨h.sz, h.df, h.fr, fun e he hdone => ?_, h.keep.trans' hk (fun _ _ h => h) (fun j hj e => o2 j (by rw [e, o1]; omega)), own, o1, o2, fun j hj => o3 j (by simpa [World.setCell] using hj), ?_, ?_, ?_, ?_⟩
  · have e1 : e.1 ≠ 28 := by
      simp only [newTab, List.mem_cons, List.not_mem_nil, or_false] at he; rcases he with rfl | rfl | rfl | rfl | rfl | rfl | rfl | rfl | rfl | rfl | rfl | rfl | rfl | rfl | rfl | rfl | rfl | rfl | rfl | rfl | rfl | rfl | rfl <;> simp
    exact h.tab e he (by rw [un _ e1] at hdone; exact hdone)
  · have := hrow.set (i := 1) (by simp) (a.eval (.tmp 35))
    rw [un 25 (by omega), un 31 (by omega), upd_same]
    simpa using this
  · exact hU.step rfl rfl (un 8 (by omega)) (un 9 (by omega)) hk (fun j e => by rw [e, o1]; omega) (fun _ _ => rfl)
  · exact hS.step rfl rfl (un 14 (by omega)) (un 15 (by omega)) hk (fun j e => by rw [e, o1]; omega) (fun _ _ => rfl)
  · exact hL.step rfl rfl (un 21 (by omega)) (un 22 (by omega)) hk (fun j e => by rw [e, o1]; omega) (fun _ _ => rfl)

/-- Row 3: the append. -/
theorem NI.append22 (h : NI lo b k n cu cs cl ou os ol wr a0 done a w) (hk40 : k ≤ 40) (hlo : lo ≤ w.heap.size) (hb : done 21 = true) (ha : done 22 = false) (hs : done 31 = false) (ty : TypeId) :
    ∃ vx v' w', a.eval (.tmp 41) = vx ∧ (Builtin.append_ #[37, 37] ty #[.slice ol k cl, vx]).run Try.prog w = .ok v' w' ∧
      NI lo b k n cu cs cl ou os ol wr a0 (upd done 22 true) (a.put (some 42) v') w' := by
  have hdz : 42 < a.tmps.size := by rw [h.sz]; omega
  have un : ∀ j, j ≠ 22 → upd done 22 true j = done j := fun j hj => upd_ne _ _ _ _ hj
  obtain ⟨own, o1, o2, o3, hrow, hU, hS, hL⟩ := h.mem
  obtain ⟨blk, e1, e2, e3⟩ := hL.tmp hb ha
  have hcell : ∀ (j : Nat) u, [((.int .i64 k) : Value)][j]? = some u → w.cell? ((⟨blk, 0, none⟩ : Addr).add j) = some u := by
    intro j u hj
    have : j = 0 := by
      have := (List.getElem?_eq_some_iff.1 hj).1
      simp at this; exact this
    subst this
    simp at hj; subst hj
    exact e2
  have hold := hL.old ha
  obtain ⟨g, c', w', h1, h2, h3, h4⟩ := run_app (P := Try.prog) 37 ty 3 Try.underlying37 elem_int rfl (by omega) hold ⟨blk, 0, none⟩ 1 1 [(.int .i64 k)] rfl hcell (by intro u hu; simp at hu; rw [hu]; rfl) (by simp only [maxLen]; omega) (by omega) (by omega)
  refine ⟨_, _, w', e1, h1, ?_⟩
  obtain ⟨v, hv⟩ : ∃ v, v = Value.slice (some ⟨g, 0, none⟩) (k + 1) c' := ⟨_, rfl⟩
  rw [← hv]
  have ev : ∀ t : Nat, t ≠ 42 → (a.put (some 42) v).eval (.tmp t) = a.eval (.tmp t) := fun t ht => by rw [eval_put hdz, if_neg ht]
  have evd : (a.put (some 42) v).eval (.tmp 42) = v := by rw [eval_put hdz, if_pos rfl]
  have hbl : ∀ j, Bl ol j → own j = 3 := by rintro j ⟨a', ha', rfl⟩; exact hold.foot a' ha'
  obtain ⟨own', hown'⟩ : ∃ own' : Nat → Nat, ∀ j, own' j = if w.heap.size ≤ j ∧ j < w'.heap.size then 3 else own j := ⟨fun j => if w.heap.size ≤ j ∧ j < w'.heap.size then 3 else own j, fun _ => rfl⟩
  have ho : ∀ j, j < w.heap.size → own' j = own j := fun j hj => by rw [hown', if_neg (by omega)]
  have hsz := h3.size
  refine ⟨by simp [Act.put, h.sz], by simp [Act.put, h.df], fun t ht => by rw [ev t (by omega)]; exact h.fr t ht, fun e he hdone => ?_, h.keep.trans' h3 (fun _ _ h => h) (fun j hj e => o2 j (by rw [hbl j e]; omega)), own', ?_, fun j hj => ?_, fun j hj => ?_, ?_, ?_, ?_, ?_⟩
  · have e1 : e.1 ≠ 22 ∧ e.2.1 ≠ 42 := by
      simp only [newTab, List.mem_cons, List.not_mem_nil, or_false] at he; rcases he with rfl | rfl | rfl | rfl | rfl | rfl | rfl | rfl | rfl | rfl | rfl | rfl | rfl | rfl | rfl | rfl | rfl | rfl | rfl | rfl | rfl | rfl | rfl <;> simp
    rw [ev _ e1.2]
    exact h.tab e he (by rw [un _ e1.1] at hdone; exact hdone)
  · rw [ho b hrow.lt]; exact o1
  · rw [hown'] at hj
    split at hj
    · omega
    · exact o2 j hj
  · rw [hown', if_neg (by omega)]; exact o3 j (by omega)
  · have hrow' := hrow.keep h3 (fun e => by have := hbl b e; omega)
    rw [un 25 (by omega), un 28 (by omega), un 31 (by omega)]
    rw [hs] at hrow' ⊢
    rw [ev 29 (by omega), ev 35 (by omega)]
    exact hrow'
  · exact hU.step (ev 28 (by omega)) (ev 29 (by omega)) (un 8 (by omega)) (un 9 (by omega)) h3 (fun j e => by have := hbl j e; omega) ho
  · exact hS.step (ev 34 (by omega)) (ev 35 (by omega)) (un 14 (by omega)) (un 15 (by omega)) h3 (fun j e => by have := hbl j e; omega) ho
  · refine ⟨fun _ hh => (by rw [upd_same] at hh; cases hh), fun hh => (by rw [upd_same] at hh; cases hh), fun _ => ⟨g, c', by rw [evd, hv], h2.mono' (fun j hj e => ?_)⟩⟩
    rcases e with e | e
    · rw [hown']
      split
      · rfl
      · exact e
    · rw [hown', if_pos (by omega)]

/-- Row 3: the store. -/
theorem NI.store31 (h : NI lo b k n cu cs cl ou os ol wr a0 done a w) (hs : done 31 = false) :
    NI lo b k n cu cs cl ou os ol wr a0 (upd done 31 true) a (w.setCell ⟨b, 2, none⟩ (a.eval (.tmp 42))) := by
  have un : ∀ j, j ≠ 31 → upd done 31 true j = done j := fun j hj => upd_ne _ _ _ _ hj
  obtain ⟨own, o1, o2, o3, hrow, hU, hS, hL⟩ := h.mem
  have hk : Keep (fun j => j = b) w (w.setCell ⟨b, 2, none⟩ (a.eval (.tmp 42))) := Keep.setCell (F := fun j => j = b) (p := ⟨b, 2, none⟩) (Keep.refl _ w) (.inl rfl) _
  refine ⟨h.sz, h.df, h.fr, fun e he hdone => ?_, h.keep.trans' hk (fun _ _ h => h) (fun j hj e => o2 j (by rw [e, o1]; omega)), own, o1, o2, fun j hj => o3 j (by simpa [World.setCell] using hj), ?_, ?_, ?_, ?_⟩
  · have e1 : e.1 ≠ 31 := by
      simp only [newTab, List.mem_cons, List.not_mem_nil, or_false] at he; rcases he with rfl | rfl | rfl | rfl | rfl | rfl | rfl | rfl | rfl | rfl | rfl | rfl | rfl | rfl | rfl | rfl | rfl | rfl | rfl | rfl | rfl | rfl | rfl <;> simp
    exact h.tab e he (by rw [un _ e1] at hdone; exact hdone)
  · have := hrow.set (i := 2) (by simp) (a.eval (.tmp 42))
    rw [un 25 (by omega), un 28 (by omega), upd_same]
    simpa using this
  · exact hU.step rfl rfl (un 8 (by omega)) (un 9 (by omega)) hk (fun j e => by rw [e, o1]; omega) (fun _ _ => rfl)
  · exact hS.step rfl rfl (un 14 (by omega)) (un 15 (by omega)) hk (fun j e => by rw [e, o1]; omega) (fun _ _ => rfl)
  · exact hL.step rfl rfl (un 21 (by omega)) (un 22 (by omega)) hk (fun j e => by rw [e, o1]; omega) (fun _ _ => rfl)

end
end Go.Proofs.Ytkpoobnldgfapaa
