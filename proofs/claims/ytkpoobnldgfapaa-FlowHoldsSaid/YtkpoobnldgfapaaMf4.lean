/- Merged by a program of mine: Inv New1 New2 New3 Graph1 Graph2 Graph3 Copy Graph4 Graph5. -/
import Derived.Test.YtkpoobnldgfapaaMf1
import Derived.Test.YtkpoobnldgfapaaMf2
import Derived.Test.YtkpoobnldgfapaaMf3
import Derived.Orders
import Derived.Test.YtkpoobnldgfapaaProg
import Derived.Deep.LoopGhost
import Derived.WalkArith
import Derived.Shelf.Spec.SlicesInsert
import Derived.Lib.AppendZerosOnto
/- A region that draws its order, walked by an invariant: each operation once. Nothing of one program stands here. -/
namespace Go.Proofs.Ytkpoobnldgfapaa
open Go.RowKit

/-- What has come up is closed under what it waits for. -/
def Closed (ops : Array Oper) (done : Nat → Bool) : Prop := ∀ (j : Nat) o, ops[j]? = some o → done j = true → ∀ e ∈ o.after.toList, Region.binds .any e = true → done e.on = true

/-- Each operation waits for earlier ones alone. -/
def Ordered (ops : Array Oper) : Bool := (List.range ops.size).all fun i => ((ops[i]?).map fun o => o.after.toList.all fun e => !Region.binds .any e || decide (e.on < i)).getD true

theorem Ordered.spec {ops : Array Oper} (h : Ordered ops = true) {i : Nat} {o : Oper} (ho : ops[i]? = some o) : ∀ e ∈ o.after.toList, Region.binds .any e = true → e.on < i := by
  intro e he hb
  have hi : i < ops.size := (Array.getElem?_eq_some_iff.1 ho).1
  unfold Ordered at h
  rw [List.all_eq_true] at h
  have := h i (List.mem_range.2 hi)
  rw [ho] at this
  simp only [Option.map_some, Option.getD_some, List.all_eq_true] at this
  have := this e he
  simp [hb] at this
  exact this

theorem wpAny_inv {P : Program} {ops : Array Oper} {Q : Exit → Act → World → Prop} (hord : Ordered ops = true) (I : (Nat → Bool) → Act → World → Prop)
    (hstep : ∀ (done : Nat → Bool) (a : Act) (w : World) (i : Nat) (o : Oper), ops[i]? = some o → done i = false → (∀ e ∈ o.after.toList, Region.binds .any e = true → done e.on = true) → Closed ops done → I done a w →
      ∀ K : Act → World → Prop, (∀ a' w', I (Pl.upd done i true) a' w' → K a' w') → if Region.wanted o (yielded ops a.tmps) = true then o.wp P a w K Q else K (a.put o.dst undef) w)
    (hend : ∀ (done : Nat → Bool) (a : Act) (w : World), (∀ i, i < ops.size → done i = true) → I done a w → Q .normal a w) :
    ∀ (fuel : Nat) (listed : Array Bool) (a : Act) (w : World), listed.size = ops.size → Pl.cnt ops.size (fun i => !listed.getD i false) = fuel → Closed ops (fun i => listed.getD i false) → I (fun i => listed.getD i false) a w → wpAny P .any ops Q fuel listed a w := by
  intro fuel
  induction fuel with
  | zero =>
    intro listed a w hs hc hcl hI
    have hall : ∀ i, i < ops.size → listed.getD i false = true := by
      intro i hi
      cases hb : listed.getD i false with
      | true => rfl
      | false =>
        have := Pl.cnt_lt_of (p := fun i => !listed.getD i false) hi (by simp [hb])
        omega
    have hr : Region.ready .any ops listed = [] := by
      unfold Region.ready
      rw [List.filter_eq_nil_iff]
      intro i hi hh
      have hi' := List.mem_range.1 hi
      have := hall i hi'
      have e : listed.getD i true = true := by
        rw [Array.getD_eq_getD_getElem?] at this ⊢
        rw [Array.getElem?_eq_getElem (by omega)] at this ⊢
        simpa using this
      simp [e] at hh
    exact ⟨hr, hend _ a w hall hI⟩
  | succ fuel ih =>
    intro listed a w hs hc hcl hI
    have hgd : ∀ i, i < ops.size → listed.getD i true = listed.getD i false := by
      intro i hi
      rw [Array.getD_eq_getD_getElem?, Array.getD_eq_getD_getElem?, Array.getElem?_eq_getElem (by omega)]; rfl
    refine ⟨fun hr => ?_, fun i hi => ?_⟩
    · -- something is undone: the least such is ready
      exfalso
      have hex : ∃ i, i < ops.size ∧ listed.getD i false = false := by
        apply Classical.byContradiction
        intro hn
        have : Pl.cnt ops.size (fun i => !listed.getD i false) = Pl.cnt ops.size (fun _ => false) := Pl.cnt_congr fun i hi => by
          cases hb : listed.getD i false with
          | true => rfl
          | false => exact absurd ⟨i, hi, hb⟩ hn
        rw [this] at hc
        simp [Pl.cnt] at hc
      obtain ⟨i, hi, hmin⟩ : ∃ i, (i < ops.size ∧ listed.getD i false = false) ∧ ∀ j, j < i → ¬ (j < ops.size ∧ listed.getD j false = false) := by
        obtain ⟨i, hi⟩ := hex
        induction i using Nat.strongRecOn with
        | _ i ih2 =>
          by_cases h : ∃ j, j < i ∧ (j < ops.size ∧ listed.getD j false = false)
          · obtain ⟨j, hj, hjj⟩ := h
            exact ih2 j hj hjj
          · exact ⟨i, hi, fun j hj hh => h ⟨j, hj, hh⟩⟩
      have hmem : i ∈ Region.ready .any ops listed := by
        unfold Region.ready
        rw [List.mem_filter]
        refine ⟨List.mem_range.2 hi.1, ?_⟩
        have ho : ops[i]? = some ops[i] := Array.getElem?_eq_getElem hi.1
        rw [hgd i hi.1, hi.2, ho]
        simp only [Bool.not_false, Option.map_some, Option.getD_some, Bool.true_and]
        rw [← Array.all_toList, List.all_eq_true]
        intro e he
        cases hb : Region.binds .any e with
        | false => rfl
        | true =>
          have hlt := Ordered.spec hord ho e he hb
          cases hd : listed.getD e.on false with
          | true => rfl
          | false => exact absurd ⟨Nat.lt_trans hlt hi.1, hd⟩ (hmin _ hlt)
      rw [hr] at hmem
      cases hmem
    · unfold Region.ready at hi
      rw [List.mem_filter] at hi
      obtain ⟨hi1, hi2⟩ := hi
      have hi1' := List.mem_range.1 hi1
      have ho : ops[i]? = some ops[i] := Array.getElem?_eq_getElem hi1'
      rw [ho] at hi2
      simp only [Option.map_some, Option.getD_some, Bool.and_eq_true, Bool.not_eq_true'] at hi2
      obtain ⟨hu, hdeps⟩ := hi2
      rw [hgd i hi1'] at hu
      have hdeps' : ∀ e ∈ (ops[i]).after.toList, Region.binds .any e = true → listed.getD e.on false = true := by
        intro e he hb
        rw [← Array.all_toList, List.all_eq_true] at hdeps
        have := hdeps e he
        simpa [hb] using this
      have hupd : (fun j => (listed.setIfInBounds i true).getD j false) = Pl.upd (fun j => listed.getD j false) i true := by
        funext j
        unfold Pl.upd
        rw [Array.getD_eq_getD_getElem?, Array.getElem?_setIfInBounds]
        by_cases e : j = i
        · subst e
          rw [if_pos rfl, if_pos rfl, if_pos (by omega)]; rfl
        · rw [if_neg (fun h => e h.symm), if_neg e]; simp [Array.getD_eq_getD_getElem?]
      refine wpOp_step ho fun K hK => hstep _ a w i _ ho hu hdeps' hcl hI K fun a' w' hI' => hK a' w' ?_
      refine ih _ a' w' (by simpa using hs) ?_ ?_ ?_
      · have h1 := Pl.cnt_remove (n := ops.size) (p := fun j => !listed.getD j false) (q := fun j => !(listed.setIfInBounds i true).getD j false) hi1' (by simp [hu]) (fun j hj => by
          have := congrFun hupd j
          rw [show (listed.setIfInBounds i true).getD j false = Pl.upd (fun j => listed.getD j false) i true j from this]
          unfold Pl.upd
          by_cases e : j = i <;> simp [e])
        omega
      · rw [hupd]
        intro j oj hoj hj e he hb
        unfold Pl.upd at hj ⊢
        by_cases e1 : e.on = i
        · simp [e1]
        · rw [if_neg e1]
          by_cases e2 : j = i
          · subst e2
            rw [ho] at hoj
            cases hoj
            exact hdeps' e he hb
          · rw [if_neg e2] at hj
            exact hcl j oj hoj hj e he hb
      · rw [hupd]; exact hI'

theorem wp_region_inv {P : Program} {ops : Array Oper} {Q : Exit → Act → World → Prop} {id : Nat} {a : Act} {w : World} (hm : P.follows .mixedOrders = true) (hord : Ordered ops = true) (I : (Nat → Bool) → Act → World → Prop)
    (h0 : I (fun _ => false) a w.drew)
    (hstep : ∀ (done : Nat → Bool) (a : Act) (w : World) (i : Nat) (o : Oper), ops[i]? = some o → done i = false → (∀ e ∈ o.after.toList, Region.binds .any e = true → done e.on = true) → Closed ops done → I done a w →
      ∀ K : Act → World → Prop, (∀ a' w', I (Pl.upd done i true) a' w' → K a' w') → if Region.wanted o (yielded ops a.tmps) = true then o.wp P a w K Q else K (a.put o.dst undef) w)
    (hend : ∀ (done : Nat → Bool) (a : Act) (w : World), (∀ i, i < ops.size → done i = true) → I done a w → Q .normal a w) :
    (Code.region id ops true).wp P Q a w := by
  have e0 : (fun i => (Array.replicate ops.size false).getD i false) = (fun _ => false) := by
    funext i
    rw [Array.getD_eq_getD_getElem?, Array.getElem?_replicate]; split <;> rfl
  refine wp_region_any hm (wpAny_inv hord I hstep hend ops.size _ a _ (by simp) ?_ ?_ ?_)
  · have : Pl.cnt ops.size (fun i => !(Array.replicate ops.size false).getD i false) = Pl.cnt ops.size (fun _ => true) := Pl.cnt_congr fun i _ => by rw [congrFun e0 i]; rfl
    rw [this]; simp [Pl.cnt]
  · rw [e0]; intro j o _ h; cases h
  · rw [e0]; exact h0

end Go.Proofs.Ytkpoobnldgfapaa

/- sets.New: the region that appends to three rows at once, whatever its order: the invariant. -/
namespace Go.Proofs.Ytkpoobnldgfapaa
open Go.RowKit Pl

theorem eval_put {a : Act} {d t : Nat} {v : Value} (hd : d < a.tmps.size) : (a.put (some d) v).eval (.tmp t) = if t = d then v else a.eval (.tmp t) := by
  simp only [Act.eval, Act.put]
  by_cases h : t = d
  · subst h; simp [hd]
  · have : d ≠ t := fun e => h e.symm
    simp [h, Array.getElem?_setIfInBounds_ne this]

theorem Sl.mono' {F G : Nat → Prop} {w : World} {T : TypeId} {sz : Nat} {o : Option Addr} {n c : Nat} {l : List Value} (h : Sl F w T sz o n c l) (hG : ∀ k, k < w.heap.size → F k → G k) : Sl G w T sz o n c l :=
  ⟨h.own, fun a ha => hG _ (h.lt ha) (h.foot a ha)⟩

/-- One of the three rows: what it waits for is laid, the old row, the new one. -/
structure Ch (id bo ao sb sa k : Nat) (o : Option Addr) (c : Nat) (xs : List Value) (x : Value) (own : Nat → Nat) (done : Nat → Bool) (a : Act) (w : World) : Prop where
  tmp : done bo = true → done ao = false → ∃ blk, a.eval (.tmp sb) = .slice (some ⟨blk, 0, none⟩) 1 1 ∧ w.cell? ⟨blk, 0, none⟩ = some x ∧ own blk = 4
  old : done ao = false → Sl (fun j => own j = id) w 3 1 o k c xs
  new : done ao = true → ∃ g c', a.eval (.tmp sa) = .slice (some ⟨g, 0, none⟩) (k + 1) c' ∧ Sl (fun j => own j = id) w 3 1 (some ⟨g, 0, none⟩) (k + 1) c' (xs ++ [x])

theorem Ch.step {id bo ao sb sa k : Nat} {o : Option Addr} {c : Nat} {xs : List Value} {x : Value} {own own' : Nat → Nat} {done done' : Nat → Bool} {a a' : Act} {w w' : World} {G : Nat → Prop}
    (h : Ch id bo ao sb sa k o c xs x own done a w) (hb : a'.eval (.tmp sb) = a.eval (.tmp sb)) (ha : a'.eval (.tmp sa) = a.eval (.tmp sa)) (h1 : done' bo = done bo) (h2 : done' ao = done ao)
    (hk : Keep G w w') (hG : ∀ j, G j → own j ≠ id ∧ own j ≠ 4) (ho : ∀ j, j < w.heap.size → own' j = own j) : Ch id bo ao sb sa k o c xs x own' done' a' w' := by
  have sl : ∀ {o' : Option Addr} {n' c' : Nat} {l' : List Value}, Sl (fun j => own j = id) w 3 1 o' n' c' l' → Sl (fun j => own' j = id) w' 3 1 o' n' c' l' := fun hs =>
    (hs.mono' (G := fun j => own' j = id ∧ own j = id) (fun j hj e => ⟨by rw [ho j hj]; exact e, e⟩)).keep hk (fun j hj hg => (hG j hg).1 hj.2) |>.mono (fun j hj => hj.1)
  refine ⟨fun hbo hao => ?_, fun hao => sl (h.old (h2 ▸ hao)), fun hao => ?_⟩
  · obtain ⟨blk, e1, e2, e3⟩ := h.tmp (h1 ▸ hbo) (h2 ▸ hao)
    have hlt := World.block_lt_of_cell? w _ e2
    exact ⟨blk, by rw [hb]; exact e1, hk.cell e2 (fun hg => (hG blk hg).2 e3), by rw [ho blk hlt]; exact e3⟩
  · obtain ⟨g, c', e1, e2⟩ := h.new (h2 ▸ hao)
    exact ⟨g, c', by rw [ha]; exact e1, sl e2⟩

/-- The operations of New's region that only reckon or load: (place, slot, value). -/
def newTab (b k cu cs cl : Nat) (ou os ol : Option Addr) : List (Nat × Nat × Value) :=
  [(0, 20, .pointer (some ⟨b, 0, none⟩)), (1, 21, .pointer (some ⟨b, 0, none⟩)), (2, 22, .pointer (some ⟨b, 0, none⟩)), (3, 23, .pointer (some ⟨b, 0, none⟩)), (4, 24, .pointer (some ⟨b, 0, none⟩)), (5, 25, .pointer (some ⟨b, 0, none⟩)), (6, 26, .slice ou k cu), (7, 27, .int .i64 k),
   (10, 30, .pointer (some ⟨b, 0, none⟩)), (11, 31, .pointer (some ⟨b, 0, none⟩)), (12, 32, .pointer (some ⟨b, 1, none⟩)), (13, 33, .slice os k cs),
   (16, 36, .pointer (some ⟨b, 0, none⟩)), (17, 37, .pointer (some ⟨b, 0, none⟩)), (18, 38, .pointer (some ⟨b, 2, none⟩)), (19, 39, .slice ol k cl), (20, 40, .int .i64 k),
   (23, 43, .pointer (some ⟨b, 0, none⟩)), (24, 44, .pointer (some ⟨b, 0, none⟩)), (26, 45, .pointer (some ⟨b, 0, none⟩)), (27, 46, .pointer (some ⟨b, 1, none⟩)), (29, 47, .pointer (some ⟨b, 0, none⟩)), (30, 48, .pointer (some ⟨b, 2, none⟩))]

structure NI (lo b k n cu cs cl : Nat) (ou os ol : Option Addr) (wr : World) (a0 : Act) (done : Nat → Bool) (a : Act) (w : World) : Prop where
  sz : a.tmps.size = 51
  df : a.defers = []
  fr : ∀ t : Nat, t < 20 ∨ 49 ≤ t → a.eval (.tmp t) = a0.eval (.tmp t)
  tab : ∀ e ∈ newTab b k cu cs cl ou os ol, done e.1 = true → a.eval (.tmp e.2.1) = e.2.2
  keep : Keep (fun j => lo ≤ j) wr w
  mem : ∃ own : Nat → Nat, own b = 0 ∧ (∀ j, own j < 5 → lo ≤ j) ∧ (∀ j, w.heap.size ≤ j → own j = 5) ∧
    Row w b 77 [if done 25 then a.eval (.tmp 29) else .slice ou k cu, if done 28 then a.eval (.tmp 35) else .slice os k cs, if done 31 then a.eval (.tmp 42) else .slice ol k cl, .int .i64 n] ∧
    Ch 1 8 9 28 29 k ou cu (fints k fun x => x) (.int .i64 k) own done a w ∧ Ch 2 14 15 34 35 k os cs (fints k fun _ => 1) (.int .i64 1) own done a w ∧ Ch 3 21 22 41 42 k ol cl (fints k fun x => x) (.int .i64 k) own done a w

section
variable {lo b k n cu cs cl : Nat} {ou os ol : Option Addr} {wr : World} {a0 : Act} {done : Nat → Bool} {a : Act} {w : World}

/-- An operation that only reckons or loads has come up. -/
theorem NI.pure (h : NI lo b k n cu cs cl ou os ol wr a0 done a w) {i d : Nat} {v : Value} (hd : 20 ≤ d) (hd2 : d < 49) (hi : i ≠ 8 ∧ i ≠ 9 ∧ i ≠ 14 ∧ i ≠ 15 ∧ i ≠ 21 ∧ i ≠ 22 ∧ i ≠ 25 ∧ i ≠ 28 ∧ i ≠ 31)
    (hs : d ≠ 28 ∧ d ≠ 29 ∧ d ≠ 34 ∧ d ≠ 35 ∧ d ≠ 41 ∧ d ≠ 42) (hv : ∀ e ∈ newTab b k cu cs cl ou os ol, (e.1 = i ↔ e.2.1 = d) ∧ (e.1 = i → e.2.2 = v)) :
    NI lo b k n cu cs cl ou os ol wr a0 (upd done i true) (a.put (some d) v) w := by
  have hdz : d < a.tmps.size := by rw [h.sz]; omega
  have ev : ∀ t : Nat, t ≠ d → (a.put (some d) v).eval (.tmp t) = a.eval (.tmp t) := fun t ht => by rw [eval_put hdz, if_neg ht]
  have un : ∀ j, j ≠ i → upd done i true j = done j := fun j hj => upd_ne _ _ _ _ hj
  obtain ⟨own, o1, o2, o3, hrow, hU, hS, hL⟩ := h.mem
  refine ⟨by simp [Act.put, h.sz], by simp [Act.put, h.df], fun t ht => by rw [ev t (by omega)]; exact h.fr t ht, fun e he hdone => ?_, h.keep, own, o1, o2, o3, ?_, ?_, ?_, ?_⟩
  · by_cases e1 : e.1 = i
    · rw [((hv e he).1).1 e1, eval_put hdz, if_pos rfl, (hv e he).2 e1]
    · have e2 : e.2.1 ≠ d := fun e2 => e1 ((hv e he).1.2 e2)
      rw [ev _ e2]
      exact h.tab e he (by rw [un _ e1] at hdone; exact hdone)
  · rw [un 25 (by omega), un 28 (by omega), un 31 (by omega), ev 29 (by omega), ev 35 (by omega), ev 42 (by omega)]; exact hrow
  · exact hU.step (ev 28 (by omega)) (ev 29 (by omega)) (un 8 (by omega)) (un 9 (by omega)) (Keep.refl Nb w) (fun _ e => e.elim) (fun _ _ => rfl)
  · exact hS.step (ev 34 (by omega)) (ev 35 (by omega)) (un 14 (by omega)) (un 15 (by omega)) (Keep.refl Nb w) (fun _ e => e.elim) (fun _ _ => rfl)
  · exact hL.step (ev 41 (by omega)) (ev 42 (by omega)) (un 21 (by omega)) (un 22 (by omega)) (Keep.refl Nb w) (fun _ e => e.elim) (fun _ _ => rfl)

theorem Row.of_keep {F : Nat → Prop} {w w' : World} {b : Nat} {T : TypeId} {l : List Value} (h : Row w b T l) (hk : Keep F w w') (hn : ¬ F b) : Row w' b T l := h.keep hk hn

/-- A block of one number is laid for a row. -/
theorem NI.build (h : NI lo b k n cu cs cl ou os ol wr a0 done a w) (hlo : lo ≤ w.heap.size) {i d : Nat} {x : Value} (hid : (i = 8 ∧ d = 28 ∧ x = .int .i64 k) ∨ (i = 14 ∧ d = 34 ∧ x = .int .i64 1) ∨ (i = 21 ∧ d = 41 ∧ x = .int .i64 k))
    (hcl : done 9 = true → done 8 = true) (hcl2 : done 15 = true → done 14 = true) (hcl3 : done 22 = true → done 21 = true) (hi : done i = false) :
    NI lo b k n cu cs cl ou os ol wr a0 (upd done i true) (a.put (some d) (.slice (some ⟨w.heap.size, 0, none⟩) 1 1)) (w.alloc (.cells #[x] 3)) := by
  have hd2 : d < 51 := by omega
  have hdz : d < a.tmps.size := by rw [h.sz]; omega
  obtain ⟨v, hv⟩ : ∃ v, v = Value.slice (some ⟨w.heap.size, 0, none⟩) 1 1 := ⟨_, rfl⟩
  rw [← hv]
  have ev : ∀ t : Nat, t ≠ d → (a.put (some d) v).eval (.tmp t) = a.eval (.tmp t) := fun t ht => by rw [eval_put hdz, if_neg ht]
  have evd : (a.put (some d) v).eval (.tmp d) = v := by rw [eval_put hdz, if_pos rfl]
  have un : ∀ j, j ≠ i → upd done i true j = done j := fun j hj => upd_ne _ _ _ _ hj
  obtain ⟨own, o1, o2, o3, hrow, hU, hS, hL⟩ := h.mem
  have hk : Keep Nb w (w.alloc (.cells #[x] 3)) := (Keep.refl Nb w).alloc _
  have hcell : (w.alloc (.cells #[x] 3)).cell? ⟨w.heap.size, 0, none⟩ = some x := by rw [World.cell?_alloc_at _ _ _ _ rfl]; rfl
  have ho : ∀ j, j < w.heap.size → upd own w.heap.size 4 j = own j := fun j hj => upd_ne _ _ _ _ (by omega)
  have hblt := hrow.lt
  refine ⟨by simp [Act.put, h.sz], by simp [Act.put, h.df], fun t ht => by rw [ev t (by omega)]; exact h.fr t ht, fun e he hdone => ?_, h.keep.alloc _, upd own w.heap.size 4, ?_, fun j hj => ?_, fun j hj => ?_, ?_, ?_, ?_, ?_⟩
  · have e1 : e.1 ≠ i ∧ e.2.1 ≠ d := by
      rcases hid with ⟨rfl, rfl, _⟩ | ⟨rfl, rfl, _⟩ | ⟨rfl, rfl, _⟩ <;> (simp only [newTab, List.mem_cons, List.not_mem_nil, or_false] at he; rcases he with rfl | rfl | rfl | rfl | rfl | rfl | rfl | rfl | rfl | rfl | rfl | rfl | rfl | rfl | rfl | rfl | rfl | rfl | rfl | rfl | rfl | rfl | rfl <;> simp)
    rw [ev _ e1.2]
    exact h.tab e he (by rw [un _ e1.1] at hdone; exact hdone)
  · rw [ho b hblt]; exact o1
  · by_cases e : j = w.heap.size
    · omega
    · rw [upd_ne _ _ _ _ e] at hj; exact o2 j hj
  · simp at hj; rw [upd_ne _ _ _ _ (by omega)]; exact o3 j (by omega)
  · rw [un 25 (by omega), un 28 (by omega), un 31 (by omega), ev 29 (by omega), ev 35 (by omega), ev 42 (by omega)]; exact hrow.alloc _
  · by_cases e : i = 8
    · subst e
      obtain ⟨rfl, rfl⟩ : d = 28 ∧ x = .int .i64 k := by rcases hid with ⟨_, h1, h2⟩ | ⟨h, _⟩ | ⟨h, _⟩
                                                         · exact ⟨h1, h2⟩
                                                         · omega
                                                         · omega
      have h9 : done 9 = false := by cases hh : done 9 with
        | false => rfl
        | true => rw [hcl hh] at hi; cases hi
      refine ⟨fun _ _ => ⟨w.heap.size, by rw [evd, hv], hcell, upd_same _ _ _⟩, fun _ => ((hU.old h9).mono' (G := fun j => upd own w.heap.size 4 j = 1) (fun j hj e => by rw [ho j hj]; exact e)).alloc _, fun hh => ?_⟩
      rw [un 9 (by omega), h9] at hh; cases hh
    · exact hU.step (ev 28 (by omega)) (ev 29 (by omega)) (un 8 (by omega)) (un 9 (by omega)) hk (fun _ e => e.elim) ho
  · by_cases e : i = 14
    · subst e
      obtain ⟨rfl, rfl⟩ : d = 34 ∧ x = .int .i64 1 := by rcases hid with ⟨h, _⟩ | ⟨_, h1, h2⟩ | ⟨h, _⟩
                                                         · omega
                                                         · exact ⟨h1, h2⟩
                                                         · omega
      have h9 : done 15 = false := by cases hh : done 15 with
        | false => rfl
        | true => rw [hcl2 hh] at hi; cases hi
      refine ⟨fun _ _ => ⟨w.heap.size, by rw [evd, hv], hcell, upd_same _ _ _⟩, fun _ => ((hS.old h9).mono' (G := fun j => upd own w.heap.size 4 j = 2) (fun j hj e => by rw [ho j hj]; exact e)).alloc _, fun hh => ?_⟩
      rw [un 15 (by omega), h9] at hh; cases hh
    · exact hS.step (ev 34 (by omega)) (ev 35 (by omega)) (un 14 (by omega)) (un 15 (by omega)) hk (fun _ e => e.elim) ho
  · by_cases e : i = 21
    · subst e
      obtain ⟨rfl, rfl⟩ : d = 41 ∧ x = .int .i64 k := by rcases hid with ⟨h, _⟩ | ⟨h, _⟩ | ⟨_, h1, h2⟩
                                                         · omega
                                                         · omega
                                                         · exact ⟨h1, h2⟩
      have h9 : done 22 = false := by cases hh : done 22 with
        | false => rfl
        | true => rw [hcl3 hh] at hi; cases hi
      refine ⟨fun _ _ => ⟨w.heap.size, by rw [evd, hv], hcell, upd_same _ _ _⟩, fun _ => ((hL.old h9).mono' (G := fun j => upd own w.heap.size 4 j = 3) (fun j hj e => by rw [ho j hj]; exact e)).alloc _, fun hh => ?_⟩
      rw [un 22 (by omega), h9] at hh; cases hh
    · exact hL.step (ev 41 (by omega)) (ev 42 (by omega)) (un 21 (by omega)) (un 22 (by omega)) hk (fun _ e => e.elim) ho
/-- Row 1: the append. -/
theorem NI.append9 (h : NI lo b k n cu cs cl ou os ol wr a0 done a w) (hk40 : k ≤ 40) (hlo : lo ≤ w.heap.size) (hb : done 8 = true) (ha : done 9 = false) (hs : done 25 = false) (ty : TypeId) :
    ∃ vx v' w', a.eval (.tmp 28) = vx ∧ (Builtin.append_ #[37, 37] ty #[.slice ou k cu, vx]).run Try.prog w = .ok v' w' ∧
      NI lo b k n cu cs cl ou os ol wr a0 (upd done 9 true) (a.put (some 29) v') w' := by
  have hdz : 29 < a.tmps.size := by rw [h.sz]; omega
  have un : ∀ j, j ≠ 9 → upd done 9 true j = done j := fun j hj => upd_ne _ _ _ _ hj
  obtain ⟨own, o1, o2, o3, hrow, hU, hS, hL⟩ := h.mem
  obtain ⟨blk, e1, e2, e3⟩ := hU.tmp hb ha
  have hcell : ∀ (j : Nat) u, [((.int .i64 k) : Value)][j]? = some u → w.cell? ((⟨blk, 0, none⟩ : Addr).add j) = some u := by
    intro j u hj
    have : j = 0 := by
      have := (List.getElem?_eq_some_iff.1 hj).1
      simp at this; exact this
    subst this
    simp at hj; subst hj
    exact e2
  have hold := hU.old ha
  obtain ⟨g, c', w', h1, h2, h3, h4⟩ := run_app (P := Try.prog) 37 ty 3 Try.underlying37 elem_int rfl (by omega) hold ⟨blk, 0, none⟩ 1 1 [(.int .i64 k)] rfl hcell (by intro u hu; simp at hu; rw [hu]; rfl) (by simp only [maxLen]; omega) (by omega) (by omega)
  refine ⟨_, _, w', e1, h1, ?_⟩
  obtain ⟨v, hv⟩ : ∃ v, v = Value.slice (some ⟨g, 0, none⟩) (k + 1) c' := ⟨_, rfl⟩
  rw [← hv]
  have ev : ∀ t : Nat, t ≠ 29 → (a.put (some 29) v).eval (.tmp t) = a.eval (.tmp t) := fun t ht => by rw [eval_put hdz, if_neg ht]
  have evd : (a.put (some 29) v).eval (.tmp 29) = v := by rw [eval_put hdz, if_pos rfl]
  have hbl : ∀ j, Bl ou j → own j = 1 := by rintro j ⟨a', ha', rfl⟩; exact hold.foot a' ha'
  obtain ⟨own', hown'⟩ : ∃ own' : Nat → Nat, ∀ j, own' j = if w.heap.size ≤ j ∧ j < w'.heap.size then 1 else own j := ⟨fun j => if w.heap.size ≤ j ∧ j < w'.heap.size then 1 else own j, fun _ => rfl⟩
  have ho : ∀ j, j < w.heap.size → own' j = own j := fun j hj => by rw [hown', if_neg (by omega)]
  have hsz := h3.size
  refine ⟨by simp [Act.put, h.sz], by simp [Act.put, h.df], fun t ht => by rw [ev t (by omega)]; exact h.fr t ht, fun e he hdone => ?_, h.keep.trans' h3 (fun _ _ h => h) (fun j hj e => o2 j (by rw [hbl j e]; omega)), own', ?_, fun j hj => ?_, fun j hj => ?_, ?_, ?_, ?_, ?_⟩
  · have e1 : e.1 ≠ 9 ∧ e.2.1 ≠ 29 := by
      simp only [newTab, List.mem_cons, List.not_mem_nil, or_false] at he; rcases he with rfl | rfl | rfl | rfl | rfl | rfl | rfl | rfl | rfl | rfl | rfl | rfl | rfl | rfl | rfl | rfl | rfl | rfl | rfl | rfl | rfl | rfl | rfl <;> simp
    rw [ev _ e1.2]
    exact h.tab e he (by rw [un _ e1.1] at hdone; exact hdone)
  · rw [ho b hrow.lt]; exact o1
  · rw [hown'] at hj
    split at hj
    · omega
    · exact o2 j hj
  · rw [hown', if_neg (by omega)]; exact o3 j (by omega)
  · have hrow' := hrow.keep h3 (fun e => by have := hbl b e; omega)
    rw [un 25 (by omega), un 28 (by omega), un 31 (by omega)]
    rw [hs] at hrow' ⊢
    rw [ev 35 (by omega), ev 42 (by omega)]
    exact hrow'
  · refine ⟨fun _ hh => (by rw [upd_same] at hh; cases hh), fun hh => (by rw [upd_same] at hh; cases hh), fun _ => ⟨g, c', by rw [evd, hv], h2.mono' (fun j hj e => ?_)⟩⟩
    rcases e with e | e
    · rw [hown']
      split
      · rfl
      · exact e
    · rw [hown', if_pos (by omega)]
  · exact hS.step (ev 34 (by omega)) (ev 35 (by omega)) (un 14 (by omega)) (un 15 (by omega)) h3 (fun j e => by have := hbl j e; omega) ho
  · exact hL.step (ev 41 (by omega)) (ev 42 (by omega)) (un 21 (by omega)) (un 22 (by omega)) h3 (fun j e => by have := hbl j e; omega) ho

/-- Row 1: the store. -/
theorem NI.store25 (h : NI lo b k n cu cs cl ou os ol wr a0 done a w) (hs : done 25 = false) :
    NI lo b k n cu cs cl ou os ol wr a0 (upd done 25 true) a (w.setCell ⟨b, 0, none⟩ (a.eval (.tmp 29))) := by
  have un : ∀ j, j ≠ 25 → upd done 25 true j = done j := fun j hj => upd_ne _ _ _ _ hj
  obtain ⟨own, o1, o2, o3, hrow, hU, hS, hL⟩ := h.mem
  have hk : Keep (fun j => j = b) w (w.setCell ⟨b, 0, none⟩ (a.eval (.tmp 29))) := Keep.setCell (F := fun j => j = b) (p := ⟨b, 0, none⟩) (Keep.refl _ w) (.inl rfl) _
  refine ⟨h.sz, h.df, h.fr, fun e he hdone => ?_, h.keep.trans' hk (fun _ _ h => h) (fun j hj e => o2 j (by rw [e, o1]; omega)), own, o1, o2, fun j hj => o3 j (by simpa [World.setCell] using hj), ?_, ?_, ?_, ?_⟩
  · have e1 : e.1 ≠ 25 := by
      simp only [newTab, List.mem_cons, List.not_mem_nil, or_false] at he; rcases he with rfl | rfl | rfl | rfl | rfl | rfl | rfl | rfl | rfl | rfl | rfl | rfl | rfl | rfl | rfl | rfl | rfl | rfl | rfl | rfl | rfl | rfl | rfl <;> simp
    exact h.tab e he (by rw [un _ e1] at hdone; exact hdone)
  · have := hrow.set (i := 0) (by simp) (a.eval (.tmp 29))
    rw [un 28 (by omega), un 31 (by omega), upd_same]
    simpa using this
  · exact hU.step rfl rfl (un 8 (by omega)) (un 9 (by omega)) hk (fun j e => by rw [e, o1]; omega) (fun _ _ => rfl)
  · exact hS.step rfl rfl (un 14 (by omega)) (un 15 (by omega)) hk (fun j e => by rw [e, o1]; omega) (fun _ _ => rfl)
  · exact hL.step rfl rfl (un 21 (by omega)) (un 22 (by omega)) hk (fun j e => by rw [e, o1]; omega) (fun _ _ => rfl)

/-- Row 2: the append. -/
theorem NI.append15 (h : NI lo b k n cu cs cl ou os ol wr a0 done a w) (hk40 : k ≤ 40) (hlo : lo ≤ w.heap.size) (hb : done 14 = true) (ha : done 15 = false) (hs : done 28 = false) (ty : TypeId) :
    ∃ vx v' w', a.eval (.tmp 34) = vx ∧ (Builtin.append_ #[37, 37] ty #[.slice os k cs, vx]).run Try.prog w = .ok v' w' ∧
      NI lo b k n cu cs cl ou os ol wr a0 (upd done 15 true) (a.put (some 35) v') w' := by
  have hdz : 35 < a.tmps.size := by rw [h.sz]; omega
  have un : ∀ j, j ≠ 15 → upd done 15 true j = done j := fun j hj => upd_ne _ _ _ _ hj
  obtain ⟨own, o1, o2, o3, hrow, hU, hS, hL⟩ := h.mem
  obtain ⟨blk, e1, e2, e3⟩ := hS.tmp hb ha
  have hcell : ∀ (j : Nat) u, [((.int .i64 1) : Value)][j]? = some u → w.cell? ((⟨blk, 0, none⟩ : Addr).add j) = some u := by
    intro j u hj
    have : j = 0 := by
      have := (List.getElem?_eq_some_iff.1 hj).1
      simp at this; exact this
    subst this
    simp at hj; subst hj
    exact e2
  have hold := hS.old ha
  obtain ⟨g, c', w', h1, h2, h3, h4⟩ := run_app (P := Try.prog) 37 ty 3 Try.underlying37 elem_int rfl (by omega) hold ⟨blk, 0, none⟩ 1 1 [(.int .i64 1)] rfl hcell (by intro u hu; simp at hu; rw [hu]; rfl) (by simp only [maxLen]; omega) (by omega) (by omega)
  refine ⟨_, _, w', e1, h1, ?_⟩
  obtain ⟨v, hv⟩ : ∃ v, v = Value.slice (some ⟨g, 0, none⟩) (k + 1) c' := ⟨_, rfl⟩
  rw [← hv]
  have ev : ∀ t : Nat, t ≠ 35 → (a.put (some 35) v).eval (.tmp t) = a.eval (.tmp t) := fun t ht => by rw [eval_put hdz, if_neg ht]
  have evd : (a.put (some 35) v).eval (.tmp 35) = v := by rw [eval_put hdz, if_pos rfl]
  have hbl : ∀ j, Bl os j → own j = 2 := by rintro j ⟨a', ha', rfl⟩; exact hold.foot a' ha'
  obtain ⟨own', hown'⟩ : ∃ own' : Nat → Nat, ∀ j, own' j = if w.heap.size ≤ j ∧ j < w'.heap.size then 2 else own j := ⟨fun j => if w.heap.size ≤ j ∧ j < w'.heap.size then 2 else own j, fun _ => rfl⟩
  have ho : ∀ j, j < w.heap.size → own' j = own j := fun j hj => by rw [hown', if_neg (by omega)]
  have hsz := h3.size
  refine ⟨by simp [Act.put, h.sz], by simp [Act.put, h.df], fun t ht => by rw [ev t (by omega)]; exact h.fr t ht, fun e he hdone => ?_, h.keep.trans' h3 (fun _ _ h => h) (fun j hj e => o2 j (by rw [hbl j e]; omega)), own', ?_, fun j hj => ?_, fun j hj => ?_, ?_, ?_, ?_, ?_⟩
  · have e1 : e.1 ≠ 15 ∧ e.2.1 ≠ 35 := by
      simp only [newTab, List.mem_cons, List.not_mem_nil, or_false] at he; rcases he with rfl | rfl | rfl | rfl | rfl | rfl | rfl | rfl | rfl | rfl | rfl | rfl | rfl | rfl | rfl | rfl | rfl | rfl | rfl | rfl | rfl | rfl | rfl <;> simp
    rw [ev _ e1.2]
    exact h.tab e he (by rw [un _ e1.1] at hdone; exact hdone)
  · rw [ho b hrow.lt]; exact o1
  · rw [hown'] at hj
    split at hj
    · omega
    · exact o2 j hj
  · rw [hown', if_neg (by omega)]; exact o3 j (by omega)
  · have hrow' := hrow.keep h3 (fun e => by have := hbl b e; omega)
    rw [un 25 (by omega), un 28 (by omega), un 31 (by omega)]
    rw [hs] at hrow' ⊢
    rw [ev 29 (by omega), ev 42 (by omega)]
    exact hrow'
  · exact hU.step (ev 28 (by omega)) (ev 29 (by omega)) (un 8 (by omega)) (un 9 (by omega)) h3 (fun j e => by have := hbl j e; omega) ho
  · refine ⟨fun _ hh => (by rw [upd_same] at hh; cases hh), fun hh => (by rw [upd_same] at hh; cases hh), fun _ => ⟨g, c', by rw [evd, hv], h2.mono' (fun j hj e => ?_)⟩⟩
    rcases e with e | e
    · rw [hown']
      split
      · rfl
      · exact e
    · rw [hown', if_pos (by omega)]
  · exact hL.step (ev 41 (by omega)) (ev 42 (by omega)) (un 21 (by omega)) (un 22 (by omega)) h3 (fun j e => by have := hbl j e; omega) ho

/-- Row 2: the store. -/
theorem NI.store28 (h : NI lo b k n cu cs cl ou os ol wr a0 done a w) (hs : done 28 = false) :
    NI lo b k n cu cs cl ou os ol wr a0 (upd done 28 true) a (w.setCell ⟨b, 1, none⟩ (a.eval (.tmp 35))) := by
  have un : ∀ j, j ≠ 28 → upd done 28 true j = done j := fun j hj => upd_ne _ _ _ _ hj
  obtain ⟨own, o1, o2, o3, hrow, hU, hS, hL⟩ := h.mem
  have hk : Keep (fun j => j = b) w (w.setCell ⟨b, 1, none⟩ (a.eval (.tmp 35))) := Keep.setCell (F := fun j => j = b) (p := ⟨b, 1, none⟩) (Keep.refl _ w) (.inl rfl) _
  refine ⟨h.sz, h.df, h.fr, fun e he hdone => ?_, h.keep.trans' hk (fun _ _ h => h) (fun j hj e => o2 j (by rw [e, o1]; omega)), own, o1, o2, fun j hj => o3 j (by simpa [World.setCell] using hj), ?_, ?_, ?_, ?_⟩
  · have e1 : e.1 ≠ 28 := by
      simp only [newTab, List.mem_cons, List.not_mem_nil, or_false] at he; rcases he with rfl | rfl | rfl | rfl | rfl | rfl | rfl | rfl | rfl | rfl | rfl | rfl | rfl | rfl | rfl | rfl | rfl | rfl | rfl | rfl | rfl | rfl | rfl <;> simp
    exact h.tab e he (by rw [un _ e1] at hdone; exact hdone)
  · have := hrow.set (i := 1) (by simp) (a.eval (.tmp 35))
    rw [un 25 (by omega), un 31 (by omega), upd_same]
    simpa using this
  · exact hU.step rfl rfl (un 8 (by omega)) (un 9 (by omega)) hk (fun j e => by rw [e, o1]; omega) (fun _ _ => rfl)
  · exact hS.step rfl rfl (un 14 (by omega)) (un 15 (by omega)) hk (fun j e => by rw [e, o1]; omega) (fun _ _ => rfl)
  · exact hL.step rfl rfl (un 21 (by omega)) (un 22 (by omega)) hk (fun j e => by rw [e, o1]; omega) (fun _ _ => rfl)

/-- Row 3: the append. -/
theorem NI.append22 (h : NI lo b k n cu cs cl ou os ol wr a0 done a w) (hk40 : k ≤ 40) (hlo : lo ≤ w.heap.size) (hb : done 21 = true) (ha : done 22 = false) (hs : done 31 = false) (ty : TypeId) :
    ∃ vx v' w', a.eval (.tmp 41) = vx ∧ (Builtin.append_ #[37, 37] ty #[.slice ol k cl, vx]).run Try.prog w = .ok v' w' ∧
      NI lo b k n cu cs cl ou os ol wr a0 (upd done 22 true) (a.put (some 42) v') w' := by
  have hdz : 42 < a.tmps.size := by rw [h.sz]; omega
  have un : ∀ j, j ≠ 22 → upd done 22 true j = done j := fun j hj => upd_ne _ _ _ _ hj
  obtain ⟨own, o1, o2, o3, hrow, hU, hS, hL⟩ := h.mem
  obtain ⟨blk, e1, e2, e3⟩ := hL.tmp hb ha
  have hcell : ∀ (j : Nat) u, [((.int .i64 k) : Value)][j]? = some u → w.cell? ((⟨blk, 0, none⟩ : Addr).add j) = some u := by
    intro j u hj
    have : j = 0 := by
      have := (List.getElem?_eq_some_iff.1 hj).1
      simp at this; exact this
    subst this
    simp at hj; subst hj
    exact e2
  have hold := hL.old ha
  obtain ⟨g, c', w', h1, h2, h3, h4⟩ := run_app (P := Try.prog) 37 ty 3 Try.underlying37 elem_int rfl (by omega) hold ⟨blk, 0, none⟩ 1 1 [(.int .i64 k)] rfl hcell (by intro u hu; simp at hu; rw [hu]; rfl) (by simp only [maxLen]; omega) (by omega) (by omega)
  refine ⟨_, _, w', e1, h1, ?_⟩
  obtain ⟨v, hv⟩ : ∃ v, v = Value.slice (some ⟨g, 0, none⟩) (k + 1) c' := ⟨_, rfl⟩
  rw [← hv]
  have ev : ∀ t : Nat, t ≠ 42 → (a.put (some 42) v).eval (.tmp t) = a.eval (.tmp t) := fun t ht => by rw [eval_put hdz, if_neg ht]
  have evd : (a.put (some 42) v).eval (.tmp 42) = v := by rw [eval_put hdz, if_pos rfl]
  have hbl : ∀ j, Bl ol j → own j = 3 := by rintro j ⟨a', ha', rfl⟩; exact hold.foot a' ha'
  obtain ⟨own', hown'⟩ : ∃ own' : Nat → Nat, ∀ j, own' j = if w.heap.size ≤ j ∧ j < w'.heap.size then 3 else own j := ⟨fun j => if w.heap.size ≤ j ∧ j < w'.heap.size then 3 else own j, fun _ => rfl⟩
  have ho : ∀ j, j < w.heap.size → own' j = own j := fun j hj => by rw [hown', if_neg (by omega)]
  have hsz := h3.size
  refine ⟨by simp [Act.put, h.sz], by simp [Act.put, h.df], fun t ht => by rw [ev t (by omega)]; exact h.fr t ht, fun e he hdone => ?_, h.keep.trans' h3 (fun _ _ h => h) (fun j hj e => o2 j (by rw [hbl j e]; omega)), own', ?_, fun j hj => ?_, fun j hj => ?_, ?_, ?_, ?_, ?_⟩
  · have e1 : e.1 ≠ 22 ∧ e.2.1 ≠ 42 := by
      simp only [newTab, List.mem_cons, List.not_mem_nil, or_false] at he; rcases he with rfl | rfl | rfl | rfl | rfl | rfl | rfl | rfl | rfl | rfl | rfl | rfl | rfl | rfl | rfl | rfl | rfl | rfl | rfl | rfl | rfl | rfl | rfl <;> simp
    rw [ev _ e1.2]
    exact h.tab e he (by rw [un _ e1.1] at hdone; exact hdone)
  · rw [ho b hrow.lt]; exact o1
  · rw [hown'] at hj
    split at hj
    · omega
    · exact o2 j hj
  · rw [hown', if_neg (by omega)]; exact o3 j (by omega)
  · have hrow' := hrow.keep h3 (fun e => by have := hbl b e; omega)
    rw [un 25 (by omega), un 28 (by omega), un 31 (by omega)]
    rw [hs] at hrow' ⊢
    rw [ev 29 (by omega), ev 35 (by omega)]
    exact hrow'
  · exact hU.step (ev 28 (by omega)) (ev 29 (by omega)) (un 8 (by omega)) (un 9 (by omega)) h3 (fun j e => by have := hbl j e; omega) ho
  · exact hS.step (ev 34 (by omega)) (ev 35 (by omega)) (un 14 (by omega)) (un 15 (by omega)) h3 (fun j e => by have := hbl j e; omega) ho
  · refine ⟨fun _ hh => (by rw [upd_same] at hh; cases hh), fun hh => (by rw [upd_same] at hh; cases hh), fun _ => ⟨g, c', by rw [evd, hv], h2.mono' (fun j hj e => ?_)⟩⟩
    rcases e with e | e
    · rw [hown']
      split
      · rfl
      · exact e
    · rw [hown', if_pos (by omega)]

/-- Row 3: the store. -/
theorem NI.store31 (h : NI lo b k n cu cs cl ou os ol wr a0 done a w) (hs : done 31 = false) :
    NI lo b k n cu cs cl ou os ol wr a0 (upd done 31 true) a (w.setCell ⟨b, 2, none⟩ (a.eval (.tmp 42))) := by
  have un : ∀ j, j ≠ 31 → upd done 31 true j = done j := fun j hj => upd_ne _ _ _ _ hj
  obtain ⟨own, o1, o2, o3, hrow, hU, hS, hL⟩ := h.mem
  have hk : Keep (fun j => j = b) w (w.setCell ⟨b, 2, none⟩ (a.eval (.tmp 42))) := Keep.setCell (F := fun j => j = b) (p := ⟨b, 2, none⟩) (Keep.refl _ w) (.inl rfl) _
  refine ⟨h.sz, h.df, h.fr, fun e he hdone => ?_, h.keep.trans' hk (fun _ _ h => h) (fun j hj e => o2 j (by rw [e, o1]; omega)), own, o1, o2, fun j hj => o3 j (by simpa [World.setCell] using hj), ?_, ?_, ?_, ?_⟩
  · have e1 : e.1 ≠ 31 := by
      simp only [newTab, List.mem_cons, List.not_mem_nil, or_false] at he; rcases he with rfl | rfl | rfl | rfl | rfl | rfl | rfl | rfl | rfl | rfl | rfl | rfl | rfl | rfl | rfl | rfl | rfl | rfl | rfl | rfl | rfl | rfl | rfl <;> simp
    exact h.tab e he (by rw [un _ e1] at hdone; exact hdone)
  · have := hrow.set (i := 2) (by simp) (a.eval (.tmp 42))
    rw [un 25 (by omega), un 28 (by omega), upd_same]
    simpa using this
  · exact hU.step rfl rfl (un 8 (by omega)) (un 9 (by omega)) hk (fun j e => by rw [e, o1]; omega) (fun _ _ => rfl)
  · exact hS.step rfl rfl (un 14 (by omega)) (un 15 (by omega)) hk (fun j e => by rw [e, o1]; omega) (fun _ _ => rfl)
  · exact hL.step rfl rfl (un 21 (by omega)) (un 22 (by omega)) hk (fun j e => by rw [e, o1]; omega) (fun _ _ => rfl)

end
end Go.Proofs.Ytkpoobnldgfapaa

/- sets.New. -/
namespace Go.Proofs.Ytkpoobnldgfapaa
open Go.RowKit Pl

theorem step_value {P : Program} {ops : Array Oper} {K : Act → World → Prop} {Q : Exit → Act → World → Prop} {E : Prop} {o : Oper} {a : Act} {w w' : World} {v : Value} (hg : o.guard = none)
    (hrun : (execOp a.eval o).run P w = .ok (.value v) w') (h : K (a.put o.dst v) w') : if Region.wanted o (yielded ops a.tmps) = true then o.wp P a w K Q else E := by
  rw [if_pos (by simp [Region.wanted, hg])]
  unfold Oper.wp
  rw [hrun]
  exact h

theorem step_skip {P : Program} {ops : Array Oper} {K : Act → World → Prop} {Q : Exit → Act → World → Prop} {E : Prop} {o : Oper} {a : Act} {w w' : World} (hg : o.guard = none) (hd : o.dst = none)
    (hrun : (execOp a.eval o).run P w = .ok .skip w') (h : K a w') : if Region.wanted o (yielded ops a.tmps) = true then o.wp P a w K Q else E := by
  rw [if_pos (by simp [Region.wanted, hg])]
  unfold Oper.wp
  rw [hrun]
  show K (a.put o.dst undef) w'
  rw [hd]; exact h

section
variable (P : Program) (w : World) (ev : Operand → Value)
theorem run_move {o : Oper} {x : Operand} {v : Value} (ho : o.op = .move x) (hx : ev x = v) : (execOp ev o).run P w = .ok (.value v) w := by
  simp [execOp, ho, hx]
theorem run_nilCheck {o : Oper} {x : Operand} {a : Addr} (ho : o.op = .nilCheck x) (hx : ev x = .pointer (some a)) : (execOp ev o).run P w = .ok (.value (.pointer (some a))) w := by
  simp [execOp, ho, hx, go_sem]
end

section
variable (w : World) (ev : Operand → Value)
theorem run_field0 {o : Oper} {x : Operand} {b : Nat} (ho : o.op = .fieldAddr 77 x 0) (hx : ev x = .pointer (some ⟨b, 0, none⟩)) : (execOp ev o).run Try.prog w = .ok (.value (.pointer (some ⟨b, 0, none⟩))) w := by
  simp [execOp, ho, hx, go_sem]
theorem run_field1 {o : Oper} {x : Operand} {b : Nat} (ho : o.op = .fieldAddr 77 x 1) (hx : ev x = .pointer (some ⟨b, 0, none⟩)) : (execOp ev o).run Try.prog w = .ok (.value (.pointer (some ⟨b, 1, none⟩))) w := by
  simp [execOp, ho, hx, go_sem]
theorem run_field2 {o : Oper} {x : Operand} {b : Nat} (ho : o.op = .fieldAddr 77 x 2) (hx : ev x = .pointer (some ⟨b, 0, none⟩)) : (execOp ev o).run Try.prog w = .ok (.value (.pointer (some ⟨b, 2, none⟩))) w := by
  simp [execOp, ho, hx, go_sem]
theorem run_load_ints {o : Oper} {x : Operand} {a : Addr} {v : Value} (ho : o.op = .load 37 x) (hx : ev x = .pointer (some a)) (hc : w.cell? a = some v) : (execOp ev o).run Try.prog w = .ok (.value v) w := by
  simp [execOp, ho, hx, hc, go_sem]
theorem run_store_ints {o : Oper} {x y : Operand} {a : Addr} {v u : Value} {so : Option Addr} {n c : Nat} (ho : o.op = .store 37 x y) (hx : ev x = .pointer (some a)) (hy : ev y = v) (hv : v = .slice so n c) (hc : w.cell? a = some u) (hf : w.frozen? a = false) : (execOp ev o).run Try.prog w = .ok .skip (w.setCell a v) := by
  subst hv
  simp [execOp, ho, hx, hy, hc, hf, go_sem]
theorem run_build1 {o : Oper} {x : Operand} {v : Value} {k : Int} (ho : o.op = .buildSlice 37 1 #[(0, x)]) (hx : ev x = v) (hv : v = .int .i64 k) : (execOp ev o).run Try.prog w = .ok (.value (.slice (some ⟨w.heap.size, 0, none⟩) 1 1)) (w.alloc (.cells #[v] 3)) := by
  subst hv
  simp [execOp, ho, hx, go_sem]
end

/- GEN -/
/-- The operations of the region with that number. -/
def regionOf (id : Nat) : Code → Option (Array Oper)
  | .region i ops _ => if i == id then some ops else none
  | .seq a b => match regionOf id a with
    | some x => some x
    | none => regionOf id b
  | .cond _ a b => match regionOf id a with
    | some x => some x
    | none => regionOf id b
  | .block _ c => regionOf id c
  | .loop c => regionOf id c
  | .scope c => regionOf id c
  | _ => none

noncomputable def newOps : Array Oper := ((Try.f12.body.bind (regionOf 7)).getD #[])

theorem newOrd : Ordered newOps = true := by kernel_rfl
theorem newSize : newOps.size = 32 := by kernel_rfl
theorem newOp0 : (newOps[0]?).map (fun o => (o.dst, o.op, o.guard)) = some (some 20, .move (.tmp 4), none) := by kernel_rfl
theorem newOp1 : (newOps[1]?).map (fun o => (o.dst, o.op, o.guard)) = some (some 21, .move (.tmp 4), none) := by kernel_rfl
theorem newOp2 : (newOps[2]?).map (fun o => (o.dst, o.op, o.guard)) = some (some 22, .move (.tmp 4), none) := by kernel_rfl
theorem newOp3 : (newOps[3]?).map (fun o => (o.dst, o.op, o.guard)) = some (some 23, .move (.tmp 4), none) := by kernel_rfl
theorem newOp4 : (newOps[4]?).map (fun o => (o.dst, o.op, o.guard)) = some (some 24, .nilCheck (.tmp 23), none) := by kernel_rfl
theorem newOp5 : (newOps[5]?).map (fun o => (o.dst, o.op, o.guard)) = some (some 25, .fieldAddr 77 (.tmp 24) 0, none) := by kernel_rfl
theorem newOp6 : (newOps[6]?).map (fun o => (o.dst, o.op, o.guard)) = some (some 26, .load 37 (.tmp 25), none) := by kernel_rfl
theorem newOp7 : (newOps[7]?).map (fun o => (o.dst, o.op, o.guard)) = some (some 27, .move (.tmp 5), none) := by kernel_rfl
theorem newOp8 : (newOps[8]?).map (fun o => (o.dst, o.op, o.guard)) = some (some 28, .buildSlice 37 1 #[(0, (.tmp 27))], none) := by kernel_rfl
theorem newOp9 : (newOps[9]?).map (fun o => (o.dst, o.op, o.guard)) = some (some 29, .call { callee := .builtin .append, args := #[(.tmp 26), (.tmp 28)], argTypes := #[37, 37] }, none) := by kernel_rfl
theorem newOp10 : (newOps[10]?).map (fun o => (o.dst, o.op, o.guard)) = some (some 30, .move (.tmp 4), none) := by kernel_rfl
theorem newOp11 : (newOps[11]?).map (fun o => (o.dst, o.op, o.guard)) = some (some 31, .nilCheck (.tmp 30), none) := by kernel_rfl
theorem newOp12 : (newOps[12]?).map (fun o => (o.dst, o.op, o.guard)) = some (some 32, .fieldAddr 77 (.tmp 31) 1, none) := by kernel_rfl
theorem newOp13 : (newOps[13]?).map (fun o => (o.dst, o.op, o.guard)) = some (some 33, .load 37 (.tmp 32), none) := by kernel_rfl
theorem newOp14 : (newOps[14]?).map (fun o => (o.dst, o.op, o.guard)) = some (some 34, .buildSlice 37 1 #[(0, (.const (.int .i64 1)))], none) := by kernel_rfl
theorem newOp15 : (newOps[15]?).map (fun o => (o.dst, o.op, o.guard)) = some (some 35, .call { callee := .builtin .append, args := #[(.tmp 33), (.tmp 34)], argTypes := #[37, 37] }, none) := by kernel_rfl
theorem newOp16 : (newOps[16]?).map (fun o => (o.dst, o.op, o.guard)) = some (some 36, .move (.tmp 4), none) := by kernel_rfl
theorem newOp17 : (newOps[17]?).map (fun o => (o.dst, o.op, o.guard)) = some (some 37, .nilCheck (.tmp 36), none) := by kernel_rfl
theorem newOp18 : (newOps[18]?).map (fun o => (o.dst, o.op, o.guard)) = some (some 38, .fieldAddr 77 (.tmp 37) 2, none) := by kernel_rfl
theorem newOp19 : (newOps[19]?).map (fun o => (o.dst, o.op, o.guard)) = some (some 39, .load 37 (.tmp 38), none) := by kernel_rfl
theorem newOp20 : (newOps[20]?).map (fun o => (o.dst, o.op, o.guard)) = some (some 40, .move (.tmp 5), none) := by kernel_rfl
theorem newOp21 : (newOps[21]?).map (fun o => (o.dst, o.op, o.guard)) = some (some 41, .buildSlice 37 1 #[(0, (.tmp 40))], none) := by kernel_rfl
theorem newOp22 : (newOps[22]?).map (fun o => (o.dst, o.op, o.guard)) = some (some 42, .call { callee := .builtin .append, args := #[(.tmp 39), (.tmp 41)], argTypes := #[37, 37] }, none) := by kernel_rfl
theorem newOp23 : (newOps[23]?).map (fun o => (o.dst, o.op, o.guard)) = some (some 43, .nilCheck (.tmp 20), none) := by kernel_rfl
theorem newOp24 : (newOps[24]?).map (fun o => (o.dst, o.op, o.guard)) = some (some 44, .fieldAddr 77 (.tmp 43) 0, none) := by kernel_rfl
theorem newOp25 : (newOps[25]?).map (fun o => (o.dst, o.op, o.guard)) = some (none, .store 37 (.tmp 44) (.tmp 29), none) := by kernel_rfl
theorem newOp26 : (newOps[26]?).map (fun o => (o.dst, o.op, o.guard)) = some (some 45, .nilCheck (.tmp 21), none) := by kernel_rfl
theorem newOp27 : (newOps[27]?).map (fun o => (o.dst, o.op, o.guard)) = some (some 46, .fieldAddr 77 (.tmp 45) 1, none) := by kernel_rfl
theorem newOp28 : (newOps[28]?).map (fun o => (o.dst, o.op, o.guard)) = some (none, .store 37 (.tmp 46) (.tmp 35), none) := by kernel_rfl
theorem newOp29 : (newOps[29]?).map (fun o => (o.dst, o.op, o.guard)) = some (some 47, .nilCheck (.tmp 22), none) := by kernel_rfl
theorem newOp30 : (newOps[30]?).map (fun o => (o.dst, o.op, o.guard)) = some (some 48, .fieldAddr 77 (.tmp 47) 2, none) := by kernel_rfl
theorem newOp31 : (newOps[31]?).map (fun o => (o.dst, o.op, o.guard)) = some (none, .store 37 (.tmp 48) (.tmp 42), none) := by kernel_rfl
theorem newTab0 {b k cu cs cl : Nat} {ou os ol : Option Addr} : ∀ e ∈ newTab b k cu cs cl ou os ol, (e.1 = 0 ↔ e.2.1 = 20) ∧ (e.1 = 0 → e.2.2 = .pointer (some ⟨b, 0, none⟩)) := by
  intro e he
  simp only [newTab, List.mem_cons, List.not_mem_nil, or_false] at he
  rcases he with rfl | rfl | rfl | rfl | rfl | rfl | rfl | rfl | rfl | rfl | rfl | rfl | rfl | rfl | rfl | rfl | rfl | rfl | rfl | rfl | rfl | rfl | rfl <;> simp
theorem newTab1 {b k cu cs cl : Nat} {ou os ol : Option Addr} : ∀ e ∈ newTab b k cu cs cl ou os ol, (e.1 = 1 ↔ e.2.1 = 21) ∧ (e.1 = 1 → e.2.2 = .pointer (some ⟨b, 0, none⟩)) := by
  intro e he
  simp only [newTab, List.mem_cons, List.not_mem_nil, or_false] at he
  rcases he with rfl | rfl | rfl | rfl | rfl | rfl | rfl | rfl | rfl | rfl | rfl | rfl | rfl | rfl | rfl | rfl | rfl | rfl | rfl | rfl | rfl | rfl | rfl <;> simp
theorem newTab2 {b k cu cs cl : Nat} {ou os ol : Option Addr} : ∀ e ∈ newTab b k cu cs cl ou os ol, (e.1 = 2 ↔ e.2.1 = 22) ∧ (e.1 = 2 → e.2.2 = .pointer (some ⟨b, 0, none⟩)) := by
  intro e he
  simp only [newTab, List.mem_cons, List.not_mem_nil, or_false] at he
  rcases he with rfl | rfl | rfl | rfl | rfl | rfl | rfl | rfl | rfl | rfl | rfl | rfl | rfl | rfl | rfl | rfl | rfl | rfl | rfl | rfl | rfl | rfl | rfl <;> simp
theorem newTab3 {b k cu cs cl : Nat} {ou os ol : Option Addr} : ∀ e ∈ newTab b k cu cs cl ou os ol, (e.1 = 3 ↔ e.2.1 = 23) ∧ (e.1 = 3 → e.2.2 = .pointer (some ⟨b, 0, none⟩)) := by
  intro e he
  simp only [newTab, List.mem_cons, List.not_mem_nil, or_false] at he
  rcases he with rfl | rfl | rfl | rfl | rfl | rfl | rfl | rfl | rfl | rfl | rfl | rfl | rfl | rfl | rfl | rfl | rfl | rfl | rfl | rfl | rfl | rfl | rfl <;> simp
theorem newTab4 {b k cu cs cl : Nat} {ou os ol : Option Addr} : ∀ e ∈ newTab b k cu cs cl ou os ol, (e.1 = 4 ↔ e.2.1 = 24) ∧ (e.1 = 4 → e.2.2 = .pointer (some ⟨b, 0, none⟩)) := by
  intro e he
  simp only [newTab, List.mem_cons, List.not_mem_nil, or_false] at he
  rcases he with rfl | rfl | rfl | rfl | rfl | rfl | rfl | rfl | rfl | rfl | rfl | rfl | rfl | rfl | rfl | rfl | rfl | rfl | rfl | rfl | rfl | rfl | rfl <;> simp
theorem newTab5 {b k cu cs cl : Nat} {ou os ol : Option Addr} : ∀ e ∈ newTab b k cu cs cl ou os ol, (e.1 = 5 ↔ e.2.1 = 25) ∧ (e.1 = 5 → e.2.2 = .pointer (some ⟨b, 0, none⟩)) := by
  intro e he
  simp only [newTab, List.mem_cons, List.not_mem_nil, or_false] at he
  rcases he with rfl | rfl | rfl | rfl | rfl | rfl | rfl | rfl | rfl | rfl | rfl | rfl | rfl | rfl | rfl | rfl | rfl | rfl | rfl | rfl | rfl | rfl | rfl <;> simp
theorem newTab6 {b k cu cs cl : Nat} {ou os ol : Option Addr} : ∀ e ∈ newTab b k cu cs cl ou os ol, (e.1 = 6 ↔ e.2.1 = 26) ∧ (e.1 = 6 → e.2.2 = .slice ou k cu) := by
  intro e he
  simp only [newTab, List.mem_cons, List.not_mem_nil, or_false] at he
  rcases he with rfl | rfl | rfl | rfl | rfl | rfl | rfl | rfl | rfl | rfl | rfl | rfl | rfl | rfl | rfl | rfl | rfl | rfl | rfl | rfl | rfl | rfl | rfl <;> simp
theorem newTab7 {b k cu cs cl : Nat} {ou os ol : Option Addr} : ∀ e ∈ newTab b k cu cs cl ou os ol, (e.1 = 7 ↔ e.2.1 = 27) ∧ (e.1 = 7 → e.2.2 = .int .i64 k) := by
  intro e he
  simp only [newTab, List.mem_cons, List.not_mem_nil, or_false] at he
  rcases he with rfl | rfl | rfl | rfl | rfl | rfl | rfl | rfl | rfl | rfl | rfl | rfl | rfl | rfl | rfl | rfl | rfl | rfl | rfl | rfl | rfl | rfl | rfl <;> simp
theorem newTab10 {b k cu cs cl : Nat} {ou os ol : Option Addr} : ∀ e ∈ newTab b k cu cs cl ou os ol, (e.1 = 10 ↔ e.2.1 = 30) ∧ (e.1 = 10 → e.2.2 = .pointer (some ⟨b, 0, none⟩)) := by
  intro e he
  simp only [newTab, List.mem_cons, List.not_mem_nil, or_false] at he
  rcases he with rfl | rfl | rfl | rfl | rfl | rfl | rfl | rfl | rfl | rfl | rfl | rfl | rfl | rfl | rfl | rfl | rfl | rfl | rfl | rfl | rfl | rfl | rfl <;> simp
theorem newTab11 {b k cu cs cl : Nat} {ou os ol : Option Addr} : ∀ e ∈ newTab b k cu cs cl ou os ol, (e.1 = 11 ↔ e.2.1 = 31) ∧ (e.1 = 11 → e.2.2 = .pointer (some ⟨b, 0, none⟩)) := by
  intro e he
  simp only [newTab, List.mem_cons, List.not_mem_nil, or_false] at he
  rcases he with rfl | rfl | rfl | rfl | rfl | rfl | rfl | rfl | rfl | rfl | rfl | rfl | rfl | rfl | rfl | rfl | rfl | rfl | rfl | rfl | rfl | rfl | rfl <;> simp
theorem newTab12 {b k cu cs cl : Nat} {ou os ol : Option Addr} : ∀ e ∈ newTab b k cu cs cl ou os ol, (e.1 = 12 ↔ e.2.1 = 32) ∧ (e.1 = 12 → e.2.2 = .pointer (some ⟨b, 1, none⟩)) := by
  intro e he
  simp only [newTab, List.mem_cons, List.not_mem_nil, or_false] at he
  rcases he with rfl | rfl | rfl | rfl | rfl | rfl | rfl | rfl | rfl | rfl | rfl | rfl | rfl | rfl | rfl | rfl | rfl | rfl | rfl | rfl | rfl | rfl | rfl <;> simp
theorem newTab13 {b k cu cs cl : Nat} {ou os ol : Option Addr} : ∀ e ∈ newTab b k cu cs cl ou os ol, (e.1 = 13 ↔ e.2.1 = 33) ∧ (e.1 = 13 → e.2.2 = .slice os k cs) := by
  intro e he
  simp only [newTab, List.mem_cons, List.not_mem_nil, or_false] at he
  rcases he with rfl | rfl | rfl | rfl | rfl | rfl | rfl | rfl | rfl | rfl | rfl | rfl | rfl | rfl | rfl | rfl | rfl | rfl | rfl | rfl | rfl | rfl | rfl <;> simp
theorem newTab16 {b k cu cs cl : Nat} {ou os ol : Option Addr} : ∀ e ∈ newTab b k cu cs cl ou os ol, (e.1 = 16 ↔ e.2.1 = 36) ∧ (e.1 = 16 → e.2.2 = .pointer (some ⟨b, 0, none⟩)) := by
  intro e he
  simp only [newTab, List.mem_cons, List.not_mem_nil, or_false] at he
  rcases he with rfl | rfl | rfl | rfl | rfl | rfl | rfl | rfl | rfl | rfl | rfl | rfl | rfl | rfl | rfl | rfl | rfl | rfl | rfl | rfl | rfl | rfl | rfl <;> simp
theorem newTab17 {b k cu cs cl : Nat} {ou os ol : Option Addr} : ∀ e ∈ newTab b k cu cs cl ou os ol, (e.1 = 17 ↔ e.2.1 = 37) ∧ (e.1 = 17 → e.2.2 = .pointer (some ⟨b, 0, none⟩)) := by
  intro e he
  simp only [newTab, List.mem_cons, List.not_mem_nil, or_false] at he
  rcases he with rfl | rfl | rfl | rfl | rfl | rfl | rfl | rfl | rfl | rfl | rfl | rfl | rfl | rfl | rfl | rfl | rfl | rfl | rfl | rfl | rfl | rfl | rfl <;> simp
theorem newTab18 {b k cu cs cl : Nat} {ou os ol : Option Addr} : ∀ e ∈ newTab b k cu cs cl ou os ol, (e.1 = 18 ↔ e.2.1 = 38) ∧ (e.1 = 18 → e.2.2 = .pointer (some ⟨b, 2, none⟩)) := by
  intro e he
  simp only [newTab, List.mem_cons, List.not_mem_nil, or_false] at he
  rcases he with rfl | rfl | rfl | rfl | rfl | rfl | rfl | rfl | rfl | rfl | rfl | rfl | rfl | rfl | rfl | rfl | rfl | rfl | rfl | rfl | rfl | rfl | rfl <;> simp
theorem newTab19 {b k cu cs cl : Nat} {ou os ol : Option Addr} : ∀ e ∈ newTab b k cu cs cl ou os ol, (e.1 = 19 ↔ e.2.1 = 39) ∧ (e.1 = 19 → e.2.2 = .slice ol k cl) := by
  intro e he
  simp only [newTab, List.mem_cons, List.not_mem_nil, or_false] at he
  rcases he with rfl | rfl | rfl | rfl | rfl | rfl | rfl | rfl | rfl | rfl | rfl | rfl | rfl | rfl | rfl | rfl | rfl | rfl | rfl | rfl | rfl | rfl | rfl <;> simp
theorem newTab20 {b k cu cs cl : Nat} {ou os ol : Option Addr} : ∀ e ∈ newTab b k cu cs cl ou os ol, (e.1 = 20 ↔ e.2.1 = 40) ∧ (e.1 = 20 → e.2.2 = .int .i64 k) := by
  intro e he
  simp only [newTab, List.mem_cons, List.not_mem_nil, or_false] at he
  rcases he with rfl | rfl | rfl | rfl | rfl | rfl | rfl | rfl | rfl | rfl | rfl | rfl | rfl | rfl | rfl | rfl | rfl | rfl | rfl | rfl | rfl | rfl | rfl <;> simp
theorem newTab23 {b k cu cs cl : Nat} {ou os ol : Option Addr} : ∀ e ∈ newTab b k cu cs cl ou os ol, (e.1 = 23 ↔ e.2.1 = 43) ∧ (e.1 = 23 → e.2.2 = .pointer (some ⟨b, 0, none⟩)) := by
  intro e he
  simp only [newTab, List.mem_cons, List.not_mem_nil, or_false] at he
  rcases he with rfl | rfl | rfl | rfl | rfl | rfl | rfl | rfl | rfl | rfl | rfl | rfl | rfl | rfl | rfl | rfl | rfl | rfl | rfl | rfl | rfl | rfl | rfl <;> simp
theorem newTab24 {b k cu cs cl : Nat} {ou os ol : Option Addr} : ∀ e ∈ newTab b k cu cs cl ou os ol, (e.1 = 24 ↔ e.2.1 = 44) ∧ (e.1 = 24 → e.2.2 = .pointer (some ⟨b, 0, none⟩)) := by
  intro e he
  simp only [newTab, List.mem_cons, List.not_mem_nil, or_false] at he
  rcases he with rfl | rfl | rfl | rfl | rfl | rfl | rfl | rfl | rfl | rfl | rfl | rfl | rfl | rfl | rfl | rfl | rfl | rfl | rfl | rfl | rfl | rfl | rfl <;> simp
theorem newTab26 {b k cu cs cl : Nat} {ou os ol : Option Addr} : ∀ e ∈ newTab b k cu cs cl ou os ol, (e.1 = 26 ↔ e.2.1 = 45) ∧ (e.1 = 26 → e.2.2 = .pointer (some ⟨b, 0, none⟩)) := by
  intro e he
  simp only [newTab, List.mem_cons, List.not_mem_nil, or_false] at he
  rcases he with rfl | rfl | rfl | rfl | rfl | rfl | rfl | rfl | rfl | rfl | rfl | rfl | rfl | rfl | rfl | rfl | rfl | rfl | rfl | rfl | rfl | rfl | rfl <;> simp
theorem newTab27 {b k cu cs cl : Nat} {ou os ol : Option Addr} : ∀ e ∈ newTab b k cu cs cl ou os ol, (e.1 = 27 ↔ e.2.1 = 46) ∧ (e.1 = 27 → e.2.2 = .pointer (some ⟨b, 1, none⟩)) := by
  intro e he
  simp only [newTab, List.mem_cons, List.not_mem_nil, or_false] at he
  rcases he with rfl | rfl | rfl | rfl | rfl | rfl | rfl | rfl | rfl | rfl | rfl | rfl | rfl | rfl | rfl | rfl | rfl | rfl | rfl | rfl | rfl | rfl | rfl <;> simp
theorem newTab29 {b k cu cs cl : Nat} {ou os ol : Option Addr} : ∀ e ∈ newTab b k cu cs cl ou os ol, (e.1 = 29 ↔ e.2.1 = 47) ∧ (e.1 = 29 → e.2.2 = .pointer (some ⟨b, 0, none⟩)) := by
  intro e he
  simp only [newTab, List.mem_cons, List.not_mem_nil, or_false] at he
  rcases he with rfl | rfl | rfl | rfl | rfl | rfl | rfl | rfl | rfl | rfl | rfl | rfl | rfl | rfl | rfl | rfl | rfl | rfl | rfl | rfl | rfl | rfl | rfl <;> simp
theorem newTab30 {b k cu cs cl : Nat} {ou os ol : Option Addr} : ∀ e ∈ newTab b k cu cs cl ou os ol, (e.1 = 30 ↔ e.2.1 = 48) ∧ (e.1 = 30 → e.2.2 = .pointer (some ⟨b, 2, none⟩)) := by
  intro e he
  simp only [newTab, List.mem_cons, List.not_mem_nil, or_false] at he
  rcases he with rfl | rfl | rfl | rfl | rfl | rfl | rfl | rfl | rfl | rfl | rfl | rfl | rfl | rfl | rfl | rfl | rfl | rfl | rfl | rfl | rfl | rfl | rfl <;> simp

theorem opFacts {ops : Array Oper} {i : Nat} {o : Oper} {d : Option Tmp} {op : Op} {g : Option (Nat × Bool)} (ho : ops[i]? = some o) (h : (ops[i]?).map (fun o => (o.dst, o.op, o.guard)) = some (d, op, g)) : o.dst = d ∧ o.op = op ∧ o.guard = g := by
  rw [ho] at h
  simpa using h

theorem depFacts {ops : Array Oper} {done : Nat → Bool} {i j : Nat} {o : Oper} (ho : ops[i]? = some o) (hdeps : ∀ e ∈ o.after.toList, Region.binds .any e = true → done e.on = true)
    (h : (ops[i]?).map (fun o => o.after.toList.any fun e => Region.binds .any e && e.on == j) = some true) : done j = true := by
  rw [ho] at h
  simp only [Option.map_some, Option.some.injEq, List.any_eq_true, Bool.and_eq_true, beq_iff_eq] at h
  obtain ⟨e, he, hb, rfl⟩ := h
  exact hdeps e he hb

theorem closedDep {ops : Array Oper} {done : Nat → Bool} (hcl : Closed ops done) {i j : Nat} (h : (ops[i]?).map (fun o => o.after.toList.any fun e => Region.binds .any e && e.on == j) = some true) : done i = true → done j = true := by
  intro hd
  cases ho : ops[i]? with
  | none => rw [ho] at h; cases h
  | some o => exact depFacts ho (fun e he hb => hcl i o ho hd e he hb) h

theorem notYet {ops : Array Oper} {done : Nat → Bool} (hcl : Closed ops done) {i j : Nat} (h : (ops[i]?).map (fun o => o.after.toList.any fun e => Region.binds .any e && e.on == j) = some true) (hj : done j = false) : done i = false := by
  cases hd : done i with
  | false => rfl
  | true => rw [closedDep hcl h hd] at hj; cases hj

theorem run_append (w : World) (ev : Operand → Value) {o : Oper} {x y : Operand} {v vx v' : Value} {w' : World} (ho : o.op = .call { callee := .builtin .append, args := #[x, y], argTypes := #[37, 37] }) (hx : ev x = v) (hy : ev y = vx)
    (hrun : (Builtin.append_ #[37, 37] o.type #[v, vx]).run Try.prog w = .ok v' w') : (execOp ev o).run Try.prog w = .ok (.value v') w' := by
  unfold execOp
  simp only [ho, resolve, invoke, builtin, Sem.run_bind, Sem.run_pure, Result.andThen_ok, List.map_toArray, List.map_cons, List.map_nil, hx, hy, hrun]

set_option maxHeartbeats 1000000 in
theorem new_step {lo b k n cu cs cl : Nat} {ou os ol : Option Addr} {wr : World} {a0 : Act} (hk40 : k ≤ 40) (hlo : lo ≤ wr.heap.size) (h4 : a0.eval (.tmp 4) = .pointer (some ⟨b, 0, none⟩)) (h5 : a0.eval (.tmp 5) = .int .i64 k) (Q : Exit → Act → World → Prop)
    (done : Nat → Bool) (a : Act) (w : World) (i : Nat) (o : Oper) (ho : newOps[i]? = some o) (hu : done i = false) (hdeps : ∀ e ∈ o.after.toList, Region.binds .any e = true → done e.on = true) (hcl : Closed newOps done)
    (hI : NI lo b k n cu cs cl ou os ol wr a0 done a w) (K : Act → World → Prop) (hK : ∀ a' w', NI lo b k n cu cs cl ou os ol wr a0 (upd done i true) a' w' → K a' w') :
    if Region.wanted o (yielded newOps a.tmps) = true then o.wp Try.prog a w K Q else K (a.put o.dst undef) w := by
  have hI4 : ∀ a, NI lo b k n cu cs cl ou os ol wr a0 done a w → a.eval (.tmp 4) = .pointer (some ⟨b, 0, none⟩) := fun a h => (h.fr 4 (.inl (by omega))).trans h4
  have hI5 : ∀ a, NI lo b k n cu cs cl ou os ol wr a0 done a w → a.eval (.tmp 5) = .int .i64 k := fun a h => (h.fr 5 (.inl (by omega))).trans h5
  have hi : i < 32 := by have := (Array.getElem?_eq_some_iff.1 ho).1; rw [newSize] at this; exact this
  obtain rfl | rfl | rfl | rfl | rfl | rfl | rfl | rfl | rfl | rfl | rfl | rfl | rfl | rfl | rfl | rfl | rfl | rfl | rfl | rfl | rfl | rfl | rfl | rfl | rfl | rfl | rfl | rfl | rfl | rfl | rfl | rfl : i = 0 ∨ i = 1 ∨ i = 2 ∨ i = 3 ∨ i = 4 ∨ i = 5 ∨ i = 6 ∨ i = 7 ∨ i = 8 ∨ i = 9 ∨ i = 10 ∨ i = 11 ∨ i = 12 ∨ i = 13 ∨ i = 14 ∨ i = 15 ∨ i = 16 ∨ i = 17 ∨ i = 18 ∨ i = 19 ∨ i = 20 ∨ i = 21 ∨ i = 22 ∨ i = 23 ∨ i = 24 ∨ i = 25 ∨ i = 26 ∨ i = 27 ∨ i = 28 ∨ i = 29 ∨ i = 30 ∨ i = 31 := by omega
  · obtain ⟨hd, hop, hg⟩ := opFacts ho newOp0
    refine step_value hg (run_move _ _ _ hop (hI4 a hI)) ?_
    rw [hd]
    exact hK _ _ (hI.pure (by omega) (by omega) (by omega) (by omega) newTab0)
  · obtain ⟨hd, hop, hg⟩ := opFacts ho newOp1
    refine step_value hg (run_move _ _ _ hop (hI4 a hI)) ?_
    rw [hd]
    exact hK _ _ (hI.pure (by omega) (by omega) (by omega) (by omega) newTab1)
  · obtain ⟨hd, hop, hg⟩ := opFacts ho newOp2
    refine step_value hg (run_move _ _ _ hop (hI4 a hI)) ?_
    rw [hd]
    exact hK _ _ (hI.pure (by omega) (by omega) (by omega) (by omega) newTab2)
  · obtain ⟨hd, hop, hg⟩ := opFacts ho newOp3
    refine step_value hg (run_move _ _ _ hop (hI4 a hI)) ?_
    rw [hd]
    exact hK _ _ (hI.pure (by omega) (by omega) (by omega) (by omega) newTab3)
  · obtain ⟨hd, hop, hg⟩ := opFacts ho newOp4
    have h1 : a.eval (.tmp 23) = (.pointer (some ⟨b, 0, none⟩)) := hI.tab (3, 23, _) (by simp [newTab]) (depFacts ho hdeps (j := 3) (by kernel_rfl))
    refine step_value hg (run_nilCheck _ _ _ hop h1) ?_
    rw [hd]
    exact hK _ _ (hI.pure (by omega) (by omega) (by omega) (by omega) newTab4)
  · obtain ⟨hd, hop, hg⟩ := opFacts ho newOp5
    have h1 : a.eval (.tmp 24) = (.pointer (some ⟨b, 0, none⟩)) := hI.tab (4, 24, _) (by simp [newTab]) (depFacts ho hdeps (j := 4) (by kernel_rfl))
    refine step_value hg (run_field0 _ _ hop h1) ?_
    rw [hd]
    exact hK _ _ (hI.pure (by omega) (by omega) (by omega) (by omega) newTab5)
  · obtain ⟨hd, hop, hg⟩ := opFacts ho newOp6
    have h1 : a.eval (.tmp 25) = (.pointer (some ⟨b, 0, none⟩)) := hI.tab (5, 25, _) (by simp [newTab]) (depFacts ho hdeps (j := 5) (by kernel_rfl))
    have hs : done 25 = false := notYet hcl (i := 25) (j := 6) (by kernel_rfl) hu
    obtain ⟨own, _, _, _, hrow, _⟩ := hI.mem
    have hc := hrow.cell (i := 0) rfl
    rw [hs] at hc
    refine step_value hg (run_load_ints _ _ hop h1 hc) ?_
    rw [hd]
    exact hK _ _ (hI.pure (by omega) (by omega) (by omega) (by omega) newTab6)
  · obtain ⟨hd, hop, hg⟩ := opFacts ho newOp7
    refine step_value hg (run_move _ _ _ hop (hI5 a hI)) ?_
    rw [hd]
    exact hK _ _ (hI.pure (by omega) (by omega) (by omega) (by omega) newTab7)
  · obtain ⟨hd, hop, hg⟩ := opFacts ho newOp8
    have h1 : a.eval (.tmp 27) = (.int .i64 k) := hI.tab (7, 27, _) (by simp [newTab]) (depFacts ho hdeps (j := 7) (by kernel_rfl))
    refine step_value hg (run_build1 _ _ hop h1 rfl) ?_
    rw [hd]
    exact hK _ _ (hI.build (Nat.le_trans hlo hI.keep.size) (by simp) (closedDep hcl (i := 9) (j := 8) (by kernel_rfl)) (closedDep hcl (i := 15) (j := 14) (by kernel_rfl)) (closedDep hcl (i := 22) (j := 21) (by kernel_rfl)) hu)
  · obtain ⟨hd, hop, hg⟩ := opFacts ho newOp9
    have h1 : a.eval (.tmp 26) = (.slice ou k cu) := hI.tab (6, 26, _) (by simp [newTab]) (depFacts ho hdeps (j := 6) (by kernel_rfl))
    have hs : done 25 = false := notYet hcl (i := 25) (j := 9) (by kernel_rfl) hu
    obtain ⟨vx, v', w', hx, hrun, hnext⟩ := hI.append9 hk40 (Nat.le_trans hlo hI.keep.size) (depFacts ho hdeps (j := 8) (by kernel_rfl)) hu hs o.type
    refine step_value hg (run_append _ _ hop h1 hx hrun) ?_
    rw [hd]
    exact hK _ _ hnext
  · obtain ⟨hd, hop, hg⟩ := opFacts ho newOp10
    refine step_value hg (run_move _ _ _ hop (hI4 a hI)) ?_
    rw [hd]
    exact hK _ _ (hI.pure (by omega) (by omega) (by omega) (by omega) newTab10)
  · obtain ⟨hd, hop, hg⟩ := opFacts ho newOp11
    have h1 : a.eval (.tmp 30) = (.pointer (some ⟨b, 0, none⟩)) := hI.tab (10, 30, _) (by simp [newTab]) (depFacts ho hdeps (j := 10) (by kernel_rfl))
    refine step_value hg (run_nilCheck _ _ _ hop h1) ?_
    rw [hd]
    exact hK _ _ (hI.pure (by omega) (by omega) (by omega) (by omega) newTab11)
  · obtain ⟨hd, hop, hg⟩ := opFacts ho newOp12
    have h1 : a.eval (.tmp 31) = (.pointer (some ⟨b, 0, none⟩)) := hI.tab (11, 31, _) (by simp [newTab]) (depFacts ho hdeps (j := 11) (by kernel_rfl))
    refine step_value hg (run_field1 _ _ hop h1) ?_
    rw [hd]
    exact hK _ _ (hI.pure (by omega) (by omega) (by omega) (by omega) newTab12)
  · obtain ⟨hd, hop, hg⟩ := opFacts ho newOp13
    have h1 : a.eval (.tmp 32) = (.pointer (some ⟨b, 1, none⟩)) := hI.tab (12, 32, _) (by simp [newTab]) (depFacts ho hdeps (j := 12) (by kernel_rfl))
    have hs : done 28 = false := notYet hcl (i := 28) (j := 13) (by kernel_rfl) hu
    obtain ⟨own, _, _, _, hrow, _⟩ := hI.mem
    have hc := hrow.cell (i := 1) rfl
    rw [hs] at hc
    refine step_value hg (run_load_ints _ _ hop h1 hc) ?_
    rw [hd]
    exact hK _ _ (hI.pure (by omega) (by omega) (by omega) (by omega) newTab13)
  · obtain ⟨hd, hop, hg⟩ := opFacts ho newOp14
    have h1 : a.eval (.const (.int .i64 1)) = (.int .i64 1) := rfl
    refine step_value hg (run_build1 _ _ hop h1 rfl) ?_
    rw [hd]
    exact hK _ _ (hI.build (Nat.le_trans hlo hI.keep.size) (by simp) (closedDep hcl (i := 9) (j := 8) (by kernel_rfl)) (closedDep hcl (i := 15) (j := 14) (by kernel_rfl)) (closedDep hcl (i := 22) (j := 21) (by kernel_rfl)) hu)
  · obtain ⟨hd, hop, hg⟩ := opFacts ho newOp15
    have h1 : a.eval (.tmp 33) = (.slice os k cs) := hI.tab (13, 33, _) (by simp [newTab]) (depFacts ho hdeps (j := 13) (by kernel_rfl))
    have hs : done 28 = false := notYet hcl (i := 28) (j := 15) (by kernel_rfl) hu
    obtain ⟨vx, v', w', hx, hrun, hnext⟩ := hI.append15 hk40 (Nat.le_trans hlo hI.keep.size) (depFacts ho hdeps (j := 14) (by kernel_rfl)) hu hs o.type
    refine step_value hg (run_append _ _ hop h1 hx hrun) ?_
    rw [hd]
    exact hK _ _ hnext
  · obtain ⟨hd, hop, hg⟩ := opFacts ho newOp16
    refine step_value hg (run_move _ _ _ hop (hI4 a hI)) ?_
    rw [hd]
    exact hK _ _ (hI.pure (by omega) (by omega) (by omega) (by omega) newTab16)
  · obtain ⟨hd, hop, hg⟩ := opFacts ho newOp17
    have h1 : a.eval (.tmp 36) = (.pointer (some ⟨b, 0, none⟩)) := hI.tab (16, 36, _) (by simp [newTab]) (depFacts ho hdeps (j := 16) (by kernel_rfl))
    refine step_value hg (run_nilCheck _ _ _ hop h1) ?_
    rw [hd]
    exact hK _ _ (hI.pure (by omega) (by omega) (by omega) (by omega) newTab17)
  · obtain ⟨hd, hop, hg⟩ := opFacts ho newOp18
    have h1 : a.eval (.tmp 37) = (.pointer (some ⟨b, 0, none⟩)) := hI.tab (17, 37, _) (by simp [newTab]) (depFacts ho hdeps (j := 17) (by kernel_rfl))
    refine step_value hg (run_field2 _ _ hop h1) ?_
    rw [hd]
    exact hK _ _ (hI.pure (by omega) (by omega) (by omega) (by omega) newTab18)
  · obtain ⟨hd, hop, hg⟩ := opFacts ho newOp19
    have h1 : a.eval (.tmp 38) = (.pointer (some ⟨b, 2, none⟩)) := hI.tab (18, 38, _) (by simp [newTab]) (depFacts ho hdeps (j := 18) (by kernel_rfl))
    have hs : done 31 = false := notYet hcl (i := 31) (j := 19) (by kernel_rfl) hu
    obtain ⟨own, _, _, _, hrow, _⟩ := hI.mem
    have hc := hrow.cell (i := 2) rfl
    rw [hs] at hc
    refine step_value hg (run_load_ints _ _ hop h1 hc) ?_
    rw [hd]
    exact hK _ _ (hI.pure (by omega) (by omega) (by omega) (by omega) newTab19)
  · obtain ⟨hd, hop, hg⟩ := opFacts ho newOp20
    refine step_value hg (run_move _ _ _ hop (hI5 a hI)) ?_
    rw [hd]
    exact hK _ _ (hI.pure (by omega) (by omega) (by omega) (by omega) newTab20)
  · obtain ⟨hd, hop, hg⟩ := opFacts ho newOp21
    have h1 : a.eval (.tmp 40) = (.int .i64 k) := hI.tab (20, 40, _) (by simp [newTab]) (depFacts ho hdeps (j := 20) (by kernel_rfl))
    refine step_value hg (run_build1 _ _ hop h1 rfl) ?_
    rw [hd]
    exact hK _ _ (hI.build (Nat.le_trans hlo hI.keep.size) (by simp) (closedDep hcl (i := 9) (j := 8) (by kernel_rfl)) (closedDep hcl (i := 15) (j := 14) (by kernel_rfl)) (closedDep hcl (i := 22) (j := 21) (by kernel_rfl)) hu)
  · obtain ⟨hd, hop, hg⟩ := opFacts ho newOp22
    have h1 : a.eval (.tmp 39) = (.slice ol k cl) := hI.tab (19, 39, _) (by simp [newTab]) (depFacts ho hdeps (j := 19) (by kernel_rfl))
    have hs : done 31 = false := notYet hcl (i := 31) (j := 22) (by kernel_rfl) hu
    obtain ⟨vx, v', w', hx, hrun, hnext⟩ := hI.append22 hk40 (Nat.le_trans hlo hI.keep.size) (depFacts ho hdeps (j := 21) (by kernel_rfl)) hu hs o.type
    refine step_value hg (run_append _ _ hop h1 hx hrun) ?_
    rw [hd]
    exact hK _ _ hnext
  · obtain ⟨hd, hop, hg⟩ := opFacts ho newOp23
    have h1 : a.eval (.tmp 20) = (.pointer (some ⟨b, 0, none⟩)) := hI.tab (0, 20, _) (by simp [newTab]) (depFacts ho hdeps (j := 0) (by kernel_rfl))
    refine step_value hg (run_nilCheck _ _ _ hop h1) ?_
    rw [hd]
    exact hK _ _ (hI.pure (by omega) (by omega) (by omega) (by omega) newTab23)
  · obtain ⟨hd, hop, hg⟩ := opFacts ho newOp24
    have h1 : a.eval (.tmp 43) = (.pointer (some ⟨b, 0, none⟩)) := hI.tab (23, 43, _) (by simp [newTab]) (depFacts ho hdeps (j := 23) (by kernel_rfl))
    refine step_value hg (run_field0 _ _ hop h1) ?_
    rw [hd]
    exact hK _ _ (hI.pure (by omega) (by omega) (by omega) (by omega) newTab24)
  · obtain ⟨hd, hop, hg⟩ := opFacts ho newOp25
    have h1 : a.eval (.tmp 44) = (.pointer (some ⟨b, 0, none⟩)) := hI.tab (24, 44, _) (by simp [newTab]) (depFacts ho hdeps (j := 24) (by kernel_rfl))
    have h2 : done 9 = true := depFacts ho hdeps (j := 9) (by kernel_rfl)
    obtain ⟨own, _, _, _, hrow, hU, hS, hL⟩ := hI.mem
    obtain ⟨g, c', hv, _⟩ := hU.new h2
    refine step_skip hg hd (run_store_ints _ _ hop h1 rfl hv (hrow.cell (i := 0) rfl) (hrow.frozen 0 none)) ?_
    exact hK _ _ (hI.store25 hu)
  · obtain ⟨hd, hop, hg⟩ := opFacts ho newOp26
    have h1 : a.eval (.tmp 21) = (.pointer (some ⟨b, 0, none⟩)) := hI.tab (1, 21, _) (by simp [newTab]) (depFacts ho hdeps (j := 1) (by kernel_rfl))
    refine step_value hg (run_nilCheck _ _ _ hop h1) ?_
    rw [hd]
    exact hK _ _ (hI.pure (by omega) (by omega) (by omega) (by omega) newTab26)
  · obtain ⟨hd, hop, hg⟩ := opFacts ho newOp27
    have h1 : a.eval (.tmp 45) = (.pointer (some ⟨b, 0, none⟩)) := hI.tab (26, 45, _) (by simp [newTab]) (depFacts ho hdeps (j := 26) (by kernel_rfl))
    refine step_value hg (run_field1 _ _ hop h1) ?_
    rw [hd]
    exact hK _ _ (hI.pure (by omega) (by omega) (by omega) (by omega) newTab27)
  · obtain ⟨hd, hop, hg⟩ := opFacts ho newOp28
    have h1 : a.eval (.tmp 46) = (.pointer (some ⟨b, 1, none⟩)) := hI.tab (27, 46, _) (by simp [newTab]) (depFacts ho hdeps (j := 27) (by kernel_rfl))
    have h2 : done 15 = true := depFacts ho hdeps (j := 15) (by kernel_rfl)
    obtain ⟨own, _, _, _, hrow, hU, hS, hL⟩ := hI.mem
    obtain ⟨g, c', hv, _⟩ := hS.new h2
    refine step_skip hg hd (run_store_ints _ _ hop h1 rfl hv (hrow.cell (i := 1) rfl) (hrow.frozen 1 none)) ?_
    exact hK _ _ (hI.store28 hu)
  · obtain ⟨hd, hop, hg⟩ := opFacts ho newOp29
    have h1 : a.eval (.tmp 22) = (.pointer (some ⟨b, 0, none⟩)) := hI.tab (2, 22, _) (by simp [newTab]) (depFacts ho hdeps (j := 2) (by kernel_rfl))
    refine step_value hg (run_nilCheck _ _ _ hop h1) ?_
    rw [hd]
    exact hK _ _ (hI.pure (by omega) (by omega) (by omega) (by omega) newTab29)
  · obtain ⟨hd, hop, hg⟩ := opFacts ho newOp30
    have h1 : a.eval (.tmp 47) = (.pointer (some ⟨b, 0, none⟩)) := hI.tab (29, 47, _) (by simp [newTab]) (depFacts ho hdeps (j := 29) (by kernel_rfl))
    refine step_value hg (run_field2 _ _ hop h1) ?_
    rw [hd]
    exact hK _ _ (hI.pure (by omega) (by omega) (by omega) (by omega) newTab30)
  · obtain ⟨hd, hop, hg⟩ := opFacts ho newOp31
    have h1 : a.eval (.tmp 48) = (.pointer (some ⟨b, 2, none⟩)) := hI.tab (30, 48, _) (by simp [newTab]) (depFacts ho hdeps (j := 30) (by kernel_rfl))
    have h2 : done 22 = true := depFacts ho hdeps (j := 22) (by kernel_rfl)
    obtain ⟨own, _, _, _, hrow, hU, hS, hL⟩ := hI.mem
    obtain ⟨g, c', hv, _⟩ := hL.new h2
    refine step_skip hg hd (run_store_ints _ _ hop h1 rfl hv (hrow.cell (i := 2) rfl) (hrow.frozen 2 none)) ?_
    exact hK _ _ (hI.store31 hu)

theorem act_lit51 {a : Act} (h : a.tmps.size = 51) (hd : a.defers = []) : a = ⟨#[a.eval (.tmp 0), a.eval (.tmp 1), a.eval (.tmp 2), a.eval (.tmp 3), a.eval (.tmp 4), a.eval (.tmp 5), a.eval (.tmp 6), a.eval (.tmp 7), a.eval (.tmp 8), a.eval (.tmp 9), a.eval (.tmp 10), a.eval (.tmp 11), a.eval (.tmp 12), a.eval (.tmp 13), a.eval (.tmp 14), a.eval (.tmp 15), a.eval (.tmp 16), a.eval (.tmp 17), a.eval (.tmp 18), a.eval (.tmp 19), a.eval (.tmp 20), a.eval (.tmp 21), a.eval (.tmp 22), a.eval (.tmp 23), a.eval (.tmp 24), a.eval (.tmp 25), a.eval (.tmp 26), a.eval (.tmp 27), a.eval (.tmp 28), a.eval (.tmp 29), a.eval (.tmp 30), a.eval (.tmp 31), a.eval (.tmp 32), a.eval (.tmp 33), a.eval (.tmp 34), a.eval (.tmp 35), a.eval (.tmp 36), a.eval (.tmp 37), a.eval (.tmp 38), a.eval (.tmp 39), a.eval (.tmp 40), a.eval (.tmp 41), a.eval (.tmp 42), a.eval (.tmp 43), a.eval (.tmp 44), a.eval (.tmp 45), a.eval (.tmp 46), a.eval (.tmp 47), a.eval (.tmp 48), a.eval (.tmp 49), a.eval (.tmp 50)], []⟩ := by
  obtain ⟨t, d⟩ := a
  simp only at h hd
  subst hd
  have : t = ((List.range 51).map fun i => t.getD i undef).toArray := by
    apply Array.ext
    · simp [h]
    · intro i h1 h2
      simp [h1]
  conv => lhs; rw [this]
  rfl

end Go.Proofs.Ytkpoobnldgfapaa

/- sets.New: the loop. -/
namespace Go.Proofs.Ytkpoobnldgfapaa
open Go.RowKit Pl

open Classical in
theorem ni_start {lo b k n cu cs cl : Nat} {ou os ol : Option Addr} {wr : World} {a0 : Act} (hsz : a0.tmps.size = 51) (hdf : a0.defers = [])
    (hM : SetsMem (fun j => lo ≤ j) wr b k (fun x => x) (fun _ => 1) (fun x => x) n ou os ol cu cs cl) : NI lo b k n cu cs cl ou os ol wr a0 (fun _ => false) a0 wr.drew := by
  refine ⟨hsz, hdf, fun _ _ => rfl, fun _ _ h => (by cases h), (Keep.refl _ wr).drew, fun j => if j = b then 0 else if Bl ou j then 1 else if Bl os j then 2 else if Bl ol j then 3 else 5, by simp, fun j hj => ?_, fun j hj => ?_, ?_, ?_, ?_, ?_⟩
  · dsimp only at hj
    by_cases h0 : j = b
    · rw [h0]; exact hM.hb
    · rw [if_neg h0] at hj
      by_cases h1 : Bl ou j
      · obtain ⟨a, ha, rfl⟩ := h1; exact hM.u.foot a ha
      · rw [if_neg h1] at hj
        by_cases h2 : Bl os j
        · obtain ⟨a, ha, rfl⟩ := h2; exact hM.s.foot a ha
        · rw [if_neg h2] at hj
          by_cases h3 : Bl ol j
          · obtain ⟨a, ha, rfl⟩ := h3; exact hM.l.foot a ha
          · rw [if_neg h3] at hj; omega
  · have e0 : j ≠ b := by have := hM.head.lt; intro e; subst e; exact Nat.not_lt.2 hj this
    have e1 : ¬ Bl ou j := by rintro ⟨a, ha, rfl⟩; exact Nat.not_lt.2 hj (hM.u.lt ha)
    have e2 : ¬ Bl os j := by rintro ⟨a, ha, rfl⟩; exact Nat.not_lt.2 hj (hM.s.lt ha)
    have e3 : ¬ Bl ol j := by rintro ⟨a, ha, rfl⟩; exact Nat.not_lt.2 hj (hM.l.lt ha)
    show (if j = b then 0 else if Bl ou j then 1 else if Bl os j then 2 else if Bl ol j then 3 else 5) = 5
    rw [if_neg e0, if_neg e1, if_neg e2, if_neg e3]
  · exact hM.head.drew
  · refine ⟨fun h => (by cases h), fun _ => ⟨hM.u.drew.own, fun a ha => ?_⟩, fun h => (by cases h)⟩
    show (if a.block = b then 0 else if Bl ou a.block then 1 else if Bl os a.block then 2 else if Bl ol a.block then 3 else 5) = 1
    rw [if_neg (hM.du a ha), if_pos ⟨a, ha, rfl⟩]
  · refine ⟨fun h => (by cases h), fun _ => ⟨hM.s.drew.own, fun a ha => ?_⟩, fun h => (by cases h)⟩
    have e1 : ¬ Bl ou a.block := by rintro ⟨c, hc, e⟩; exact hM.dus c a hc ha e
    show (if a.block = b then 0 else if Bl ou a.block then 1 else if Bl os a.block then 2 else if Bl ol a.block then 3 else 5) = 2
    rw [if_neg (hM.ds a ha), if_neg e1, if_pos ⟨a, ha, rfl⟩]
  · refine ⟨fun h => (by cases h), fun _ => ⟨hM.l.drew.own, fun a ha => ?_⟩, fun h => (by cases h)⟩
    have e1 : ¬ Bl ou a.block := by rintro ⟨c, hc, e⟩; exact hM.dul c a hc ha e
    have e2 : ¬ Bl os a.block := by rintro ⟨c, hc, e⟩; exact hM.dsl c a hc ha e
    show (if a.block = b then 0 else if Bl ou a.block then 1 else if Bl os a.block then 2 else if Bl ol a.block then 3 else 5) = 3
    rw [if_neg (hM.dl a ha), if_neg e1, if_neg e2, if_pos ⟨a, ha, rfl⟩]

theorem ni_end {lo b k n cu cs cl : Nat} {ou os ol : Option Addr} {wr w : World} {a0 a : Act} {done : Nat → Bool} (h : NI lo b k n cu cs cl ou os ol wr a0 done a w) (hall : ∀ i, i < 32 → done i = true) :
    ∃ ou' os' ol' cu' cs' cl', SetsMem (fun j => lo ≤ j) w b (k + 1) (fun x => x) (fun _ => 1) (fun x => x) n ou' os' ol' cu' cs' cl' := by
  obtain ⟨own, o1, o2, o3, hrow, hU, hS, hL⟩ := h.mem
  obtain ⟨gu, cu', eu, su⟩ := hU.new (hall 9 (by omega))
  obtain ⟨gs, cs', es, ss⟩ := hS.new (hall 15 (by omega))
  obtain ⟨gl, cl', el, sl⟩ := hL.new (hall 22 (by omega))
  rw [hall 25 (by omega), hall 28 (by omega), hall 31 (by omega), eu, es, el] at hrow
  have fu := su.foot _ rfl
  have fs := ss.foot _ rfl
  have fl := sl.foot _ rfl
  simp only at fu fs fl
  refine ⟨some ⟨gu, 0, none⟩, some ⟨gs, 0, none⟩, some ⟨gl, 0, none⟩, cu', cs', cl', hrow, o2 b (by omega), ?_, ?_, ?_, ?_, ?_, ?_, ?_, ?_, ?_⟩
  · rw [fints_snoc]; exact su.mono (fun j hj => o2 j (by omega))
  · rw [fints_snoc]; exact ss.mono (fun j hj => o2 j (by omega))
  · rw [fints_snoc]; exact sl.mono (fun j hj => o2 j (by omega))
  · intro a ha e; simp at ha; subst ha; simp at e; subst e; omega
  · intro a ha e; simp at ha; subst ha; simp at e; subst e; omega
  · intro a ha e; simp at ha; subst ha; simp at e; subst e; omega
  · intro a c ha hc e; simp at ha hc; subst ha hc; simp at e; subst e; omega
  · intro a c ha hc e; simp at ha hc; subst ha hc; simp at e; subst e; omega
  · intro a c ha hc e; simp at ha hc; subst ha hc; simp at e; subst e; omega

def NewPost (w : World) (n : Nat) (e : Ending) (w' : World) : Prop :=
  ∃ b, e = .returned (.tuple #[.pointer (some ⟨b, 0, none⟩), .nilIface]) ∧ Sets (Iv w.heap.size w'.heap.size) w' b n (fun x => x) ∧ Keep Nb w w'

theorem new_fin {w wr : World} {b n : Nat} {ou os ol : Option Addr} {cu cs cl : Nat} (hn : n ≤ 40) (hM : SetsMem (fun j => w.heap.size ≤ j) wr b n (fun x => x) (fun _ => 1) (fun x => x) n ou os ol cu cs cl) (hk : Keep Nb w wr) :
    NewPost w n (.returned (.tuple #[.pointer (some ⟨b, 0, none⟩), .nilIface])) wr :=
  ⟨b, rfl, ⟨_, _, _, _, _, _, _, _, _, _, hM.tight.mono (fun _ h => h), SetsInv.new n, hn⟩, hk⟩

set_option maxHeartbeats 2000000 in
set_option maxRecDepth 100000 in
theorem new_any (n : Nat) (hn : n ≤ 40) (w : World) : Calls Try.prog 12 #[.int .i64 n] w (NewPost w n) := by
  have H0 : SetsMem (fun j => w.heap.size ≤ j) (w.alloc (.cells #[.slice none 0 0, .slice none 0 0, .slice none 0 0, .int .i64 n] 77)) w.heap.size 0 (fun x => x) (fun _ => 1) (fun x => x) n none none none 0 0 0 :=
    ⟨Row.new w _ _, Nat.le_refl _, Sl.nil _ _ _ _, Sl.nil _ _ _ _, Sl.nil _ _ _ _, fun _ h => (by cases h), fun _ h => (by cases h), fun _ h => (by cases h), fun _ _ h => (by cases h), fun _ _ h => (by cases h), fun _ _ h => (by cases h)⟩
  have HH := Lib.hid H0
  clear H0
  go_enter Try.func12, Try.ntmps12
  go_wp2_with fail
  go_loopw [17] (fun i wr => ∃ (k : Nat) (ou os ol : Option Addr) (cu cs cl : Nat), i = .int .i64 k ∧ k ≤ n ∧ SetsMem (fun j => w.heap.size ≤ j) wr w.heap.size k (fun x => x) (fun _ => 1) (fun x => x) n ou os ol cu cs cl ∧ Keep Nb w wr)
    (fun i _ => n - (intOf i).toNat)
  case atStart => exact ⟨0, none, none, none, 0, 0, 0, rfl, Nat.zero_le _, HH.out, (Keep.refl Nb w).alloc _⟩
  case round =>
    obtain ⟨k, ou, os, ol, cu, cs, cl, rfl, hk, hM, hkeep⟩ := hrel
    have HM := Lib.hid hM
    have HK := Lib.hid hkeep
    clear hM hkeep
    by_cases hlt : k < n
    · go_wp2_with fail
      refine wp_region_inv (ops := newOps) (by kernel_rfl) newOrd (NI w.heap.size w.heap.size k n cu cs cl ou os ol wr _) (ni_start rfl rfl HM.out) (new_step (by omega) HK.out.size rfl rfl _) ?_
      intro done a w1 hall hI
      have hend := ni_end hI (fun i hi => hall i (by rw [newSize]; exact hi))
      have f0 : a.eval (.tmp 0) = .int .i64 n := hI.fr 0 (.inl (by omega))
      have f1 : a.eval (.tmp 1) = undef := hI.fr 1 (.inl (by omega))
      have f2 : a.eval (.tmp 2) = .pointer none := hI.fr 2 (.inl (by omega))
      have f3 : a.eval (.tmp 3) = .nilIface := hI.fr 3 (.inl (by omega))
      have f4 : a.eval (.tmp 4) = .pointer (some ⟨w.heap.size, 0, none⟩) := hI.fr 4 (.inl (by omega))
      have f5 : a.eval (.tmp 5) = .int .i64 k := hI.fr 5 (.inl (by omega))
      have f6 : a.eval (.tmp 6) = .int .i64 n := hI.fr 6 (.inl (by omega))
      have f7 : a.eval (.tmp 7) = .bool (decide ((n : Int) < 0)) := hI.fr 7 (.inl (by omega))
      have f8 : a.eval (.tmp 8) = .bool (decide ((n : Int) < 0)) := hI.fr 8 (.inl (by omega))
      have f9 : a.eval (.tmp 9) = .int .i64 n := hI.fr 9 (.inl (by omega))
      have f10 : a.eval (.tmp 10) = .bool (decide (40 < (n : Int))) := hI.fr 10 (.inl (by omega))
      have f11 : a.eval (.tmp 11) = .bool (decide ((n : Int) < 0) || decide (40 < (n : Int))) := hI.fr 11 (.inl (by omega))
      have f12 : a.eval (.tmp 12) = undef := hI.fr 12 (.inl (by omega))
      have f13 : a.eval (.tmp 13) = .int .i64 n := hI.fr 13 (.inl (by omega))
      have f14 : a.eval (.tmp 14) = .agg #[.slice none 0 0, .slice none 0 0, .slice none 0 0, .int .i64 n] := hI.fr 14 (.inl (by omega))
      have f15 : a.eval (.tmp 15) = .pointer (some ⟨w.heap.size, 0, none⟩) := hI.fr 15 (.inl (by omega))
      have f16 : a.eval (.tmp 16) = .int .i64 n := hI.fr 16 (.inl (by omega))
      have f17 : a.eval (.tmp 17) = .int .i64 k := hI.fr 17 (.inl (by omega))
      have f18 : a.eval (.tmp 18) = .bool true := hI.fr 18 (.inl (by omega))
      have f19 : a.eval (.tmp 19) = .int .i64 k := hI.fr 19 (.inl (by omega))
      have f49 : a.eval (.tmp 49) = u49 := hI.fr 49 (.inr (by omega))
      have f50 : a.eval (.tmp 50) = undef := hI.fr 50 (.inr (by omega))
      rw [act_lit51 hI.sz hI.df, f0, f1, f2, f3, f4, f5, f6, f7, f8, f9, f10, f11, f12, f13, f14, f15, f16, f17, f18, f19, f49, f50]
      have hk2 := hI.keep
      clear hI f0 f1 f2 f3 f4 f5 f6 f7 f8 f9 f10 f11 f12 f13 f14 f15 f16 f17 f18 f19 f49 f50
      generalize a.eval (.tmp 20) = v20
      generalize a.eval (.tmp 21) = v21
      generalize a.eval (.tmp 22) = v22
      generalize a.eval (.tmp 23) = v23
      generalize a.eval (.tmp 24) = v24
      generalize a.eval (.tmp 25) = v25
      generalize a.eval (.tmp 26) = v26
      generalize a.eval (.tmp 27) = v27
      generalize a.eval (.tmp 28) = v28
      generalize a.eval (.tmp 29) = v29
      generalize a.eval (.tmp 30) = v30
      generalize a.eval (.tmp 31) = v31
      generalize a.eval (.tmp 32) = v32
      generalize a.eval (.tmp 33) = v33
      generalize a.eval (.tmp 34) = v34
      generalize a.eval (.tmp 35) = v35
      generalize a.eval (.tmp 36) = v36
      generalize a.eval (.tmp 37) = v37
      generalize a.eval (.tmp 38) = v38
      generalize a.eval (.tmp 39) = v39
      generalize a.eval (.tmp 40) = v40
      generalize a.eval (.tmp 41) = v41
      generalize a.eval (.tmp 42) = v42
      generalize a.eval (.tmp 43) = v43
      generalize a.eval (.tmp 44) = v44
      generalize a.eval (.tmp 45) = v45
      generalize a.eval (.tmp 46) = v46
      generalize a.eval (.tmp 47) = v47
      generalize a.eval (.tmp 48) = v48
      obtain ⟨ou', os', ol', cu', cs', cl', hM'⟩ := hend
      have HM' := Lib.hid hM'
      have HK' := Lib.hid (HK.out.trans' hk2 (H := Nb) (fun _ _ h => h) (fun j hj e => by omega))
      clear hM' hk2 hall
      go_wp2_with fail
      go_roundw
      case rel => exact ⟨k + 1, ou', os', ol', cu', cs', cl', by go_num, by omega, HM'.out, HK'.out⟩
      case measure => simp [intOf]; omega
    · have hkn : k = n := by omega
      have hfin := Lib.hid (new_fin hn (hkn ▸ HM.out) HK.out)
      clear hkn
      go_wp2_with fail
      go_ret2
      exact hfin.out

end Go.Proofs.Ytkpoobnldgfapaa

/- graph: memory of a Graph; find. -/
namespace Go.Proofs.Ytkpoobnldgfapaa
open Go.RowKit Pl

def ecells (e : E) : List Value := [.int .i64 e.id, .int .i64 e.a, .int .i64 e.b]
def ecs (es : List E) : List Value := es.flatMap ecells

theorem ecs_nil : ecs [] = [] := rfl
theorem ecs_cons (e : E) (es : List E) : ecs (e :: es) = ecells e ++ ecs es := rfl
theorem ecs_append (es fs : List E) : ecs (es ++ fs) = ecs es ++ ecs fs := by simp [ecs]
theorem ecs_length (es : List E) : (ecs es).length = es.length * 3 := by
  induction es with
  | nil => rfl
  | cons e es ih => rw [ecs_cons, List.length_append, ih]; simp [ecells]; omega
theorem ecs_get {es : List E} {i : Nat} {e : E} (h : es[i]? = some e) : (ecs es)[i * 3]? = some (.int .i64 e.id) ∧ (ecs es)[i * 3 + 1]? = some (.int .i64 e.a) ∧ (ecs es)[i * 3 + 2]? = some (.int .i64 e.b) := by
  induction es generalizing i with
  | nil => simp at h
  | cons f es ih =>
    cases i with
    | zero => simp at h; subst h; simp [ecs_cons, ecells]
    | succ i =>
      simp at h
      obtain ⟨h1, h2, h3⟩ := ih h
      rw [ecs_cons]
      have e0 : (i + 1) * 3 = i * 3 + 3 := by omega
      rw [e0]
      refine ⟨?_, ?_, ?_⟩
      · rw [List.getElem?_append_right (by simp [ecells])]; simpa [ecells] using h1
      · rw [List.getElem?_append_right (by simp [ecells])]; simpa [ecells] using h2
      · rw [List.getElem?_append_right (by simp [ecells])]; simpa [ecells] using h3
theorem ecs_one (es : List E) : ∀ u ∈ ecs es, u.oneCell' = true := by
  intro u hu
  obtain ⟨e, _, he⟩ := List.mem_flatMap.1 hu
  simp [ecells] at he
  rcases he with rfl | rfl | rfl <;> rfl

/-- The edges in a row, one by one. -/
structure ERow (w : World) (g : Nat) (es : List E) : Prop where
  id : ∀ i e, es[i]? = some e → w.cell? ⟨g, i * 3, none⟩ = some (.int .i64 e.id)
  a : ∀ i e, es[i]? = some e → w.cell? ⟨g, i * 3 + 1, none⟩ = some (.int .i64 e.a)
  b : ∀ i e, es[i]? = some e → w.cell? ⟨g, i * 3 + 2, none⟩ = some (.int .i64 e.b)

theorem Row.edges {w : World} {g : Nat} {T : TypeId} {es : List E} (h : Row w g T (ecs es)) : ERow w g es :=
  ⟨fun _ _ he => h.cell (ecs_get he).1, fun _ _ he => h.cell (ecs_get he).2.1, fun _ _ he => h.cell (ecs_get he).2.2⟩

theorem ERow.alloc {w : World} {g : Nat} {es : List E} (h : ERow w g es) (o : Obj) : ERow (w.alloc o) g es :=
  ⟨fun i e he => by have := h.id i e he; rw [World.cell?_alloc_past _ _ _ (World.block_lt_of_cell? w _ this)]; exact this,
   fun i e he => by have := h.a i e he; rw [World.cell?_alloc_past _ _ _ (World.block_lt_of_cell? w _ this)]; exact this,
   fun i e he => by have := h.b i e he; rw [World.cell?_alloc_past _ _ _ (World.block_lt_of_cell? w _ this)]; exact this⟩

theorem ERow.keep {F : Nat → Prop} {w w' : World} {g : Nat} {es : List E} (h : ERow w g es) (k : Keep F w w') (hg : ¬ F g) : ERow w' g es :=
  ⟨fun i e he => k.cell (h.id i e he) hg, fun i e he => k.cell (h.a i e he) hg, fun i e he => k.cell (h.b i e he) hg⟩

def cmpId (i : Nat) (t : Int) : Int := if (i : Int) < t then -1 else if t < (i : Int) then 1 else 0

theorem find1_any (id a b : Nat) (t : Int) (w : World) : Calls Try.prog 94 #[.agg #[.int .i64 id, .int .i64 a, .int .i64 b], .int .i64 t] w fun e w' => e = .returned (.int .i64 (cmpId id t)) ∧ Keep Nb w w' := by
  by_cases h1 : (id : Int) < t
  · have hc : cmpId id t = -1 := by unfold cmpId; rw [if_pos h1]
    have HC := Lib.hid hc
    clear hc
    go_enter Try.func94, Try.ntmps94
    go_wp2
    go_ret
    exact ⟨by rw [HC.out]; rfl, (Keep.refl Nb w).alloc _⟩
  · by_cases h2 : t < (id : Int)
    · have hc : cmpId id t = 1 := by unfold cmpId; rw [if_neg h1, if_pos h2]
      have HC := Lib.hid hc
      clear hc
      go_enter Try.func94, Try.ntmps94
      go_wp2
      go_ret
      exact ⟨by rw [HC.out]; rfl, (Keep.refl Nb w).alloc _⟩
    · have hc : cmpId id t = 0 := by unfold cmpId; rw [if_neg h1, if_neg h2]
      have HC := Lib.hid hc
      clear hc
      go_enter Try.func94, Try.ntmps94
      go_wp2
      go_ret
      exact ⟨by rw [HC.out]; rfl, (Keep.refl Nb w).alloc _⟩

end Go.Proofs.Ytkpoobnldgfapaa

/- graph: slices.BinarySearchFunc over the edges; find. -/
namespace Go.Proofs.Ytkpoobnldgfapaa
open Go.RowKit Pl

/-- How far the search has come. -/
def BRel (w : World) (es : List E) (t : Int) (lo hi : Nat) (wr : World) : Prop :=
  Keep Nb w wr ∧ (∀ k e, k < lo → es[k]? = some e → (e.id : Int) < t) ∧ (∀ k e, hi ≤ k → es[k]? = some e → t ≤ (e.id : Int))

theorem BRel.up {w : World} {es : List E} {t : Int} {lo hi m : Nat} {wr w2 : World} {e : E} (h : BRel w es t lo hi wr) (hs : Sorted es) (he : es[m]? = some e) (hl : (e.id : Int) < t) (k : Keep Nb wr w2) : BRel w es t (m + 1) hi w2 := by
  refine ⟨h.1.trans k, fun j f hj hf => ?_, h.2.2⟩
  by_cases hjm : j = m
  · subst hjm; rw [he] at hf; cases hf; exact hl
  · have := hs.lt hf he (by omega); omega

theorem BRel.down {w : World} {es : List E} {t : Int} {lo hi m : Nat} {wr w2 : World} {e : E} (h : BRel w es t lo hi wr) (hs : Sorted es) (he : es[m]? = some e) (hl : ¬ (e.id : Int) < t) (k : Keep Nb wr w2) : BRel w es t lo m w2 := by
  refine ⟨h.1.trans k, h.2.1, fun j f hj hf => ?_⟩
  by_cases hjm : j = m
  · subst hjm; rw [he] at hf; cases hf; omega
  · have := hs.lt he hf (by omega); omega

def BPost (w : World) (es : List E) (t : Int) (e : Ending) (w' : World) : Prop :=
  e = .returned (.tuple #[.int .i64 (posOf es t : Nat), .bool (hasId es t)]) ∧ Keep Nb w w'

theorem cmp_neg (i : Nat) (t : Int) : cmpId i t < 0 ↔ (i : Int) < t := by
  unfold cmpId; split
  · simp; assumption
  · split
    · simp; omega
    · simp; omega
theorem cmp_zero (i : Nat) (t : Int) : cmpId i t = 0 ↔ (i : Int) = t := by
  unfold cmpId; split
  · simp; omega
  · split
    · simp; omega
    · simp; omega

set_option maxRecDepth 100000 in
set_option maxHeartbeats 1000000 in
theorem bsf_any (F : Nat → Prop) (w : World) (o : Option Addr) (n c : Nat) (es : List E) (t : Int) (hS : Sl F w 54 3 o n c (ecs es)) (hs : Sorted es) (hn : n ≤ 1000) :
    Calls Try.prog 93 #[.slice o n c, .int .i64 t, .func (.func 94) #[] #[]] w (BPost w es t) := by
  have hlen : n = es.length := by have := hS.len; rw [ecs_length] at this; omega
  have HS := Lib.hid hS
  have HO := Lib.hid hs
  have HP : Hid (∀ i wr, i ≤ n → BRel w es t i i wr → (match es[i]? with | some e => decide ((e.id : Int) = t) | none => false) = hasId es t ∧ posOf es t = i ∧ Keep Nb w wr) :=
    Lib.hid (fun i wr hi h => ⟨(hasId_at hs h.2.1 h.2.2).symm, posOf_eq (by omega) h.2.1 h.2.2, h.1⟩)
  have HB0 : Hid (BRel w es t 0 n w) := Lib.hid ⟨Keep.refl Nb w, fun _ _ h => by omega, fun k e hk he => by have := (List.getElem?_eq_some_iff.1 he).1; omega⟩
  have HLen := Lib.hid hlen
  clear hS hs hlen
  go_enter Try.func93, Try.ntmps93
  go_wp2
  go_loopg [9, 10] n (fun kx s9 s10 wr => ∃ lo hi : Nat, s9 = .int .i64 lo ∧ s10 = .int .i64 hi ∧ lo ≤ hi ∧ hi ≤ n ∧ hi - lo ≤ kx ∧ Hid (BRel w es t lo hi wr))
  case atStart => exact ⟨0, n, rfl, rfl, Nat.zero_le _, Nat.le_refl _, by omega, HB0⟩
  case round =>
    clear HB0
    obtain ⟨lo, hi, rfl, rfl, hlh, hin, hg, HB⟩ := hrel
    by_cases hlt : lo < hi
    · obtain ⟨g, ho, _, hnc, hrow⟩ := HS.out.pos (by omega)
      subst ho
      have hm : (lo + hi) / 2 < es.length := by have := HLen.out; omega
      have he := List.getElem?_eq_getElem hm
      generalize es[(lo + hi) / 2]'hm = e at he
      have hE := (hrow.edges.keep HB.out.1 id)
      have c1 := hE.id _ _ he
      have c2 := hE.a _ _ he
      have c3 := hE.b _ _ he
      have HE := Lib.hid he
      clear hE he hrow
      have HX := Lib.hid (show ((lo : Int) + (hi : Int)) / 2 = (((lo + hi) / 2 : Nat) : Int) by omega)
      by_cases hlt2 : (e.id : Int) < t
      · have hc : cmpId e.id t < 0 := (cmp_neg _ _).2 hlt2
        have HL := Lib.hid hlt2
        clear hlt2
        go_wp2_with (refine (find1_any e.id e.a e.b t _).mono ?_; rintro e1 w1 ⟨rfl, hk1⟩; have HK := Lib.hid hk1; clear hk1)
        go_roundg (hi - ((lo + hi) / 2 + 1))
        case measure => omega
        case rel => exact ⟨(lo + hi) / 2 + 1, hi, by rw [HX.out]; rfl, rfl, by omega, hin, Nat.le_refl _, Lib.hid (HB.out.up HO.out HE.out HL.out HK.out)⟩
      · have hc : ¬ cmpId e.id t < 0 := fun h => hlt2 ((cmp_neg _ _).1 h)
        have HL := Lib.hid hlt2
        clear hlt2
        go_wp2_with (refine (find1_any e.id e.a e.b t _).mono ?_; rintro e1 w1 ⟨rfl, hk1⟩; have HK := Lib.hid hk1; clear hk1)
        go_roundg ((lo + hi) / 2 - lo)
        case measure => omega
        case rel => exact ⟨lo, (lo + hi) / 2, rfl, by rw [HX.out], by omega, by omega, Nat.le_refl _, Lib.hid (HB.out.down HO.out HE.out (Int.not_lt.2 HL.out) HK.out)⟩
    · have e0 : lo = hi := by omega
      subst e0
      obtain ⟨hh, hp, hk⟩ := HP.out _ _ hin HB.out
      by_cases hlt3 : lo < n
      · obtain ⟨g, ho, _, hnc, hrow⟩ := HS.out.pos (by omega)
        subst ho
        have hm : lo < es.length := by have := HLen.out; omega
        have he := List.getElem?_eq_getElem hm
        generalize es[lo]'hm = e at he
        rw [he] at hh
        simp only at hh
        have hE := (hrow.edges.keep HB.out.1 id)
        have c1 := hE.id _ _ he
        have c2 := hE.a _ _ he
        have c3 := hE.b _ _ he
        have hz : (cmpId e.id t = 0) = ((e.id : Int) = t) := propext (cmp_zero _ _)
        have HH := Lib.hid hh
        have HPo := Lib.hid hp
        have HK := Lib.hid hk
        have HZ := Lib.hid hz
        clear hE he hrow hh hp hk hz
        go_wp2_with (refine (find1_any e.id e.a e.b t _).mono ?_; rintro e1 w1 ⟨rfl, hk1⟩; have HK1 := Lib.hid hk1; clear hk1)
        go_ret2
        exact ⟨by rw [HPo.out, ← HH.out]; simp; rw [Bool.eq_iff_iff, beq_iff_eq, decide_eq_true_iff, HZ.out], HK.out.trans HK1.out⟩
      · have hn0 : es[lo]? = none := by have := HLen.out; simp; omega
        rw [hn0] at hh
        have HH := Lib.hid hh
        have HPo := Lib.hid hp
        have HK := Lib.hid hk
        clear hh hp hk hn0
        go_wp2
        go_ret2
        exact ⟨by rw [HPo.out, ← HH.out]; rfl, HK.out⟩

end Go.Proofs.Ytkpoobnldgfapaa

/- graph: memory of a Graph; find, Nodes, Edge, Other, New. -/
namespace Go.Proofs.Ytkpoobnldgfapaa
open Go.RowKit Pl

structure GrMem (F : Nat → Prop) (w : World) (b n : Nat) (es : List E) (o : Option Addr) (c : Nat) : Prop where
  head : Row w b 92 [.int .i64 n, .slice o es.length c]
  hb : F b
  s : Sl F w 54 3 o es.length c (ecs es)
  d : ∀ a, o = some a → a.block ≠ b

namespace GrMem
variable {F : Nat → Prop} {w : World} {b n : Nat} {es : List E} {o : Option Addr} {c : Nat}
theorem keep {G : Nat → Prop} {w' : World} (h : GrMem F w b n es o c) (k : Keep G w w') (d : ∀ k, F k → ¬ G k) : GrMem F w' b n es o c := ⟨h.head.keep k (d b h.hb), h.hb, h.s.keep k d, h.d⟩
theorem drew (h : GrMem F w b n es o c) : GrMem F w.drew b n es o c := ⟨h.head.drew, h.hb, h.s.drew, h.d⟩
theorem alloc (h : GrMem F w b n es o c) (ob : Obj) : GrMem F (w.alloc ob) b n es o c := ⟨h.head.alloc ob, h.hb, h.s.alloc ob, h.d⟩
theorem mono {G : Nat → Prop} (h : GrMem F w b n es o c) (hG : ∀ k, F k → G k) : GrMem G w b n es o c := ⟨h.head, hG _ h.hb, h.s.mono hG, h.d⟩
theorem tight (h : GrMem F w b n es o c) : GrMem (fun k => F k ∧ k < w.heap.size) w b n es o c := ⟨h.head, ⟨h.hb, h.head.lt⟩, h.s.tight, h.d⟩
end GrMem

/-- A graph in memory. -/
def Gr (F : Nat → Prop) (w : World) (b n : Nat) (es : List E) : Prop := ∃ o c, GrMem F w b n es o c

theorem Gr.keep {F G : Nat → Prop} {w w' : World} {b n : Nat} {es : List E} (h : Gr F w b n es) (k : Keep G w w') (d : ∀ k, F k → ¬ G k) : Gr F w' b n es := by
  obtain ⟨o, c, h⟩ := h; exact ⟨o, c, h.keep k d⟩
theorem Gr.drew {F : Nat → Prop} {w : World} {b n : Nat} {es : List E} (h : Gr F w b n es) : Gr F w.drew b n es := by
  obtain ⟨o, c, h⟩ := h; exact ⟨o, c, h.drew⟩
theorem Gr.alloc {F : Nat → Prop} {w : World} {b n : Nat} {es : List E} (h : Gr F w b n es) (ob : Obj) : Gr F (w.alloc ob) b n es := by
  obtain ⟨o, c, h⟩ := h; exact ⟨o, c, h.alloc ob⟩
theorem Gr.mono {F G : Nat → Prop} {w : World} {b n : Nat} {es : List E} (h : Gr F w b n es) (hG : ∀ k, F k → G k) : Gr G w b n es := by
  obtain ⟨o, c, h⟩ := h; exact ⟨o, c, h.mono hG⟩

set_option maxRecDepth 100000 in
theorem find_any (F : Nat → Prop) (w : World) (b n : Nat) (es : List E) (t : Int) (hG : Gr F w b n es) (hs : Sorted es) (hn : es.length ≤ 1000) :
    Calls Try.prog 79 #[.pointer (some ⟨b, 0, none⟩), .int .i64 t] w (BPost w es t) := by
  obtain ⟨o, c, hM⟩ := hG
  have c1 := hM.head.cell (i := 1) rfl
  have HM := Lib.hid hM
  have HO := Lib.hid hs
  clear hM hs
  go_enter Try.func79, Try.ntmps79
  go_wp2_with fail
  refine (bsf_any F w o es.length c es t HM.out.s HO.out hn).mono ?_
  rintro e1 w1 ⟨rfl, hk⟩
  have HK := Lib.hid hk
  clear hk
  go_wp2_with fail
  go_ret2
  exact ⟨rfl, HK.out⟩

set_option maxRecDepth 100000 in
theorem nodes_any (F : Nat → Prop) (w : World) (b n : Nat) (es : List E) (hG : Gr F w b n es) :
    Calls Try.prog 24 #[.pointer (some ⟨b, 0, none⟩)] w fun e w' => e = .returned (.int .i64 n) ∧ w' = w := by
  obtain ⟨o, c, hM⟩ := hG
  have c0 := hM.head.cell (i := 0) rfl
  clear hM
  go_enter Try.func24, Try.ntmps24
  go_wp2
  go_ret
  exact ⟨rfl, rfl⟩

end Go.Proofs.Ytkpoobnldgfapaa

/- copy, for elements of several cells. Nothing of one program stands here. -/
namespace Go.Proofs.Ytkpoobnldgfapaa
open Go.RowKit

theorem run_copyN {P : Program} (w : World) (dT sT ty elem : TypeId) (g o dLen dCap : Nat) (a : Addr) (sLen sCap : Nat) (cur : Array Value) (t : TypeId) (cs : List Value) (size n : Nat)
    (hu : P.underlying dT = some (.slice elem)) (hs : (P.info? elem).map (·.size) = some size)
    (hg : w.heap[g]? = some (.cells cur t (0, 0))) (hn : Nat.min sLen dLen = n) (hcl : cs.length = n * size)
    (hsrc : ∀ j v, cs[j]? = some v → w.cell? (a.add j) = some v) (hfit : o + cs.length ≤ cur.size) (h1 : ∀ v ∈ cs, v.oneCell' = true) :
    (Builtin.copy_ #[dT, sT] ty #[.slice (some ⟨g, o, none⟩) dLen dCap, .slice (some a) sLen sCap]).run P w =
      .ok (goInt n) (w.setRow g (cur.toList.take o ++ cs ++ cur.toList.drop (o + cs.length)).toArray) := by
  have hl := run_loadCells_list (P := P) w a cs hsrc
  have hst := run_storeCells_at P g o t cs 0 cur w hg (by simpa using hfit) h1
  cases hq : P.info? elem with
  | none => simp [hq] at hs
  | some i =>
    have hi : i.size = size := by simpa [hq] using hs
    simp [Builtin.copy_, run_underlying hu, Builtin.lenOf, Builtin.firstCells, sizeOf, typeInfo, hq, hi, hn, ← hcl, hl, hst]

end Go.Proofs.Ytkpoobnldgfapaa

/- graph: slices.Insert of one edge. -/
namespace Go.Proofs.Ytkpoobnldgfapaa
open Go.RowKit Pl

def ins (es : List E) (i : Nat) (e : E) : List E := es.take i ++ e :: es.drop i

theorem ins_end (es : List E) (e : E) : ins es es.length e = es ++ [e] := by simp [ins]
theorem ecs_ins (es : List E) (i : Nat) (e : E) : ecs (ins es i e) = ecs (es.take i) ++ (ecells e ++ ecs (es.drop i)) := by simp [ins, ecs_append, ecs_cons]
theorem ecs_take (es : List E) (i : Nat) : ecs (es.take i) = (ecs es).take (i * 3) := by
  induction es generalizing i with
  | nil => simp [ecs_nil]
  | cons e es ih =>
    cases i with
    | zero => simp [ecs_nil]
    | succ i =>
      have e0 : (i + 1) * 3 = i * 3 + 3 := by omega
      simp only [List.take_succ_cons, ecs_cons, ih, e0]
      simp [ecells, List.take_succ_cons]
theorem ecs_drop (es : List E) (i : Nat) : ecs (es.drop i) = (ecs es).drop (i * 3) := by
  induction es generalizing i with
  | nil => simp [ecs_nil]
  | cons e es ih =>
    cases i with
    | zero => simp [ecs_nil]
    | succ i =>
      have e0 : (i + 1) * 3 = i * 3 + 3 := by omega
      simp only [List.drop_succ_cons, ecs_cons, ih, e0]
      simp [ecells, List.drop_succ_cons]

def InsPost (F : Nat → Prop) (w : World) (o : Option Addr) (es : List E) (i : Nat) (e : E) (en : Ending) (w' : World) : Prop :=
  ∃ g c', en = .returned (.slice (some ⟨g, 0, none⟩) (es.length + 1) c') ∧ Sl (fun k => F k ∨ w.heap.size ≤ k) w' 54 3 (some ⟨g, 0, none⟩) (es.length + 1) c' (ecs (ins es i e)) ∧ Keep (Bl o) w w' ∧ (o = some ⟨g, 0, none⟩ ∨ w.heap.size ≤ g)

theorem elem_edge : ElemT Try.prog 54 (.agg #[.int .i64 0, .int .i64 0, .int .i64 0]) 3 24 := by unfold ElemT; kernel_rfl
theorem und_edges : (Try.prog).underlying 51 = some (.slice 54) := by kernel_rfl

set_option maxRecDepth 100000 in
theorem insert_end (F : Nat → Prop) (w : World) (o : Option Addr) (c : Nat) (es : List E) (vb : Nat) (e : E) (hS : Sl F w 54 3 o es.length c (ecs es)) (hn : es.length ≤ 1000)
    (hv : w.heap[vb]? = some (.cells (ecells e).toArray 54 (0, 0))) :
    Calls Try.prog 82 #[.slice o es.length c, .int .i64 es.length, .slice (some ⟨vb, 0, none⟩) 1 1] w (InsPost F w o es es.length e) := by
  have hcell : ∀ j u, (ecells e)[j]? = some u → w.cell? ((⟨vb, 0, none⟩ : Addr).add j) = some u := by
    intro j u hj
    rw [show (⟨vb, 0, none⟩ : Addr).add j = ⟨vb, j, none⟩ from by unfold Addr.add; split <;> simp_all]
    simp [World.cell?, hv]
    simpa using hj
  obtain ⟨g, c', w', h1, h2, h3, h4⟩ := run_app (P := Try.prog) (w := w) 51 51 54 und_edges elem_edge (by rfl) (by omega) hS ⟨vb, 0, none⟩ 1 1 (ecells e) rfl hcell
    (by intro u hu; exact ecs_one [e] u (by simpa [ecs] using hu)) (by simp only [maxLen]; omega) (by omega) (by omega)
  have hP : InsPost F w o es es.length e (.returned (.slice (some ⟨g, 0, none⟩) (es.length + 1) c')) w' := by
    refine ⟨g, c', rfl, ?_, h3, ?_⟩
    · rw [ins_end, ecs_append, ecs_cons, ecs_nil, List.append_nil]
      exact h2.mono (fun k hk => by rcases hk with h | h; exact .inl h; exact .inr (by omega))
    · rcases h4 with h | h
      · exact .inl h
      · exact .inr (by omega)
  have H1 := Lib.hid h1
  have HP := Lib.hid hP
  have hcs := hS.cases
  clear h1 hP h2 h3 h4 hcell hv hS
  rcases hcs with ⟨rfl, h0, rfl, _⟩ | ⟨g0, rfl, _, hnc, hcm, _⟩
  · obtain rfl := List.eq_nil_of_length_eq_zero h0
    simp only [List.length_nil, Nat.zero_add, Int.natCast_zero] at H1 HP ⊢
    go_enter Try.func82, Try.ntmps82
    go_wp2_with ((at_builtin; refine wpList_app rfl _ _ _ rfl rfl rfl H1.out ?_))
    go_ret
    exact HP.out
  · simp only [maxLen] at hcm
    by_cases hc : c = es.length
    · subst hc
      go_enter Try.func82, Try.ntmps82
      go_wp2_with ((at_builtin; refine wpList_app rfl _ _ _ rfl rfl rfl H1.out ?_))
      go_ret
      exact HP.out
    · have hc' : ¬ c - es.length = 0 := by omega
      go_enter Try.func82, Try.ntmps82
      go_wp2_with ((at_builtin; refine wpList_app rfl _ _ _ rfl rfl rfl H1.out ?_))
      go_ret
      exact HP.out

end Go.Proofs.Ytkpoobnldgfapaa

/- graph: slices.Insert of one edge ahead of others, in place. -/
namespace Go.Proofs.Ytkpoobnldgfapaa
open Go.RowKit Go.Lib Pl

theorem shift_row {α : Type} (cur L N : List α) (a k l : Nat) (hk : N.length = k) (hL : cur.take l = L) (hl : L.length = l) (ha : a ≤ l) (hf : l + k ≤ cur.length) :
    ((((cur.take (a + k) ++ L.drop a ++ cur.drop (a + k + (L.drop a).length)).take a) ++ N ++ (cur.take (a + k) ++ L.drop a ++ cur.drop (a + k + (L.drop a).length)).drop (a + N.length)).take (l + k)) = L.take a ++ (N ++ L.drop a) ∧
    ((((cur.take (a + k) ++ L.drop a ++ cur.drop (a + k + (L.drop a).length)).take a) ++ N ++ (cur.take (a + k) ++ L.drop a ++ cur.drop (a + k + (L.drop a).length)).drop (a + N.length))).length = cur.length ∧
    (cur.take (a + k) ++ L.drop a ++ cur.drop (a + k + (L.drop a).length)).length = cur.length := by
  subst hL
  have h3 : (cur.take (a + k) ++ (cur.take l).drop a ++ cur.drop (a + k + ((cur.take l).drop a).length)).length = cur.length := by
    simp; omega
  have h1 : (cur.take (a + k) ++ (cur.take l).drop a ++ cur.drop (a + k + ((cur.take l).drop a).length)).take a = (cur.take l).take a := by
    rw [List.append_assoc, List.take_append_of_le_length (by simp; omega), List.take_take, List.take_take]
    congr 1; omega
  have h2 : (cur.take (a + k) ++ (cur.take l).drop a ++ cur.drop (a + k + ((cur.take l).drop a).length)).drop (a + N.length) = (cur.take l).drop a ++ cur.drop (a + k + ((cur.take l).drop a).length) := by
    rw [List.append_assoc]
    have : a + N.length = (cur.take (a + k)).length := by simp; omega
    rw [this, List.drop_left]
  refine ⟨?_, ?_, h3⟩
  · rw [h1, h2]
    have e : (cur.take l).take a ++ N ++ ((cur.take l).drop a ++ cur.drop (a + k + ((cur.take l).drop a).length)) = ((cur.take l).take a ++ (N ++ (cur.take l).drop a)) ++ cur.drop (a + k + ((cur.take l).drop a).length) := by simp [List.append_assoc]
    rw [e]
    have : l + k = ((cur.take l).take a ++ (N ++ (cur.take l).drop a)).length := by simp; simp at hl; omega
    rw [this, List.take_left]
  · rw [h1, h2]
    simp; omega

set_option maxRecDepth 100000 in
theorem insert_shift (F : Nat → Prop) (w : World) (g c i : Nat) (es : List E) (vb : Nat) (e : E) (hS : Sl F w 54 3 (some ⟨g, 0, none⟩) es.length c (ecs es)) (hn : es.length ≤ 1000)
    (hv : w.heap[vb]? = some (.cells (ecells e).toArray 54 (0, 0))) (hne : vb ≠ g) (hi : i < es.length) (hroom : es.length + 1 ≤ c) :
    Calls Try.prog 82 #[.slice (some ⟨g, 0, none⟩) es.length c, .int .i64 i, .slice (some ⟨vb, 0, none⟩) 1 1] w (InsPost F w (some ⟨g, 0, none⟩) es i e) := by
  rcases hS.cases with ⟨h0, _⟩ | ⟨g0, h0, hFg, hnc, hcm, hrow, cur, hcur, hcs⟩
  · cases h0
  obtain rfl : g = g0 := by simpa using h0
  have htake : cur.toList.take (ecs es).length = ecs es := by
    obtain ⟨cur', hc', ht'⟩ := hrow
    rw [hcur] at hc'; cases hc'; exact ht'
  have hel := ecs_length es
  simp only [maxLen] at hcm
  have hov : ∀ off lb cb, (callFunc 96 #[.slice (some ⟨vb, 0, none⟩) 1 1, .slice (some ⟨g, off, none⟩) lb cb]).run Try.prog w = .ok (.value (.bool false)) w := fun off lb cb => by
    have hsv : w.shape? vb = some (54, 3) := by simp [World.shape?, hv, ecells]
    have hsg : w.shape? g = some (54, c * 3) := by simp [World.shape?, hcur, hcs]
    rw [run_callFunc_extern Try.func96 (by kernel_rfl) (by kernel_rfl) (by kernel_rfl) (e := Extern.SlicesOverlaps.overlaps #[51, 51] #[4]) (by kernel_rfl),
      Lib.run_overlaps_apart w 51 4 54 und_edges 3 (fun w => by kernel_rfl) ⟨vb, 0, none⟩ ⟨g, off, none⟩ 1 1 lb cb hne 54 54 3 (c * 3) hsv hsg (by omega) (by simp [World.frozen?, hv]) (by simp [World.frozen?, hv])]
    rfl
  have hsz : ((Try.prog).info? 54).map (·.size) = some 3 := by kernel_rfl
  have hcsize : cur.toList.length = c * 3 := by simpa using hcs
  obtain ⟨hr1, hr2, hr3⟩ := shift_row cur.toList (ecs es) (ecells e) (i * 3) 3 (es.length * 3) rfl (by rw [← hel]; exact htake) hel (by omega) (by rw [hcsize]; omega)
  have hd : ((ecs es).drop (i * 3)).length = (es.length - i) * 3 := by rw [List.length_drop, hel]; omega
  have hcp1 : ∀ ty dc sc, (Builtin.copy_ #[51, 51] ty #[.slice (some ⟨g, (i + 1) * 3, none⟩) (es.length - i) dc, .slice (some ⟨g, i * 3, none⟩) (es.length + 1 - i) sc]).run Try.prog w.drew =
        .ok (goInt (es.length - i : Nat)) (w.drew.setRow g (cur.toList.take (i * 3 + 3) ++ (ecs es).drop (i * 3) ++ cur.toList.drop (i * 3 + 3 + ((ecs es).drop (i * 3)).length)).toArray) := fun ty dc sc => by
    have e0 : (i + 1) * 3 = i * 3 + 3 := by omega
    rw [e0]
    exact run_copyN w.drew _ _ ty 54 g (i * 3 + 3) (es.length - i) dc ⟨g, i * 3, none⟩ (es.length + 1 - i) sc cur 54 ((ecs es).drop (i * 3)) 3 (es.length - i) und_edges hsz hcur
      (by simp only [Nat.min_def]; split <;> omega) hd
      (fun j v hj => by
        rw [List.getElem?_drop] at hj
        rw [show (⟨g, i * 3, none⟩ : Addr).add j = ⟨g, i * 3 + j, none⟩ from by unfold Addr.add; split <;> simp_all]
        exact hrow.cell hj)
      (by rw [hd]; have := hcs; omega) (fun v hv => ecs_one es v (List.mem_of_mem_drop hv))
  generalize hrow1 : (cur.toList.take (i * 3 + 3) ++ (ecs es).drop (i * 3) ++ cur.toList.drop (i * 3 + 3 + ((ecs es).drop (i * 3)).length)) = row1 at *
  have hcp2 : ∀ (W : World), W.heap[g]? = some (.cells row1.toArray 54 (0, 0)) → W.heap[vb]? = w.heap[vb]? → ∀ ty dc, (Builtin.copy_ #[51, 51] ty #[.slice (some ⟨g, i * 3, none⟩) (es.length + 1 - i) dc, .slice (some ⟨vb, 0, none⟩) 1 1]).run Try.prog W =
      .ok (goInt 1) (W.setRow g (row1.take (i * 3) ++ ecells e ++ row1.drop (i * 3 + (ecells e).length)).toArray) := fun W hWg hWv ty dc =>
    run_copyN W _ _ ty 54 g (i * 3) (es.length + 1 - i) dc ⟨vb, 0, none⟩ 1 1 row1.toArray 54 (ecells e) 3 1 und_edges hsz hWg
      (by simp only [Nat.min_def]; split <;> omega) rfl
      (fun j u hj => by
        rw [show (⟨vb, 0, none⟩ : Addr).add j = ⟨vb, j, none⟩ from by unfold Addr.add; split <;> simp_all]
        simp [World.cell?, hWv, hv]
        simpa using hj)
      (by simp [hr3, ecells, hcs]; omega) (fun u hu => ecs_one [e] u (by simpa [ecs] using hu))
  have hP : ∀ W : World, W.heap = (w.setRow g row1.toArray).heap → W.os = w.os → W.tape = w.tape → W.output = w.output →
      InsPost F w (some ⟨g, 0, none⟩) es i e (.returned (.slice (some ⟨g, 0, none⟩) (es.length + 1) c)) (W.setRow g (row1.take (i * 3) ++ ecells e ++ row1.drop (i * 3 + (ecells e).length)).toArray) := by
    intro W hW ho ht hou
    have hWg : W.heap[g]? = some (.cells row1.toArray 54 (0, 0)) := by rw [hW]; exact setRow_heap w g cur _ _ _ hcur
    have hlen : (ecs (ins es i e)).length = (es.length + 1) * 3 := by rw [ecs_length]; congr 1; simp [ins]; omega
    refine ⟨g, c, rfl, ⟨⟨hlen, .inr ⟨g, c, _, rfl, Nat.zero_le _, setRow_heap W g _ _ _ _ hWg, hroom, by simp only [maxLen]; exact hcm, ?_, ?_⟩⟩, fun a ha => .inl (hS.foot a ha)⟩, ⟨ho, ht, hou, ?_, fun k _ hk => ?_⟩, .inl rfl⟩
    · rw [List.size_toArray, hr2, hcsize]
    · rw [show (es.length + 1) * 3 = es.length * 3 + 3 by omega]
      show List.take _ (_ : List Value) = _
      rw [hr1, ecs_ins, ecs_take, ecs_drop]
    · have : W.heap.size = w.heap.size := by rw [hW]; simp
      simp [this]
    · have hkg : k ≠ g := fun e => hk ⟨_, rfl, e.symm⟩
      rw [setRow_other W g k _ hkg, hW, setRow_other w g k _ hkg]
  generalize row1.take (i * 3) ++ ecells e ++ row1.drop (i * 3 + (ecells e).length) = row2 at hcp2 hP
  have HOv := Lib.hid hov
  have H1 := Lib.hid hcp1
  have H2 := Lib.hid (hcp2 (w.drew.setRow g row1.toArray) (setRow_heap w.drew g cur _ _ _ hcur) (setRow_other w.drew g vb _ hne))
  have HP := Lib.hid hP
  have HC := Lib.hid hcur
  clear hov hcp1 hcp2 hP hr1 hr2 hr3 hrow1 htake hel hrow hcs hcsize hd hsz hv hcur hS h0
  have hin : i ≤ es.length := by omega
  have htn : ((i : Int) + 1).toNat = i + 1 := by omega
  have hb2 : ¬ (c = i + 1) := by omega
  have hb4 : ¬ (c = i) := by omega
  have hz2 : ¬ ((i : Int) = (es.length : Int)) := by omega
  have hw1 : IntKind.i64.wrap ((i : Int) + 1) = (i : Int) + 1 := IntWalk.i64_in _ (by omega)
  have hb1 : (0 : Int) ≤ (i : Int) + 1 := by omega
  have hb3 : (i : Int) ≤ (es.length : Int) + 1 := by omega
  have mixed : (Try.prog).follows Departure.mixedOrders = true := by kernel_rfl
  generalize es.length = n at *
  go_enter Try.func82, Try.ntmps82
  go_wp2_with (simp only [HOv.out])
  go_region_law_o (refine step_copy_runI rfl _ _ 51 51 rfl (.slice (some ⟨g, (i + 1) * 3, none⟩) (n - i) (c - (i + 1))) (.slice (some ⟨g, i * 3, none⟩) (n + 1 - i) (c - i)) (by simp [Act.eval, Act.put]) (by simp [Act.eval, Act.put]) (H1.out 3 (c - (i + 1)) (c - i)) ?_)
  go_wp2_with (rw [H2.out])
  go_ret
  exact HP.out (w.drew.setRow g row1.toArray) rfl rfl rfl rfl

end Go.Proofs.Ytkpoobnldgfapaa
