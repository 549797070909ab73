/- Part 8 of the proof: A3. -/
import Derived.Test.YtfglkgkihafcpaaGreatDoorDp01
import Derived.Test.YtfglkgkihafcpaaGreatDoorDp04
import Derived.Test.YtfglkgkihafcpaaGreatDoorDp05
import Derived.Orders
set_option linter.unusedVariables false
set_option linter.unusedSimpArgs false
namespace Go.Proofs.YtfglkgkihafcpaaGreatDoor
open Go.RowKit
def Closed (ops : Array Oper) (done : Nat → Bool) : Prop := ∀ (j : Nat) o, ops[j]? = some o → done j = true → ∀ e ∈ o.after.toList, Region.binds .any e = true → done e.on = true
def Ordered (ops : Array Oper) : Bool := (List.range ops.size).all fun i => ((ops[i]?).map fun o => o.after.toList.all fun e => !Region.binds .any e || decide (e.on < i)).getD true
theorem Ordered.spec {ops : Array Oper} (h : Ordered ops = true) {i : Nat} {o : Oper} (ho : ops[i]? = some o) : ∀ e ∈ o.after.toList, Region.binds .any e = true → e.on < i := by
 intro e he hb
 have hi : i < ops.size := (Array.getElem?_eq_some_iff.1 ho).1
 unfold Ordered at h
 rw [List.all_eq_true] at h
 have := h i (List.mem_range.2 hi)
 rw [ho] at this
 simp only [Option.map_some, Option.getD_some, List.all_eq_true] at this
 have := this e he
 simp [hb] at this
 exact this
theorem wpAny_inv {P : Program} {ops : Array Oper} {Q : Exit → Act → World → Prop} (hord : Ordered ops = true) (I : (Nat → Bool) → Act → World → Prop)
  (hstep : ∀ (done : Nat → Bool) (a : Act) (w : World) (i : Nat) (o : Oper), ops[i]? = some o → done i = false → (∀ e ∈ o.after.toList, Region.binds .any e = true → done e.on = true) → Closed ops done → I done a w →
   ∀ K : Act → World → Prop, (∀ a' w', I (Pl.upd done i true) a' w' → K a' w') → if Region.wanted o (yielded ops a.tmps) = true then o.wp P a w K Q else K (a.put o.dst undef) w)
  (hend : ∀ (done : Nat → Bool) (a : Act) (w : World), (∀ i, i < ops.size → done i = true) → I done a w → Q .normal a w) :
  ∀ (fuel : Nat) (listed : Array Bool) (a : Act) (w : World), listed.size = ops.size → Pl.cnt ops.size (fun i => !listed.getD i false) = fuel → Closed ops (fun i => listed.getD i false) → I (fun i => listed.getD i false) a w → wpAny P .any ops Q fuel listed a w := by
 intro fuel
 induction fuel with
 | zero =>
  intro listed a w hs hc hcl hI
  have hall : ∀ i, i < ops.size → listed.getD i false = true := by
   intro i hi
   cases hb : listed.getD i false with
   | true => rfl
   | false =>
    have := Pl.cnt_lt_of (p := fun i => !listed.getD i false) hi (by simp [hb])
    omega
  have hr : Region.ready .any ops listed = [] := by
   unfold Region.ready
   rw [List.filter_eq_nil_iff]
   intro i hi hh
   have hi' := List.mem_range.1 hi
   have := hall i hi'
   have e : listed.getD i true = true := by
    rw [Array.getD_eq_getD_getElem?] at this ⊢
    rw [Array.getElem?_eq_getElem (by omega)] at this ⊢
    simpa using this
   simp [e] at hh
  exact ⟨hr, hend _ a w hall hI⟩
 | succ fuel ih =>
  intro listed a w hs hc hcl hI
  have hgd : ∀ i, i < ops.size → listed.getD i true = listed.getD i false := by
   intro i hi
   rw [Array.getD_eq_getD_getElem?, Array.getD_eq_getD_getElem?, Array.getElem?_eq_getElem (by omega)]; rfl
  refine ⟨fun hr => ?_, fun i hi => ?_⟩
  ·-- something is undone: the least such is ready
   exfalso
   have hex : ∃ i, i < ops.size ∧ listed.getD i false = false := by
    apply Classical.byContradiction
    intro hn
    have : Pl.cnt ops.size (fun i => !listed.getD i false) = Pl.cnt ops.size (fun _ => false) := Pl.cnt_congr fun i hi => by
     cases hb : listed.getD i false with
     | true => rfl
     | false => exact absurd ⟨i, hi, hb⟩ hn
    rw [this] at hc
    simp [Pl.cnt] at hc
   obtain ⟨i, hi, hmin⟩ : ∃ i, (i < ops.size ∧ listed.getD i false = false) ∧ ∀ j, j < i → ¬ (j < ops.size ∧ listed.getD j false = false) := by
    obtain ⟨i, hi⟩ := hex
    induction i using Nat.strongRecOn with
    | _ i ih2 =>
     by_cases h : ∃ j, j < i ∧ (j < ops.size ∧ listed.getD j false = false)
     ·obtain ⟨j, hj, hjj⟩ := h
      exact ih2 j hj hjj
     ·exact ⟨i, hi, fun j hj hh => h ⟨j, hj, hh⟩⟩
   have hmem : i ∈ Region.ready .any ops listed := by
    unfold Region.ready
    rw [List.mem_filter]
    refine ⟨List.mem_range.2 hi.1, ?_⟩
    have ho : ops[i]? = some ops[i] := Array.getElem?_eq_getElem hi.1
    rw [hgd i hi.1, hi.2, ho]
    simp only [Bool.not_false, Option.map_some, Option.getD_some, Bool.true_and]
    rw [← Array.all_toList, List.all_eq_true]
    intro e he
    cases hb : Region.binds .any e with
    | false => rfl
    | true =>
     have hlt := Ordered.spec hord ho e he hb
     cases hd : listed.getD e.on false with
     | true => rfl
     | false => exact absurd ⟨Nat.lt_trans hlt hi.1, hd⟩ (hmin _ hlt)
   rw [hr] at hmem
   cases hmem
  ·unfold Region.ready at hi
   rw [List.mem_filter] at hi
   obtain ⟨hi1, hi2⟩ := hi
   have hi1' := List.mem_range.1 hi1
   have ho : ops[i]? = some ops[i] := Array.getElem?_eq_getElem hi1'
   rw [ho] at hi2
   simp only [Option.map_some, Option.getD_some, Bool.and_eq_true, Bool.not_eq_true'] at hi2
   obtain ⟨hu, hdeps⟩ := hi2
   rw [hgd i hi1'] at hu
   have hdeps' : ∀ e ∈ (ops[i]).after.toList, Region.binds .any e = true → listed.getD e.on false = true := by
    intro e he hb
    rw [← Array.all_toList, List.all_eq_true] at hdeps
    have := hdeps e he
    simpa [hb] using this
   have hupd : (fun j => (listed.setIfInBounds i true).getD j false) = Pl.upd (fun j => listed.getD j false) i true := by
    funext j
    unfold Pl.upd
    rw [Array.getD_eq_getD_getElem?, Array.getElem?_setIfInBounds]
    by_cases e : j = i
    ·subst e
     rw [if_pos rfl, if_pos rfl, if_pos (by omega)]; rfl
    ·rw [if_neg (fun h => e h.symm), if_neg e]; simp [Array.getD_eq_getD_getElem?]
   refine wpOp_step ho fun K hK => hstep _ a w i _ ho hu hdeps' hcl hI K fun a' w' hI' => hK a' w' ?_
   refine ih _ a' w' (by simpa using hs) ?_ ?_ ?_
   ·have h1 := Pl.cnt_remove (n := ops.size) (p := fun j => !listed.getD j false) (q := fun j => !(listed.setIfInBounds i true).getD j false) hi1' (by simp [hu]) (fun j hj => by
     have := congrFun hupd j
     rw [show (listed.setIfInBounds i true).getD j false = Pl.upd (fun j => listed.getD j false) i true j from this]
     unfold Pl.upd
     by_cases e : j = i <;> simp [e])
    omega
   ·rw [hupd]
    intro j oj hoj hj e he hb
    unfold Pl.upd at hj ⊢
    by_cases e1 : e.on = i
    ·simp [e1]
    ·rw [if_neg e1]
     by_cases e2 : j = i
     ·subst e2
      rw [ho] at hoj
      cases hoj
      exact hdeps' e he hb
     ·rw [if_neg e2] at hj
      exact hcl j oj hoj hj e he hb
   ·rw [hupd]; exact hI'
theorem wp_region_inv {P : Program} {ops : Array Oper} {Q : Exit → Act → World → Prop} {id : Nat} {a : Act} {w : World} (hm : P.follows .mixedOrders = true) (hord : Ordered ops = true) (I : (Nat → Bool) → Act → World → Prop)
  (h0 : I (fun _ => false) a w.drew)
  (hstep : ∀ (done : Nat → Bool) (a : Act) (w : World) (i : Nat) (o : Oper), ops[i]? = some o → done i = false → (∀ e ∈ o.after.toList, Region.binds .any e = true → done e.on = true) → Closed ops done → I done a w →
   ∀ K : Act → World → Prop, (∀ a' w', I (Pl.upd done i true) a' w' → K a' w') → if Region.wanted o (yielded ops a.tmps) = true then o.wp P a w K Q else K (a.put o.dst undef) w)
  (hend : ∀ (done : Nat → Bool) (a : Act) (w : World), (∀ i, i < ops.size → done i = true) → I done a w → Q .normal a w) :
  (Code.region id ops true).wp P Q a w := by
 have e0 : (fun i => (Array.replicate ops.size false).getD i false) = (fun _ => false) := by
  funext i
  rw [Array.getD_eq_getD_getElem?, Array.getElem?_replicate]; split <;> rfl
 refine wp_region_any hm (wpAny_inv hord I hstep hend ops.size _ a _ (by simp) ?_ ?_ ?_)
 ·have : Pl.cnt ops.size (fun i => !(Array.replicate ops.size false).getD i false) = Pl.cnt ops.size (fun _ => true) := Pl.cnt_congr fun i _ => by rw [congrFun e0 i]; rfl
  rw [this]; simp [Pl.cnt]
 ·rw [e0]; intro j o _ h; cases h
 ·rw [e0]; exact h0
end Go.Proofs.YtfglkgkihafcpaaGreatDoor
namespace Go.Proofs.YtfglkgkihafcpaaGreatDoor
open Go.RowKit Pl
theorem eval_put {a : Act} {d t : Nat} {v : Value} (hd : d < a.tmps.size) : (a.put (some d) v).eval (.tmp t) = if t = d then v else a.eval (.tmp t) := by
 simp only [Act.eval, Act.put]
 by_cases h : t = d
 ·subst h; simp [hd]
 ·have : d ≠ t := fun e => h e.symm
  simp [h, Array.getElem?_setIfInBounds_ne this]
theorem Sl.mono' {F G : Nat → Prop} {w : World} {T : TypeId} {sz : Nat} {o : Option Addr} {n c : Nat} {l : List Value} (h : Sl F w T sz o n c l) (hG : ∀ k, k < w.heap.size → F k → G k) : Sl G w T sz o n c l :=
 ⟨h.own, fun a ha => hG _ (h.lt ha) (h.foot a ha)⟩
structure Ch (id bo ao sb sa k : Nat) (o : Option Addr) (c : Nat) (xs : List Value) (x : Value) (own : Nat → Nat) (done : Nat → Bool) (a : Act) (w : World) : Prop where
 tmp : done bo = true → done ao = false → ∃ blk, a.eval (.tmp sb) = .slice (some ⟨blk, 0, none⟩) 1 1 ∧ w.cell? ⟨blk, 0, none⟩ = some x ∧ own blk = 4
 old : done ao = false → Sl (fun j => own j = id) w 3 1 o k c xs
 new : done ao = true → ∃ g c', a.eval (.tmp sa) = .slice (some ⟨g, 0, none⟩) (k + 1) c' ∧ Sl (fun j => own j = id) w 3 1 (some ⟨g, 0, none⟩) (k + 1) c' (xs ++ [x])
theorem Ch.step {id bo ao sb sa k : Nat} {o : Option Addr} {c : Nat} {xs : List Value} {x : Value} {own own' : Nat → Nat} {done done' : Nat → Bool} {a a' : Act} {w w' : World} {G : Nat → Prop}
  (h : Ch id bo ao sb sa k o c xs x own done a w) (hb : a'.eval (.tmp sb) = a.eval (.tmp sb)) (ha : a'.eval (.tmp sa) = a.eval (.tmp sa)) (h1 : done' bo = done bo) (h2 : done' ao = done ao)
  (hk : Keep G w w') (hG : ∀ j, G j → own j ≠ id ∧ own j ≠ 4) (ho : ∀ j, j < w.heap.size → own' j = own j) : Ch id bo ao sb sa k o c xs x own' done' a' w' := by
 have sl : ∀ {o' : Option Addr} {n' c' : Nat} {l' : List Value}, Sl (fun j => own j = id) w 3 1 o' n' c' l' → Sl (fun j => own' j = id) w' 3 1 o' n' c' l' := fun hs =>
  (hs.mono' (G := fun j => own' j = id ∧ own j = id) (fun j hj e => ⟨by rw [ho j hj]; exact e, e⟩)).keep hk (fun j hj hg => (hG j hg).1 hj.2) |>.mono (fun j hj => hj.1)
 refine ⟨fun hbo hao => ?_, fun hao => sl (h.old (h2 ▸ hao)), fun hao => ?_⟩
 ·obtain ⟨blk, e1, e2, e3⟩ := h.tmp (h1 ▸ hbo) (h2 ▸ hao)
  have hlt := World.block_lt_of_cell? w _ e2
  exact ⟨blk, by rw [hb]; exact e1, hk.cell e2 (fun hg => (hG blk hg).2 e3), by rw [ho blk hlt]; exact e3⟩
 ·obtain ⟨g, c', e1, e2⟩ := h.new (h2 ▸ hao)
  exact ⟨g, c', by rw [ha]; exact e1, sl e2⟩
def newTab (b k cu cs cl : Nat) (ou os ol : Option Addr) : List (Nat × Nat × Value) :=
 [(0, 20, .pointer (some ⟨b, 0, none⟩)), (1, 21, .pointer (some ⟨b, 0, none⟩)), (2, 22, .pointer (some ⟨b, 0, none⟩)), (3, 23, .pointer (some ⟨b, 0, none⟩)), (4, 24, .pointer (some ⟨b, 0, none⟩)), (5, 25, .pointer (some ⟨b, 0, none⟩)), (6, 26, .slice ou k cu), (7, 27, .int .i64 k),
  (10, 30, .pointer (some ⟨b, 0, none⟩)), (11, 31, .pointer (some ⟨b, 0, none⟩)), (12, 32, .pointer (some ⟨b, 1, none⟩)), (13, 33, .slice os k cs),
  (16, 36, .pointer (some ⟨b, 0, none⟩)), (17, 37, .pointer (some ⟨b, 0, none⟩)), (18, 38, .pointer (some ⟨b, 2, none⟩)), (19, 39, .slice ol k cl), (20, 40, .int .i64 k),
  (23, 43, .pointer (some ⟨b, 0, none⟩)), (24, 44, .pointer (some ⟨b, 0, none⟩)), (26, 45, .pointer (some ⟨b, 0, none⟩)), (27, 46, .pointer (some ⟨b, 1, none⟩)), (29, 47, .pointer (some ⟨b, 0, none⟩)), (30, 48, .pointer (some ⟨b, 2, none⟩))]
structure NI (lo b k n cu cs cl : Nat) (ou os ol : Option Addr) (wr : World) (a0 : Act) (done : Nat → Bool) (a : Act) (w : World) : Prop where
 sz : a.tmps.size = 51
 df : a.defers = []
 fr : ∀ t : Nat, t < 20 ∨ 49 ≤ t → a.eval (.tmp t) = a0.eval (.tmp t)
 tab : ∀ e ∈ newTab b k cu cs cl ou os ol, done e.1 = true → a.eval (.tmp e.2.1) = e.2.2
 keep : Keep (fun j => lo ≤ j) wr w
 mem : ∃ own : Nat → Nat, own b = 0 ∧ (∀ j, own j < 5 → lo ≤ j) ∧ (∀ j, w.heap.size ≤ j → own j = 5) ∧
  Row w b 197 [if done 25 then a.eval (.tmp 29) else .slice ou k cu, if done 28 then a.eval (.tmp 35) else .slice os k cs, if done 31 then a.eval (.tmp 42) else .slice ol k cl, .int .i64 n] ∧
  Ch 1 8 9 28 29 k ou cu (fints k fun x => x) (.int .i64 k) own done a w ∧ Ch 2 14 15 34 35 k os cs (fints k fun _ => 1) (.int .i64 1) own done a w ∧ Ch 3 21 22 41 42 k ol cl (fints k fun x => x) (.int .i64 k) own done a w
section
variable {lo b k n cu cs cl : Nat} {ou os ol : Option Addr} {wr : World} {a0 : Act} {done : Nat → Bool} {a : Act} {w : World}
theorem NI.pure (h : NI lo b k n cu cs cl ou os ol wr a0 done a w) {i d : Nat} {v : Value} (hd : 20 ≤ d) (hd2 : d < 49) (hi : i ≠ 8 ∧ i ≠ 9 ∧ i ≠ 14 ∧ i ≠ 15 ∧ i ≠ 21 ∧ i ≠ 22 ∧ i ≠ 25 ∧ i ≠ 28 ∧ i ≠ 31)
  (hs : d ≠ 28 ∧ d ≠ 29 ∧ d ≠ 34 ∧ d ≠ 35 ∧ d ≠ 41 ∧ d ≠ 42) (hv : ∀ e ∈ newTab b k cu cs cl ou os ol, (e.1 = i ↔ e.2.1 = d) ∧ (e.1 = i → e.2.2 = v)) :
  NI lo b k n cu cs cl ou os ol wr a0 (upd done i true) (a.put (some d) v) w := by
 have hdz : d < a.tmps.size := by rw [h.sz]; omega
 have ev : ∀ t : Nat, t ≠ d → (a.put (some d) v).eval (.tmp t) = a.eval (.tmp t) := fun t ht => by rw [eval_put hdz, if_neg ht]
 have un : ∀ j, j ≠ i → upd done i true j = done j := fun j hj => upd_ne _ _ _ _ hj
 obtain ⟨own, o1, o2, o3, hrow, hU, hS, hL⟩ := h.mem
 refine ⟨by simp [Act.put, h.sz], by simp [Act.put, h.df], fun t ht => by rw [ev t (by omega)]; exact h.fr t ht, fun e he hdone => ?_, h.keep, own, o1, o2, o3, ?_, ?_, ?_, ?_⟩
 ·by_cases e1 : e.1 = i
  ·rw [((hv e he).1).1 e1, eval_put hdz, if_pos rfl, (hv e he).2 e1]
  ·have e2 : e.2.1 ≠ d := fun e2 => e1 ((hv e he).1.2 e2)
   rw [ev _ e2]
   exact h.tab e he (by rw [un _ e1] at hdone; exact hdone)
 ·rw [un 25 (by omega), un 28 (by omega), un 31 (by omega), ev 29 (by omega), ev 35 (by omega), ev 42 (by omega)]; exact hrow
 ·exact hU.step (ev 28 (by omega)) (ev 29 (by omega)) (un 8 (by omega)) (un 9 (by omega)) (Keep.refl Nb w) (fun _ e => e.elim) (fun _ _ => rfl)
 ·exact hS.step (ev 34 (by omega)) (ev 35 (by omega)) (un 14 (by omega)) (un 15 (by omega)) (Keep.refl Nb w) (fun _ e => e.elim) (fun _ _ => rfl)
 ·exact hL.step (ev 41 (by omega)) (ev 42 (by omega)) (un 21 (by omega)) (un 22 (by omega)) (Keep.refl Nb w) (fun _ e => e.elim) (fun _ _ => rfl)
theorem NI.build (h : NI lo b k n cu cs cl ou os ol wr a0 done a w) (hlo : lo ≤ w.heap.size) {i d : Nat} {x : Value} (hid : (i = 8 ∧ d = 28 ∧ x = .int .i64 k) ∨ (i = 14 ∧ d = 34 ∧ x = .int .i64 1) ∨ (i = 21 ∧ d = 41 ∧ x = .int .i64 k))
  (hcl : done 9 = true → done 8 = true) (hcl2 : done 15 = true → done 14 = true) (hcl3 : done 22 = true → done 21 = true) (hi : done i = false) :
  NI lo b k n cu cs cl ou os ol wr a0 (upd done i true) (a.put (some d) (.slice (some ⟨w.heap.size, 0, none⟩) 1 1)) (w.alloc (.cells #[x] 3)) := by
 have hd2 : d < 51 := by omega
 have hdz : d < a.tmps.size := by rw [h.sz]; omega
 obtain ⟨v, hv⟩ : ∃ v, v = Value.slice (some ⟨w.heap.size, 0, none⟩) 1 1 := ⟨_, rfl⟩
 rw [← hv]
 have ev : ∀ t : Nat, t ≠ d → (a.put (some d) v).eval (.tmp t) = a.eval (.tmp t) := fun t ht => by rw [eval_put hdz, if_neg ht]
 have evd : (a.put (some d) v).eval (.tmp d) = v := by rw [eval_put hdz, if_pos rfl]
 have un : ∀ j, j ≠ i → upd done i true j = done j := fun j hj => upd_ne _ _ _ _ hj
 obtain ⟨own, o1, o2, o3, hrow, hU, hS, hL⟩ := h.mem
 have hk : Keep Nb w (w.alloc (.cells #[x] 3)) := (Keep.refl Nb w).alloc _
 have hcell : (w.alloc (.cells #[x] 3)).cell? ⟨w.heap.size, 0, none⟩ = some x := by rw [World.cell?_alloc_at _ _ _ _ rfl]; rfl
 have ho : ∀ j, j < w.heap.size → upd own w.heap.size 4 j = own j := fun j hj => upd_ne _ _ _ _ (by omega)
 have hblt := hrow.lt
 refine ⟨by simp [Act.put, h.sz], by simp [Act.put, h.df], fun t ht => by rw [ev t (by omega)]; exact h.fr t ht, fun e he hdone => ?_, h.keep.alloc _, upd own w.heap.size 4, ?_, fun j hj => ?_, fun j hj => ?_, ?_, ?_, ?_, ?_⟩
 ·have e1 : e.1 ≠ i ∧ e.2.1 ≠ d := by
   rcases hid with ⟨rfl, rfl, _⟩ | ⟨rfl, rfl, _⟩ | ⟨rfl, rfl, _⟩ <;> (simp only [newTab, List.mem_cons, List.not_mem_nil, or_false] at he; rcases he with rfl | rfl | rfl | rfl | rfl | rfl | rfl | rfl | rfl | rfl | rfl | rfl | rfl | rfl | rfl | rfl | rfl | rfl | rfl | rfl | rfl | rfl | rfl <;> simp)
  rw [ev _ e1.2]
  exact h.tab e he (by rw [un _ e1.1] at hdone; exact hdone)
 ·rw [ho b hblt]; exact o1
 ·by_cases e : j = w.heap.size
  ·omega
  ·rw [upd_ne _ _ _ _ e] at hj; exact o2 j hj
 ·simp at hj; rw [upd_ne _ _ _ _ (by omega)]; exact o3 j (by omega)
 ·rw [un 25 (by omega), un 28 (by omega), un 31 (by omega), ev 29 (by omega), ev 35 (by omega), ev 42 (by omega)]; exact hrow.alloc _
 ·by_cases e : i = 8
  ·subst e
   obtain ⟨rfl, rfl⟩ : d = 28 ∧ x = .int .i64 k := by rcases hid with ⟨_, h1, h2⟩ | ⟨h, _⟩ | ⟨h, _⟩
                                                      ·exact ⟨h1, h2⟩
                                                      ·omega
                                                      ·omega
   have h9 : done 9 = false := by cases hh : done 9 with
    | false => rfl
    | true => rw [hcl hh] at hi; cases hi
   refine ⟨fun _ _ => ⟨w.heap.size, by rw [evd, hv], hcell, upd_same _ _ _⟩, fun _ => ((hU.old h9).mono' (G := fun j => upd own w.heap.size 4 j = 1) (fun j hj e => by rw [ho j hj]; exact e)).alloc _, fun hh => ?_⟩
   rw [un 9 (by omega), h9] at hh; cases hh
  ·exact hU.step (ev 28 (by omega)) (ev 29 (by omega)) (un 8 (by omega)) (un 9 (by omega)) hk (fun _ e => e.elim) ho
 ·by_cases e : i = 14
  ·subst e
   obtain ⟨rfl, rfl⟩ : d = 34 ∧ x = .int .i64 1 := by rcases hid with ⟨h, _⟩ | ⟨_, h1, h2⟩ | ⟨h, _⟩
                                                      ·omega
                                                      ·exact ⟨h1, h2⟩
                                                      ·omega
   have h9 : done 15 = false := by cases hh : done 15 with
    | false => rfl
    | true => rw [hcl2 hh] at hi; cases hi
   refine ⟨fun _ _ => ⟨w.heap.size, by rw [evd, hv], hcell, upd_same _ _ _⟩, fun _ => ((hS.old h9).mono' (G := fun j => upd own w.heap.size 4 j = 2) (fun j hj e => by rw [ho j hj]; exact e)).alloc _, fun hh => ?_⟩
   rw [un 15 (by omega), h9] at hh; cases hh
  ·exact hS.step (ev 34 (by omega)) (ev 35 (by omega)) (un 14 (by omega)) (un 15 (by omega)) hk (fun _ e => e.elim) ho
 ·by_cases e : i = 21
  ·subst e
   obtain ⟨rfl, rfl⟩ : d = 41 ∧ x = .int .i64 k := by rcases hid with ⟨h, _⟩ | ⟨h, _⟩ | ⟨_, h1, h2⟩
                                                      ·omega
                                                      ·omega
                                                      ·exact ⟨h1, h2⟩
   have h9 : done 22 = false := by cases hh : done 22 with
    | false => rfl
    | true => rw [hcl3 hh] at hi; cases hi
   refine ⟨fun _ _ => ⟨w.heap.size, by rw [evd, hv], hcell, upd_same _ _ _⟩, fun _ => ((hL.old h9).mono' (G := fun j => upd own w.heap.size 4 j = 3) (fun j hj e => by rw [ho j hj]; exact e)).alloc _, fun hh => ?_⟩
   rw [un 22 (by omega), h9] at hh; cases hh
  ·exact hL.step (ev 41 (by omega)) (ev 42 (by omega)) (un 21 (by omega)) (un 22 (by omega)) hk (fun _ e => e.elim) ho
theorem NI.append9 (h : NI lo b k n cu cs cl ou os ol wr a0 done a w) (hk40 : k ≤ 40) (hlo : lo ≤ w.heap.size) (hb : done 8 = true) (ha : done 9 = false) (hs : done 25 = false) (ty : TypeId) :
  ∃ vx v' w', a.eval (.tmp 28) = vx ∧ (Builtin.append_ #[63, 63] ty #[.slice ou k cu, vx]).run Tryz.prog w = .ok v' w' ∧
   NI lo b k n cu cs cl ou os ol wr a0 (upd done 9 true) (a.put (some 29) v') w' := by
 have hdz : 29 < a.tmps.size := by rw [h.sz]; omega
 have un : ∀ j, j ≠ 9 → upd done 9 true j = done j := fun j hj => upd_ne _ _ _ _ hj
 obtain ⟨own, o1, o2, o3, hrow, hU, hS, hL⟩ := h.mem
 obtain ⟨blk, e1, e2, e3⟩ := hU.tmp hb ha
 have hcell : ∀ (j : Nat) u, [((.int .i64 k) : Value)][j]? = some u → w.cell? ((⟨blk, 0, none⟩ : Addr).add j) = some u := by
  intro j u hj
  have : j = 0 := by
   have := (List.getElem?_eq_some_iff.1 hj).1
   simp at this; exact this
  subst this
  simp at hj; subst hj
  exact e2
 have hold := hU.old ha
 obtain ⟨g, c', w', h1, h2, h3, h4⟩ := run_app (P := Tryz.prog) 63 ty 3 Tryz.underlying63 elem_int rfl (by omega) hold ⟨blk, 0, none⟩ 1 1 [(.int .i64 k)] rfl hcell (by intro u hu; simp at hu; rw [hu]; rfl) (by simp only [maxLen]; omega) (by omega) (by omega)
 refine ⟨_, _, w', e1, h1, ?_⟩
 obtain ⟨v, hv⟩ : ∃ v, v = Value.slice (some ⟨g, 0, none⟩) (k + 1) c' := ⟨_, rfl⟩
 rw [← hv]
 have ev : ∀ t : Nat, t ≠ 29 → (a.put (some 29) v).eval (.tmp t) = a.eval (.tmp t) := fun t ht => by rw [eval_put hdz, if_neg ht]
 have evd : (a.put (some 29) v).eval (.tmp 29) = v := by rw [eval_put hdz, if_pos rfl]
 have hbl : ∀ j, Bl ou j → own j = 1 := by rintro j ⟨a', ha', rfl⟩; exact hold.foot a' ha'
 obtain ⟨own', hown'⟩ : ∃ own' : Nat → Nat, ∀ j, own' j = if w.heap.size ≤ j ∧ j < w'.heap.size then 1 else own j := ⟨fun j => if w.heap.size ≤ j ∧ j < w'.heap.size then 1 else own j, fun _ => rfl⟩
 have ho : ∀ j, j < w.heap.size → own' j = own j := fun j hj => by rw [hown', if_neg (by omega)]
 have hsz := h3.size
 refine ⟨by simp [Act.put, h.sz], by simp [Act.put, h.df], fun t ht => by rw [ev t (by omega)]; exact h.fr t ht, fun e he hdone => ?_, h.keep.trans' h3 (fun _ _ h => h) (fun j hj e => o2 j (by rw [hbl j e]; omega)), own', ?_, fun j hj => ?_, fun j hj => ?_, ?_, ?_, ?_, ?_⟩
 ·have e1 : e.1 ≠ 9 ∧ e.2.1 ≠ 29 := by
   simp only [newTab, List.mem_cons, List.not_mem_nil, or_false] at he; rcases he with rfl | rfl | rfl | rfl | rfl | rfl | rfl | rfl | rfl | rfl | rfl | rfl | rfl | rfl | rfl | rfl | rfl | rfl | rfl | rfl | rfl | rfl | rfl <;> simp
  rw [ev _ e1.2]
  exact h.tab e he (by rw [un _ e1.1] at hdone; exact hdone)
 ·rw [ho b hrow.lt]; exact o1
 ·rw [hown'] at hj
  split at hj
  ·omega
  ·exact o2 j hj
 ·rw [hown', if_neg (by omega)]; exact o3 j (by omega)
 ·have hrow' := hrow.keep h3 (fun e => by have := hbl b e; omega)
  rw [un 25 (by omega), un 28 (by omega), un 31 (by omega)]
  rw [hs] at hrow' ⊢
  rw [ev 35 (by omega), ev 42 (by omega)]
  exact hrow'
 ·refine ⟨fun _ hh => (by rw [upd_same] at hh; cases hh), fun hh => (by rw [upd_same] at hh; cases hh), fun _ => ⟨g, c', by rw [evd, hv], h2.mono' (fun j hj e => ?_)⟩⟩
  rcases e with e | e
  ·rw [hown']
   split
   ·rfl
   ·exact e
  ·rw [hown', if_pos (by omega)]
 ·exact hS.step (ev 34 (by omega)) (ev 35 (by omega)) (un 14 (by omega)) (un 15 (by omega)) h3 (fun j e => by have := hbl j e; omega) ho
 ·exact hL.step (ev 41 (by omega)) (ev 42 (by omega)) (un 21 (by omega)) (un 22 (by omega)) h3 (fun j e => by have := hbl j e; omega) ho
theorem NI.store25 (h : NI lo b k n cu cs cl ou os ol wr a0 done a w) (hs : done 25 = false) :
  NI lo b k n cu cs cl ou os ol wr a0 (upd done 25 true) a (w.setCell ⟨b, 0, none⟩ (a.eval (.tmp 29))) := by
 have un : ∀ j, j ≠ 25 → upd done 25 true j = done j := fun j hj => upd_ne _ _ _ _ hj
 obtain ⟨own, o1, o2, o3, hrow, hU, hS, hL⟩ := h.mem
 have hk : Keep (fun j => j = b) w (w.setCell ⟨b, 0, none⟩ (a.eval (.tmp 29))) := Keep.setCell (F := fun j => j = b) (p := ⟨b, 0, none⟩) (Keep.refl _ w) (.inl rfl) _
 refine ⟨h.sz, h.df, h.fr, fun e he hdone => ?_, h.keep.trans' hk (fun _ _ h => h) (fun j hj e => o2 j (by rw [e, o1]; omega)), own, o1, o2, fun j hj => o3 j (by simpa [World.setCell] using hj), ?_, ?_, ?_, ?_⟩
 ·have e1 : e.1 ≠ 25 := by
   simp only [newTab, List.mem_cons, List.not_mem_nil, or_false] at he; rcases he with rfl | rfl | rfl | rfl | rfl | rfl | rfl | rfl | rfl | rfl | rfl | rfl | rfl | rfl | rfl | rfl | rfl | rfl | rfl | rfl | rfl | rfl | rfl <;> simp
  exact h.tab e he (by rw [un _ e1] at hdone; exact hdone)
 ·have := hrow.set (i := 0) (by simp) (a.eval (.tmp 29))
  rw [un 28 (by omega), un 31 (by omega), upd_same]
  simpa using this
 ·exact hU.step rfl rfl (un 8 (by omega)) (un 9 (by omega)) hk (fun j e => by rw [e, o1]; omega) (fun _ _ => rfl)
 ·exact hS.step rfl rfl (un 14 (by omega)) (un 15 (by omega)) hk (fun j e => by rw [e, o1]; omega) (fun _ _ => rfl)
 ·exact hL.step rfl rfl (un 21 (by omega)) (un 22 (by omega)) hk (fun j e => by rw [e, o1]; omega) (fun _ _ => rfl)
theorem NI.append15 (h : NI lo b k n cu cs cl ou os ol wr a0 done a w) (hk40 : k ≤ 40) (hlo : lo ≤ w.heap.size) (hb : done 14 = true) (ha : done 15 = false) (hs : done 28 = false) (ty : TypeId) :
  ∃ vx v' w', a.eval (.tmp 34) = vx ∧ (Builtin.append_ #[63, 63] ty #[.slice os k cs, vx]).run Tryz.prog w = .ok v' w' ∧
   NI lo b k n cu cs cl ou os ol wr a0 (upd done 15 true) (a.put (some 35) v') w' := by
 have hdz : 35 < a.tmps.size := by rw [h.sz]; omega
 have un : ∀ j, j ≠ 15 → upd done 15 true j = done j := fun j hj => upd_ne _ _ _ _ hj
 obtain ⟨own, o1, o2, o3, hrow, hU, hS, hL⟩ := h.mem
 obtain ⟨blk, e1, e2, e3⟩ := hS.tmp hb ha
 have hcell : ∀ (j : Nat) u, [((.int .i64 1) : Value)][j]? = some u → w.cell? ((⟨blk, 0, none⟩ : Addr).add j) = some u := by
  intro j u hj
  have : j = 0 := by
   have := (List.getElem?_eq_some_iff.1 hj).1
   simp at this; exact this
  subst this
  simp at hj; subst hj
  exact e2
 have hold := hS.old ha
 obtain ⟨g, c', w', h1, h2, h3, h4⟩ := run_app (P := Tryz.prog) 63 ty 3 Tryz.underlying63 elem_int rfl (by omega) hold ⟨blk, 0, none⟩ 1 1 [(.int .i64 1)] rfl hcell (by intro u hu; simp at hu; rw [hu]; rfl) (by simp only [maxLen]; omega) (by omega) (by omega)
 refine ⟨_, _, w', e1, h1, ?_⟩
 obtain ⟨v, hv⟩ : ∃ v, v = Value.slice (some ⟨g, 0, none⟩) (k + 1) c' := ⟨_, rfl⟩
 rw [← hv]
 have ev : ∀ t : Nat, t ≠ 35 → (a.put (some 35) v).eval (.tmp t) = a.eval (.tmp t) := fun t ht => by rw [eval_put hdz, if_neg ht]
 have evd : (a.put (some 35) v).eval (.tmp 35) = v := by rw [eval_put hdz, if_pos rfl]
 have hbl : ∀ j, Bl os j → own j = 2 := by rintro j ⟨a', ha', rfl⟩; exact hold.foot a' ha'
 obtain ⟨own', hown'⟩ : ∃ own' : Nat → Nat, ∀ j, own' j = if w.heap.size ≤ j ∧ j < w'.heap.size then 2 else own j := ⟨fun j => if w.heap.size ≤ j ∧ j < w'.heap.size then 2 else own j, fun _ => rfl⟩
 have ho : ∀ j, j < w.heap.size → own' j = own j := fun j hj => by rw [hown', if_neg (by omega)]
 have hsz := h3.size
 refine ⟨by simp [Act.put, h.sz], by simp [Act.put, h.df], fun t ht => by rw [ev t (by omega)]; exact h.fr t ht, fun e he hdone => ?_, h.keep.trans' h3 (fun _ _ h => h) (fun j hj e => o2 j (by rw [hbl j e]; omega)), own', ?_, fun j hj => ?_, fun j hj => ?_, ?_, ?_, ?_, ?_⟩
 ·have e1 : e.1 ≠ 15 ∧ e.2.1 ≠ 35 := by
   simp only [newTab, List.mem_cons, List.not_mem_nil, or_false] at he; rcases he with rfl | rfl | rfl | rfl | rfl | rfl | rfl | rfl | rfl | rfl | rfl | rfl | rfl | rfl | rfl | rfl | rfl | rfl | rfl | rfl | rfl | rfl | rfl <;> simp
  rw [ev _ e1.2]
  exact h.tab e he (by rw [un _ e1.1] at hdone; exact hdone)
 ·rw [ho b hrow.lt]; exact o1
 ·rw [hown'] at hj
  split at hj
  ·omega
  ·exact o2 j hj
 ·rw [hown', if_neg (by omega)]; exact o3 j (by omega)
 ·have hrow' := hrow.keep h3 (fun e => by have := hbl b e; omega)
  rw [un 25 (by omega), un 28 (by omega), un 31 (by omega)]
  rw [hs] at hrow' ⊢
  rw [ev 29 (by omega), ev 42 (by omega)]
  exact hrow'
 ·exact hU.step (ev 28 (by omega)) (ev 29 (by omega)) (un 8 (by omega)) (un 9 (by omega)) h3 (fun j e => by have := hbl j e; omega) ho
 ·refine ⟨fun _ hh => (by rw [upd_same] at hh; cases hh), fun hh => (by rw [upd_same] at hh; cases hh), fun _ => ⟨g, c', by rw [evd, hv], h2.mono' (fun j hj e => ?_)⟩⟩
  rcases e with e | e
  ·rw [hown']
   split
   ·rfl
   ·exact e
  ·rw [hown', if_pos (by omega)]
 ·exact hL.step (ev 41 (by omega)) (ev 42 (by omega)) (un 21 (by omega)) (un 22 (by omega)) h3 (fun j e => by have := hbl j e; omega) ho
theorem NI.store28 (h : NI lo b k n cu cs cl ou os ol wr a0 done a w) (hs : done 28 = false) :
  NI lo b k n cu cs cl ou os ol wr a0 (upd done 28 true) a (w.setCell ⟨b, 1, none⟩ (a.eval (.tmp 35))) := by
 have un : ∀ j, j ≠ 28 → upd done 28 true j = done j := fun j hj => upd_ne _ _ _ _ hj
 obtain ⟨own, o1, o2, o3, hrow, hU, hS, hL⟩ := h.mem
 have hk : Keep (fun j => j = b) w (w.setCell ⟨b, 1, none⟩ (a.eval (.tmp 35))) := Keep.setCell (F := fun j => j = b) (p := ⟨b, 1, none⟩) (Keep.refl _ w) (.inl rfl) _
 refine ⟨h.sz, h.df, h.fr, fun e he hdone => ?_, h.keep.trans' hk (fun _ _ h => h) (fun j hj e => o2 j (by rw [e, o1]; omega)), own, o1, o2, fun j hj => o3 j (by simpa [World.setCell] using hj), ?_, ?_, ?_, ?_⟩
 ·have e1 : e.1 ≠ 28 := by
   simp only [newTab, List.mem_cons, List.not_mem_nil, or_false] at he; rcases he with rfl | rfl | rfl | rfl | rfl | rfl | rfl | rfl | rfl | rfl | rfl | rfl | rfl | rfl | rfl | rfl | rfl | rfl | rfl | rfl | rfl | rfl | rfl <;> simp
  exact h.tab e he (by rw [un _ e1] at hdone; exact hdone)
 ·have := hrow.set (i := 1) (by simp) (a.eval (.tmp 35))
  rw [un 25 (by omega), un 31 (by omega), upd_same]
  simpa using this
 ·exact hU.step rfl rfl (un 8 (by omega)) (un 9 (by omega)) hk (fun j e => by rw [e, o1]; omega) (fun _ _ => rfl)
 ·exact hS.step rfl rfl (un 14 (by omega)) (un 15 (by omega)) hk (fun j e => by rw [e, o1]; omega) (fun _ _ => rfl)
 ·exact hL.step rfl rfl (un 21 (by omega)) (un 22 (by omega)) hk (fun j e => by rw [e, o1]; omega) (fun _ _ => rfl)
theorem NI.append22 (h : NI lo b k n cu cs cl ou os ol wr a0 done a w) (hk40 : k ≤ 40) (hlo : lo ≤ w.heap.size) (hb : done 21 = true) (ha : done 22 = false) (hs : done 31 = false) (ty : TypeId) :
  ∃ vx v' w', a.eval (.tmp 41) = vx ∧ (Builtin.append_ #[63, 63] ty #[.slice ol k cl, vx]).run Tryz.prog w = .ok v' w' ∧
   NI lo b k n cu cs cl ou os ol wr a0 (upd done 22 true) (a.put (some 42) v') w' := by
 have hdz : 42 < a.tmps.size := by rw [h.sz]; omega
 have un : ∀ j, j ≠ 22 → upd done 22 true j = done j := fun j hj => upd_ne _ _ _ _ hj
 obtain ⟨own, o1, o2, o3, hrow, hU, hS, hL⟩ := h.mem
 obtain ⟨blk, e1, e2, e3⟩ := hL.tmp hb ha
 have hcell : ∀ (j : Nat) u, [((.int .i64 k) : Value)][j]? = some u → w.cell? ((⟨blk, 0, none⟩ : Addr).add j) = some u := by
  intro j u hj
  have : j = 0 := by
   have := (List.getElem?_eq_some_iff.1 hj).1
   simp at this; exact this
  subst this
  simp at hj; subst hj
  exact e2
 have hold := hL.old ha
 obtain ⟨g, c', w', h1, h2, h3, h4⟩ := run_app (P := Tryz.prog) 63 ty 3 Tryz.underlying63 elem_int rfl (by omega) hold ⟨blk, 0, none⟩ 1 1 [(.int .i64 k)] rfl hcell (by intro u hu; simp at hu; rw [hu]; rfl) (by simp only [maxLen]; omega) (by omega) (by omega)
 refine ⟨_, _, w', e1, h1, ?_⟩
 obtain ⟨v, hv⟩ : ∃ v, v = Value.slice (some ⟨g, 0, none⟩) (k + 1) c' := ⟨_, rfl⟩
 rw [← hv]
 have ev : ∀ t : Nat, t ≠ 42 → (a.put (some 42) v).eval (.tmp t) = a.eval (.tmp t) := fun t ht => by rw [eval_put hdz, if_neg ht]
 have evd : (a.put (some 42) v).eval (.tmp 42) = v := by rw [eval_put hdz, if_pos rfl]
 have hbl : ∀ j, Bl ol j → own j = 3 := by rintro j ⟨a', ha', rfl⟩; exact hold.foot a' ha'
 obtain ⟨own', hown'⟩ : ∃ own' : Nat → Nat, ∀ j, own' j = if w.heap.size ≤ j ∧ j < w'.heap.size then 3 else own j := ⟨fun j => if w.heap.size ≤ j ∧ j < w'.heap.size then 3 else own j, fun _ => rfl⟩
 have ho : ∀ j, j < w.heap.size → own' j = own j := fun j hj => by rw [hown', if_neg (by omega)]
 have hsz := h3.size
 refine ⟨by simp [Act.put, h.sz], by simp [Act.put, h.df], fun t ht => by rw [ev t (by omega)]; exact h.fr t ht, fun e he hdone => ?_, h.keep.trans' h3 (fun _ _ h => h) (fun j hj e => o2 j (by rw [hbl j e]; omega)), own', ?_, fun j hj => ?_, fun j hj => ?_, ?_, ?_, ?_, ?_⟩
 ·have e1 : e.1 ≠ 22 ∧ e.2.1 ≠ 42 := by
   simp only [newTab, List.mem_cons, List.not_mem_nil, or_false] at he; rcases he with rfl | rfl | rfl | rfl | rfl | rfl | rfl | rfl | rfl | rfl | rfl | rfl | rfl | rfl | rfl | rfl | rfl | rfl | rfl | rfl | rfl | rfl | rfl <;> simp
  rw [ev _ e1.2]
  exact h.tab e he (by rw [un _ e1.1] at hdone; exact hdone)
 ·rw [ho b hrow.lt]; exact o1
 ·rw [hown'] at hj
  split at hj
  ·omega
  ·exact o2 j hj
 ·rw [hown', if_neg (by omega)]; exact o3 j (by omega)
 ·have hrow' := hrow.keep h3 (fun e => by have := hbl b e; omega)
  rw [un 25 (by omega), un 28 (by omega), un 31 (by omega)]
  rw [hs] at hrow' ⊢
  rw [ev 29 (by omega), ev 35 (by omega)]
  exact hrow'
 ·exact hU.step (ev 28 (by omega)) (ev 29 (by omega)) (un 8 (by omega)) (un 9 (by omega)) h3 (fun j e => by have := hbl j e; omega) ho
 ·exact hS.step (ev 34 (by omega)) (ev 35 (by omega)) (un 14 (by omega)) (un 15 (by omega)) h3 (fun j e => by have := hbl j e; omega) ho
 ·refine ⟨fun _ hh => (by rw [upd_same] at hh; cases hh), fun hh => (by rw [upd_same] at hh; cases hh), fun _ => ⟨g, c', by rw [evd, hv], h2.mono' (fun j hj e => ?_)⟩⟩
  rcases e with e | e
  ·rw [hown']
   split
   ·rfl
   ·exact e
  ·rw [hown', if_pos (by omega)]
theorem NI.store31 (h : NI lo b k n cu cs cl ou os ol wr a0 done a w) (hs : done 31 = false) :
  NI lo b k n cu cs cl ou os ol wr a0 (upd done 31 true) a (w.setCell ⟨b, 2, none⟩ (a.eval (.tmp 42))) := by
 have un : ∀ j, j ≠ 31 → upd done 31 true j = done j := fun j hj => upd_ne _ _ _ _ hj
 obtain ⟨own, o1, o2, o3, hrow, hU, hS, hL⟩ := h.mem
 have hk : Keep (fun j => j = b) w (w.setCell ⟨b, 2, none⟩ (a.eval (.tmp 42))) := Keep.setCell (F := fun j => j = b) (p := ⟨b, 2, none⟩) (Keep.refl _ w) (.inl rfl) _
 refine ⟨h.sz, h.df, h.fr, fun e he hdone => ?_, h.keep.trans' hk (fun _ _ h => h) (fun j hj e => o2 j (by rw [e, o1]; omega)), own, o1, o2, fun j hj => o3 j (by simpa [World.setCell] using hj), ?_, ?_, ?_, ?_⟩
 ·have e1 : e.1 ≠ 31 := by
   simp only [newTab, List.mem_cons, List.not_mem_nil, or_false] at he; rcases he with rfl | rfl | rfl | rfl | rfl | rfl | rfl | rfl | rfl | rfl | rfl | rfl | rfl | rfl | rfl | rfl | rfl | rfl | rfl | rfl | rfl | rfl | rfl <;> simp
  exact h.tab e he (by rw [un _ e1] at hdone; exact hdone)
 ·have := hrow.set (i := 2) (by simp) (a.eval (.tmp 42))
  rw [un 25 (by omega), un 28 (by omega), upd_same]
  simpa using this
 ·exact hU.step rfl rfl (un 8 (by omega)) (un 9 (by omega)) hk (fun j e => by rw [e, o1]; omega) (fun _ _ => rfl)
 ·exact hS.step rfl rfl (un 14 (by omega)) (un 15 (by omega)) hk (fun j e => by rw [e, o1]; omega) (fun _ _ => rfl)
 ·exact hL.step rfl rfl (un 21 (by omega)) (un 22 (by omega)) hk (fun j e => by rw [e, o1]; omega) (fun _ _ => rfl)
end
end Go.Proofs.YtfglkgkihafcpaaGreatDoor
namespace Go.Proofs.YtfglkgkihafcpaaGreatDoor
open Go.RowKit Pl
theorem step_value {P : Program} {ops : Array Oper} {K : Act → World → Prop} {Q : Exit → Act → World → Prop} {E : Prop} {o : Oper} {a : Act} {w w' : World} {v : Value} (hg : o.guard = none)
  (hrun : (execOp a.eval o).run P w = .ok (.value v) w') (h : K (a.put o.dst v) w') : if Region.wanted o (yielded ops a.tmps) = true then o.wp P a w K Q else E := by
 rw [if_pos (by simp [Region.wanted, hg])]
 unfold Oper.wp
 rw [hrun]
 exact h
theorem step_skip {P : Program} {ops : Array Oper} {K : Act → World → Prop} {Q : Exit → Act → World → Prop} {E : Prop} {o : Oper} {a : Act} {w w' : World} (hg : o.guard = none) (hd : o.dst = none)
  (hrun : (execOp a.eval o).run P w = .ok .skip w') (h : K a w') : if Region.wanted o (yielded ops a.tmps) = true then o.wp P a w K Q else E := by
 rw [if_pos (by simp [Region.wanted, hg])]
 unfold Oper.wp
 rw [hrun]
 show K (a.put o.dst undef) w'
 rw [hd]; exact h
section
variable (P : Program) (w : World) (ev : Operand → Value)
theorem run_move {o : Oper} {x : Operand} {v : Value} (ho : o.op = .move x) (hx : ev x = v) : (execOp ev o).run P w = .ok (.value v) w := by
 simp [execOp, ho, hx]
theorem run_nilCheck {o : Oper} {x : Operand} {a : Addr} (ho : o.op = .nilCheck x) (hx : ev x = .pointer (some a)) : (execOp ev o).run P w = .ok (.value (.pointer (some a))) w := by
 simp [execOp, ho, hx, go_sem]
end
section
variable (w : World) (ev : Operand → Value)
theorem run_field0 {o : Oper} {x : Operand} {b : Nat} (ho : o.op = .fieldAddr 197 x 0) (hx : ev x = .pointer (some ⟨b, 0, none⟩)) : (execOp ev o).run Tryz.prog w = .ok (.value (.pointer (some ⟨b, 0, none⟩))) w := by
 simp [execOp, ho, hx, go_sem]
theorem run_field1 {o : Oper} {x : Operand} {b : Nat} (ho : o.op = .fieldAddr 197 x 1) (hx : ev x = .pointer (some ⟨b, 0, none⟩)) : (execOp ev o).run Tryz.prog w = .ok (.value (.pointer (some ⟨b, 1, none⟩))) w := by
 simp [execOp, ho, hx, go_sem]
theorem run_field2 {o : Oper} {x : Operand} {b : Nat} (ho : o.op = .fieldAddr 197 x 2) (hx : ev x = .pointer (some ⟨b, 0, none⟩)) : (execOp ev o).run Tryz.prog w = .ok (.value (.pointer (some ⟨b, 2, none⟩))) w := by
 simp [execOp, ho, hx, go_sem]
theorem run_load_ints {o : Oper} {x : Operand} {a : Addr} {v : Value} (ho : o.op = .load 63 x) (hx : ev x = .pointer (some a)) (hc : w.cell? a = some v) : (execOp ev o).run Tryz.prog w = .ok (.value v) w := by
 simp [execOp, ho, hx, hc, go_sem]
theorem run_store_ints {o : Oper} {x y : Operand} {a : Addr} {v u : Value} {so : Option Addr} {n c : Nat} (ho : o.op = .store 63 x y) (hx : ev x = .pointer (some a)) (hy : ev y = v) (hv : v = .slice so n c) (hc : w.cell? a = some u) (hf : w.frozen? a = false) : (execOp ev o).run Tryz.prog w = .ok .skip (w.setCell a v) := by
 subst hv
 simp [execOp, ho, hx, hy, hc, hf, go_sem]
theorem run_build1 {o : Oper} {x : Operand} {v : Value} {k : Int} (ho : o.op = .buildSlice 63 1 #[(0, x)]) (hx : ev x = v) (hv : v = .int .i64 k) : (execOp ev o).run Tryz.prog w = .ok (.value (.slice (some ⟨w.heap.size, 0, none⟩) 1 1)) (w.alloc (.cells #[v] 3)) := by
 subst hv
 simp [execOp, ho, hx, go_sem]
end
def regionOf (id : Nat) : Code → Option (Array Oper)
 | .region i ops _ => if i == id then some ops else none
 | .seq a b => match regionOf id a with
  | some x => some x
  | none => regionOf id b
 | .cond _ a b => match regionOf id a with
  | some x => some x
  | none => regionOf id b
 | .block _ c => regionOf id c
 | .loop c => regionOf id c
 | .scope c => regionOf id c
 | _ => none
noncomputable def newOps : Array Oper := ((Tryz.f105.body.bind (regionOf 7)).getD #[])
theorem newOrd : Ordered newOps = true := by kernel_rfl
theorem newSize : newOps.size = 32 := by kernel_rfl
theorem newOp0 : (newOps[0]?).map (fun o => (o.dst, o.op, o.guard)) = some (some 20, .move (.tmp 4), none) := by kernel_rfl
theorem newOp1 : (newOps[1]?).map (fun o => (o.dst, o.op, o.guard)) = some (some 21, .move (.tmp 4), none) := by kernel_rfl
theorem newOp2 : (newOps[2]?).map (fun o => (o.dst, o.op, o.guard)) = some (some 22, .move (.tmp 4), none) := by kernel_rfl
theorem newOp3 : (newOps[3]?).map (fun o => (o.dst, o.op, o.guard)) = some (some 23, .move (.tmp 4), none) := by kernel_rfl
theorem newOp4 : (newOps[4]?).map (fun o => (o.dst, o.op, o.guard)) = some (some 24, .nilCheck (.tmp 23), none) := by kernel_rfl
theorem newOp5 : (newOps[5]?).map (fun o => (o.dst, o.op, o.guard)) = some (some 25, .fieldAddr 197 (.tmp 24) 0, none) := by kernel_rfl
theorem newOp6 : (newOps[6]?).map (fun o => (o.dst, o.op, o.guard)) = some (some 26, .load 63 (.tmp 25), none) := by kernel_rfl
theorem newOp7 : (newOps[7]?).map (fun o => (o.dst, o.op, o.guard)) = some (some 27, .move (.tmp 5), none) := by kernel_rfl
theorem newOp8 : (newOps[8]?).map (fun o => (o.dst, o.op, o.guard)) = some (some 28, .buildSlice 63 1 #[(0, (.tmp 27))], none) := by kernel_rfl
theorem newOp9 : (newOps[9]?).map (fun o => (o.dst, o.op, o.guard)) = some (some 29, .call { callee := .builtin .append, args := #[(.tmp 26), (.tmp 28)], argTypes := #[63, 63] }, none) := by kernel_rfl
theorem newOp10 : (newOps[10]?).map (fun o => (o.dst, o.op, o.guard)) = some (some 30, .move (.tmp 4), none) := by kernel_rfl
theorem newOp11 : (newOps[11]?).map (fun o => (o.dst, o.op, o.guard)) = some (some 31, .nilCheck (.tmp 30), none) := by kernel_rfl
theorem newOp12 : (newOps[12]?).map (fun o => (o.dst, o.op, o.guard)) = some (some 32, .fieldAddr 197 (.tmp 31) 1, none) := by kernel_rfl
theorem newOp13 : (newOps[13]?).map (fun o => (o.dst, o.op, o.guard)) = some (some 33, .load 63 (.tmp 32), none) := by kernel_rfl
theorem newOp14 : (newOps[14]?).map (fun o => (o.dst, o.op, o.guard)) = some (some 34, .buildSlice 63 1 #[(0, (.const (.int .i64 1)))], none) := by kernel_rfl
theorem newOp15 : (newOps[15]?).map (fun o => (o.dst, o.op, o.guard)) = some (some 35, .call { callee := .builtin .append, args := #[(.tmp 33), (.tmp 34)], argTypes := #[63, 63] }, none) := by kernel_rfl
theorem newOp16 : (newOps[16]?).map (fun o => (o.dst, o.op, o.guard)) = some (some 36, .move (.tmp 4), none) := by kernel_rfl
theorem newOp17 : (newOps[17]?).map (fun o => (o.dst, o.op, o.guard)) = some (some 37, .nilCheck (.tmp 36), none) := by kernel_rfl
theorem newOp18 : (newOps[18]?).map (fun o => (o.dst, o.op, o.guard)) = some (some 38, .fieldAddr 197 (.tmp 37) 2, none) := by kernel_rfl
theorem newOp19 : (newOps[19]?).map (fun o => (o.dst, o.op, o.guard)) = some (some 39, .load 63 (.tmp 38), none) := by kernel_rfl
theorem newOp20 : (newOps[20]?).map (fun o => (o.dst, o.op, o.guard)) = some (some 40, .move (.tmp 5), none) := by kernel_rfl
theorem newOp21 : (newOps[21]?).map (fun o => (o.dst, o.op, o.guard)) = some (some 41, .buildSlice 63 1 #[(0, (.tmp 40))], none) := by kernel_rfl
theorem newOp22 : (newOps[22]?).map (fun o => (o.dst, o.op, o.guard)) = some (some 42, .call { callee := .builtin .append, args := #[(.tmp 39), (.tmp 41)], argTypes := #[63, 63] }, none) := by kernel_rfl
theorem newOp23 : (newOps[23]?).map (fun o => (o.dst, o.op, o.guard)) = some (some 43, .nilCheck (.tmp 20), none) := by kernel_rfl
theorem newOp24 : (newOps[24]?).map (fun o => (o.dst, o.op, o.guard)) = some (some 44, .fieldAddr 197 (.tmp 43) 0, none) := by kernel_rfl
theorem newOp25 : (newOps[25]?).map (fun o => (o.dst, o.op, o.guard)) = some (none, .store 63 (.tmp 44) (.tmp 29), none) := by kernel_rfl
theorem newOp26 : (newOps[26]?).map (fun o => (o.dst, o.op, o.guard)) = some (some 45, .nilCheck (.tmp 21), none) := by kernel_rfl
theorem newOp27 : (newOps[27]?).map (fun o => (o.dst, o.op, o.guard)) = some (some 46, .fieldAddr 197 (.tmp 45) 1, none) := by kernel_rfl
theorem newOp28 : (newOps[28]?).map (fun o => (o.dst, o.op, o.guard)) = some (none, .store 63 (.tmp 46) (.tmp 35), none) := by kernel_rfl
theorem newOp29 : (newOps[29]?).map (fun o => (o.dst, o.op, o.guard)) = some (some 47, .nilCheck (.tmp 22), none) := by kernel_rfl
theorem newOp30 : (newOps[30]?).map (fun o => (o.dst, o.op, o.guard)) = some (some 48, .fieldAddr 197 (.tmp 47) 2, none) := by kernel_rfl
theorem newOp31 : (newOps[31]?).map (fun o => (o.dst, o.op, o.guard)) = some (none, .store 63 (.tmp 48) (.tmp 42), none) := by kernel_rfl
theorem newTab0 {b k cu cs cl : Nat} {ou os ol : Option Addr} : ∀ e ∈ newTab b k cu cs cl ou os ol, (e.1 = 0 ↔ e.2.1 = 20) ∧ (e.1 = 0 → e.2.2 = .pointer (some ⟨b, 0, none⟩)) := by
 intro e he
 simp only [newTab, List.mem_cons, List.not_mem_nil, or_false] at he
 rcases he with rfl | rfl | rfl | rfl | rfl | rfl | rfl | rfl | rfl | rfl | rfl | rfl | rfl | rfl | rfl | rfl | rfl | rfl | rfl | rfl | rfl | rfl | rfl <;> simp
theorem newTab1 {b k cu cs cl : Nat} {ou os ol : Option Addr} : ∀ e ∈ newTab b k cu cs cl ou os ol, (e.1 = 1 ↔ e.2.1 = 21) ∧ (e.1 = 1 → e.2.2 = .pointer (some ⟨b, 0, none⟩)) := by
 intro e he
 simp only [newTab, List.mem_cons, List.not_mem_nil, or_false] at he
 rcases he with rfl | rfl | rfl | rfl | rfl | rfl | rfl | rfl | rfl | rfl | rfl | rfl | rfl | rfl | rfl | rfl | rfl | rfl | rfl | rfl | rfl | rfl | rfl <;> simp
theorem newTab2 {b k cu cs cl : Nat} {ou os ol : Option Addr} : ∀ e ∈ newTab b k cu cs cl ou os ol, (e.1 = 2 ↔ e.2.1 = 22) ∧ (e.1 = 2 → e.2.2 = .pointer (some ⟨b, 0, none⟩)) := by
 intro e he
 simp only [newTab, List.mem_cons, List.not_mem_nil, or_false] at he
 rcases he with rfl | rfl | rfl | rfl | rfl | rfl | rfl | rfl | rfl | rfl | rfl | rfl | rfl | rfl | rfl | rfl | rfl | rfl | rfl | rfl | rfl | rfl | rfl <;> simp
theorem newTab3 {b k cu cs cl : Nat} {ou os ol : Option Addr} : ∀ e ∈ newTab b k cu cs cl ou os ol, (e.1 = 3 ↔ e.2.1 = 23) ∧ (e.1 = 3 → e.2.2 = .pointer (some ⟨b, 0, none⟩)) := by
 intro e he
 simp only [newTab, List.mem_cons, List.not_mem_nil, or_false] at he
 rcases he with rfl | rfl | rfl | rfl | rfl | rfl | rfl | rfl | rfl | rfl | rfl | rfl | rfl | rfl | rfl | rfl | rfl | rfl | rfl | rfl | rfl | rfl | rfl <;> simp
theorem newTab4 {b k cu cs cl : Nat} {ou os ol : Option Addr} : ∀ e ∈ newTab b k cu cs cl ou os ol, (e.1 = 4 ↔ e.2.1 = 24) ∧ (e.1 = 4 → e.2.2 = .pointer (some ⟨b, 0, none⟩)) := by
 intro e he
 simp only [newTab, List.mem_cons, List.not_mem_nil, or_false] at he
 rcases he with rfl | rfl | rfl | rfl | rfl | rfl | rfl | rfl | rfl | rfl | rfl | rfl | rfl | rfl | rfl | rfl | rfl | rfl | rfl | rfl | rfl | rfl | rfl <;> simp
theorem newTab5 {b k cu cs cl : Nat} {ou os ol : Option Addr} : ∀ e ∈ newTab b k cu cs cl ou os ol, (e.1 = 5 ↔ e.2.1 = 25) ∧ (e.1 = 5 → e.2.2 = .pointer (some ⟨b, 0, none⟩)) := by
 intro e he
 simp only [newTab, List.mem_cons, List.not_mem_nil, or_false] at he
 rcases he with rfl | rfl | rfl | rfl | rfl | rfl | rfl | rfl | rfl | rfl | rfl | rfl | rfl | rfl | rfl | rfl | rfl | rfl | rfl | rfl | rfl | rfl | rfl <;> simp
theorem newTab6 {b k cu cs cl : Nat} {ou os ol : Option Addr} : ∀ e ∈ newTab b k cu cs cl ou os ol, (e.1 = 6 ↔ e.2.1 = 26) ∧ (e.1 = 6 → e.2.2 = .slice ou k cu) := by
 intro e he
 simp only [newTab, List.mem_cons, List.not_mem_nil, or_false] at he
 rcases he with rfl | rfl | rfl | rfl | rfl | rfl | rfl | rfl | rfl | rfl | rfl | rfl | rfl | rfl | rfl | rfl | rfl | rfl | rfl | rfl | rfl | rfl | rfl <;> simp
theorem newTab7 {b k cu cs cl : Nat} {ou os ol : Option Addr} : ∀ e ∈ newTab b k cu cs cl ou os ol, (e.1 = 7 ↔ e.2.1 = 27) ∧ (e.1 = 7 → e.2.2 = .int .i64 k) := by
 intro e he
 simp only [newTab, List.mem_cons, List.not_mem_nil, or_false] at he
 rcases he with rfl | rfl | rfl | rfl | rfl | rfl | rfl | rfl | rfl | rfl | rfl | rfl | rfl | rfl | rfl | rfl | rfl | rfl | rfl | rfl | rfl | rfl | rfl <;> simp
theorem newTab10 {b k cu cs cl : Nat} {ou os ol : Option Addr} : ∀ e ∈ newTab b k cu cs cl ou os ol, (e.1 = 10 ↔ e.2.1 = 30) ∧ (e.1 = 10 → e.2.2 = .pointer (some ⟨b, 0, none⟩)) := by
 intro e he
 simp only [newTab, List.mem_cons, List.not_mem_nil, or_false] at he
 rcases he with rfl | rfl | rfl | rfl | rfl | rfl | rfl | rfl | rfl | rfl | rfl | rfl | rfl | rfl | rfl | rfl | rfl | rfl | rfl | rfl | rfl | rfl | rfl <;> simp
theorem newTab11 {b k cu cs cl : Nat} {ou os ol : Option Addr} : ∀ e ∈ newTab b k cu cs cl ou os ol, (e.1 = 11 ↔ e.2.1 = 31) ∧ (e.1 = 11 → e.2.2 = .pointer (some ⟨b, 0, none⟩)) := by
 intro e he
 simp only [newTab, List.mem_cons, List.not_mem_nil, or_false] at he
 rcases he with rfl | rfl | rfl | rfl | rfl | rfl | rfl | rfl | rfl | rfl | rfl | rfl | rfl | rfl | rfl | rfl | rfl | rfl | rfl | rfl | rfl | rfl | rfl <;> simp
theorem newTab12 {b k cu cs cl : Nat} {ou os ol : Option Addr} : ∀ e ∈ newTab b k cu cs cl ou os ol, (e.1 = 12 ↔ e.2.1 = 32) ∧ (e.1 = 12 → e.2.2 = .pointer (some ⟨b, 1, none⟩)) := by
 intro e he
 simp only [newTab, List.mem_cons, List.not_mem_nil, or_false] at he
 rcases he with rfl | rfl | rfl | rfl | rfl | rfl | rfl | rfl | rfl | rfl | rfl | rfl | rfl | rfl | rfl | rfl | rfl | rfl | rfl | rfl | rfl | rfl | rfl <;> simp
theorem newTab13 {b k cu cs cl : Nat} {ou os ol : Option Addr} : ∀ e ∈ newTab b k cu cs cl ou os ol, (e.1 = 13 ↔ e.2.1 = 33) ∧ (e.1 = 13 → e.2.2 = .slice os k cs) := by
 intro e he
 simp only [newTab, List.mem_cons, List.not_mem_nil, or_false] at he
 rcases he with rfl | rfl | rfl | rfl | rfl | rfl | rfl | rfl | rfl | rfl | rfl | rfl | rfl | rfl | rfl | rfl | rfl | rfl | rfl | rfl | rfl | rfl | rfl <;> simp
theorem newTab16 {b k cu cs cl : Nat} {ou os ol : Option Addr} : ∀ e ∈ newTab b k cu cs cl ou os ol, (e.1 = 16 ↔ e.2.1 = 36) ∧ (e.1 = 16 → e.2.2 = .pointer (some ⟨b, 0, none⟩)) := by
 intro e he
 simp only [newTab, List.mem_cons, List.not_mem_nil, or_false] at he
 rcases he with rfl | rfl | rfl | rfl | rfl | rfl | rfl | rfl | rfl | rfl | rfl | rfl | rfl | rfl | rfl | rfl | rfl | rfl | rfl | rfl | rfl | rfl | rfl <;> simp
theorem newTab17 {b k cu cs cl : Nat} {ou os ol : Option Addr} : ∀ e ∈ newTab b k cu cs cl ou os ol, (e.1 = 17 ↔ e.2.1 = 37) ∧ (e.1 = 17 → e.2.2 = .pointer (some ⟨b, 0, none⟩)) := by
 intro e he
 simp only [newTab, List.mem_cons, List.not_mem_nil, or_false] at he
 rcases he with rfl | rfl | rfl | rfl | rfl | rfl | rfl | rfl | rfl | rfl | rfl | rfl | rfl | rfl | rfl | rfl | rfl | rfl | rfl | rfl | rfl | rfl | rfl <;> simp
theorem newTab18 {b k cu cs cl : Nat} {ou os ol : Option Addr} : ∀ e ∈ newTab b k cu cs cl ou os ol, (e.1 = 18 ↔ e.2.1 = 38) ∧ (e.1 = 18 → e.2.2 = .pointer (some ⟨b, 2, none⟩)) := by
 intro e he
 simp only [newTab, List.mem_cons, List.not_mem_nil, or_false] at he
 rcases he with rfl | rfl | rfl | rfl | rfl | rfl | rfl | rfl | rfl | rfl | rfl | rfl | rfl | rfl | rfl | rfl | rfl | rfl | rfl | rfl | rfl | rfl | rfl <;> simp
theorem newTab19 {b k cu cs cl : Nat} {ou os ol : Option Addr} : ∀ e ∈ newTab b k cu cs cl ou os ol, (e.1 = 19 ↔ e.2.1 = 39) ∧ (e.1 = 19 → e.2.2 = .slice ol k cl) := by
 intro e he
 simp only [newTab, List.mem_cons, List.not_mem_nil, or_false] at he
 rcases he with rfl | rfl | rfl | rfl | rfl | rfl | rfl | rfl | rfl | rfl | rfl | rfl | rfl | rfl | rfl | rfl | rfl | rfl | rfl | rfl | rfl | rfl | rfl <;> simp
theorem newTab20 {b k cu cs cl : Nat} {ou os ol : Option Addr} : ∀ e ∈ newTab b k cu cs cl ou os ol, (e.1 = 20 ↔ e.2.1 = 40) ∧ (e.1 = 20 → e.2.2 = .int .i64 k) := by
 intro e he
 simp only [newTab, List.mem_cons, List.not_mem_nil, or_false] at he
 rcases he with rfl | rfl | rfl | rfl | rfl | rfl | rfl | rfl | rfl | rfl | rfl | rfl | rfl | rfl | rfl | rfl | rfl | rfl | rfl | rfl | rfl | rfl | rfl <;> simp
theorem newTab23 {b k cu cs cl : Nat} {ou os ol : Option Addr} : ∀ e ∈ newTab b k cu cs cl ou os ol, (e.1 = 23 ↔ e.2.1 = 43) ∧ (e.1 = 23 → e.2.2 = .pointer (some ⟨b, 0, none⟩)) := by
 intro e he
 simp only [newTab, List.mem_cons, List.not_mem_nil, or_false] at he
 rcases he with rfl | rfl | rfl | rfl | rfl | rfl | rfl | rfl | rfl | rfl | rfl | rfl | rfl | rfl | rfl | rfl | rfl | rfl | rfl | rfl | rfl | rfl | rfl <;> simp
theorem newTab24 {b k cu cs cl : Nat} {ou os ol : Option Addr} : ∀ e ∈ newTab b k cu cs cl ou os ol, (e.1 = 24 ↔ e.2.1 = 44) ∧ (e.1 = 24 → e.2.2 = .pointer (some ⟨b, 0, none⟩)) := by
 intro e he
 simp only [newTab, List.mem_cons, List.not_mem_nil, or_false] at he
 rcases he with rfl | rfl | rfl | rfl | rfl | rfl | rfl | rfl | rfl | rfl | rfl | rfl | rfl | rfl | rfl | rfl | rfl | rfl | rfl | rfl | rfl | rfl | rfl <;> simp
theorem newTab26 {b k cu cs cl : Nat} {ou os ol : Option Addr} : ∀ e ∈ newTab b k cu cs cl ou os ol, (e.1 = 26 ↔ e.2.1 = 45) ∧ (e.1 = 26 → e.2.2 = .pointer (some ⟨b, 0, none⟩)) := by
 intro e he
 simp only [newTab, List.mem_cons, List.not_mem_nil, or_false] at he
 rcases he with rfl | rfl | rfl | rfl | rfl | rfl | rfl | rfl | rfl | rfl | rfl | rfl | rfl | rfl | rfl | rfl | rfl | rfl | rfl | rfl | rfl | rfl | rfl <;> simp
theorem newTab27 {b k cu cs cl : Nat} {ou os ol : Option Addr} : ∀ e ∈ newTab b k cu cs cl ou os ol, (e.1 = 27 ↔ e.2.1 = 46) ∧ (e.1 = 27 → e.2.2 = .pointer (some ⟨b, 1, none⟩)) := by
 intro e he
 simp only [newTab, List.mem_cons, List.not_mem_nil, or_false] at he
 rcases he with rfl | rfl | rfl | rfl | rfl | rfl | rfl | rfl | rfl | rfl | rfl | rfl | rfl | rfl | rfl | rfl | rfl | rfl | rfl | rfl | rfl | rfl | rfl <;> simp
theorem newTab29 {b k cu cs cl : Nat} {ou os ol : Option Addr} : ∀ e ∈ newTab b k cu cs cl ou os ol, (e.1 = 29 ↔ e.2.1 = 47) ∧ (e.1 = 29 → e.2.2 = .pointer (some ⟨b, 0, none⟩)) := by
 intro e he
 simp only [newTab, List.mem_cons, List.not_mem_nil, or_false] at he
 rcases he with rfl | rfl | rfl | rfl | rfl | rfl | rfl | rfl | rfl | rfl | rfl | rfl | rfl | rfl | rfl | rfl | rfl | rfl | rfl | rfl | rfl | rfl | rfl <;> simp
theorem newTab30 {b k cu cs cl : Nat} {ou os ol : Option Addr} : ∀ e ∈ newTab b k cu cs cl ou os ol, (e.1 = 30 ↔ e.2.1 = 48) ∧ (e.1 = 30 → e.2.2 = .pointer (some ⟨b, 2, none⟩)) := by
 intro e he
 simp only [newTab, List.mem_cons, List.not_mem_nil, or_false] at he
 rcases he with rfl | rfl | rfl | rfl | rfl | rfl | rfl | rfl | rfl | rfl | rfl | rfl | rfl | rfl | rfl | rfl | rfl | rfl | rfl | rfl | rfl | rfl | rfl <;> simp
theorem opFacts {ops : Array Oper} {i : Nat} {o : Oper} {d : Option Tmp} {op : Op} {g : Option (Nat × Bool)} (ho : ops[i]? = some o) (h : (ops[i]?).map (fun o => (o.dst, o.op, o.guard)) = some (d, op, g)) : o.dst = d ∧ o.op = op ∧ o.guard = g := by
 rw [ho] at h
 simpa using h
theorem depFacts {ops : Array Oper} {done : Nat → Bool} {i j : Nat} {o : Oper} (ho : ops[i]? = some o) (hdeps : ∀ e ∈ o.after.toList, Region.binds .any e = true → done e.on = true)
  (h : (ops[i]?).map (fun o => o.after.toList.any fun e => Region.binds .any e && e.on == j) = some true) : done j = true := by
 rw [ho] at h
 simp only [Option.map_some, Option.some.injEq, List.any_eq_true, Bool.and_eq_true, beq_iff_eq] at h
 obtain ⟨e, he, hb, rfl⟩ := h
 exact hdeps e he hb
theorem closedDep {ops : Array Oper} {done : Nat → Bool} (hcl : Closed ops done) {i j : Nat} (h : (ops[i]?).map (fun o => o.after.toList.any fun e => Region.binds .any e && e.on == j) = some true) : done i = true → done j = true := by
 intro hd
 cases ho : ops[i]? with
 | none => rw [ho] at h; cases h
 | some o => exact depFacts ho (fun e he hb => hcl i o ho hd e he hb) h
theorem notYet {ops : Array Oper} {done : Nat → Bool} (hcl : Closed ops done) {i j : Nat} (h : (ops[i]?).map (fun o => o.after.toList.any fun e => Region.binds .any e && e.on == j) = some true) (hj : done j = false) : done i = false := by
 cases hd : done i with
 | false => rfl
 | true => rw [closedDep hcl h hd] at hj; cases hj
theorem run_append (w : World) (ev : Operand → Value) {o : Oper} {x y : Operand} {v vx v' : Value} {w' : World} (ho : o.op = .call { callee := .builtin .append, args := #[x, y], argTypes := #[63, 63] }) (hx : ev x = v) (hy : ev y = vx)
  (hrun : (Builtin.append_ #[63, 63] o.type #[v, vx]).run Tryz.prog w = .ok v' w') : (execOp ev o).run Tryz.prog w = .ok (.value v') w' := by
 unfold execOp
 simp only [ho, resolve, invoke, builtin, Sem.run_bind, Sem.run_pure, Result.andThen_ok, List.map_toArray, List.map_cons, List.map_nil, hx, hy, hrun]
set_option maxHeartbeats 1000000 in
theorem new_step {lo b k n cu cs cl : Nat} {ou os ol : Option Addr} {wr : World} {a0 : Act} (hk40 : k ≤ 40) (hlo : lo ≤ wr.heap.size) (h4 : a0.eval (.tmp 4) = .pointer (some ⟨b, 0, none⟩)) (h5 : a0.eval (.tmp 5) = .int .i64 k) (Q : Exit → Act → World → Prop)
  (done : Nat → Bool) (a : Act) (w : World) (i : Nat) (o : Oper) (ho : newOps[i]? = some o) (hu : done i = false) (hdeps : ∀ e ∈ o.after.toList, Region.binds .any e = true → done e.on = true) (hcl : Closed newOps done)
  (hI : NI lo b k n cu cs cl ou os ol wr a0 done a w) (K : Act → World → Prop) (hK : ∀ a' w', NI lo b k n cu cs cl ou os ol wr a0 (upd done i true) a' w' → K a' w') :
  if Region.wanted o (yielded newOps a.tmps) = true then o.wp Tryz.prog a w K Q else K (a.put o.dst undef) w := by
 have hI4 : ∀ a, NI lo b k n cu cs cl ou os ol wr a0 done a w → a.eval (.tmp 4) = .pointer (some ⟨b, 0, none⟩) := fun a h => (h.fr 4 (.inl (by omega))).trans h4
 have hI5 : ∀ a, NI lo b k n cu cs cl ou os ol wr a0 done a w → a.eval (.tmp 5) = .int .i64 k := fun a h => (h.fr 5 (.inl (by omega))).trans h5
 have hi : i < 32 := by have := (Array.getElem?_eq_some_iff.1 ho).1; rw [newSize] at this; exact this
 obtain rfl | rfl | rfl | rfl | rfl | rfl | rfl | rfl | rfl | rfl | rfl | rfl | rfl | rfl | rfl | rfl | rfl | rfl | rfl | rfl | rfl | rfl | rfl | rfl | rfl | rfl | rfl | rfl | rfl | rfl | rfl | rfl : i = 0 ∨ i = 1 ∨ i = 2 ∨ i = 3 ∨ i = 4 ∨ i = 5 ∨ i = 6 ∨ i = 7 ∨ i = 8 ∨ i = 9 ∨ i = 10 ∨ i = 11 ∨ i = 12 ∨ i = 13 ∨ i = 14 ∨ i = 15 ∨ i = 16 ∨ i = 17 ∨ i = 18 ∨ i = 19 ∨ i = 20 ∨ i = 21 ∨ i = 22 ∨ i = 23 ∨ i = 24 ∨ i = 25 ∨ i = 26 ∨ i = 27 ∨ i = 28 ∨ i = 29 ∨ i = 30 ∨ i = 31 := by omega
 ·obtain ⟨hd, hop, hg⟩ := opFacts ho newOp0
  refine step_value hg (run_move _ _ _ hop (hI4 a hI)) ?_
  rw [hd]
  exact hK _ _ (hI.pure (by omega) (by omega) (by omega) (by omega) newTab0)
 ·obtain ⟨hd, hop, hg⟩ := opFacts ho newOp1
  refine step_value hg (run_move _ _ _ hop (hI4 a hI)) ?_
  rw [hd]
  exact hK _ _ (hI.pure (by omega) (by omega) (by omega) (by omega) newTab1)
 ·obtain ⟨hd, hop, hg⟩ := opFacts ho newOp2
  refine step_value hg (run_move _ _ _ hop (hI4 a hI)) ?_
  rw [hd]
  exact hK _ _ (hI.pure (by omega) (by omega) (by omega) (by omega) newTab2)
 ·obtain ⟨hd, hop, hg⟩ := opFacts ho newOp3
  refine step_value hg (run_move _ _ _ hop (hI4 a hI)) ?_
  rw [hd]
  exact hK _ _ (hI.pure (by omega) (by omega) (by omega) (by omega) newTab3)
 ·obtain ⟨hd, hop, hg⟩ := opFacts ho newOp4
  have h1 : a.eval (.tmp 23) = (.pointer (some ⟨b, 0, none⟩)) := hI.tab (3, 23, _) (by simp [newTab]) (depFacts ho hdeps (j := 3) (by kernel_rfl))
  refine step_value hg (run_nilCheck _ _ _ hop h1) ?_
  rw [hd]
  exact hK _ _ (hI.pure (by omega) (by omega) (by omega) (by omega) newTab4)
 ·obtain ⟨hd, hop, hg⟩ := opFacts ho newOp5
  have h1 : a.eval (.tmp 24) = (.pointer (some ⟨b, 0, none⟩)) := hI.tab (4, 24, _) (by simp [newTab]) (depFacts ho hdeps (j := 4) (by kernel_rfl))
  refine step_value hg (run_field0 _ _ hop h1) ?_
  rw [hd]
  exact hK _ _ (hI.pure (by omega) (by omega) (by omega) (by omega) newTab5)
 ·obtain ⟨hd, hop, hg⟩ := opFacts ho newOp6
  have h1 : a.eval (.tmp 25) = (.pointer (some ⟨b, 0, none⟩)) := hI.tab (5, 25, _) (by simp [newTab]) (depFacts ho hdeps (j := 5) (by kernel_rfl))
  have hs : done 25 = false := notYet hcl (i := 25) (j := 6) (by kernel_rfl) hu
  obtain ⟨own, _, _, _, hrow, _⟩ := hI.mem
  have hc := hrow.cell (i := 0) rfl
  rw [hs] at hc
  refine step_value hg (run_load_ints _ _ hop h1 hc) ?_
  rw [hd]
  exact hK _ _ (hI.pure (by omega) (by omega) (by omega) (by omega) newTab6)
 ·obtain ⟨hd, hop, hg⟩ := opFacts ho newOp7
  refine step_value hg (run_move _ _ _ hop (hI5 a hI)) ?_
  rw [hd]
  exact hK _ _ (hI.pure (by omega) (by omega) (by omega) (by omega) newTab7)
 ·obtain ⟨hd, hop, hg⟩ := opFacts ho newOp8
  have h1 : a.eval (.tmp 27) = (.int .i64 k) := hI.tab (7, 27, _) (by simp [newTab]) (depFacts ho hdeps (j := 7) (by kernel_rfl))
  refine step_value hg (run_build1 _ _ hop h1 rfl) ?_
  rw [hd]
  exact hK _ _ (hI.build (Nat.le_trans hlo hI.keep.size) (by simp) (closedDep hcl (i := 9) (j := 8) (by kernel_rfl)) (closedDep hcl (i := 15) (j := 14) (by kernel_rfl)) (closedDep hcl (i := 22) (j := 21) (by kernel_rfl)) hu)
 ·obtain ⟨hd, hop, hg⟩ := opFacts ho newOp9
  have h1 : a.eval (.tmp 26) = (.slice ou k cu) := hI.tab (6, 26, _) (by simp [newTab]) (depFacts ho hdeps (j := 6) (by kernel_rfl))
  have hs : done 25 = false := notYet hcl (i := 25) (j := 9) (by kernel_rfl) hu
  obtain ⟨vx, v', w', hx, hrun, hnext⟩ := hI.append9 hk40 (Nat.le_trans hlo hI.keep.size) (depFacts ho hdeps (j := 8) (by kernel_rfl)) hu hs o.type
  refine step_value hg (run_append _ _ hop h1 hx hrun) ?_
  rw [hd]
  exact hK _ _ hnext
 ·obtain ⟨hd, hop, hg⟩ := opFacts ho newOp10
  refine step_value hg (run_move _ _ _ hop (hI4 a hI)) ?_
  rw [hd]
  exact hK _ _ (hI.pure (by omega) (by omega) (by omega) (by omega) newTab10)
 ·obtain ⟨hd, hop, hg⟩ := opFacts ho newOp11
  have h1 : a.eval (.tmp 30) = (.pointer (some ⟨b, 0, none⟩)) := hI.tab (10, 30, _) (by simp [newTab]) (depFacts ho hdeps (j := 10) (by kernel_rfl))
  refine step_value hg (run_nilCheck _ _ _ hop h1) ?_
  rw [hd]
  exact hK _ _ (hI.pure (by omega) (by omega) (by omega) (by omega) newTab11)
 ·obtain ⟨hd, hop, hg⟩ := opFacts ho newOp12
  have h1 : a.eval (.tmp 31) = (.pointer (some ⟨b, 0, none⟩)) := hI.tab (11, 31, _) (by simp [newTab]) (depFacts ho hdeps (j := 11) (by kernel_rfl))
  refine step_value hg (run_field1 _ _ hop h1) ?_
  rw [hd]
  exact hK _ _ (hI.pure (by omega) (by omega) (by omega) (by omega) newTab12)
 ·obtain ⟨hd, hop, hg⟩ := opFacts ho newOp13
  have h1 : a.eval (.tmp 32) = (.pointer (some ⟨b, 1, none⟩)) := hI.tab (12, 32, _) (by simp [newTab]) (depFacts ho hdeps (j := 12) (by kernel_rfl))
  have hs : done 28 = false := notYet hcl (i := 28) (j := 13) (by kernel_rfl) hu
  obtain ⟨own, _, _, _, hrow, _⟩ := hI.mem
  have hc := hrow.cell (i := 1) rfl
  rw [hs] at hc
  refine step_value hg (run_load_ints _ _ hop h1 hc) ?_
  rw [hd]
  exact hK _ _ (hI.pure (by omega) (by omega) (by omega) (by omega) newTab13)
 ·obtain ⟨hd, hop, hg⟩ := opFacts ho newOp14
  have h1 : a.eval (.const (.int .i64 1)) = (.int .i64 1) := rfl
  refine step_value hg (run_build1 _ _ hop h1 rfl) ?_
  rw [hd]
  exact hK _ _ (hI.build (Nat.le_trans hlo hI.keep.size) (by simp) (closedDep hcl (i := 9) (j := 8) (by kernel_rfl)) (closedDep hcl (i := 15) (j := 14) (by kernel_rfl)) (closedDep hcl (i := 22) (j := 21) (by kernel_rfl)) hu)
 ·obtain ⟨hd, hop, hg⟩ := opFacts ho newOp15
  have h1 : a.eval (.tmp 33) = (.slice os k cs) := hI.tab (13, 33, _) (by simp [newTab]) (depFacts ho hdeps (j := 13) (by kernel_rfl))
  have hs : done 28 = false := notYet hcl (i := 28) (j := 15) (by kernel_rfl) hu
  obtain ⟨vx, v', w', hx, hrun, hnext⟩ := hI.append15 hk40 (Nat.le_trans hlo hI.keep.size) (depFacts ho hdeps (j := 14) (by kernel_rfl)) hu hs o.type
  refine step_value hg (run_append _ _ hop h1 hx hrun) ?_
  rw [hd]
  exact hK _ _ hnext
 ·obtain ⟨hd, hop, hg⟩ := opFacts ho newOp16
  refine step_value hg (run_move _ _ _ hop (hI4 a hI)) ?_
  rw [hd]
  exact hK _ _ (hI.pure (by omega) (by omega) (by omega) (by omega) newTab16)
 ·obtain ⟨hd, hop, hg⟩ := opFacts ho newOp17
  have h1 : a.eval (.tmp 36) = (.pointer (some ⟨b, 0, none⟩)) := hI.tab (16, 36, _) (by simp [newTab]) (depFacts ho hdeps (j := 16) (by kernel_rfl))
  refine step_value hg (run_nilCheck _ _ _ hop h1) ?_
  rw [hd]
  exact hK _ _ (hI.pure (by omega) (by omega) (by omega) (by omega) newTab17)
 ·obtain ⟨hd, hop, hg⟩ := opFacts ho newOp18
  have h1 : a.eval (.tmp 37) = (.pointer (some ⟨b, 0, none⟩)) := hI.tab (17, 37, _) (by simp [newTab]) (depFacts ho hdeps (j := 17) (by kernel_rfl))
  refine step_value hg (run_field2 _ _ hop h1) ?_
  rw [hd]
  exact hK _ _ (hI.pure (by omega) (by omega) (by omega) (by omega) newTab18)
 ·obtain ⟨hd, hop, hg⟩ := opFacts ho newOp19
  have h1 : a.eval (.tmp 38) = (.pointer (some ⟨b, 2, none⟩)) := hI.tab (18, 38, _) (by simp [newTab]) (depFacts ho hdeps (j := 18) (by kernel_rfl))
  have hs : done 31 = false := notYet hcl (i := 31) (j := 19) (by kernel_rfl) hu
  obtain ⟨own, _, _, _, hrow, _⟩ := hI.mem
  have hc := hrow.cell (i := 2) rfl
  rw [hs] at hc
  refine step_value hg (run_load_ints _ _ hop h1 hc) ?_
  rw [hd]
  exact hK _ _ (hI.pure (by omega) (by omega) (by omega) (by omega) newTab19)
 ·obtain ⟨hd, hop, hg⟩ := opFacts ho newOp20
  refine step_value hg (run_move _ _ _ hop (hI5 a hI)) ?_
  rw [hd]
  exact hK _ _ (hI.pure (by omega) (by omega) (by omega) (by omega) newTab20)
 ·obtain ⟨hd, hop, hg⟩ := opFacts ho newOp21
  have h1 : a.eval (.tmp 40) = (.int .i64 k) := hI.tab (20, 40, _) (by simp [newTab]) (depFacts ho hdeps (j := 20) (by kernel_rfl))
  refine step_value hg (run_build1 _ _ hop h1 rfl) ?_
  rw [hd]
  exact hK _ _ (hI.build (Nat.le_trans hlo hI.keep.size) (by simp) (closedDep hcl (i := 9) (j := 8) (by kernel_rfl)) (closedDep hcl (i := 15) (j := 14) (by kernel_rfl)) (closedDep hcl (i := 22) (j := 21) (by kernel_rfl)) hu)
 ·obtain ⟨hd, hop, hg⟩ := opFacts ho newOp22
  have h1 : a.eval (.tmp 39) = (.slice ol k cl) := hI.tab (19, 39, _) (by simp [newTab]) (depFacts ho hdeps (j := 19) (by kernel_rfl))
  have hs : done 31 = false := notYet hcl (i := 31) (j := 22) (by kernel_rfl) hu
  obtain ⟨vx, v', w', hx, hrun, hnext⟩ := hI.append22 hk40 (Nat.le_trans hlo hI.keep.size) (depFacts ho hdeps (j := 21) (by kernel_rfl)) hu hs o.type
  refine step_value hg (run_append _ _ hop h1 hx hrun) ?_
  rw [hd]
  exact hK _ _ hnext
 ·obtain ⟨hd, hop, hg⟩ := opFacts ho newOp23
  have h1 : a.eval (.tmp 20) = (.pointer (some ⟨b, 0, none⟩)) := hI.tab (0, 20, _) (by simp [newTab]) (depFacts ho hdeps (j := 0) (by kernel_rfl))
  refine step_value hg (run_nilCheck _ _ _ hop h1) ?_
  rw [hd]
  exact hK _ _ (hI.pure (by omega) (by omega) (by omega) (by omega) newTab23)
 ·obtain ⟨hd, hop, hg⟩ := opFacts ho newOp24
  have h1 : a.eval (.tmp 43) = (.pointer (some ⟨b, 0, none⟩)) := hI.tab (23, 43, _) (by simp [newTab]) (depFacts ho hdeps (j := 23) (by kernel_rfl))
  refine step_value hg (run_field0 _ _ hop h1) ?_
  rw [hd]
  exact hK _ _ (hI.pure (by omega) (by omega) (by omega) (by omega) newTab24)
 ·obtain ⟨hd, hop, hg⟩ := opFacts ho newOp25
  have h1 : a.eval (.tmp 44) = (.pointer (some ⟨b, 0, none⟩)) := hI.tab (24, 44, _) (by simp [newTab]) (depFacts ho hdeps (j := 24) (by kernel_rfl))
  have h2 : done 9 = true := depFacts ho hdeps (j := 9) (by kernel_rfl)
  obtain ⟨own, _, _, _, hrow, hU, hS, hL⟩ := hI.mem
  obtain ⟨g, c', hv, _⟩ := hU.new h2
  refine step_skip hg hd (run_store_ints _ _ hop h1 rfl hv (hrow.cell (i := 0) rfl) (hrow.frozen 0 none)) ?_
  exact hK _ _ (hI.store25 hu)
 ·obtain ⟨hd, hop, hg⟩ := opFacts ho newOp26
  have h1 : a.eval (.tmp 21) = (.pointer (some ⟨b, 0, none⟩)) := hI.tab (1, 21, _) (by simp [newTab]) (depFacts ho hdeps (j := 1) (by kernel_rfl))
  refine step_value hg (run_nilCheck _ _ _ hop h1) ?_
  rw [hd]
  exact hK _ _ (hI.pure (by omega) (by omega) (by omega) (by omega) newTab26)
 ·obtain ⟨hd, hop, hg⟩ := opFacts ho newOp27
  have h1 : a.eval (.tmp 45) = (.pointer (some ⟨b, 0, none⟩)) := hI.tab (26, 45, _) (by simp [newTab]) (depFacts ho hdeps (j := 26) (by kernel_rfl))
  refine step_value hg (run_field1 _ _ hop h1) ?_
  rw [hd]
  exact hK _ _ (hI.pure (by omega) (by omega) (by omega) (by omega) newTab27)
 ·obtain ⟨hd, hop, hg⟩ := opFacts ho newOp28
  have h1 : a.eval (.tmp 46) = (.pointer (some ⟨b, 1, none⟩)) := hI.tab (27, 46, _) (by simp [newTab]) (depFacts ho hdeps (j := 27) (by kernel_rfl))
  have h2 : done 15 = true := depFacts ho hdeps (j := 15) (by kernel_rfl)
  obtain ⟨own, _, _, _, hrow, hU, hS, hL⟩ := hI.mem
  obtain ⟨g, c', hv, _⟩ := hS.new h2
  refine step_skip hg hd (run_store_ints _ _ hop h1 rfl hv (hrow.cell (i := 1) rfl) (hrow.frozen 1 none)) ?_
  exact hK _ _ (hI.store28 hu)
 ·obtain ⟨hd, hop, hg⟩ := opFacts ho newOp29
  have h1 : a.eval (.tmp 22) = (.pointer (some ⟨b, 0, none⟩)) := hI.tab (2, 22, _) (by simp [newTab]) (depFacts ho hdeps (j := 2) (by kernel_rfl))
  refine step_value hg (run_nilCheck _ _ _ hop h1) ?_
  rw [hd]
  exact hK _ _ (hI.pure (by omega) (by omega) (by omega) (by omega) newTab29)
 ·obtain ⟨hd, hop, hg⟩ := opFacts ho newOp30
  have h1 : a.eval (.tmp 47) = (.pointer (some ⟨b, 0, none⟩)) := hI.tab (29, 47, _) (by simp [newTab]) (depFacts ho hdeps (j := 29) (by kernel_rfl))
  refine step_value hg (run_field2 _ _ hop h1) ?_
  rw [hd]
  exact hK _ _ (hI.pure (by omega) (by omega) (by omega) (by omega) newTab30)
 ·obtain ⟨hd, hop, hg⟩ := opFacts ho newOp31
  have h1 : a.eval (.tmp 48) = (.pointer (some ⟨b, 2, none⟩)) := hI.tab (30, 48, _) (by simp [newTab]) (depFacts ho hdeps (j := 30) (by kernel_rfl))
  have h2 : done 22 = true := depFacts ho hdeps (j := 22) (by kernel_rfl)
  obtain ⟨own, _, _, _, hrow, hU, hS, hL⟩ := hI.mem
  obtain ⟨g, c', hv, _⟩ := hL.new h2
  refine step_skip hg hd (run_store_ints _ _ hop h1 rfl hv (hrow.cell (i := 2) rfl) (hrow.frozen 2 none)) ?_
  exact hK _ _ (hI.store31 hu)
theorem act_lit51 {a : Act} (h : a.tmps.size = 51) (hd : a.defers = []) : a = ⟨#[a.eval (.tmp 0), a.eval (.tmp 1), a.eval (.tmp 2), a.eval (.tmp 3), a.eval (.tmp 4), a.eval (.tmp 5), a.eval (.tmp 6), a.eval (.tmp 7), a.eval (.tmp 8), a.eval (.tmp 9), a.eval (.tmp 10), a.eval (.tmp 11), a.eval (.tmp 12), a.eval (.tmp 13), a.eval (.tmp 14), a.eval (.tmp 15), a.eval (.tmp 16), a.eval (.tmp 17), a.eval (.tmp 18), a.eval (.tmp 19), a.eval (.tmp 20), a.eval (.tmp 21), a.eval (.tmp 22), a.eval (.tmp 23), a.eval (.tmp 24), a.eval (.tmp 25), a.eval (.tmp 26), a.eval (.tmp 27), a.eval (.tmp 28), a.eval (.tmp 29), a.eval (.tmp 30), a.eval (.tmp 31), a.eval (.tmp 32), a.eval (.tmp 33), a.eval (.tmp 34), a.eval (.tmp 35), a.eval (.tmp 36), a.eval (.tmp 37), a.eval (.tmp 38), a.eval (.tmp 39), a.eval (.tmp 40), a.eval (.tmp 41), a.eval (.tmp 42), a.eval (.tmp 43), a.eval (.tmp 44), a.eval (.tmp 45), a.eval (.tmp 46), a.eval (.tmp 47), a.eval (.tmp 48), a.eval (.tmp 49), a.eval (.tmp 50)], []⟩ := by
 obtain ⟨t, d⟩ := a
 simp only at h hd
 subst hd
 have : t = ((List.range 51).map fun i => t.getD i undef).toArray := by
  apply Array.ext
  ·simp [h]
  ·intro i h1 h2
   simp [h1]
 conv => lhs; rw [this]
 rfl
end Go.Proofs.YtfglkgkihafcpaaGreatDoor
namespace Go.Proofs.YtfglkgkihafcpaaGreatDoor
open Go.RowKit Pl
open Classical in
theorem ni_start {lo b k n cu cs cl : Nat} {ou os ol : Option Addr} {wr : World} {a0 : Act} (hsz : a0.tmps.size = 51) (hdf : a0.defers = [])
  (hM : SetsMem (fun j => lo ≤ j) wr b k (fun x => x) (fun _ => 1) (fun x => x) n ou os ol cu cs cl) : NI lo b k n cu cs cl ou os ol wr a0 (fun _ => false) a0 wr.drew := by
 refine ⟨hsz, hdf, fun _ _ => rfl, fun _ _ h => (by cases h), (Keep.refl _ wr).drew, fun j => if j = b then 0 else if Bl ou j then 1 else if Bl os j then 2 else if Bl ol j then 3 else 5, by simp, fun j hj => ?_, fun j hj => ?_, ?_, ?_, ?_, ?_⟩
 ·dsimp only at hj
  by_cases h0 : j = b
  ·rw [h0]; exact hM.hb
  ·rw [if_neg h0] at hj
   by_cases h1 : Bl ou j
   ·obtain ⟨a, ha, rfl⟩ := h1; exact hM.u.foot a ha
   ·rw [if_neg h1] at hj
    by_cases h2 : Bl os j
    ·obtain ⟨a, ha, rfl⟩ := h2; exact hM.s.foot a ha
    ·rw [if_neg h2] at hj
     by_cases h3 : Bl ol j
     ·obtain ⟨a, ha, rfl⟩ := h3; exact hM.l.foot a ha
     ·rw [if_neg h3] at hj; omega
 ·have e0 : j ≠ b := by have := hM.head.lt; intro e; subst e; exact Nat.not_lt.2 hj this
  have e1 : ¬ Bl ou j := by rintro ⟨a, ha, rfl⟩; exact Nat.not_lt.2 hj (hM.u.lt ha)
  have e2 : ¬ Bl os j := by rintro ⟨a, ha, rfl⟩; exact Nat.not_lt.2 hj (hM.s.lt ha)
  have e3 : ¬ Bl ol j := by rintro ⟨a, ha, rfl⟩; exact Nat.not_lt.2 hj (hM.l.lt ha)
  show (if j = b then 0 else if Bl ou j then 1 else if Bl os j then 2 else if Bl ol j then 3 else 5) = 5
  rw [if_neg e0, if_neg e1, if_neg e2, if_neg e3]
 ·exact hM.head.drew
 ·refine ⟨fun h => (by cases h), fun _ => ⟨hM.u.drew.own, fun a ha => ?_⟩, fun h => (by cases h)⟩
  show (if a.block = b then 0 else if Bl ou a.block then 1 else if Bl os a.block then 2 else if Bl ol a.block then 3 else 5) = 1
  rw [if_neg (hM.du a ha), if_pos ⟨a, ha, rfl⟩]
 ·refine ⟨fun h => (by cases h), fun _ => ⟨hM.s.drew.own, fun a ha => ?_⟩, fun h => (by cases h)⟩
  have e1 : ¬ Bl ou a.block := by rintro ⟨c, hc, e⟩; exact hM.dus c a hc ha e
  show (if a.block = b then 0 else if Bl ou a.block then 1 else if Bl os a.block then 2 else if Bl ol a.block then 3 else 5) = 2
  rw [if_neg (hM.ds a ha), if_neg e1, if_pos ⟨a, ha, rfl⟩]
 ·refine ⟨fun h => (by cases h), fun _ => ⟨hM.l.drew.own, fun a ha => ?_⟩, fun h => (by cases h)⟩
  have e1 : ¬ Bl ou a.block := by rintro ⟨c, hc, e⟩; exact hM.dul c a hc ha e
  have e2 : ¬ Bl os a.block := by rintro ⟨c, hc, e⟩; exact hM.dsl c a hc ha e
  show (if a.block = b then 0 else if Bl ou a.block then 1 else if Bl os a.block then 2 else if Bl ol a.block then 3 else 5) = 3
  rw [if_neg (hM.dl a ha), if_neg e1, if_neg e2, if_pos ⟨a, ha, rfl⟩]
theorem ni_end {lo b k n cu cs cl : Nat} {ou os ol : Option Addr} {wr w : World} {a0 a : Act} {done : Nat → Bool} (h : NI lo b k n cu cs cl ou os ol wr a0 done a w) (hall : ∀ i, i < 32 → done i = true) :
  ∃ ou' os' ol' cu' cs' cl', SetsMem (fun j => lo ≤ j) w b (k + 1) (fun x => x) (fun _ => 1) (fun x => x) n ou' os' ol' cu' cs' cl' := by
 obtain ⟨own, o1, o2, o3, hrow, hU, hS, hL⟩ := h.mem
 obtain ⟨gu, cu', eu, su⟩ := hU.new (hall 9 (by omega))
 obtain ⟨gs, cs', es, ss⟩ := hS.new (hall 15 (by omega))
 obtain ⟨gl, cl', el, sl⟩ := hL.new (hall 22 (by omega))
 rw [hall 25 (by omega), hall 28 (by omega), hall 31 (by omega), eu, es, el] at hrow
 have fu := su.foot _ rfl
 have fs := ss.foot _ rfl
 have fl := sl.foot _ rfl
 simp only at fu fs fl
 refine ⟨some ⟨gu, 0, none⟩, some ⟨gs, 0, none⟩, some ⟨gl, 0, none⟩, cu', cs', cl', hrow, o2 b (by omega), ?_, ?_, ?_, ?_, ?_, ?_, ?_, ?_, ?_⟩
 ·rw [fints_snoc]; exact su.mono (fun j hj => o2 j (by omega))
 ·rw [fints_snoc]; exact ss.mono (fun j hj => o2 j (by omega))
 ·rw [fints_snoc]; exact sl.mono (fun j hj => o2 j (by omega))
 ·intro a ha e; simp at ha; subst ha; simp at e; subst e; omega
 ·intro a ha e; simp at ha; subst ha; simp at e; subst e; omega
 ·intro a ha e; simp at ha; subst ha; simp at e; subst e; omega
 ·intro a c ha hc e; simp at ha hc; subst ha hc; simp at e; subst e; omega
 ·intro a c ha hc e; simp at ha hc; subst ha hc; simp at e; subst e; omega
 ·intro a c ha hc e; simp at ha hc; subst ha hc; simp at e; subst e; omega
def NewPost (w : World) (n : Nat) (e : Ending) (w' : World) : Prop :=
 ∃ b, e = .returned (.tuple #[.pointer (some ⟨b, 0, none⟩), .nilIface]) ∧ Sets (Iv w.heap.size w'.heap.size) w' b n (fun x => x) ∧ Keep Nb w w'
theorem new_fin {w wr : World} {b n : Nat} {ou os ol : Option Addr} {cu cs cl : Nat} (hn : n ≤ 40) (hM : SetsMem (fun j => w.heap.size ≤ j) wr b n (fun x => x) (fun _ => 1) (fun x => x) n ou os ol cu cs cl) (hk : Keep Nb w wr) :
  NewPost w n (.returned (.tuple #[.pointer (some ⟨b, 0, none⟩), .nilIface])) wr :=
 ⟨b, rfl, ⟨_, _, _, _, _, _, _, _, _, _, hM.tight.mono (fun _ h => h), SetsInv.new n, hn⟩, hk⟩
set_option maxHeartbeats 2000000 in
set_option maxRecDepth 100000 in
theorem new_any (n : Nat) (hn : n ≤ 40) (w : World) : Calls Tryz.prog 105 #[.int .i64 n] w (NewPost w n) := by
 have H0 : SetsMem (fun j => w.heap.size ≤ j) (w.alloc (.cells #[.slice none 0 0, .slice none 0 0, .slice none 0 0, .int .i64 n] 197)) w.heap.size 0 (fun x => x) (fun _ => 1) (fun x => x) n none none none 0 0 0 :=
  ⟨Row.new w _ _, Nat.le_refl _, Sl.nil _ _ _ _, Sl.nil _ _ _ _, Sl.nil _ _ _ _, fun _ h => (by cases h), fun _ h => (by cases h), fun _ h => (by cases h), fun _ _ h => (by cases h), fun _ _ h => (by cases h), fun _ _ h => (by cases h)⟩
 have HH := Lib.hid H0
 clear H0
 go_enter Tryz.func105, Tryz.ntmps105
 go_wp2_with fail
 go_loopw [17] (fun i wr => ∃ (k : Nat) (ou os ol : Option Addr) (cu cs cl : Nat), i = .int .i64 k ∧ k ≤ n ∧ SetsMem (fun j => w.heap.size ≤ j) wr w.heap.size k (fun x => x) (fun _ => 1) (fun x => x) n ou os ol cu cs cl ∧ Keep Nb w wr)
  (fun i _ => n - (intOf i).toNat)
 case atStart => exact ⟨0, none, none, none, 0, 0, 0, rfl, Nat.zero_le _, HH.out, (Keep.refl Nb w).alloc _⟩
 case round =>
  obtain ⟨k, ou, os, ol, cu, cs, cl, rfl, hk, hM, hkeep⟩ := hrel
  have HM := Lib.hid hM
  have HK := Lib.hid hkeep
  clear hM hkeep
  by_cases hlt : k < n
  ·go_wp2_with fail
   refine wp_region_inv (ops := newOps) (by kernel_rfl) newOrd (NI w.heap.size w.heap.size k n cu cs cl ou os ol wr _) (ni_start rfl rfl HM.out) (new_step (by omega) HK.out.size rfl rfl _) ?_
   intro done a w1 hall hI
   have hend := ni_end hI (fun i hi => hall i (by rw [newSize]; exact hi))
   have f0 : a.eval (.tmp 0) = .int .i64 n := hI.fr 0 (.inl (by omega))
   have f1 : a.eval (.tmp 1) = undef := hI.fr 1 (.inl (by omega))
   have f2 : a.eval (.tmp 2) = .pointer none := hI.fr 2 (.inl (by omega))
   have f3 : a.eval (.tmp 3) = .nilIface := hI.fr 3 (.inl (by omega))
   have f4 : a.eval (.tmp 4) = .pointer (some ⟨w.heap.size, 0, none⟩) := hI.fr 4 (.inl (by omega))
   have f5 : a.eval (.tmp 5) = .int .i64 k := hI.fr 5 (.inl (by omega))
   have f6 : a.eval (.tmp 6) = .int .i64 n := hI.fr 6 (.inl (by omega))
   have f7 : a.eval (.tmp 7) = .bool (decide ((n : Int) < 0)) := hI.fr 7 (.inl (by omega))
   have f8 : a.eval (.tmp 8) = .bool (decide ((n : Int) < 0)) := hI.fr 8 (.inl (by omega))
   have f9 : a.eval (.tmp 9) = .int .i64 n := hI.fr 9 (.inl (by omega))
   have f10 : a.eval (.tmp 10) = .bool (decide (40 < (n : Int))) := hI.fr 10 (.inl (by omega))
   have f11 : a.eval (.tmp 11) = .bool (decide ((n : Int) < 0) || decide (40 < (n : Int))) := hI.fr 11 (.inl (by omega))
   have f12 : a.eval (.tmp 12) = undef := hI.fr 12 (.inl (by omega))
   have f13 : a.eval (.tmp 13) = .int .i64 n := hI.fr 13 (.inl (by omega))
   have f14 : a.eval (.tmp 14) = .agg #[.slice none 0 0, .slice none 0 0, .slice none 0 0, .int .i64 n] := hI.fr 14 (.inl (by omega))
   have f15 : a.eval (.tmp 15) = .pointer (some ⟨w.heap.size, 0, none⟩) := hI.fr 15 (.inl (by omega))
   have f16 : a.eval (.tmp 16) = .int .i64 n := hI.fr 16 (.inl (by omega))
   have f17 : a.eval (.tmp 17) = .int .i64 k := hI.fr 17 (.inl (by omega))
   have f18 : a.eval (.tmp 18) = .bool true := hI.fr 18 (.inl (by omega))
   have f19 : a.eval (.tmp 19) = .int .i64 k := hI.fr 19 (.inl (by omega))
   have f49 : a.eval (.tmp 49) = u49 := hI.fr 49 (.inr (by omega))
   have f50 : a.eval (.tmp 50) = undef := hI.fr 50 (.inr (by omega))
   rw [act_lit51 hI.sz hI.df, f0, f1, f2, f3, f4, f5, f6, f7, f8, f9, f10, f11, f12, f13, f14, f15, f16, f17, f18, f19, f49, f50]
   have hk2 := hI.keep
   clear hI f0 f1 f2 f3 f4 f5 f6 f7 f8 f9 f10 f11 f12 f13 f14 f15 f16 f17 f18 f19 f49 f50
   generalize a.eval (.tmp 20) = v20
   generalize a.eval (.tmp 21) = v21
   generalize a.eval (.tmp 22) = v22
   generalize a.eval (.tmp 23) = v23
   generalize a.eval (.tmp 24) = v24
   generalize a.eval (.tmp 25) = v25
   generalize a.eval (.tmp 26) = v26
   generalize a.eval (.tmp 27) = v27
   generalize a.eval (.tmp 28) = v28
   generalize a.eval (.tmp 29) = v29
   generalize a.eval (.tmp 30) = v30
   generalize a.eval (.tmp 31) = v31
   generalize a.eval (.tmp 32) = v32
   generalize a.eval (.tmp 33) = v33
   generalize a.eval (.tmp 34) = v34
   generalize a.eval (.tmp 35) = v35
   generalize a.eval (.tmp 36) = v36
   generalize a.eval (.tmp 37) = v37
   generalize a.eval (.tmp 38) = v38
   generalize a.eval (.tmp 39) = v39
   generalize a.eval (.tmp 40) = v40
   generalize a.eval (.tmp 41) = v41
   generalize a.eval (.tmp 42) = v42
   generalize a.eval (.tmp 43) = v43
   generalize a.eval (.tmp 44) = v44
   generalize a.eval (.tmp 45) = v45
   generalize a.eval (.tmp 46) = v46
   generalize a.eval (.tmp 47) = v47
   generalize a.eval (.tmp 48) = v48
   obtain ⟨ou', os', ol', cu', cs', cl', hM'⟩ := hend
   have HM' := Lib.hid hM'
   have HK' := Lib.hid (HK.out.trans' hk2 (H := Nb) (fun _ _ h => h) (fun j hj e => by omega))
   clear hM' hk2 hall
   go_wp2_with fail
   go_roundw
   case rel => exact ⟨k + 1, ou', os', ol', cu', cs', cl', by go_num, by omega, HM'.out, HK'.out⟩
   case measure => simp [intOf]; omega
  ·have hkn : k = n := by omega
   have hfin := Lib.hid (new_fin hn (hkn ▸ HM.out) HK.out)
   clear hkn
   go_wp2_with fail
   go_ret2
   exact hfin.out
end Go.Proofs.YtfglkgkihafcpaaGreatDoor

