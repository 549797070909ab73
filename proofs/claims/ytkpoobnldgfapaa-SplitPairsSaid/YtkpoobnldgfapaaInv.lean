/- A region that draws its order, walked by an invariant: each operation once. Nothing of one program stands here. -/
import Derived.Test.YtkpoobnldgfapaaMem
import Derived.Test.YtkpoobnldgfapaaPlSets
import Derived.Orders
namespace Go.Proofs.Ytkpoobnldgfapaa
open Go.RowKit

/-- What has come up is closed under what it waits for. -/
def Closed (ops : Array Oper) (done : Nat → Bool) : Prop := ∀ (j : Nat) o, ops[j]? = some o → done j = true → ∀ e ∈ o.after.toList, Region.binds .any e = true → done e.on = true

/-- Each operation waits for earlier ones alone. -/
def Ordered (ops : Array Oper) : Bool := (List.range ops.size).all fun i => ((ops[i]?).map fun o => o.after.toList.all fun e => !Region.binds .any e || decide (e.on < i)).getD true

theorem Ordered.spec {ops : Array Oper} (h : Ordered ops = true) {i : Nat} {o : Oper} (ho : ops[i]? = some o) : ∀ e ∈ o.after.toList, Region.binds .any e = true → e.on < i := by
  intro e he hb
  have hi : i < ops.size := (Array.getElem?_eq_some_iff.1 ho).1
  unfold Ordered at h
  rw [List.all_eq_true] at h
  have := h i (List.mem_range.2 hi)
  rw [ho] at this
  simp only [Option.map_some, Option.getD_some, List.all_eq_true] at this
  have := this e he
  simp [hb] at this
  exact this

theorem wpAny_inv {P : Program} {ops : Array Oper} {Q : Exit → Act → World → Prop} (hord : Ordered ops = true) (I : (Nat → Bool) → Act → World → Prop)
    (hstep : ∀ (done : Nat → Bool) (a : Act) (w : World) (i : Nat) (o : Oper), ops[i]? = some o → done i = false → (∀ e ∈ o.after.toList, Region.binds .any e = true → done e.on = true) → Closed ops done → I done a w →
      ∀ K : Act → World → Prop, (∀ a' w', I (Pl.upd done i true) a' w' → K a' w') → if Region.wanted o (yielded ops a.tmps) = true then o.wp P a w K Q else K (a.put o.dst undef) w)
    (hend : ∀ (done : Nat → Bool) (a : Act) (w : World), (∀ i, i < ops.size → done i = true) → I done a w → Q .normal a w) :
    ∀ (fuel : Nat) (listed : Array Bool) (a : Act) (w : World), listed.size = ops.size → Pl.cnt ops.size (fun i => !listed.getD i false) = fuel → Closed ops (fun i => listed.getD i false) → I (fun i => listed.getD i false) a w → wpAny P .any ops Q fuel listed a w := by
  intro fuel
  induction fuel with
  | zero =>
    intro listed a w hs hc hcl hI
    have hall : ∀ i, i < ops.size → listed.getD i false = true := by
      intro i hi
      cases hb : listed.getD i false with
      | true => rfl
      | false =>
        have := Pl.cnt_lt_of (p := fun i => !listed.getD i false) hi (by simp [hb])
        omega
    have hr : Region.ready .any ops listed = [] := by
      unfold Region.ready
      rw [List.filter_eq_nil_iff]
      intro i hi hh
      have hi' := List.mem_range.1 hi
      have := hall i hi'
      have e : listed.getD i true = true := by
        rw [Array.getD_eq_getD_getElem?] at this ⊢
        rw [Array.getElem?_eq_getElem (by omega)] at this ⊢
        simpa using this
      simp [e] at hh
    exact ⟨hr, hend _ a w hall hI⟩
  | succ fuel ih =>
    intro listed a w hs hc hcl hI
    have hgd : ∀ i, i < ops.size → listed.getD i true = listed.getD i false := by
      intro i hi
      rw [Array.getD_eq_getD_getElem?, Array.getD_eq_getD_getElem?, Array.getElem?_eq_getElem (by omega)]; rfl
    refine ⟨fun hr => ?_, fun i hi => ?_⟩
    · -- something is undone: the least such is ready
      exfalso
      have hex : ∃ i, i < ops.size ∧ listed.getD i false = false := by
        apply Classical.byContradiction
        intro hn
        have : Pl.cnt ops.size (fun i => !listed.getD i false) = Pl.cnt ops.size (fun _ => false) := Pl.cnt_congr fun i hi => by
          cases hb : listed.getD i false with
          | true => rfl
          | false => exact absurd ⟨i, hi, hb⟩ hn
        rw [this] at hc
        simp [Pl.cnt] at hc
      obtain ⟨i, hi, hmin⟩ : ∃ i, (i < ops.size ∧ listed.getD i false = false) ∧ ∀ j, j < i → ¬ (j < ops.size ∧ listed.getD j false = false) := by
        obtain ⟨i, hi⟩ := hex
        induction i using Nat.strongRecOn with
        | _ i ih2 =>
          by_cases h : ∃ j, j < i ∧ (j < ops.size ∧ listed.getD j false = false)
          · obtain ⟨j, hj, hjj⟩ := h
            exact ih2 j hj hjj
          · exact ⟨i, hi, fun j hj hh => h ⟨j, hj, hh⟩⟩
      have hmem : i ∈ Region.ready .any ops listed := by
        unfold Region.ready
        rw [List.mem_filter]
        refine ⟨List.mem_range.2 hi.1, ?_⟩
        have ho : ops[i]? = some ops[i] := Array.getElem?_eq_getElem hi.1
        rw [hgd i hi.1, hi.2, ho]
        simp only [Bool.not_false, Option.map_some, Option.getD_some, Bool.true_and]
        rw [← Array.all_toList, List.all_eq_true]
        intro e he
        cases hb : Region.binds .any e with
        | false => rfl
        | true =>
          have hlt := Ordered.spec hord ho e he hb
          cases hd : listed.getD e.on false with
          | true => rfl
          | false => exact absurd ⟨Nat.lt_trans hlt hi.1, hd⟩ (hmin _ hlt)
      rw [hr] at hmem
      cases hmem
    · unfold Region.ready at hi
      rw [List.mem_filter] at hi
      obtain ⟨hi1, hi2⟩ := hi
      have hi1' := List.mem_range.1 hi1
      have ho : ops[i]? = some ops[i] := Array.getElem?_eq_getElem hi1'
      rw [ho] at hi2
      simp only [Option.map_some, Option.getD_some, Bool.and_eq_true, Bool.not_eq_true'] at hi2
      obtain ⟨hu, hdeps⟩ := hi2
      rw [hgd i hi1'] at hu
      have hdeps' : ∀ e ∈ (ops[i]).after.toList, Region.binds .any e = true → listed.getD e.on false = true := by
        intro e he hb
        rw [← Array.all_toList, List.all_eq_true] at hdeps
        have := hdeps e he
        simpa [hb] using this
      have hupd : (fun j => (listed.setIfInBounds i true).getD j false) = Pl.upd (fun j => listed.getD j false) i true := by
        funext j
        unfold Pl.upd
        rw [Array.getD_eq_getD_getElem?, Array.getElem?_setIfInBounds]
        by_cases e : j = i
        · subst e
          rw [if_pos rfl, if_pos rfl, if_pos (by omega)]; rfl
        · rw [if_neg (fun h => e h.symm), if_neg e]; simp [Array.getD_eq_getD_getElem?]
      refine wpOp_step ho fun K hK => hstep _ a w i _ ho hu hdeps' hcl hI K fun a' w' hI' => hK a' w' ?_
      refine ih _ a' w' (by simpa using hs) ?_ ?_ ?_
      · have h1 := Pl.cnt_remove (n := ops.size) (p := fun j => !listed.getD j false) (q := fun j => !(listed.setIfInBounds i true).getD j false) hi1' (by simp [hu]) (fun j hj => by
          have := congrFun hupd j
          rw [show (listed.setIfInBounds i true).getD j false = Pl.upd (fun j => listed.getD j false) i true j from this]
          unfold Pl.upd
          by_cases e : j = i <;> simp [e])
        omega
      · rw [hupd]
        intro j oj hoj hj e he hb
        unfold Pl.upd at hj ⊢
        by_cases e1 : e.on = i
        · simp [e1]
        · rw [if_neg e1]
          by_cases e2 : j = i
          · subst e2
            rw [ho] at hoj
            cases hoj
            exact hdeps' e he hb
          · rw [if_neg e2] at hj
            exact hcl j oj hoj hj e he hb
      · rw [hupd]; exact hI'

theorem wp_region_inv {P : Program} {ops : Array Oper} {Q : Exit → Act → World → Prop} {id : Nat} {a : Act} {w : World} (hm : P.follows .mixedOrders = true) (hord : Ordered ops = true) (I : (Nat → Bool) → Act → World → Prop)
    (h0 : I (fun _ => false) a w.drew)
    (hstep : ∀ (done : Nat → Bool) (a : Act) (w : World) (i : Nat) (o : Oper), ops[i]? = some o → done i = false → (∀ e ∈ o.after.toList, Region.binds .any e = true → done e.on = true) → Closed ops done → I done a w →
      ∀ K : Act → World → Prop, (∀ a' w', I (Pl.upd done i true) a' w' → K a' w') → if Region.wanted o (yielded ops a.tmps) = true then o.wp P a w K Q else K (a.put o.dst undef) w)
    (hend : ∀ (done : Nat → Bool) (a : Act) (w : World), (∀ i, i < ops.size → done i = true) → I done a w → Q .normal a w) :
    (Code.region id ops true).wp P Q a w := by
  have e0 : (fun i => (Array.replicate ops.size false).getD i false) = (fun _ => false) := by
    funext i
    rw [Array.getD_eq_getD_getElem?, Array.getElem?_replicate]; split <;> rfl
  refine wp_region_any hm (wpAny_inv hord I hstep hend ops.size _ a _ (by simp) ?_ ?_ ?_)
  · have : Pl.cnt ops.size (fun i => !(Array.replicate ops.size false).getD i false) = Pl.cnt ops.size (fun _ => true) := Pl.cnt_congr fun i _ => by rw [congrFun e0 i]; rfl
    rw [this]; simp [Pl.cnt]
  · rw [e0]; intro j o _ h; cases h
  · rw [e0]; exact h0

end Go.Proofs.Ytkpoobnldgfapaa
