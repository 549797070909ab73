/- Part 21 of the proof: E3. -/
import Derived.Deep.RegionHeld3
set_option linter.unusedVariables false
set_option linter.unusedSimpArgs false
namespace Go.Proofs.YtkpoobnldgfapabGreatDoor
open Go
section
variable {P : Program} {ops : Array Oper} {Q : Exit → Act → World → Prop} {md : Region.Mode} {S : World → Prop}
end
end Go.Proofs.YtkpoobnldgfapabGreatDoor
namespace Go.Proofs.YtkpoobnldgfapabGreatDoor
open Go
section
variable {P : Program} {ops : Array Oper} {Q : Exit → Act → World → Prop} {md : Region.Mode} {S : World → Prop} {z : Nat}
def heldZ (P : Program) (md : Region.Mode) (ops : Array Oper) (Q : Exit → Act → World → Prop) (S : World → Prop) (z : Nat) (n : Nat) (L : Array Bool) (a : Act) (w : World) : Prop :=
  match n with
  | 0 => Region.ready md ops L = [] ∧ Q .normal a w
  | n + 1 => (Region.ready md ops L = [] → Q .normal a w) ∧ ∀ i, i ∈ Region.ready md ops L →
      wpOp P ops Q i (fun b v => (i ≠ z → S v) ∧ heldZ P md ops Q S z n (L.setIfInBounds i true) b v) a w
theorem heldZ.any {n : Nat} : ∀ {L : Array Bool} {a : Act} {w : World}, heldZ P md ops Q S z n L a w → wpAny P md ops Q n L a w := by
  induction n with
  | zero => exact fun h => h
  | succ n ih => exact fun h => ⟨h.1, fun i hi => wpOp_mono (fun _ _ g => ih g.2) (h.2 i hi)⟩
theorem beginZ {id : Nat} {a : Act} {w : World} (S : World → Prop) (z : Nat) (hm : P.follows .mixedOrders = true) (hS : S w.drew)
    (h : S w.drew → heldZ P .any ops Q S z ops.size (Array.replicate ops.size false) a w.drew) : (Code.region id ops true).wp P Q a w :=
  wp_region_any hm (h hS).any
theorem doneZ {L : Array Bool} {a : Act} {w : World} (hr : Region.ready md ops L = []) (h : Q .normal a w) (n : Nat) : heldZ P md ops Q S z n L a w := by
  cases n with
  | zero => exact ⟨hr, h⟩
  | succ n => exact ⟨fun _ => h, fun i hi => (by rw [hr] at hi; cases hi)⟩
def waitsB (md : Region.Mode) (ops : Array Oper) (x y : Nat) : Bool := match ops[y]? with
  | some o => o.after.any (fun e => Region.binds md e && e.on == x)
  | none => false
def chainB (md : Region.Mode) (ops : Array Oper) (L : Array Bool) (z : Nat) : Nat → List Nat → Bool
  | x, [] => x == z
  | x, y :: r => !(L.getD x true) && waitsB md ops x y && chainB md ops L z y r
theorem chainB_step {L : Array Bool} {j : Nat} (hj : j ∈ Region.ready md ops L) : ∀ (r : List Nat) (x : Nat), chainB md ops L z x r = true → j ≠ x → chainB md ops (L.setIfInBounds j true) z x r = true ∧ j ≠ z
  | [], x, h, ne => ⟨h, by have h1 : (x == z) = true := h; rw [beq_iff_eq] at h1; rw [← h1]; exact ne⟩
  | y :: r, x, h, ne => by
    unfold chainB at h ⊢
    simp only [Bool.and_eq_true, Bool.not_eq_true'] at h ⊢
    obtain ⟨⟨h1, h2⟩, h3⟩ := h
    have ny : j ≠ y := by
      rintro rfl
      obtain ⟨_, o, ho, hall⟩ := mem_ready.1 hj
      unfold waitsB at h2
      rw [ho] at h2
      simp only [Array.any_eq_true', Bool.and_eq_true, beq_iff_eq] at h2
      obtain ⟨e, he, hb, hx⟩ := h2
      have g := hall e he hb
      rw [hx] at g
      by_cases hs : x < L.size
      · simp [hs] at g h1
        rw [g] at h1; cases h1
      · simp [Array.getElem?_eq_none (Nat.le_of_not_lt hs)] at g
    obtain ⟨k1, k2⟩ := chainB_step hj r y h3 ny
    exact ⟨⟨⟨by rw [getD_set_ne true ne]; exact h1, h2⟩, k1⟩, k2⟩
theorem firstZ {i : Nat} {o : Oper} {u : Value} {r : List Nat} (hi : ops[i]? = some o) (hsel : ∀ (j : Nat) (x : Oper) cs b, ops[j]? = some x → x.op ≠ .select cs b)
    (hQ : ∀ c a w, Q (.panic c) (a.put o.dst u) w → Q (.panic c) a w) (n : Nat) : ∀ (L : Array Bool) (a : Act) (w : World),
    (∀ j x, ops[j]? = some x → j ≠ i → L.getD j true = false → (∀ e ∈ x.after, Region.binds md e = true → e.on ≠ i) → o.apart ops x = true) →
    chainB md ops L z i r = true → i ∈ Region.ready md ops L → YieldsIf P ops S o u a → S w → heldZ P md ops Q S z n (L.setIfInBounds i true) (a.put o.dst u) w → heldZ P md ops Q S z (n + 1) L a w := by
  induction n with
  | zero =>
    intro L a w _ _ hr hy hS h
    refine ⟨fun g => (by rw [g] at hr; cases hr), fun j hj => ?_⟩
    by_cases ne : j = i
    · subst ne; exact hy.wpOp hi hS ⟨fun _ => hS, h⟩
    · have := ready_mono hj ne
      rw [h.1] at this; cases this
  | succ n ih =>
    intro L a w hap hc hr hy hS h
    refine ⟨fun g => (by rw [g] at hr; cases hr), fun j hj => ?_⟩
    by_cases ne : j = i
    · subst ne; exact hy.wpOp hi hS ⟨fun _ => hS, h⟩
    · obtain ⟨hun, x, hx, hall⟩ := mem_ready.1 hj
      have hw : ∀ e ∈ x.after, Region.binds md e = true → e.on ≠ i := by
        intro e he hb q
        have g1 := hall e he hb
        have g0 := (mem_ready.1 hr).1
        rw [q] at g1
        by_cases hs : i < L.size
        · simp [hs] at g0 g1
          rw [g0] at g1; cases g1
        · simp [Array.getElem?_eq_none (Nat.le_of_not_lt hs)] at g1
      obtain ⟨c1, c2⟩ := chainB_step hj r i hc ne
      have hri := ready_mono hr (Ne.symm ne)
      have g := wpOp_putIf hx (hap j x hx ne hun hw) (fun cs b => hsel i o cs b hi) (fun cs b => hsel j x cs b hx) hQ hy (h.2 j (ready_mono hj ne))
      refine wpOp_mono (fun b v t => ⟨t.2.1, ih _ b v (fun k y hk hki hku hno => hap k y hk hki ?_ hno) c1 hri t.1 (t.2.1 c2) ?_⟩) g
      · by_cases nk : j = k
        · subst nk; exact hun
        · rwa [getD_set_ne true nk] at hku
      · rw [Array.setIfInBounds_comm _ _ ne]; exact t.2.2
theorem yesZ {i : Nat} {o : Oper} (r : List Nat) {d : Option Tmp} {v : Value} {n : Nat} {L : Array Bool} {a : Act} {w : World} (hi : ops[i]? = some o) (hd : o.dst = d)
    (hs : Region.noSelect ops = true) (hf : Region.free md ops L i = true) (hr : (Region.ready md ops L).contains i = true) (hc : chainB md ops L z i r = true)
    (hQ : ∀ c a w, Q (.panic c) (a.put d v) w → Q (.panic c) a w) (hw : Region.wanted o (yielded ops a.tmps) = true) (hy : ∀ w, S w → (execOp a.eval o).run P w = .ok (.value v) w) (hS : S w)
    (h : heldZ P md ops Q S z n (L.setIfInBounds i true) (a.put d v) w) : heldZ P md ops Q S z (n + 1) L a w := by
  subst hd
  exact firstZ hi (Region.noSelect_spec hs) hQ n L a w (Region.free_spec hi hf) hc (by simpa using hr) (.inl ⟨hw, hy⟩) hS h
theorem oneZ {i : Nat} {o : Oper} {n : Nat} {L : Array Bool} {a : Act} {w : World} (hr : Region.ready md ops L = [i]) (ho : ops[i]? = some o)
    (h : ∀ K' : Act → World → Prop, Shut (∀ a w, S w → (S w → heldZ P md ops Q S z n (L.setIfInBounds i true) a w) → K' a w) → if Region.wanted o (yielded ops a.tmps) = true then Oper.wp P o a w K' Q else K' (a.put o.dst undef) w) :
    heldZ P md ops Q S z (n + 1) L a w :=
  ⟨fun g => (by rw [hr] at g; cases g), fun j hj => by
    rw [hr, List.mem_singleton] at hj; subst hj
    exact wpOp_step ho (fun K' hK => h K' (fun a w hS hW => hK a w ⟨fun _ => hS, hW hS⟩))⟩
theorem lastZ {i : Nat} {o : Oper} {n : Nat} {L : Array Bool} {a : Act} {w : World} (hr : Region.ready md ops L = [i]) (hz : i = z) (he : Region.ready md ops (L.setIfInBounds i true) = []) (ho : ops[i]? = some o)
    (h : ∀ K' : Act → World → Prop, Shut (∀ a w, Q .normal a w → K' a w) → if Region.wanted o (yielded ops a.tmps) = true then Oper.wp P o a w K' Q else K' (a.put o.dst undef) w) :
    heldZ P md ops Q S z (n + 1) L a w :=
  ⟨fun g => (by rw [hr] at g; cases g), fun j hj => by
    rw [hr, List.mem_singleton] at hj; subst hj
    exact wpOp_step ho (fun K' hK => h K' (fun a w hW => hK a w ⟨fun h => absurd hz h, doneZ he hW n⟩))⟩
end
end Go.Proofs.YtkpoobnldgfapabGreatDoor

