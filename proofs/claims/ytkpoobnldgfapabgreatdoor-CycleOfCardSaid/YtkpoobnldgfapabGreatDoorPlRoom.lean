/- The document's rooms: how many may go from each place to each other one; one more goes, if it can. -/
import Derived.Test.YtkpoobnldgfapabGreatDoorP2
set_option linter.unusedVariables false
set_option linter.unusedSimpArgs false
namespace Go.Proofs.YtkpoobnldgfapabGreatDoor.Pl

/-- What may go out of a set of places. -/
def cutM (N : Nat) (r : Nat → Nat → Int) (R : Nat → Bool) : Int := bsum N fun x => bsum N fun y => ind (R x && !R y) * r x y

def upd2 (r : Nat → Nat → Int) (x y : Nat) (v : Int) : Nat → Nat → Int := fun a b => if a = x ∧ b = y then v else r a b

theorem upd2_at (r : Nat → Nat → Int) (x y : Nat) (v : Int) : upd2 r x y v x y = v := by unfold upd2; simp
theorem upd2_ne {r : Nat → Nat → Int} {x y : Nat} {v : Int} {a b : Nat} (h : ¬ (a = x ∧ b = y)) : upd2 r x y v a b = r a b := by unfold upd2; rw [if_neg h]

theorem cutM_upd {N x y : Nat} (hx : x < N) (hy : y < N) (r : Nat → Nat → Int) (v : Int) (R : Nat → Bool) : cutM N (upd2 r x y v) R = cutM N r R + ind (R x && !R y) * (v - r x y) := by
  unfold cutM
  rw [bsum_upd (k := x) hx (f := fun a => bsum N fun b => ind (R a && !R b) * upd2 r x y v a b) (g := fun a => bsum N fun b => ind (R a && !R b) * r a b) (fun a _ ha => bsum_congr fun b _ => by rw [upd2_ne (fun h => ha h.1)])]
  rw [bsum_upd (n := N) (k := y) hy (f := fun b => ind (R x && !R b) * upd2 r x y v x b) (g := fun b => ind (R x && !R b) * r x b) (fun b _ hb => by rw [upd2_ne (fun h => hb h.2)])]
  rw [upd2_at, Int.mul_sub]
  omega

/-- One step of a way. -/
def step2 (r : Nat → Nat → Int) (x y : Nat) : Nat → Nat → Int := upd2 (upd2 r x y (r x y - 1)) y x (upd2 r x y (r x y - 1) y x + 1)

theorem step2_cut {N x y : Nat} (hx : x < N) (hy : y < N) (r : Nat → Nat → Int) (R : Nat → Bool) : cutM N (step2 r x y) R = cutM N r R - ind (R x) + ind (R y) := by
  unfold step2
  rw [cutM_upd hy hx, cutM_upd hx hy]
  have e1 : ind (R x && !R y) * (r x y - 1 - r x y) = - ind (R x && !R y) := by
    have : r x y - 1 - r x y = -1 := by omega
    rw [this]; omega
  have e2 : ind (R y && !R x) * (upd2 r x y (r x y - 1) y x + 1 - upd2 r x y (r x y - 1) y x) = ind (R y && !R x) := by
    have : upd2 r x y (r x y - 1) y x + 1 - upd2 r x y (r x y - 1) y x = 1 := by omega
    rw [this]; omega
  rw [e1, e2]
  cases R x <;> cases R y <;> simp [ind] <;> omega

theorem cutM_nonneg {N : Nat} {r : Nat → Nat → Int} (h : ∀ x y, x < N → y < N → 0 ≤ r x y) (R : Nat → Bool) : 0 ≤ cutM N r R := by
  unfold cutM
  exact bsum_nonneg fun x hx => bsum_nonneg fun y hy => Int.mul_nonneg (ind_nonneg _) (h x y hx hy)

/-- What a push leaves. -/
structure Pushed (N to : Nat) (seen0 : Nat → Bool) (r : Nat → Nat → Int) (x : Nat) (ok : Bool) (seen : Nat → Bool) (r' : Nat → Nat → Int) : Prop where
  grow : ∀ v, seen0 v = true → seen v = true
  no : ok = false → (∀ u v, r' u v = r u v) ∧ seen x = true ∧ (seen to = true → seen0 to = true) ∧ ∀ v y, v < N → y < N → seen v = true → seen0 v = false → 0 < r v y → seen y = true
  cut : ok = true → ∀ R, cutM N r' R = cutM N r R - ind (R x) + ind (R to)
  row : ∀ u v, seen0 u = true → r u v ≤ r' u v
  col : ∀ u v, seen0 v = true → r' u v ≤ r u v
  up : ∀ u v, r' u v ≤ r u v + 1
  pos : (∀ u v, 0 ≤ r u v) → ∀ u v, 0 ≤ r' u v

/-- In the midst of the places that x may go to. -/
structure Pushing (N to : Nat) (seen0 : Nat → Bool) (r : Nat → Nat → Int) (x j : Nat) (seen : Nat → Bool) : Prop where
  grow : ∀ v, seen0 v = true → seen v = true
  self : seen x = true
  to' : seen to = true → seen0 to = true
  old : ∀ v y, v < N → y < N → seen v = true → seen0 v = false → v ≠ x → 0 < r v y → seen y = true
  new : ∀ y, y < j → y < N → 0 < r x y → seen y = true

theorem Pushed.there (N : Nat) (seen0 : Nat → Bool) (r : Nat → Nat → Int) (x : Nat) : Pushed N x seen0 r x true seen0 r :=
  ⟨fun _ h => h, fun h => (by cases h), fun _ R => by omega, fun _ _ _ => Int.le_refl _, fun _ _ _ => Int.le_refl _, fun _ _ => by omega, fun h => h⟩

theorem Pushing.start {N to : Nat} {seen0 : Nat → Bool} (r : Nat → Nat → Int) {x : Nat} (hne : x ≠ to) : Pushing N to seen0 r x 0 (upd seen0 x true) := by
  refine ⟨fun v h => ?_, by simp [upd], fun h => ?_, fun v y _ _ h h0 hv _ => ?_, fun y h => by omega⟩
  · unfold upd; split <;> simp_all
  · unfold upd at h; rw [if_neg (fun e => hne e.symm)] at h; exact h
  · unfold upd at h; rw [if_neg hv] at h; rw [h] at h0; cases h0

theorem Pushing.skip {N to : Nat} {seen0 seen : Nat → Bool} {r : Nat → Nat → Int} {x j : Nat} (h : Pushing N to seen0 r x j seen) (hk : ¬ 0 < r x j ∨ seen j = true) : Pushing N to seen0 r x (j + 1) seen := by
  refine ⟨h.grow, h.self, h.to', h.old, fun y hy hN hr => ?_⟩
  by_cases e : y = j
  · subst e
    rcases hk with hk | hk
    · exact absurd hr hk
    · exact hk
  · exact h.new y (by omega) hN hr

theorem Pushing.fail {N to : Nat} {seen0 seen seen' : Nat → Bool} {r r' : Nat → Nat → Int} {x j : Nat} (h : Pushing N to seen0 r x j seen) (hp : Pushed N to seen r j false seen' r') : Pushing N to seen0 r x (j + 1) seen' := by
  obtain ⟨_, h1, h2, h3⟩ := hp.no rfl
  refine ⟨fun v hv => hp.grow v (h.grow v hv), hp.grow x h.self, fun ht => h.to' (h2 ht), fun v y hv hy hs h0 hne hr => ?_, fun y hy hN hr => ?_⟩
  · by_cases e : seen v = true
    · exact hp.grow y (h.old v y hv hy e h0 hne hr)
    · exact h3 v y hv hy hs (by simpa using e) hr
  · by_cases e : y = j
    · subst e; exact h1
    · exact hp.grow y (h.new y (by omega) hN hr)

theorem Pushing.stuck {N to : Nat} {seen0 seen : Nat → Bool} {r : Nat → Nat → Int} {x : Nat} (h : Pushing N to seen0 r x N seen) : Pushed N to seen0 r x false seen r := by
  refine ⟨h.grow, fun _ => ⟨fun _ _ => rfl, h.self, h.to', fun v y hv hy hs h0 hr => ?_⟩, fun e => (by cases e), fun _ _ _ => Int.le_refl _, fun _ _ _ => Int.le_refl _, fun _ _ => by omega, fun h => h⟩
  by_cases e : v = x
  · subst e; exact h.new y hy hy hr
  · exact h.old v y hv hy hs h0 e hr

theorem Pushing.goes {N to : Nat} {seen0 seen seen' : Nat → Bool} {r r' : Nat → Nat → Int} {x j : Nat} (hx : x < N) (hj : j < N) (h0 : seen0 x = false) (h : Pushing N to seen0 r x j seen) (hr : 0 < r x j) (hs : seen j = false) (hp : Pushed N to seen r j true seen' r') :
    Pushed N to seen0 r x true seen' (step2 r' x j) := by
  have hxj : x ≠ j := fun e => by have := h.self; rw [e, hs] at this; cases this
  have hj0 : seen0 j = false := by
    cases e : seen0 j with
    | false => rfl
    | true => rw [h.grow j e] at hs; cases hs
  have hval : ∀ u v, step2 r' x j u v = if u = j ∧ v = x then r' j x + 1 else if u = x ∧ v = j then r' x j - 1 else r' u v := by
    intro u v
    unfold step2
    by_cases e1 : u = j ∧ v = x
    · obtain ⟨rfl, rfl⟩ := e1
      rw [upd2_at, upd2_ne (fun h => hxj h.1.symm), if_pos ⟨rfl, rfl⟩]
    · rw [upd2_ne e1, if_neg e1]
      unfold upd2
      rfl
  have hxx := hp.row x j h.self
  have hcx := hp.col j x h.self
  refine ⟨fun v hv => hp.grow v (h.grow v hv), fun e => (by cases e), fun _ R => ?_, fun u v hu => ?_, fun u v hv => ?_, fun u v => ?_, fun hpos u v => ?_⟩
  · rw [step2_cut hx hj, hp.cut rfl R]; omega
  · have h1 : u ≠ x := fun e => by rw [e, h0] at hu; cases hu
    have h2 : u ≠ j := fun e => by rw [e, hj0] at hu; cases hu
    rw [hval, if_neg (fun e => h2 e.1), if_neg (fun e => h1 e.1)]
    exact hp.row u v (h.grow u hu)
  · have h1 : v ≠ x := fun e => by rw [e, h0] at hv; cases hv
    have h2 : v ≠ j := fun e => by rw [e, hj0] at hv; cases hv
    rw [hval, if_neg (fun e => h1 e.2), if_neg (fun e => h2 e.2)]
    exact hp.col u v (h.grow v hv)
  · rw [hval]
    have := hp.up u v
    split
    · rename_i e; obtain ⟨rfl, rfl⟩ := e; omega
    · split
      · rename_i e; obtain ⟨rfl, rfl⟩ := e; omega
      · exact this
  · have hp0 := hp.pos hpos
    rw [hval]
    split
    · have := hp0 j x; omega
    · split
      · rename_i e; obtain ⟨rfl, rfl⟩ := e; omega
      · exact hp0 u v

/-- So many have gone. -/
structure Gone (N s t : Nat) (r0 r : Nat → Nat → Int) (k : Nat) : Prop where
  cut : ∀ R : Nat → Bool, R s = true → R t = false → cutM N r R + k = cutM N r0 R
  pos : ∀ u v, 0 ≤ r u v
  up : ∀ u v, r u v ≤ r0 u v + k

theorem Gone.start (N s t : Nat) {r : Nat → Nat → Int} (h : ∀ u v, 0 ≤ r u v) : Gone N s t r r 0 := ⟨fun _ _ _ => by omega, h, fun _ _ => by omega⟩

theorem Gone.more {N s t : Nat} {r0 r r' : Nat → Nat → Int} {k : Nat} {seen : Nat → Bool} (h : Gone N s t r0 r k) (hp : Pushed N t (fun _ => false) r s true seen r') : Gone N s t r0 r' (k + 1) := by
  refine ⟨fun R h1 h2 => ?_, hp.pos h.pos, fun u v => ?_⟩
  · have a := h.cut R h1 h2
    have b := hp.cut rfl R
    rw [h1, h2, ind_true, ind_false] at b
    omega
  · have a := h.up u v
    have b := hp.up u v
    omega

theorem cutM_zero {N : Nat} {r : Nat → Nat → Int} {R : Nat → Bool} (h : ∀ x y, x < N → y < N → R x = true → R y = false → r x y = 0) : cutM N r R = 0 := by
  unfold cutM
  rw [bsum_congr (g := fun _ => 0) (fun x hx => ?_), bsum_zero]
  rw [bsum_congr (g := fun _ => 0) (fun y hy => ?_), bsum_zero]
  cases hx' : R x with
  | false => simp [ind]
  | true =>
    cases hy' : R y with
    | true => simp [ind]
    | false => rw [h x y hx hy hx' hy']; simp

theorem Gone.le {N s t : Nat} {r0 r : Nat → Nat → Int} {k : Nat} (h : Gone N s t r0 r k) (R : Nat → Bool) (h1 : R s = true) (h2 : R t = false) : (k : Int) ≤ cutM N r0 R := by
  have := h.cut R h1 h2
  have := cutM_nonneg (N := N) (r := r) (fun x y _ _ => h.pos x y) R
  omega

theorem Gone.stuck {N s t : Nat} {r0 r r' : Nat → Nat → Int} {k most : Nat} {seen : Nat → Bool} (h : Gone N s t r0 r k) (hm : k ≤ most) (hp : Pushed N t (fun _ => false) r s false seen r') : MinCap (cutM N r0) s t most k := by
  obtain ⟨_, h1, h2, h3⟩ := hp.no rfl
  have ht : seen t = false := by
    cases e : seen t with
    | false => rfl
    | true => exact (h2 e).symm
  refine ⟨h.le, by omega, by omega, .inr ⟨seen, h1, ht, ?_⟩⟩
  rw [← h.cut seen h1 ht, cutM_zero (fun x y hx hy hsx hsy => ?_)]
  · omega
  · have := h.pos x y
    have h4 := h3 x y hx hy hsx rfl
    by_cases e : 0 < r x y
    · rw [h4 e] at hsy; cases hsy
    · omega

theorem Gone.full {N s t : Nat} {r0 r : Nat → Nat → Int} {k : Nat} (h : Gone N s t r0 r k) : MinCap (cutM N r0) s t k k := ⟨h.le, by omega, by omega, .inl rfl⟩

end Go.Proofs.YtkpoobnldgfapabGreatDoor.Pl
