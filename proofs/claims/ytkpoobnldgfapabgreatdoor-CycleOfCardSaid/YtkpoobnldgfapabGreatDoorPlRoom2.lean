/- The document's rooms of a graph: their least cut is the program's. -/
import Derived.Test.YtkpoobnldgfapabGreatDoorPlRoom
set_option linter.unusedVariables false
set_option linter.unusedSimpArgs false
namespace Go.Proofs.YtkpoobnldgfapabGreatDoor.Pl

/-- As many as there are edges between two places. -/
def mE : List E → Nat → Nat → Int
  | [] => fun _ _ => 0
  | e :: es => fun x y => mE es x y + (ind (decide (x = e.a ∧ y = e.b)) + ind (decide (x = e.b ∧ y = e.a)))

theorem mE_append (es fs : List E) (x y : Nat) : mE (es ++ fs) x y = mE es x y + mE fs x y := by
  induction es with
  | nil => show mE fs x y = 0 + mE fs x y; omega
  | cons e es ih => show mE (es ++ fs) x y + _ = mE es x y + _ + mE fs x y; rw [ih]; omega

theorem mE_nonneg (es : List E) (x y : Nat) : 0 ≤ mE es x y := by
  induction es with
  | nil => exact Int.le_refl _
  | cons e es ih =>
    show 0 ≤ mE es x y + (ind _ + ind _)
    have := ind_nonneg (decide (x = e.a ∧ y = e.b))
    have := ind_nonneg (decide (x = e.b ∧ y = e.a))
    omega

theorem mE_le (es : List E) (x y : Nat) : mE es x y ≤ 2 * es.length := by
  induction es with
  | nil => exact Int.le_refl _
  | cons e es ih =>
    show mE es x y + (ind _ + ind _) ≤ _
    have := ind_le (decide (x = e.a ∧ y = e.b))
    have := ind_le (decide (x = e.b ∧ y = e.a))
    rw [List.length_cons]
    omega

theorem mE_snoc (es : List E) (e : E) : mE (es ++ [e]) = upd2 (upd2 (mE es) e.a e.b (mE es e.a e.b + 1)) e.b e.a (upd2 (mE es) e.a e.b (mE es e.a e.b + 1) e.b e.a + 1) := by
  funext x y
  rw [mE_append]
  show mE es x y + (0 + (ind _ + ind _)) = _
  have hi : ∀ p : Bool, ind p = if p = true then 1 else 0 := fun p => by cases p <;> rfl
  unfold upd2
  simp only [hi, decide_eq_true_eq]
  by_cases h1 : x = e.a ∧ y = e.b <;> by_cases h2 : x = e.b ∧ y = e.a
  · obtain ⟨rfl, rfl⟩ := h1
    obtain ⟨h3, h4⟩ := h2
    simp [h3]
    omega
  · obtain ⟨rfl, rfl⟩ := h1
    simp only [h2, if_false, and_self, if_true]
    omega
  · obtain ⟨rfl, rfl⟩ := h2
    simp only [h1, if_false, and_self, if_true]
    omega
  · simp only [h1, h2, if_false]
    omega

/-- A sum over pairs of which one alone counts. -/
theorem pair_sum {N a b : Nat} (ha : a < N) (hb : b < N) (f : Nat → Nat → Int) : (bsum N fun x => bsum N fun y => f x y * ind (decide (x = a ∧ y = b))) = f a b := by
  rw [bsum_single (k := a) ha (fun x _ hx => ?_), bsum_single (k := b) hb (fun y _ hy => ?_)]
  · simp [ind]
  · simp [ind, hy]
  · rw [bsum_congr (g := fun _ => 0) (fun y _ => by simp [ind, hx]), bsum_zero]

theorem cutM_mE {N : Nat} {es : List E} (h : ∀ e, e ∈ es → e.a < N ∧ e.b < N) (R : Nat → Bool) : cutM N (mE es) R = cutE es R := by
  rw [← capL_edges]
  induction es with
  | nil => unfold cutM; rw [bsum_congr (g := fun _ => 0) (fun x _ => by rw [bsum_congr (g := fun _ => 0) (fun y _ => (by show _ * (0 : Int) = 0; rw [Int.mul_zero])), bsum_zero]), bsum_zero]; rfl
  | cons e es ih =>
    obtain ⟨ha, hb⟩ := h e List.mem_cons_self
    have hc : arcsE (e :: es) = [(e.a, e.b), (e.b, e.a)] ++ arcsE es := rfl
    rw [hc, capL_append, show [(e.a, e.b), (e.b, e.a)] = [(e.a, e.b)] ++ [(e.b, e.a)] from rfl, capL_append, capL_one, capL_one, ← ih (fun f hf => h f (List.mem_cons_of_mem _ hf))]
    have h1 := pair_sum ha hb (fun x y => ind (R x && !R y))
    have h2 := pair_sum hb ha (fun x y => ind (R x && !R y))
    unfold cutM
    rw [← h1, ← h2]
    rw [← bsum_add, ← bsum_add]
    refine bsum_congr fun x _ => ?_
    rw [← bsum_add, ← bsum_add]
    refine bsum_congr fun y _ => ?_
    show _ * (mE es x y + (_ + _)) = _
    rw [Int.mul_add, Int.mul_add]
    omega

/-- Not an edge between both ends. -/
def nd (a b : Nat) (e : E) : Bool := !(decide (e.a = a ∧ e.b = b) || decide (e.a = b ∧ e.b = a))
def adjB (a b : Nat) (es : List E) (u v : Nat) : Bool := es.any fun e => nd a b e && (decide (u = e.a ∧ v = e.b) || decide (u = e.b ∧ v = e.a))
def direct (a b : Nat) (es : List E) : Nat := es.countP fun e => !nd a b e

/-- The document's rooms for nodes: x is the place where one comes in, n + x the place where one goes out. -/
def mN (n a b : Nat) (es : List E) (x y : Nat) : Int :=
  if x < n then (if y = n + x then (if x = a ∨ x = b then 120 else 1) else 0) else if x < 2 * n ∧ y < n then ind (adjB a b es (x - n) y) else 0

def cN (a b x : Nat) : Int := if x = a ∨ x = b then 120 else 1

theorem cutM_mN (n a b : Nat) (es : List E) (R : Nat → Bool) : cutM (n + n) (mN n a b es) R =
    (bsum n fun x => ind (R x && !R (n + x)) * cN a b x) + bsum n fun u => bsum n fun v => ind (R (n + u) && !R v) * ind (adjB a b es u v) := by
  unfold cutM
  rw [bsum_append]
  congr 1
  · refine bsum_congr fun x hx => ?_
    rw [bsum_single (k := n + x) (by omega) (fun y hy hne => ?_)]
    · unfold mN cN; rw [if_pos hx, if_pos rfl]
    · unfold mN; rw [if_pos hx, if_neg hne, Int.mul_zero]
  · refine bsum_congr fun u hu => ?_
    rw [bsum_append]
    rw [bsum_congr (n := n) (f := fun i => ind (R (n + u) && !R (n + i)) * mN n a b es (n + u) (n + i)) (g := fun _ => 0) (fun y _ => ?_), bsum_zero, Int.add_zero]
    · refine bsum_congr fun v hv => ?_
      unfold mN
      rw [if_neg (by omega), if_pos ⟨by omega, hv⟩, Nat.add_sub_cancel_left]
    · unfold mN
      rw [if_neg (by omega), if_neg (by omega), Int.mul_zero]

theorem capL_arcsN (n a b : Nat) (R : Nat → Bool) : capL (arcsN n a b) R = bsum n fun x => if x ≠ a ∧ x ≠ b then ind (R (2 * x) && !R (2 * x + 1)) else 0 := by
  induction n with
  | zero => rfl
  | succ n ih =>
    have : arcsN (n + 1) a b = arcsN n a b ++ if n ≠ a ∧ n ≠ b then [(2 * n, 2 * n + 1)] else [] := by
      unfold arcsN
      rw [List.range_succ, List.filter_append, List.map_append]
      congr 1
      by_cases h : n ≠ a ∧ n ≠ b
      · rw [if_pos h]; simp [h]
      · rw [if_neg h]
        have : decide (n ≠ a ∧ n ≠ b) = false := decide_eq_false h
        rw [List.filter_cons_of_neg (by rw [this]; simp)]
        rfl
    rw [this, capL_append, ih]
    show _ = bsum n _ + (if n ≠ a ∧ n ≠ b then ind (R (2 * n) && !R (2 * n + 1)) else 0)
    congr 1
    by_cases h : n ≠ a ∧ n ≠ b
    · rw [if_pos h, if_pos h, capL_one]
    · rw [if_neg h, if_neg h]; rfl

theorem capL_two (x y : Nat × Nat) (as : List (Nat × Nat)) (R : Nat → Bool) : capL (x :: y :: as) R = ind (R x.1 && !R x.2) + ind (R y.1 && !R y.2) + capL as R := by
  rw [show x :: y :: as = [x] ++ ([y] ++ as) from rfl, capL_append, capL_append, capL_one, capL_one]; omega

theorem ind_or_le (p q : Bool) : ind (p || q) ≤ ind p + ind q := by cases p <;> cases q <;> decide

/-- A cut of the program's places is no less than the document's. -/
theorem room_le {n a b : Nat} {es : List E} (hab : a ≠ b) (hes : ∀ e, e ∈ es → e.a < n ∧ e.b < n) {R R' : Nat → Bool} (hRa : R (2 * a + 1) = true) (hRb : R (2 * b) = false)
    (h1 : ∀ u, u < n → R' (n + u) = true → u ≠ b ∧ R (2 * u + 1) = true) (h2 : ∀ v, v < n → R' v = false → v ≠ a ∧ R (2 * v) = false) :
    (direct a b es : Int) + (bsum n fun u => bsum n fun v => ind (R' (n + u) && !R' v) * ind (adjB a b es u v)) ≤ capL (arcsNE a b es) R := by
  induction es with
  | nil =>
    have : (bsum n fun u => bsum n fun v => ind (R' (n + u) && !R' v) * ind (adjB a b [] u v)) = 0 := by
      rw [bsum_congr (g := fun _ => 0) (fun x _ => by rw [bsum_congr (g := fun _ => 0) (fun y _ => by show _ * (0 : Int) = 0; rw [Int.mul_zero]), bsum_zero]), bsum_zero]
    rw [this]
    exact Int.le_refl _
  | cons e es ih =>
    have ih := ih (fun f hf => hes f (List.mem_cons_of_mem _ hf))
    obtain ⟨ha, hb⟩ := hes e List.mem_cons_self
    have hc : arcsNE a b (e :: es) = (outP b e.a, intoP a e.b) :: (outP b e.b, intoP a e.a) :: arcsNE a b es := rfl
    rw [hc, capL_two]
    simp only
    have hx : ∀ u v, u < n → v < n → ind (R' (n + u) && !R' v) ≤ ind (R (outP b u) && !R (intoP a v)) := by
      intro u v hu hv
      cases e1 : R' (n + u) with
      | false => simp [ind]; split <;> omega
      | true =>
        cases e2 : R' v with
        | true => simp [ind]; split <;> omega
        | false =>
          obtain ⟨k1, k2⟩ := h1 u hu e1
          obtain ⟨k3, k4⟩ := h2 v hv e2
          unfold outP intoP
          rw [if_neg k1, if_neg k3, k2, k4]
          exact Int.le_refl _
    have hany : ∀ u v, adjB a b (e :: es) u v = ((nd a b e && (decide (u = e.a ∧ v = e.b) || decide (u = e.b ∧ v = e.a))) || adjB a b es u v) := fun u v => List.any_cons
    cases hn : nd a b e with
    | true =>
      have hd : direct a b (e :: es) = direct a b es := by unfold direct; rw [List.countP_cons]; simp [hn]
      rw [hd]
      have p1 := pair_sum ha hb (fun u v => ind (R' (n + u) && !R' v))
      have p2 := pair_sum hb ha (fun u v => ind (R' (n + u) && !R' v))
      have x1 := hx e.a e.b ha hb
      have x2 := hx e.b e.a hb ha
      have hs : (bsum n fun u => bsum n fun v => ind (R' (n + u) && !R' v) * ind (adjB a b (e :: es) u v)) ≤
          (bsum n fun u => bsum n fun v => ind (R' (n + u) && !R' v) * ind (decide (u = e.a ∧ v = e.b))) + (bsum n fun u => bsum n fun v => ind (R' (n + u) && !R' v) * ind (decide (u = e.b ∧ v = e.a))) +
          (bsum n fun u => bsum n fun v => ind (R' (n + u) && !R' v) * ind (adjB a b es u v)) := by
        rw [← bsum_add, ← bsum_add]
        refine bsum_le fun u _ => ?_
        rw [← bsum_add, ← bsum_add]
        refine bsum_le fun v _ => ?_
        rw [← Int.mul_add, ← Int.mul_add]
        refine Int.mul_le_mul_of_nonneg_left ?_ (ind_nonneg _)
        rw [hany, hn, Bool.true_and]
        have := ind_or_le (decide (u = e.a ∧ v = e.b) || decide (u = e.b ∧ v = e.a)) (adjB a b es u v)
        have := ind_or_le (decide (u = e.a ∧ v = e.b)) (decide (u = e.b ∧ v = e.a))
        omega
      rw [p1, p2] at hs
      omega
    | false =>
      have hd : direct a b (e :: es) = direct a b es + 1 := by unfold direct; rw [List.countP_cons]; simp [hn]
      rw [hd]
      have hs : (bsum n fun u => bsum n fun v => ind (R' (n + u) && !R' v) * ind (adjB a b (e :: es) u v)) = (bsum n fun u => bsum n fun v => ind (R' (n + u) && !R' v) * ind (adjB a b es u v)) := by
        refine bsum_congr fun u _ => bsum_congr fun v _ => ?_
        rw [hany, hn, Bool.false_and, Bool.false_or]
      rw [hs]
      have hone : ind (R (outP b a) && !R (intoP a b)) = 1 := by
        unfold outP intoP
        rw [if_neg hab, if_neg (fun e => hab e.symm), hRa, hRb]; rfl
      have n1 := ind_nonneg (R (outP b e.a) && !R (intoP a e.b))
      have n2 := ind_nonneg (R (outP b e.b) && !R (intoP a e.a))
      unfold nd at hn
      have hn' : (e.a = a ∧ e.b = b) ∨ (e.a = b ∧ e.b = a) := by
        rw [Bool.not_eq_false', Bool.or_eq_true, decide_eq_true_eq, decide_eq_true_eq] at hn
        exact hn
      rcases hn' with ⟨k1, k2⟩ | ⟨k1, k2⟩
      · rw [k1, k2] at n1 n2 ⊢; omega
      · rw [k1, k2] at n1 n2 ⊢; omega

/-- The cut of the program's places that goes through no edge but those between both ends. -/
def anyU (n a b : Nat) (es : List E) (R' : Nat → Bool) (x : Nat) : Bool := (List.range n).any fun u => R' (n + u) && adjB a b es u x
def RR (n a b : Nat) (es : List E) (R' : Nat → Bool) (z : Nat) : Bool :=
  if z % 2 = 0 then (if z / 2 = b then false else R' (z / 2) || anyU n a b es R' (z / 2)) else (if z / 2 = a then true else R' (n + z / 2) && !adjB a b es (z / 2) b)

theorem RR_in (n a b : Nat) (es : List E) (R' : Nat → Bool) (x : Nat) : RR n a b es R' (2 * x) = if x = b then false else R' x || anyU n a b es R' x := by
  unfold RR
  have h1 : 2 * x % 2 = 0 := by omega
  have h2 : 2 * x / 2 = x := by omega
  rw [if_pos h1, h2]
theorem RR_out (n a b : Nat) (es : List E) (R' : Nat → Bool) (x : Nat) : RR n a b es R' (2 * x + 1) = if x = a then true else R' (n + x) && !adjB a b es x b := by
  unfold RR
  have h1 : ¬ (2 * x + 1) % 2 = 0 := by omega
  have h2 : (2 * x + 1) / 2 = x := by omega
  rw [if_neg h1, h2]

theorem adjB_of {a b : Nat} {es : List E} {e : E} (he : e ∈ es) (hn : nd a b e = true) : adjB a b es e.a e.b = true ∧ adjB a b es e.b e.a = true := by
  unfold adjB
  exact ⟨List.any_eq_true.2 ⟨e, he, by simp [hn]⟩, List.any_eq_true.2 ⟨e, he, by simp [hn]⟩⟩

theorem RR_no {n a b : Nat} {es : List E} {R' : Nat → Bool} (hRa : R' (n + a) = true) {u v : Nat} (hu : u < n) (hv : v < n) (hadj : adjB a b es u v = true) (hdir : ¬ (u = a ∧ v = b)) :
    ind (RR n a b es R' (outP b u) && !RR n a b es R' (intoP a v)) = 0 := by
  unfold outP intoP
  by_cases h1 : u = b
  · rw [if_pos h1, RR_in, if_pos rfl]; rfl
  · by_cases h2 : v = a
    · rw [if_neg h1, if_pos h2, RR_out n a b es R' a, if_pos rfl]; simp [ind]
    · rw [if_neg h1, if_neg h2, RR_out, RR_in]
      by_cases h3 : v = b
      · have h4 : u ≠ a := fun e => hdir ⟨e, h3⟩
        have hadj' : adjB a b es u b = true := h3 ▸ hadj
        rw [if_neg h4, hadj']; simp [ind]
      · rw [if_neg h3]
        by_cases h4 : u = a
        · have : anyU n a b es R' v = true := List.any_eq_true.2 ⟨u, List.mem_range.2 hu, by rw [show R' (n + u) = true from by rw [h4]; exact hRa, hadj]; rfl⟩
          rw [this]; simp [ind]
        · rw [if_neg h4]
          cases hR : R' (n + u) with
          | false => rfl
          | true =>
            have : anyU n a b es R' v = true := List.any_eq_true.2 ⟨u, List.mem_range.2 hu, by rw [hR, hadj]; rfl⟩
            rw [this]; simp [ind]

theorem RR_edges {n a b : Nat} {es : List E} (hes : ∀ e, e ∈ es → e.a < n ∧ e.b < n) {R' : Nat → Bool} (hRa : R' (n + a) = true) (fs : List E) (hf : ∀ e, e ∈ fs → e ∈ es) :
    capL (arcsNE a b fs) (RR n a b es R') ≤ direct a b fs := by
  induction fs with
  | nil => exact Int.le_refl _
  | cons e fs ih =>
    have ih := ih (fun f hf' => hf f (List.mem_cons_of_mem _ hf'))
    have he := hf e List.mem_cons_self
    obtain ⟨ha, hb⟩ := hes e he
    have hc : arcsNE a b (e :: fs) = (outP b e.a, intoP a e.b) :: (outP b e.b, intoP a e.a) :: arcsNE a b fs := rfl
    rw [hc, capL_two]
    simp only
    cases hn : nd a b e with
    | true =>
      have hd : direct a b (e :: fs) = direct a b fs := by unfold direct; rw [List.countP_cons]; simp [hn]
      obtain ⟨q1, q2⟩ := adjB_of he hn
      have hn' : ¬ ((e.a = a ∧ e.b = b) ∨ (e.a = b ∧ e.b = a)) := by
        unfold nd at hn
        rw [Bool.not_eq_true', Bool.or_eq_false_iff, decide_eq_false_iff_not, decide_eq_false_iff_not] at hn
        exact fun h => h.elim hn.1 hn.2
      rw [hd, RR_no hRa ha hb q1 (fun h => hn' (.inl h)), RR_no hRa hb ha q2 (fun h => hn' (.inr ⟨h.2, h.1⟩))]
      omega
    | false =>
      have hd : direct a b (e :: fs) = direct a b fs + 1 := by unfold direct; rw [List.countP_cons]; simp [hn]
      rw [hd]
      have hz : ind (RR n a b es R' (outP b b) && !RR n a b es R' (intoP a a)) = 0 := by
        unfold outP
        rw [if_pos rfl, RR_in, if_pos rfl]; rfl
      have l1 := ind_le (RR n a b es R' (outP b a) && !RR n a b es R' (intoP a b))
      have hn' : (e.a = a ∧ e.b = b) ∨ (e.a = b ∧ e.b = a) := by
        unfold nd at hn
        rw [Bool.not_eq_false', Bool.or_eq_true, decide_eq_true_eq, decide_eq_true_eq] at hn
        exact hn
      rcases hn' with ⟨k1, k2⟩ | ⟨k1, k2⟩
      · rw [k1, k2, hz]; omega
      · rw [k1, k2, hz]; omega

theorem ind_any {l : List Nat} (p : Nat → Bool) : ind (l.any p) ≤ (l.map fun u => ind (p u)).sum := by
  induction l with
  | nil => exact Int.le_refl _
  | cons x l ih =>
    rw [List.any_cons, List.map_cons, List.sum_cons]
    have := ind_or_le (p x) (l.any p)
    omega

theorem sum_range (n : Nat) (f : Nat → Int) : ((List.range n).map f).sum = bsum n f := by
  induction n with
  | zero => rfl
  | succ n ih => rw [List.range_succ, List.map_append, List.sum_append, ih]; simp [bsum]

theorem ind_and (p q : Bool) : ind (p && q) = ind p * ind q := by cases p <;> cases q <;> rfl

theorem room_ge {n a b : Nat} {es : List E} (hb : b < n) (hes : ∀ e, e ∈ es → e.a < n ∧ e.b < n) {R' : Nat → Bool} (hRa : R' (n + a) = true) (hRb : R' b = false) :
    capL (arcsN n a b ++ arcsNE a b es) (RR n a b es R') ≤ direct a b es + cutM (n + n) (mN n a b es) R' := by
  rw [capL_append, cutM_mN]
  have h1 := RR_edges (b := b) hes hRa es (fun _ h => h)
  have h2 : capL (arcsN n a b) (RR n a b es R') ≤ (bsum n fun x => ind (R' x && !R' (n + x)) * cN a b x) + bsum n fun u => bsum n fun v => ind (R' (n + u) && !R' v) * ind (adjB a b es u v) := by
    rw [capL_arcsN, bsum_swap n n]
    have hg0 : ∀ v, 0 ≤ bsum n fun u => ind (R' (n + u) && !R' v) * ind (adjB a b es u v) := fun v => bsum_nonneg fun u _ => Int.mul_nonneg (ind_nonneg _) (ind_nonneg _)
    have hg : ∀ v, ind (!R' v && anyU n a b es R' v) ≤ bsum n fun u => ind (R' (n + u) && !R' v) * ind (adjB a b es u v) := by
      intro v
      have h := ind_any (l := List.range n) (fun u => R' (n + u) && adjB a b es u v)
      rw [sum_range] at h
      rw [ind_and]
      cases hv : R' v with
      | true => have := hg0 v; rw [hv] at this; simpa [ind] using this
      | false =>
        have : (bsum n fun u => ind (R' (n + u) && !false) * ind (adjB a b es u v)) = bsum n fun u => ind (R' (n + u) && adjB a b es u v) := bsum_congr fun u _ => by rw [ind_and (R' (n + u)) (adjB a b es u v)]; simp
        rw [this]
        have e1 : ind (!false) = 1 := rfl
        rw [e1, Int.one_mul]
        exact h
    -- the sum over v, b's own apart
    have hsum := bsum_upd (n := n) (k := b) hb (f := fun v => bsum n fun u => ind (R' (n + u) && !R' v) * ind (adjB a b es u v)) (g := fun v => if v = b then 0 else bsum n fun u => ind (R' (n + u) && !R' v) * ind (adjB a b es u v)) (fun v _ hv => by rw [if_neg hv])
    simp only [if_true] at hsum
    rw [hsum]
    have hbb : (bsum n fun u => ind (R' (n + u) && !R' b) * ind (adjB a b es u b)) = bsum n fun x => ind (R' (n + x) && adjB a b es x b) := bsum_congr fun u _ => by rw [hRb, ind_and (R' (n + u)) (adjB a b es u b)]; simp
    rw [hbb, Int.sub_zero, ← bsum_add, ← bsum_add]
    refine bsum_le fun x hx => ?_
    have p1 : 0 ≤ ind (R' x && !R' (n + x)) * cN a b x := Int.mul_nonneg (ind_nonneg _) (by unfold cN; split <;> omega)
    have p2 := ind_nonneg (R' (n + x) && adjB a b es x b)
    by_cases hx2 : x ≠ a ∧ x ≠ b
    · rw [if_pos hx2, if_neg hx2.2, RR_in, RR_out, if_neg hx2.2, if_neg hx2.1]
      have hc : cN a b x = 1 := by unfold cN; rw [if_neg (fun h => h.elim hx2.1 hx2.2)]
      rw [hc, Int.mul_one]
      have hgx := hg x
      have key : ind ((R' x || anyU n a b es R' x) && !(R' (n + x) && !adjB a b es x b)) ≤ ind (R' x && !R' (n + x)) + (ind (!R' x && anyU n a b es R' x) + ind (R' (n + x) && adjB a b es x b)) := by
        cases R' x <;> cases R' (n + x) <;> cases anyU n a b es R' x <;> cases adjB a b es x b <;> decide
      omega
    · rw [if_neg hx2]
      have := hg0 x
      split <;> omega
  omega

theorem room_low {n a b v : Nat} {most : Int} {es : List E} (hab : a ≠ b) (ha : a < n) (hb : b < n) (hes : ∀ e, e ∈ es → e.a < n ∧ e.b < n) (h : MinCap (cutM (n + n) (mN n a b es)) a (n + b) most v) {R : Nat → Bool} (hRa : R (2 * a + 1) = true) (hRb : R (2 * b) = false) :
    (direct a b es : Int) + v ≤ capL (arcsN n a b ++ arcsNE a b es) R := by
  obtain ⟨R', hR'⟩ : ∃ R' : Nat → Bool, R' = fun y => if y = a then true else if y = n + b then false else if y < n then R (2 * y) else R (2 * (y - n) + 1) := ⟨_, rfl⟩
  have e1 : R' a = true := by rw [hR']; simp
  have e2 : R' (n + b) = false := by rw [hR']; show (if n + b = a then true else if n + b = n + b then false else _) = false; rw [if_neg (by omega), if_pos rfl]
  have ein : ∀ x, x < n → x ≠ a → R' x = R (2 * x) := fun x hx hne => by rw [hR']; show (if x = a then true else if x = n + b then false else if x < n then R (2 * x) else _) = _; rw [if_neg hne, if_neg (by omega), if_pos hx]
  have eout : ∀ x, x < n → x ≠ b → R' (n + x) = R (2 * x + 1) := fun x hx hne => by rw [hR']; show (if n + x = a then true else if n + x = n + b then false else if n + x < n then _ else R (2 * (n + x - n) + 1)) = _; rw [if_neg (by omega), if_neg (by omega), if_neg (by omega), Nat.add_sub_cancel_left]
  have hle := h.le R' e1 e2
  have h1 := room_le (R := R) (R' := R') hab hes hRa hRb (fun u hu e => by
      have hub : u ≠ b := fun k => by rw [k, e2] at e; cases e
      exact ⟨hub, by rw [← eout u hu hub]; exact e⟩) (fun v hv e => by
      have hva : v ≠ a := fun k => by rw [k, e1] at e; cases e
      exact ⟨hva, by rw [← ein v hv hva]; exact e⟩)
  rw [cutM_mN] at hle
  have h2 : (bsum n fun x => ind (R' x && !R' (n + x)) * cN a b x) ≤ capL (arcsN n a b) R := by
    rw [capL_arcsN]
    refine bsum_le fun x hx => ?_
    by_cases k1 : x = a
    · rw [k1, if_neg (fun h => h.1 rfl), eout a ha hab, hRa]; simp [ind]
    · by_cases k2 : x = b
      · rw [k2, if_neg (fun h => h.2 rfl), ein b hb (fun e => hab e.symm), hRb]; simp [ind]
      · rw [if_pos ⟨k1, k2⟩, ein x hx k1, eout x hx k2]
        have hc : cN a b x = 1 := by unfold cN; rw [if_neg (fun h => h.elim k1 k2)]
        rw [hc, Int.mul_one]
        exact Int.le_refl _
  rw [capL_append]
  omega

/-- The document's way to count by nodes is the program's. -/
theorem room_nodes {n a b most v : Nat} {es : List E} (hab : a ≠ b) (ha : a < n) (hb : b < n) (hm : most ≤ 120) (hes : ∀ e, e ∈ es → e.a < n ∧ e.b < n) (h : MinCap (cutM (n + n) (mN n a b es)) a (n + b) most v) :
    MinCap (capL (arcsN n a b ++ arcsNE a b es)) (2 * a + 1) (2 * b) most (min most (direct a b es + v) : Nat) := by
  refine ⟨fun R hRa hRb => ?_, by omega, by omega, ?_⟩
  · have := room_low hab ha hb hes h hRa hRb
    omega
  · rcases h.tight with e | ⟨R', r1, r2, r3⟩
    · left
      have e' : v = most := by omega
      rw [e']; congr 1; omega
    · by_cases hv : v < most
      · have hbig : ∀ x, x < n → (x = a ∨ x = b) → R' x = true → R' (n + x) = false → False := by
          intro x hx hxa k1 k2
          have : (120 : Int) ≤ cutM (n + n) (mN n a b es) R' := by
            rw [cutM_mN]
            have q0 : 0 ≤ bsum n fun u => bsum n fun v => ind (R' (n + u) && !R' v) * ind (adjB a b es u v) := bsum_nonneg fun u _ => bsum_nonneg fun v _ => Int.mul_nonneg (ind_nonneg _) (ind_nonneg _)
            have q1 : (bsum n fun y => if y = x then (120 : Int) else 0) ≤ bsum n fun x => ind (R' x && !R' (n + x)) * cN a b x := by
              refine bsum_le fun y hy => ?_
              split
              · rename_i e
                subst e
                rw [k1, k2]
                unfold cN
                rw [if_pos hxa]
                decide
              · exact Int.mul_nonneg (ind_nonneg _) (by unfold cN; split <;> omega)
            rw [bsum_single hx (fun i _ hi => if_neg hi), if_pos rfl] at q1
            omega
          omega
        have hRa : R' (n + a) = true := by
          cases e : R' (n + a) with
          | true => rfl
          | false => exact (hbig a ha (.inl rfl) r1 e).elim
        have hRb : R' b = false := by
          cases e : R' b with
          | false => rfl
          | true => exact (hbig b hb (.inr rfl) e r2).elim
        have hge := room_ge hb hes hRa hRb
        have g1 : RR n a b es R' (2 * a + 1) = true := by rw [RR_out, if_pos rfl]
        have g2 : RR n a b es R' (2 * b) = false := by rw [RR_in, if_pos rfl]
        by_cases hmin : direct a b es + v < most
        · right
          obtain ⟨R, hR⟩ : ∃ R, RR n a b es R' = R := ⟨_, rfl⟩
          rw [hR] at hge g1 g2
          refine ⟨R, g1, g2, ?_⟩
          have low := room_low hab ha hb hes h g1 g2
          omega
        · left; congr 1; omega
      · left
        have := h.upto
        congr 1; omega

end Go.Proofs.YtkpoobnldgfapabGreatDoor.Pl
