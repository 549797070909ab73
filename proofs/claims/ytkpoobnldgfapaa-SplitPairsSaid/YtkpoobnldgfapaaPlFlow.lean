/- Flows of ones along arcs, and cuts. -/
namespace Go.Proofs.Ytkpoobnldgfapaa.Pl

def bsum : Nat → (Nat → Int) → Int
  | 0, _ => 0
  | n + 1, f => bsum n f + f n

theorem bsum_congr {n : Nat} {f g : Nat → Int} (h : ∀ i, i < n → f i = g i) : bsum n f = bsum n g := by
  induction n with
  | zero => rfl
  | succ n ih => simp only [bsum]; rw [ih fun i hi => h i (by omega), h n (by omega)]

theorem bsum_zero (n : Nat) : bsum n (fun _ => 0) = 0 := by
  induction n with
  | zero => rfl
  | succ n ih => simp only [bsum, ih]; rfl

theorem bsum_add (n : Nat) (f g : Nat → Int) : bsum n (fun i => f i + g i) = bsum n f + bsum n g := by
  induction n with
  | zero => rfl
  | succ n ih => simp only [bsum, ih]; omega

theorem bsum_sub (n : Nat) (f g : Nat → Int) : bsum n (fun i => f i - g i) = bsum n f - bsum n g := by
  induction n with
  | zero => rfl
  | succ n ih => simp only [bsum, ih]; omega

theorem bsum_le {n : Nat} {f g : Nat → Int} (h : ∀ i, i < n → f i ≤ g i) : bsum n f ≤ bsum n g := by
  induction n with
  | zero => exact Int.le_refl _
  | succ n ih => simp only [bsum]; have := ih fun i hi => h i (by omega); have := h n (by omega); omega

theorem bsum_nonneg {n : Nat} {f : Nat → Int} (h : ∀ i, i < n → 0 ≤ f i) : 0 ≤ bsum n f := by
  have := bsum_le (n := n) (f := fun _ => 0) (g := f) h
  rwa [bsum_zero] at this

theorem bsum_swap (n m : Nat) (f : Nat → Nat → Int) : bsum n (fun i => bsum m (fun j => f i j)) = bsum m (fun j => bsum n (fun i => f i j)) := by
  induction n with
  | zero => simp only [bsum]; rw [bsum_zero]
  | succ n ih => simp only [bsum]; rw [ih, bsum_add]

/-- A sum of which one term alone is no nought. -/
theorem bsum_single {n k : Nat} (hk : k < n) {f : Nat → Int} (h : ∀ i, i < n → i ≠ k → f i = 0) : bsum n f = f k := by
  induction n with
  | zero => omega
  | succ n ih =>
    simp only [bsum]
    by_cases e : k = n
    · subst e
      have : bsum k f = bsum k (fun _ => 0) := bsum_congr fun i hi => h i (by omega) (by omega)
      rw [this, bsum_zero]; omega
    · rw [ih (by omega) fun i hi => h i (by omega), h n (by omega) (fun e' => e e'.symm)]; omega

theorem bsum_upd {n k : Nat} (hk : k < n) {f g : Nat → Int} (h : ∀ i, i < n → i ≠ k → f i = g i) : bsum n f = bsum n g - g k + f k := by
  have h1 : bsum n (fun i => f i - g i) = f k - g k := bsum_single (f := fun i => f i - g i) hk fun i hi hne => by show f i - g i = 0; rw [h i hi hne]; omega
  rw [bsum_sub] at h1; omega

theorem bsum_append (n m : Nat) (f : Nat → Int) : bsum (n + m) f = bsum n f + bsum m (fun i => f (n + i)) := by
  induction m with
  | zero => simp [bsum]
  | succ m ih => rw [← Nat.add_assoc]; simp only [bsum, ih]; omega

def ind (b : Bool) : Int := if b then 1 else 0

theorem ind_true : ind true = 1 := rfl
theorem ind_false : ind false = 0 := rfl
theorem ind_nonneg (b : Bool) : 0 ≤ ind b := by cases b <;> decide
theorem ind_le (b : Bool) : ind b ≤ 1 := by cases b <;> decide

/-- What goes out of v more than comes in. -/
def exc (m : Nat) (fr to : Nat → Nat) (u : Nat → Bool) (v : Nat) : Int :=
  bsum m (fun i => ind (u i) * (ind (decide (fr i = v)) - ind (decide (to i = v))))

def netR (m : Nat) (fr to : Nat → Nat) (u : Nat → Bool) (R : Nat → Bool) : Int :=
  bsum m (fun i => ind (u i) * (ind (R (fr i)) - ind (R (to i))))

def cap (m : Nat) (fr to : Nat → Nat) (R : Nat → Bool) : Int :=
  bsum m (fun i => ind (R (fr i) && !R (to i)))

theorem ind_point {N x : Nat} (hx : x < N) (R : Nat → Bool) : bsum N (fun v => ind (R v) * ind (decide (x = v))) = ind (R x) := by
  rw [bsum_single hx]
  · simp [ind_true]
  · intro i _ hne
    have : decide (x = i) = false := by simp; omega
    rw [this, ind_false]; omega

theorem bsum_mul (n : Nat) (c : Int) (f : Nat → Int) : bsum n (fun i => c * f i) = c * bsum n f := by
  induction n with
  | zero => simp [bsum]
  | succ n ih => simp only [bsum, ih, Int.mul_add]

theorem netR_eq {m N : Nat} {fr to : Nat → Nat} (hN : ∀ i, i < m → fr i < N ∧ to i < N) (u : Nat → Bool) (R : Nat → Bool) :
    netR m fr to u R = bsum N (fun v => ind (R v) * exc m fr to u v) := by
  have h1 : bsum N (fun v => ind (R v) * exc m fr to u v) = bsum N (fun v => bsum m (fun i => ind (R v) * (ind (u i) * (ind (decide (fr i = v)) - ind (decide (to i = v)))))) :=
    bsum_congr fun v _ => by rw [bsum_mul]; rfl
  rw [h1, bsum_swap]
  refine bsum_congr fun i hi => ?_
  obtain ⟨h2, h3⟩ := hN i hi
  have e : bsum N (fun v => ind (R v) * (ind (u i) * (ind (decide (fr i = v)) - ind (decide (to i = v))))) =
      ind (u i) * (bsum N (fun v => ind (R v) * ind (decide (fr i = v))) - bsum N (fun v => ind (R v) * ind (decide (to i = v)))) := by
    rw [← bsum_sub, ← bsum_mul]
    refine bsum_congr fun v _ => ?_
    rw [← Int.mul_assoc, Int.mul_comm (ind (R v)) (ind (u i)), Int.mul_assoc, Int.mul_sub (ind (R v))]
  rw [e, ind_point h2, ind_point h3]

/-- What goes over a cut is what goes out of s. -/
theorem netR_val {m N s t : Nat} {fr to : Nat → Nat} (hN : ∀ i, i < m → fr i < N ∧ to i < N) (hs : s < N) {u : Nat → Bool} (bal : ∀ v, v < N → v ≠ s → v ≠ t → exc m fr to u v = 0)
    {R : Nat → Bool} (hRs : R s = true) (hRt : R t = false) : netR m fr to u R = exc m fr to u s := by
  rw [netR_eq hN, bsum_single hs, hRs, ind_true]
  · omega
  · intro v hv hne
    by_cases e : v = t
    · subst e; rw [hRt, ind_false]; omega
    · rw [bal v hv hne e]; omega

theorem netR_le (m : Nat) (fr to : Nat → Nat) (u R : Nat → Bool) : netR m fr to u R ≤ cap m fr to R := by
  refine bsum_le fun i _ => ?_
  cases u i <;> cases R (fr i) <;> cases R (to i) <;> decide

theorem netR_full {m : Nat} {fr to : Nat → Nat} {u R : Nat → Bool} (h1 : ∀ i, i < m → R (fr i) = true → R (to i) = false → u i = true) (h2 : ∀ i, i < m → R (fr i) = false → R (to i) = true → u i = false) :
    netR m fr to u R = cap m fr to R := by
  refine bsum_congr fun i hi => ?_
  have a := h1 i hi
  have b := h2 i hi
  revert a b
  cases u i <;> cases R (fr i) <;> cases R (to i) <;> simp [ind]

/-- The greatest number of ways, but at most 'most': told by cuts. -/
structure MinCap (c : (Nat → Bool) → Int) (s t : Nat) (most v : Int) : Prop where
  le : ∀ R : Nat → Bool, R s = true → R t = false → v ≤ c R
  nonneg : 0 ≤ v
  upto : v ≤ most
  tight : v = most ∨ ∃ R : Nat → Bool, R s = true ∧ R t = false ∧ c R = v

theorem MinCap.unique {c : (Nat → Bool) → Int} {s t : Nat} {most v v' : Int} (h : MinCap c s t most v) (h' : MinCap c s t most v') : v = v' := by
  have a := h.upto
  have b := h'.upto
  rcases h.tight with e | ⟨R, h1, h2, h3⟩ <;> rcases h'.tight with e' | ⟨R', h1', h2', h3'⟩
  · omega
  · have := h.le R' h1' h2'; omega
  · have := h'.le R h1 h2; omega
  · have := h.le R' h1' h2'; have := h'.le R h1 h2; omega

/-- A flow, and its rest has no way: what goes is the least cut. -/
theorem MinCap.of_flow {m N s t : Nat} {fr to : Nat → Nat} (hN : ∀ i, i < m → fr i < N ∧ to i < N) (hs : s < N) {u : Nat → Bool} (bal : ∀ v, v < N → v ≠ s → v ≠ t → exc m fr to u v = 0)
    {most k : Int} (hk : exc m fr to u s = k) (h0 : 0 ≤ k) (hm : k ≤ most)
    (hend : k = most ∨ ∃ R : Nat → Bool, R s = true ∧ R t = false ∧ (∀ i, i < m → R (fr i) = true → R (to i) = false → u i = true) ∧ (∀ i, i < m → R (fr i) = false → R (to i) = true → u i = false)) :
    MinCap (cap m fr to) s t most k := by
  refine ⟨fun R h1 h2 => ?_, h0, hm, ?_⟩
  · rw [← hk, ← netR_val hN hs bal h1 h2]; exact netR_le m fr to u R
  · rcases hend with e | ⟨R, h1, h2, h3, h4⟩
    · exact .inl e
    · exact .inr ⟨R, h1, h2, by rw [← netR_full h3 h4, netR_val hN hs bal h1 h2, hk]⟩

/-- Arc i is taken (or given back): what that does to what goes out. -/
theorem exc_set {m i : Nat} (hi : i < m) (fr to : Nat → Nat) {u u' : Nat → Bool} (h : ∀ j, j < m → j ≠ i → u' j = u j) (v : Nat) :
    exc m fr to u' v = exc m fr to u v + (ind (u' i) - ind (u i)) * (ind (decide (fr i = v)) - ind (decide (to i = v))) := by
  unfold exc
  rw [bsum_upd (n := m) (k := i) hi (f := fun i => ind (u' i) * (ind (decide (fr i = v)) - ind (decide (to i = v)))) (g := fun i => ind (u i) * (ind (decide (fr i = v)) - ind (decide (to i = v))))]
  · simp only [Int.sub_mul]; omega
  · intro j hj hne; simp only [h j hj hne]

theorem exc_none (m : Nat) (fr to : Nat → Nat) {u : Nat → Bool} (h : ∀ i, i < m → u i = false) (v : Nat) : exc m fr to u v = 0 := by
  unfold exc
  rw [bsum_congr (g := fun _ => 0), bsum_zero]
  intro i hi; rw [h i hi, ind_false]; omega

end Go.Proofs.Ytkpoobnldgfapaa.Pl
