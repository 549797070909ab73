/- Part 4 of the proof: P1. -/
set_option linter.unusedVariables false
set_option linter.unusedSimpArgs false
namespace Go.Proofs.YtfglkgkihafcpaaGreatDoor.Pl
def bsum : Nat → (Nat → Int) → Int
 | 0, _ => 0
 | n + 1, f => bsum n f + f n
theorem bsum_congr {n : Nat} {f g : Nat → Int} (h : ∀ i, i < n → f i = g i) : bsum n f = bsum n g := by
 induction n with
 | zero => rfl
 | succ n ih => simp only [bsum]; rw [ih fun i hi => h i (by omega), h n (by omega)]
theorem bsum_zero (n : Nat) : bsum n (fun _ => 0) = 0 := by
 induction n with
 | zero => rfl
 | succ n ih => simp only [bsum, ih]; rfl
theorem bsum_add (n : Nat) (f g : Nat → Int) : bsum n (fun i => f i + g i) = bsum n f + bsum n g := by
 induction n with
 | zero => rfl
 | succ n ih => simp only [bsum, ih]; omega
theorem bsum_sub (n : Nat) (f g : Nat → Int) : bsum n (fun i => f i - g i) = bsum n f - bsum n g := by
 induction n with
 | zero => rfl
 | succ n ih => simp only [bsum, ih]; omega
theorem bsum_le {n : Nat} {f g : Nat → Int} (h : ∀ i, i < n → f i ≤ g i) : bsum n f ≤ bsum n g := by
 induction n with
 | zero => exact Int.le_refl _
 | succ n ih => simp only [bsum]; have := ih fun i hi => h i (by omega); have := h n (by omega); omega
theorem bsum_swap (n m : Nat) (f : Nat → Nat → Int) : bsum n (fun i => bsum m (fun j => f i j)) = bsum m (fun j => bsum n (fun i => f i j)) := by
 induction n with
 | zero => simp only [bsum]; rw [bsum_zero]
 | succ n ih => simp only [bsum]; rw [ih, bsum_add]
theorem bsum_single {n k : Nat} (hk : k < n) {f : Nat → Int} (h : ∀ i, i < n → i ≠ k → f i = 0) : bsum n f = f k := by
 induction n with
 | zero => omega
 | succ n ih =>
  simp only [bsum]
  by_cases e : k = n
  ·subst e
   have : bsum k f = bsum k (fun _ => 0) := bsum_congr fun i hi => h i (by omega) (by omega)
   rw [this, bsum_zero]; omega
  ·rw [ih (by omega) fun i hi => h i (by omega), h n (by omega) (fun e' => e e'.symm)]; omega
theorem bsum_upd {n k : Nat} (hk : k < n) {f g : Nat → Int} (h : ∀ i, i < n → i ≠ k → f i = g i) : bsum n f = bsum n g - g k + f k := by
 have h1 : bsum n (fun i => f i - g i) = f k - g k := bsum_single (f := fun i => f i - g i) hk fun i hi hne => by show f i - g i = 0; rw [h i hi hne]; omega
 rw [bsum_sub] at h1; omega
def ind (b : Bool) : Int := if b then 1 else 0
theorem ind_true : ind true = 1 := rfl
theorem ind_false : ind false = 0 := rfl
def exc (m : Nat) (fr to : Nat → Nat) (u : Nat → Bool) (v : Nat) : Int :=
 bsum m (fun i => ind (u i) * (ind (decide (fr i = v)) - ind (decide (to i = v))))
def netR (m : Nat) (fr to : Nat → Nat) (u : Nat → Bool) (R : Nat → Bool) : Int :=
 bsum m (fun i => ind (u i) * (ind (R (fr i)) - ind (R (to i))))
def cap (m : Nat) (fr to : Nat → Nat) (R : Nat → Bool) : Int :=
 bsum m (fun i => ind (R (fr i) && !R (to i)))
theorem ind_point {N x : Nat} (hx : x < N) (R : Nat → Bool) : bsum N (fun v => ind (R v) * ind (decide (x = v))) = ind (R x) := by
 rw [bsum_single hx]
 ·simp [ind_true]
 ·intro i _ hne
  have : decide (x = i) = false := by simp; omega
  rw [this, ind_false]; omega
theorem bsum_mul (n : Nat) (c : Int) (f : Nat → Int) : bsum n (fun i => c * f i) = c * bsum n f := by
 induction n with
 | zero => simp [bsum]
 | succ n ih => simp only [bsum, ih, Int.mul_add]
theorem netR_eq {m N : Nat} {fr to : Nat → Nat} (hN : ∀ i, i < m → fr i < N ∧ to i < N) (u : Nat → Bool) (R : Nat → Bool) :
  netR m fr to u R = bsum N (fun v => ind (R v) * exc m fr to u v) := by
 have h1 : bsum N (fun v => ind (R v) * exc m fr to u v) = bsum N (fun v => bsum m (fun i => ind (R v) * (ind (u i) * (ind (decide (fr i = v)) - ind (decide (to i = v)))))) :=
  bsum_congr fun v _ => by rw [bsum_mul]; rfl
 rw [h1, bsum_swap]
 refine bsum_congr fun i hi => ?_
 obtain ⟨h2, h3⟩ := hN i hi
 have e : bsum N (fun v => ind (R v) * (ind (u i) * (ind (decide (fr i = v)) - ind (decide (to i = v))))) =
   ind (u i) * (bsum N (fun v => ind (R v) * ind (decide (fr i = v))) - bsum N (fun v => ind (R v) * ind (decide (to i = v)))) := by
  rw [← bsum_sub, ← bsum_mul]
  refine bsum_congr fun v _ => ?_
  rw [← Int.mul_assoc, Int.mul_comm (ind (R v)) (ind (u i)), Int.mul_assoc, Int.mul_sub (ind (R v))]
 rw [e, ind_point h2, ind_point h3]
theorem netR_val {m N s t : Nat} {fr to : Nat → Nat} (hN : ∀ i, i < m → fr i < N ∧ to i < N) (hs : s < N) {u : Nat → Bool} (bal : ∀ v, v < N → v ≠ s → v ≠ t → exc m fr to u v = 0)
  {R : Nat → Bool} (hRs : R s = true) (hRt : R t = false) : netR m fr to u R = exc m fr to u s := by
 rw [netR_eq hN, bsum_single hs, hRs, ind_true]
 ·omega
 ·intro v hv hne
  by_cases e : v = t
  ·subst e; rw [hRt, ind_false]; omega
  ·rw [bal v hv hne e]; omega
theorem netR_le (m : Nat) (fr to : Nat → Nat) (u R : Nat → Bool) : netR m fr to u R ≤ cap m fr to R := by
 refine bsum_le fun i _ => ?_
 cases u i <;> cases R (fr i) <;> cases R (to i) <;> decide
theorem netR_full {m : Nat} {fr to : Nat → Nat} {u R : Nat → Bool} (h1 : ∀ i, i < m → R (fr i) = true → R (to i) = false → u i = true) (h2 : ∀ i, i < m → R (fr i) = false → R (to i) = true → u i = false) :
  netR m fr to u R = cap m fr to R := by
 refine bsum_congr fun i hi => ?_
 have a := h1 i hi
 have b := h2 i hi
 revert a b
 cases u i <;> cases R (fr i) <;> cases R (to i) <;> simp [ind]
structure MinCap (c : (Nat → Bool) → Int) (s t : Nat) (most v : Int) : Prop where
 le : ∀ R : Nat → Bool, R s = true → R t = false → v ≤ c R
 nonneg : 0 ≤ v
 upto : v ≤ most
 tight : v = most ∨ ∃ R : Nat → Bool, R s = true ∧ R t = false ∧ c R = v
theorem MinCap.unique {c : (Nat → Bool) → Int} {s t : Nat} {most v v' : Int} (h : MinCap c s t most v) (h' : MinCap c s t most v') : v = v' := by
 have a := h.upto
 have b := h'.upto
 rcases h.tight with e | ⟨R, h1, h2, h3⟩ <;> rcases h'.tight with e' | ⟨R', h1', h2', h3'⟩
 ·omega
 ·have := h.le R' h1' h2'; omega
 ·have := h'.le R h1 h2; omega
 ·have := h.le R' h1' h2'; have := h'.le R h1 h2; omega
theorem MinCap.of_flow {m N s t : Nat} {fr to : Nat → Nat} (hN : ∀ i, i < m → fr i < N ∧ to i < N) (hs : s < N) {u : Nat → Bool} (bal : ∀ v, v < N → v ≠ s → v ≠ t → exc m fr to u v = 0)
  {most k : Int} (hk : exc m fr to u s = k) (h0 : 0 ≤ k) (hm : k ≤ most)
  (hend : k = most ∨ ∃ R : Nat → Bool, R s = true ∧ R t = false ∧ (∀ i, i < m → R (fr i) = true → R (to i) = false → u i = true) ∧ (∀ i, i < m → R (fr i) = false → R (to i) = true → u i = false)) :
  MinCap (cap m fr to) s t most k := by
 refine ⟨fun R h1 h2 => ?_, h0, hm, ?_⟩
 ·rw [← hk, ← netR_val hN hs bal h1 h2]; exact netR_le m fr to u R
 ·rcases hend with e | ⟨R, h1, h2, h3, h4⟩
  ·exact .inl e
  ·exact .inr ⟨R, h1, h2, by rw [← netR_full h3 h4, netR_val hN hs bal h1 h2, hk]⟩
theorem exc_set {m i : Nat} (hi : i < m) (fr to : Nat → Nat) {u u' : Nat → Bool} (h : ∀ j, j < m → j ≠ i → u' j = u j) (v : Nat) :
  exc m fr to u' v = exc m fr to u v + (ind (u' i) - ind (u i)) * (ind (decide (fr i = v)) - ind (decide (to i = v))) := by
 unfold exc
 rw [bsum_upd (n := m) (k := i) hi (f := fun i => ind (u' i) * (ind (decide (fr i = v)) - ind (decide (to i = v)))) (g := fun i => ind (u i) * (ind (decide (fr i = v)) - ind (decide (to i = v))))]
 ·simp only [Int.sub_mul]; omega
 ·intro j hj hne; simp only [h j hj hne]
theorem exc_none (m : Nat) (fr to : Nat → Nat) {u : Nat → Bool} (h : ∀ i, i < m → u i = false) (v : Nat) : exc m fr to u v = 0 := by
 unfold exc
 rw [bsum_congr (g := fun _ => 0), bsum_zero]
 intro i hi; rw [h i hi, ind_false]; omega
end Go.Proofs.YtfglkgkihafcpaaGreatDoor.Pl
namespace Go.Proofs.YtfglkgkihafcpaaGreatDoor.Pl
def upd {α : Type} (f : Nat → α) (x : Nat) (v : α) : Nat → α := fun z => if z = x then v else f z
theorem upd_same {α : Type} (f : Nat → α) (x : Nat) (v : α) : upd f x v x = v := by simp [upd]
theorem upd_ne {α : Type} (f : Nat → α) (x z : Nat) (v : α) (h : z ≠ x) : upd f x v z = f z := by simp [upd, h]
inductive Root (up : Nat → Nat) : Nat → Nat → Nat → Prop where
 | here {r : Nat} (h : up r = r) : Root up r r 0
 | step {x r k : Nat} (h : up x ≠ x) (t : Root up (up x) r k) : Root up x r (k + 1)
theorem Root.isRoot {up : Nat → Nat} {x r k : Nat} (h : Root up x r k) : up r = r := by
 induction h with
 | here h => exact h
 | step _ _ ih => exact ih
theorem Root.unique {up : Nat → Nat} {x r k : Nat} (h : Root up x r k) : ∀ {r' k' : Nat}, Root up x r' k' → r' = r ∧ k' = k := by
 induction h with
 | here h =>
  intro r' k' h'
  cases h' with
  | here _ => exact ⟨rfl, rfl⟩
  | step n _ => exact absurd h n
 | step n _ ih =>
  intro r' k' h'
  cases h' with
  | here h => exact absurd h n
  | step _ t => obtain ⟨a, b⟩ := ih t; exact ⟨a, by omega⟩
structure Forest (n : Nat) (up : Nat → Nat) : Prop where
 lt : ∀ x, x < n → up x < n
 deep : ∃ d : Nat → Nat, ∀ x, x < n → up x ≠ x → d (up x) < d x
theorem Forest.root {n : Nat} {up : Nat → Nat} (F : Forest n up) {x : Nat} (hx : x < n) : ∃ r k, r < n ∧ Root up x r k := by
 obtain ⟨d, hd⟩ := F.deep
 have key : ∀ m x, d x = m → x < n → ∃ r k, r < n ∧ Root up x r k := by
  intro m
  induction m using Nat.strongRecOn with
  | _ m ih =>
   intro x hm hx
   by_cases h : up x = x
   ·exact ⟨x, 0, hx, .here h⟩
   ·have := hd x hx h
    obtain ⟨r, k, hr, t⟩ := ih (d (up x)) (by omega) (up x) rfl (F.lt x hx)
    exact ⟨r, k + 1, hr, .step h t⟩
 exact key _ x rfl hx
theorem Root.deeper {n : Nat} {up : Nat → Nat} (lt : ∀ x, x < n → up x < n) {d : Nat → Nat} (hd : ∀ x, x < n → up x ≠ x → d (up x) < d x) {x r k : Nat} (h : Root up x r k) :
  x < n → r < n ∧ (x ≠ r → d r < d x) := by
 induction h with
 | here h => exact fun hx => ⟨hx, fun e => absurd rfl e⟩
 | @step x r k hne t ih =>
  intro hx
  obtain ⟨h1, h2⟩ := ih (lt _ hx)
  refine ⟨h1, fun _ => ?_⟩
  have h3 := hd x hx hne
  by_cases e : up x = r
  ·rw [← e]; exact h3
  ·have := h2 e; omega
theorem Root.compress {up : Nat → Nat} {x r k : Nat} (h : Root up x r k) {z s j : Nat} (hz : Root up z s j) :
  ∃ j', Root (upd up x r) z s j' := by
 have hr := h.isRoot
 induction hz with
 | @here s hs =>
  refine ⟨0, .here ?_⟩
  by_cases e : s = x
  ·subst e
   obtain ⟨rfl, _⟩ := (Root.here hs).unique h
   simp [upd]
  ·simp [upd, e, hs]
 | @step z s j hne t ih =>
  obtain ⟨j', hj⟩ := ih
  by_cases e : z = x
  ·subst e
   obtain ⟨rfl, _⟩ := (Root.step hne t).unique h
   by_cases e2 : r = z
   ·subst e2; exact absurd hr hne
   ·refine ⟨1, .step ?_ ?_⟩
    ·simp [upd, e2]
    ·rw [upd_same]
     refine .here ?_
     rw [upd_ne _ _ _ _ e2]; exact hr
  ·refine ⟨j' + 1, .step ?_ ?_⟩
   ·rw [upd_ne _ _ _ _ e]; exact hne
   ·rw [upd_ne _ _ _ _ e]; exact hj
theorem Forest.compress {n : Nat} {up : Nat → Nat} (F : Forest n up) {x r k : Nat} (hx : x < n) (h : Root up x r k) : Forest n (upd up x r) := by
 obtain ⟨d, hd⟩ := F.deep
 obtain ⟨hr, hlt⟩ := h.deeper F.lt hd hx
 refine ⟨fun z hz => ?_, d, fun z hz hne => ?_⟩
 ·by_cases e : z = x
  ·subst e; rw [upd_same]; exact hr
  ·rw [upd_ne _ _ _ _ e]; exact F.lt z hz
 ·by_cases e : z = x
  ·subst e; rw [upd_same] at hne ⊢; exact hlt (fun e => hne e.symm)
  ·rw [upd_ne _ _ _ _ e] at hne ⊢; exact hd z hz hne
def SameRoots (n : Nat) (up up' : Nat → Nat) : Prop := ∀ x r k, x < n → Root up x r k → ∃ k', Root up' x r k'
theorem SameRoots.refl (n : Nat) (up : Nat → Nat) : SameRoots n up up := fun _ _ k _ h => ⟨k, h⟩
theorem SameRoots.trans {n : Nat} {a b c : Nat → Nat} (h : SameRoots n a b) (g : SameRoots n b c) : SameRoots n a c :=
 fun x r k hx hr => let ⟨k', h'⟩ := h x r k hx hr; g x r k' hx h'
theorem Root.link {up : Nat → Nat} {x y : Nat} (hx : up x = x) (hy : up y = y) (hxy : x ≠ y) {z s j : Nat} (hz : Root up z s j) :
  ∃ j', Root (upd up y x) z (if s = y then x else s) j' := by
 induction hz with
 | @here s hs =>
  by_cases e : s = y
  ·subst e
   rw [if_pos rfl]
   refine ⟨1, .step (by rw [upd_same]; exact hxy) ?_⟩
   rw [upd_same]
   exact .here (by rw [upd_ne _ _ _ _ hxy]; exact hx)
  ·rw [if_neg e]; exact ⟨0, .here (by rw [upd_ne _ _ _ _ e]; exact hs)⟩
 | @step z s j hne t ih =>
  obtain ⟨j', hj⟩ := ih
  have e : z ≠ y := fun e => hne (by rw [e]; exact hy)
  refine ⟨j' + 1, .step ?_ ?_⟩
  ·rw [upd_ne _ _ _ _ e]; exact hne
  ·rw [upd_ne _ _ _ _ e]; exact hj
open Classical in
theorem Forest.link {n : Nat} {up : Nat → Nat} (F : Forest n up) {x y : Nat} (hxn : x < n) (hx : up x = x) (hy : up y = y) (hxy : x ≠ y) :
  Forest n (upd up y x) := by
 obtain ⟨d, hd⟩ := F.deep
 refine ⟨fun z hz => ?_, fun z => d z + (if ∃ k, Root up z y k then d x + 1 else 0), fun z hz hne => ?_⟩
 ·by_cases e : z = y
  ·subst e; rw [upd_same]; exact hxn
  ·rw [upd_ne _ _ _ _ e]; exact F.lt z hz
 ·by_cases e : z = y
  ·subst e
   rw [upd_same]
   have h1 : ∃ k, Root up z z k := ⟨0, .here hy⟩
   have h2 : ¬ ∃ k, Root up x z k := by
    rintro ⟨k, h⟩
    exact hxy ((Root.here hx).unique h).1.symm
   show d x + (if ∃ k, Root up x z k then d x + 1 else 0) < d z + (if ∃ k, Root up z z k then d x + 1 else 0)
   rw [if_pos h1, if_neg h2]
   omega
  ·rw [upd_ne _ _ _ _ e] at hne ⊢
   have h3 := hd z hz hne
   show d (up z) + (if ∃ k, Root up (up z) y k then d x + 1 else 0) < d z + (if ∃ k, Root up z y k then d x + 1 else 0)
   by_cases h1 : ∃ k, Root up (up z) y k
   ·have h2 : ∃ k, Root up z y k := let ⟨k, h⟩ := h1; ⟨k + 1, .step hne h⟩
    rw [if_pos h1, if_pos h2]; omega
   ·rw [if_neg h1]; omega
def cnt (n : Nat) (p : Nat → Bool) : Nat := (List.range n).countP p
theorem cnt_succ (n : Nat) (p : Nat → Bool) : cnt (n + 1) p = cnt n p + (if p n then 1 else 0) := by
 unfold cnt
 rw [List.range_succ, List.countP_append]
 simp [List.countP_cons]
theorem cnt_congr {n : Nat} {p q : Nat → Bool} (h : ∀ x, x < n → p x = q x) : cnt n p = cnt n q := by
 induction n with
 | zero => rfl
 | succ n ih => rw [cnt_succ, cnt_succ, ih (fun x hx => h x (by omega)), h n (by omega)]
theorem cnt_or {n : Nat} {p q : Nat → Bool} (h : ∀ x, x < n → ¬ (p x = true ∧ q x = true)) : cnt n (fun x => p x || q x) = cnt n p + cnt n q := by
 induction n with
 | zero => rfl
 | succ n ih =>
  rw [cnt_succ, cnt_succ, cnt_succ, ih (fun x hx => h x (by omega))]
  have := h n (by omega)
  cases hp : p n <;> cases hq : q n <;> simp_all <;> omega
theorem cnt_le (n : Nat) (p : Nat → Bool) : cnt n p ≤ n := by
 induction n with
 | zero => exact Nat.le_refl _
 | succ n ih => rw [cnt_succ]; split <;> omega
theorem cnt_one {n : Nat} {p : Nat → Bool} {x : Nat} (hx : x < n) (h : ∀ z, z < n → (p z = true ↔ z = x)) : cnt n p = 1 := by
 induction n with
 | zero => omega
 | succ n ih =>
  rw [cnt_succ]
  by_cases e : x = n
  ·subst e
   have h0 : cnt x p = 0 := by
    have : cnt x p = cnt x (fun _ => false) := cnt_congr fun z hz => by
     have := h z (by omega)
     cases hp : p z
     ·rfl
     ·exact absurd (this.1 hp) (by omega)
    rw [this]; simp [cnt]
   rw [h0, (h x (by omega)).2 rfl]; simp
  ·have hn : p n = false := by
    cases hp : p n
    ·rfl
    ·exact absurd ((h n (by omega)).1 hp) (fun e' => e e'.symm)
   rw [ih (by omega) (fun z hz => h z (by omega)), hn]; simp
theorem cnt_lt_of {n : Nat} {p : Nat → Bool} {x : Nat} (hx : x < n) (h : p x = true) : 0 < cnt n p := by
 induction n with
 | zero => omega
 | succ n ih =>
  rw [cnt_succ]
  by_cases e : x = n
  ·subst e; rw [h]; simp
  ·have := ih (by omega); omega
theorem cnt_remove {n : Nat} {p q : Nat → Bool} {x : Nat} (hx : x < n) (hp : p x = true) (hq : ∀ z, z < n → q z = (p z && decide (z ≠ x))) : cnt n p = cnt n q + 1 := by
 have h1 : cnt n p = cnt n (fun z => q z || decide (z = x)) := cnt_congr fun z hz => by
  rw [hq z hz]
  by_cases e : z = x
  ·subst e; simp [hp]
  ·simp [e]
 rw [h1, cnt_or]
 ·rw [cnt_one (p := fun z => decide (z = x)) hx (fun z _ => by simp)]
 ·intro z hz; rw [hq z hz]; simp
structure Canon (n : Nat) (L : Nat → Nat) : Prop where
 le : ∀ x, x < n → L x ≤ x
 idem : ∀ x, x < n → L (L x) = L x
theorem Canon.lt {n : Nat} {L : Nat → Nat} (C : Canon n L) {x : Nat} (hx : x < n) : L x < n := Nat.lt_of_le_of_lt (C.le x hx) hx
def joinL (L : Nat → Nat) (x y : Nat) : Nat → Nat := fun z => if L z = max (L x) (L y) then min (L x) (L y) else L z
theorem joinL_comm (L : Nat → Nat) (x y : Nat) : joinL L x y = joinL L y x := by
 funext z; simp only [joinL, Nat.max_comm, Nat.min_comm]
theorem joinL_same {L : Nat → Nat} {x y : Nat} (h : L x = L y) : joinL L x y = L := by
 funext z; simp only [joinL, h, Nat.max_self, Nat.min_self]; split <;> simp_all
theorem Canon.join {n : Nat} {L : Nat → Nat} (C : Canon n L) {x y : Nat} (hx : x < n) (hy : y < n) : Canon n (joinL L x y) := by
 have h1 := C.idem x hx
 have h2 := C.idem y hy
 refine ⟨fun z hz => ?_, fun z hz => ?_⟩
 ·have := C.le z hz
  unfold joinL; split <;> omega
 ·have h3 := C.idem z hz
  unfold joinL
  by_cases e : L z = max (L x) (L y)
  ·rw [if_pos e]
   have h4 : L (min (L x) (L y)) = min (L x) (L y) := by
    by_cases h : L x ≤ L y
    ·rw [Nat.min_eq_left h]; exact h1
    ·rw [Nat.min_eq_right (by omega)]; exact h2
   rw [h4]; split <;> rfl
  ·rw [if_neg e, h3, if_neg e]
theorem joinL_iff {L : Nat → Nat} {x y a b : Nat} :
  joinL L x y a = joinL L x y b ↔ L a = L b ∨ ((L a = L x ∨ L a = L y) ∧ (L b = L x ∨ L b = L y)) := by
 unfold joinL
 by_cases h1 : L a = max (L x) (L y) <;> by_cases h2 : L b = max (L x) (L y)
 ·rw [if_pos h1, if_pos h2]; omega
 ·rw [if_pos h1, if_neg h2]; omega
 ·rw [if_neg h1, if_pos h2]; omega
 ·rw [if_neg h1, if_neg h2]; omega
structure SetsInv (n : Nat) (up size low : Nat → Nat) (many : Nat) (L : Nat → Nat) : Prop where
 forest : Forest n up
 canon : Canon n L
 lab : ∀ x r k, x < n → Root up x r k → low r = L x
 sep : ∀ x y r s j k, x < n → y < n → Root up x r j → Root up y s k → L x = L y → r = s
 siz : ∀ x r k, x < n → Root up x r k → size r = cnt n (fun z => decide (L z = L x))
 man : many = cnt n (fun z => decide (L z = z))
theorem SetsInv.new (n : Nat) : SetsInv n (fun x => x) (fun _ => 1) (fun x => x) n (fun x => x) := by
 have hr : ∀ {x r k : Nat}, Root (fun x => x) x r k → r = x := by
  intro x r k h
  cases h with
  | here _ => rfl
  | step h _ => exact absurd rfl h
 refine ⟨⟨fun x hx => hx, fun _ => 0, fun x _ h => absurd rfl h⟩, ⟨fun x _ => Nat.le_refl _, fun _ _ => rfl⟩, fun x r k _ h => hr h, fun x y r s j k _ _ h h' e => ?_, fun x r k hx h => ?_, ?_⟩
 ·rw [hr h, hr h', e]
 ·exact (cnt_one hx (fun z _ => by simp)).symm
 ·simp [cnt]
theorem SetsInv.compress {n : Nat} {up size low : Nat → Nat} {many : Nat} {L : Nat → Nat} (I : SetsInv n up size low many L) {x r k : Nat} (hx : x < n) (h : Root up x r k) :
  SetsInv n (upd up x r) size low many L := by
 have back : ∀ {z s j : Nat}, z < n → Root (upd up x r) z s j → ∃ j', Root up z s j' := by
  intro z s j hz hs
  obtain ⟨s', j', _, h'⟩ := I.forest.root hz
  obtain ⟨j2, h2⟩ := h.compress h'
  obtain ⟨rfl, _⟩ := h2.unique hs
  exact ⟨j', h'⟩
 refine ⟨I.forest.compress hx h, I.canon, fun z s j hz hs => ?_, fun a b r s j k ha hb h1 h2 e => ?_, fun z s j hz hs => ?_, I.man⟩
 ·obtain ⟨j', h'⟩ := back hz hs; exact I.lab z s j' hz h'
 ·obtain ⟨j1, h1⟩ := back ha h1; obtain ⟨j2, h2⟩ := back hb h2; exact I.sep a b r s j1 j2 ha hb h1 h2 e
 ·obtain ⟨j', h'⟩ := back hz hs; exact I.siz z s j' hz h'
theorem SetsInv.link {n : Nat} {up size low : Nat → Nat} {many : Nat} {L : Nat → Nat} (I : SetsInv n up size low many L) {x y p q j k : Nat} (hx : x < n) (hy : y < n)
  (hp : Root up x p j) (hq : Root up y q k) (hpq : p ≠ q) :
  SetsInv n (upd up q p) (upd size p (size p + size q)) (upd low p (min (low p) (low q))) (many - 1) (joinL L x y) ∧ 1 ≤ many ∧ L x ≠ L y := by
 have hLne : L x ≠ L y := fun e => hpq (I.sep x y p q j k hx hy hp hq e)
 obtain ⟨d, hd⟩ := I.forest.deep
 have hpn := (hp.deeper I.forest.lt hd hx).1
 have hqn := (hq.deeper I.forest.lt hd hy).1
 have hpp := hp.isRoot
 have hqq := hq.isRoot
 have lp := I.lab x p j hx hp
 have lq := I.lab y q k hy hq
 have lpp := I.lab p p 0 hpn (.here hpp)
 have lqq := I.lab q q 0 hqn (.here hqq)
 have sp := I.siz x p j hx hp
 have sq := I.siz y q k hy hq
 have fwd : ∀ {z : Nat}, z < n → ∃ s j', Root up z s j' ∧ ∃ j2, Root (upd up q p) z (if s = q then p else s) j2 := by
  intro z hz
  obtain ⟨s, j', _, h'⟩ := I.forest.root hz
  exact ⟨s, j', h', h'.link hpp hqq hpq⟩
 -- which label decides which root
 have isq : ∀ {z s j' : Nat}, z < n → Root up z s j' → (s = q ↔ L z = L y) := fun hz h' =>
  ⟨fun e => by rw [← I.lab _ _ _ hz h', ← lq, e], fun e => I.sep _ _ _ _ _ _ hz hy h' hq e⟩
 have isp : ∀ {z s j' : Nat}, z < n → Root up z s j' → (s = p ↔ L z = L x) := fun hz h' =>
  ⟨fun e => by rw [← I.lab _ _ _ hz h', ← lp, e], fun e => I.sep _ _ _ _ _ _ hz hx h' hp e⟩
 have labq : ∀ {z : Nat}, L z = L y ∨ L z = L x → joinL L x y z = min (L x) (L y) := by
  intro z h; unfold joinL; split <;> omega
 have labo : ∀ {z : Nat}, L z ≠ L y → L z ≠ L x → joinL L x y z = L z := by
  intro z h h'; unfold joinL; split <;> omega
 refine ⟨⟨I.forest.link hpn hpp hqq hpq, I.canon.join hx hy, ?_, ?_, ?_, ?_⟩, ?_, hLne⟩
 ·intro z s j hz hs
  obtain ⟨s', j', h', j2, h2⟩ := fwd hz
  obtain ⟨e, _⟩ := h2.unique hs
  have hq' := isq hz h'
  have hp' := isp hz h'
  have hl := I.lab _ _ _ hz h'
  by_cases e1 : s' = q
  ·rw [if_pos e1] at e; subst e
   rw [upd_same, labq (.inl (hq'.1 e1)), lp, lq]
  ·rw [if_neg e1] at e; subst e
   by_cases e2 : s = p
   ·subst e2; rw [upd_same, labq (.inr (hp'.1 rfl)), lp, lq]
   ·rw [upd_ne _ _ _ _ e2, hl, labo (fun e => e1 (hq'.2 e)) (fun e => e2 (hp'.2 e))]
 ·intro a b r s j k ha hb h1 h2 e
  obtain ⟨s1, j1, h1', j2, h12⟩ := fwd ha
  obtain ⟨s2, j3, h2', j4, h22⟩ := fwd hb
  obtain ⟨e1, _⟩ := h12.unique h1
  obtain ⟨e2, _⟩ := h22.unique h2
  have q1 := isq ha h1'; have q2 := isq hb h2'
  have p1 := isp ha h1'; have p2 := isp hb h2'
  rw [joinL_iff] at e
  rcases e with e | ⟨ea, eb⟩
  ·have := I.sep _ _ _ _ _ _ ha hb h1' h2' e
   rw [e1, e2, this]
  ·have a1 : (if s1 = q then p else s1) = p := by
    rcases ea with ea | ea
    ·rw [p1.2 ea]; split <;> rfl
    ·rw [if_pos (q1.2 ea)]
   have b1 : (if s2 = q then p else s2) = p := by
    rcases eb with eb | eb
    ·rw [p2.2 eb]; split <;> rfl
    ·rw [if_pos (q2.2 eb)]
   rw [e1, e2, a1, b1]
 ·intro z s j hz hs
  obtain ⟨s', j', h', j2, h2⟩ := fwd hz
  obtain ⟨e, _⟩ := h2.unique hs
  have hq' := isq hz h'
  have hp' := isp hz h'
  have hsz := I.siz _ _ _ hz h'
  have both : cnt n (fun z => decide (joinL L x y z = min (L x) (L y))) = size p + size q := by
   rw [sp, sq, ← cnt_or (fun w _ => by simp; omega)]
   refine cnt_congr fun w _ => ?_
   by_cases c1 : L w = L x
   ·simp [c1, labq (.inr c1)]
   ·by_cases c2 : L w = L y
    ·simp [c2, labq (.inl c2)]
    ·have : joinL L x y w = L w := labo c2 c1
     simp [c1, c2, this]; omega
  by_cases e1 : s' = q
  ·rw [if_pos e1] at e; subst e
   rw [upd_same, labq (.inl (hq'.1 e1)), both]
  ·rw [if_neg e1] at e; subst e
   by_cases e2 : s = p
   ·subst e2; rw [upd_same, labq (.inr (hp'.1 rfl)), both]
   ·have n1 : L z ≠ L y := fun e => e1 (hq'.2 e)
    have n2 : L z ≠ L x := fun e => e2 (hp'.2 e)
    rw [upd_ne _ _ _ _ e2, hsz, labo n1 n2]
    refine cnt_congr fun w _ => ?_
    have : joinL L x y w = L z ↔ L w = L z := by unfold joinL; split <;> omega
    simp [this]
 ·rw [I.man]
  have hmx : max (L x) (L y) < n := by have := I.canon.lt hx; have := I.canon.lt hy; omega
  have hmm : L (max (L x) (L y)) = max (L x) (L y) := by
   have h1 := I.canon.idem x hx; have h2 := I.canon.idem y hy
   by_cases h : L x ≤ L y
   ·rw [Nat.max_eq_right h]; exact h2
   ·rw [Nat.max_eq_left (by omega)]; exact h1
  rw [cnt_remove (q := fun z => decide (joinL L x y z = z)) hmx (by simp [hmm])]
  ·rfl
  ·intro z hz
   by_cases c : z = max (L x) (L y)
   ·subst c
    have : joinL L x y (max (L x) (L y)) = min (L x) (L y) := by unfold joinL; rw [hmm, if_pos rfl]
    simp [this]; omega
   ·have := I.canon.le z hz
    by_cases c2 : L z = max (L x) (L y)
    ·have h3 : joinL L x y z = min (L x) (L y) := by unfold joinL; rw [if_pos c2]
     have : ¬ L z = z := by omega
     simp [h3, this]; omega
    ·have h3 : joinL L x y z = L z := by unfold joinL; rw [if_neg c2]
     simp [h3, c]
 ·rw [I.man]
  have hxl := I.canon.lt hx
  have : cnt n (fun z => decide (L z = z)) = cnt n (fun z => decide (L z = z) && decide (z ≠ L x)) + 1 :=
   cnt_remove hxl (by simp [I.canon.idem x hx]) (fun z _ => rfl)
  omega
end Go.Proofs.YtfglkgkihafcpaaGreatDoor.Pl
namespace Go.Proofs.YtfglkgkihafcpaaGreatDoor.Pl
def labs (es : List (Nat × Nat)) : Nat → Nat := es.foldl (fun L e => joinL L e.1 e.2) (fun x => x)
def Conn (es : List (Nat × Nat)) (x y : Nat) : Prop := labs es x = labs es y
instance (es : List (Nat × Nat)) (x y : Nat) : Decidable (Conn es x y) := inferInstanceAs (Decidable (labs es x = labs es y))
theorem labs_snoc (es : List (Nat × Nat)) (e : Nat × Nat) : labs (es ++ [e]) = joinL (labs es) e.1 e.2 := by
 unfold labs; rw [List.foldl_append]; rfl
theorem list_snoc_ind {α : Type} {P : List α → Prop} (nil : P []) (snoc : ∀ l x, P l → P (l ++ [x])) (l : List α) : P l := by
 have key : ∀ n (l : List α), l.length = n → P l := by
  intro n
  induction n with
  | zero => intro l h; rw [List.eq_nil_of_length_eq_zero h]; exact nil
  | succ n ih =>
   intro l h
   have hne : l ≠ [] := by intro e; simp [e] at h
   rw [← List.dropLast_concat_getLast hne]
   exact snoc _ _ (ih _ (by simp [h]))
 exact key _ l rfl
theorem labs_canon (es : List (Nat × Nat)) (n : Nat) : Canon n (labs es) := by
 have key : (∀ x, labs es x ≤ x) ∧ ∀ x, labs es (labs es x) = labs es x := by
  induction es using list_snoc_ind with
  | nil => exact ⟨fun _ => Nat.le_refl _, fun _ => rfl⟩
  | snoc l e ih =>
   rw [labs_snoc]
   have C : ∀ n, Canon n (labs l) := fun n => ⟨fun x _ => ih.1 x, fun x _ => ih.2 x⟩
   exact ⟨fun x => ((C (x + e.1 + e.2 + 1)).join (x := e.1) (y := e.2) (by omega) (by omega)).le x (by omega),
    fun x => ((C (x + e.1 + e.2 + 1)).join (x := e.1) (y := e.2) (by omega) (by omega)).idem x (by omega)⟩
 exact ⟨fun x _ => key.1 x, fun x _ => key.2 x⟩
theorem labs_le (es : List (Nat × Nat)) (x : Nat) : labs es x ≤ x := (labs_canon es (x + 1)).le x (by omega)
theorem Conn.refl (es : List (Nat × Nat)) (x : Nat) : Conn es x x := rfl
theorem Conn.symm {es : List (Nat × Nat)} {x y : Nat} (h : Conn es x y) : Conn es y x := Eq.symm h
theorem Conn.trans {es : List (Nat × Nat)} {x y z : Nat} (h : Conn es x y) (g : Conn es y z) : Conn es x z := Eq.trans h g
theorem Conn.snoc_iff {es : List (Nat × Nat)} {e : Nat × Nat} {x y : Nat} :
  Conn (es ++ [e]) x y ↔ Conn es x y ∨ ((Conn es x e.1 ∨ Conn es x e.2) ∧ (Conn es y e.1 ∨ Conn es y e.2)) := by
 unfold Conn; rw [labs_snoc, joinL_iff]
theorem Conn.ind {es : List (Nat × Nat)} {R : Nat → Nat → Prop} (refl : ∀ x, R x x) (symm : ∀ x y, R x y → R y x) (trans : ∀ x y z, R x y → R y z → R x z)
  (edge : ∀ e, e ∈ es → R e.1 e.2) {x y : Nat} (h : Conn es x y) : R x y := by
 induction es using list_snoc_ind generalizing x y with
 | nil => have : x = y := h; rw [this]; exact refl y
 | snoc l e ih =>
  have ih' : ∀ {x y}, Conn l x y → R x y := fun h => ih (fun e he => edge e (List.mem_append_left _ he)) h
  have he := edge e (by simp)
  rcases Conn.snoc_iff.1 h with h | ⟨h1, h2⟩
  ·exact ih' h
  ·have a1 : R x e.1 := by
    rcases h1 with h1 | h1
    ·exact ih' h1
    ·exact trans _ _ _ (ih' h1) (symm _ _ he)
   have a2 : R y e.1 := by
    rcases h2 with h2 | h2
    ·exact ih' h2
    ·exact trans _ _ _ (ih' h2) (symm _ _ he)
   exact trans _ _ _ a1 (symm _ _ a2)
theorem Conn.of_mem {es : List (Nat × Nat)} {a b : Nat} (h : (a, b) ∈ es) : Conn es a b := by
 induction es using list_snoc_ind with
 | nil => cases h
 | snoc l e ih =>
  rw [Conn.snoc_iff]
  rcases List.mem_append.1 h with h | h
  ·exact .inl (ih h)
  ·simp at h; subst h; exact .inr ⟨.inl rfl, .inr rfl⟩
theorem Conn.mono {es fs : List (Nat × Nat)} (h : ∀ e, e ∈ es → e ∈ fs) {x y : Nat} (c : Conn es x y) : Conn fs x y :=
 c.ind (Conn.refl _) (fun _ _ h => h.symm) (fun _ _ _ h g => h.trans g) (fun _ he => Conn.of_mem (h _ he))
theorem Conn.mono' {es fs : List (Nat × Nat)} (h : ∀ a b, (a, b) ∈ es → (a, b) ∈ fs ∨ (b, a) ∈ fs) {x y : Nat} (c : Conn es x y) : Conn fs x y :=
 c.ind (Conn.refl _) (fun _ _ h => h.symm) (fun _ _ _ h g => h.trans g) (fun e he => by
  rcases h e.1 e.2 he with h | h
  ·exact Conn.of_mem h
  ·exact (Conn.of_mem h).symm)
theorem canon_unique {n : Nat} {L L' : Nat → Nat} (C : Canon n L) (C' : Canon n L') (h : ∀ x y, x < n → y < n → (L x = L y ↔ L' x = L' y)) : ∀ x, x < n → L x = L' x := by
 intro x hx
 have h1 := C.le x hx
 have h2 := C'.le x hx
 have a : L (L' x) = L x := (h _ _ (by omega) hx).2 (C'.idem x hx)
 have b : L' (L x) = L' x := (h _ _ (by omega) hx).1 (C.idem x hx)
 have c := C.le (L' x) (by omega)
 have d := C'.le (L x) (by omega)
 omega
def parts (n : Nat) (L : Nat → Nat) : List (List Nat) :=
 ((List.range n).filter (fun x => decide (L x = x))).map (fun r => (List.range n).filter (fun x => decide (L x = r)))
theorem parts_congr {n : Nat} {L L' : Nat → Nat} (h : ∀ x, x < n → L x = L' x) : parts n L = parts n L' := by
 unfold parts
 rw [List.filter_congr (q := fun x => decide (L' x = x)) (fun x hx => by rw [h x (List.mem_range.1 hx)])]
 refine List.map_congr_left (fun r _ => List.filter_congr (fun x hx => by rw [h x (List.mem_range.1 hx)]))
def isRoot (L : Nat → Nat) (x : Nat) : Bool := decide (L x = x)
theorem parts_eq (n : Nat) (L : Nat → Nat) : parts n L = ((List.range n).filter (isRoot L)).map (fun r => (List.range n).filter (fun x => decide (L x = r))) := rfl
theorem roots_length (n : Nat) (L : Nat → Nat) : ((List.range n).filter (isRoot L)).length = cnt n (isRoot L) := by
 rw [← List.countP_eq_length_filter]; rfl
theorem parts_length (n : Nat) (L : Nat → Nat) : (parts n L).length = cnt n (isRoot L) := by
 rw [parts_eq, List.length_map, roots_length]
theorem roots_get {n : Nat} {p : Nat → Bool} {r : Nat} (hr : r < n) (h : p r = true) : ((List.range n).filter p)[cnt r p]? = some r := by
 induction n with
 | zero => omega
 | succ n ih =>
  rw [List.range_succ, List.filter_append]
  by_cases e : r = n
  ·subst e
   have hl : ((List.range r).filter p).length = cnt r p := by rw [← List.countP_eq_length_filter]; rfl
   rw [List.getElem?_append_right (by omega), hl]
   simp [h]
  ·have := ih (by omega)
   rw [List.getElem?_append_left (List.getElem?_eq_some_iff.1 this).1]
   exact this
theorem cnt_lt {n r : Nat} {p : Nat → Bool} (hr : r < n) (h : p r = true) : cnt r p < cnt n p := by
 have := roots_get hr h
 have h2 := (List.getElem?_eq_some_iff.1 this).1
 rw [← List.countP_eq_length_filter] at h2
 exact h2
theorem parts_succ_root {n : Nat} {L : Nat → Nat} (C : Canon (n + 1) L) (h : L n = n) : parts (n + 1) L = parts n L ++ [[n]] := by
 have hne : ∀ r, r < n → decide (L n = r) = false := fun r hr => by simp [h]; omega
 unfold parts
 rw [List.range_succ, List.filter_append, List.map_append]
 have e1 : ([n].filter fun x => decide (L x = x)) = [n] := by simp [h]
 rw [e1]
 congr 1
 ·refine List.map_congr_left fun r hr => ?_
  have hr' := List.mem_range.1 (List.mem_filter.1 hr).1
  rw [List.filter_append]
  simp [hne r hr']
 ·have : (List.range n).filter (fun x => decide (L x = n)) = [] := by
   rw [List.filter_eq_nil_iff]
   intro x hx e
   have h1 := List.mem_range.1 hx
   have h2 := C.le x (by omega)
   simp at e; omega
  simp [this, h]
theorem parts_succ_other {n : Nat} {L : Nat → Nat} (C : Canon (n + 1) L) (h : L n ≠ n) :
  parts (n + 1) L = (parts n L).modify (cnt (L n) (isRoot L)) (fun p => p ++ [n]) := by
 have hle := C.le n (by omega)
 have hlt : L n < n := by omega
 have hroot : isRoot L (L n) = true := by simp [isRoot, C.idem n (by omega)]
 have e1 : (List.range (n + 1)).filter (isRoot L) = (List.range n).filter (isRoot L) := by
  rw [List.range_succ, List.filter_append]; simp [isRoot, h]
 apply List.ext_getElem?
 intro i
 rw [parts_eq, parts_eq, e1, List.getElem?_modify, List.getElem?_map, List.getElem?_map]
 by_cases hi : cnt (L n) (isRoot L) = i
 ·subst hi
  rw [roots_get hlt hroot]
  simp [List.range_succ, List.filter_append]
 ·cases hr : ((List.range n).filter (isRoot L))[i]? with
  | none => simp
  | some r =>
   have hmem := List.mem_of_getElem? hr
   rw [List.mem_filter, List.mem_range] at hmem
   have hne : ¬ L n = r := by
    intro e
    subst e
    have h2 := roots_get (p := isRoot L) hmem.1 hmem.2
    have hl1 := (List.getElem?_eq_some_iff.1 hr)
    have hl2 := (List.getElem?_eq_some_iff.1 h2)
    have nd : ((List.range n).filter (isRoot L)).Nodup := List.Pairwise.filter _ List.nodup_range
    exact hi ((List.getElem_inj nd).1 (hl2.2.trans hl1.2.symm))
   simp [hi, List.range_succ, List.filter_append, hne]
end Go.Proofs.YtfglkgkihafcpaaGreatDoor.Pl
namespace Go.Proofs.YtfglkgkihafcpaaGreatDoor.Pl
structure E where
 id : Nat
 a : Nat
 b : Nat
 deriving DecidableEq
def Sorted (es : List E) : Prop := es.Pairwise (fun e f => e.id < f.id)
def posOf (es : List E) (t : Int) : Nat := es.countP (fun e => decide ((e.id : Int) < t))
def hasId (es : List E) (t : Int) : Bool := es.any (fun e => decide ((e.id : Int) = t))
theorem posOf_le (es : List E) (t : Int) : posOf es t ≤ es.length := List.countP_le_length
theorem posOf_cons (e : E) (es : List E) (t : Int) : posOf (e :: es) t = posOf es t + (if (e.id : Int) < t then 1 else 0) := by
 unfold posOf; rw [List.countP_cons]; simp
theorem posOf_eq {es : List E} {t : Int} {i : Nat} (hi : i ≤ es.length) (h1 : ∀ k e, k < i → es[k]? = some e → (e.id : Int) < t) (h2 : ∀ k e, i ≤ k → es[k]? = some e → t ≤ (e.id : Int)) : posOf es t = i := by
 induction es generalizing i with
 | nil => simp at hi; subst hi; rfl
 | cons e es ih =>
  rw [posOf_cons]
  cases i with
  | zero =>
   have : posOf es t = 0 := ih (Nat.zero_le _) (fun k _ hk => by omega) (fun k f _ hf => h2 (k + 1) f (by omega) (by simpa using hf))
   have h := h2 0 e (Nat.le_refl _) rfl
   rw [this, if_neg (by omega)]
  | succ i =>
   have : posOf es t = i := ih (by simpa using hi) (fun k f hk hf => h1 (k + 1) f (by omega) (by simpa using hf)) (fun k f hk hf => h2 (k + 1) f (by omega) (by simpa using hf))
   have h := h1 0 e (by omega) rfl
   rw [this, if_pos h]
theorem Sorted.lt {es : List E} (h : Sorted es) {i j : Nat} {e f : E} (hi : es[i]? = some e) (hj : es[j]? = some f) (hij : i < j) : e.id < f.id := by
 obtain ⟨h1, h2⟩ := List.getElem?_eq_some_iff.1 hi
 obtain ⟨h3, h4⟩ := List.getElem?_eq_some_iff.1 hj
 have := List.pairwise_iff_getElem.1 h i j h1 h3 hij
 rw [h2, h4] at this; exact this
theorem hasId_at {es : List E} (hs : Sorted es) {t : Int} {i : Nat} (h1 : ∀ k e, k < i → es[k]? = some e → (e.id : Int) < t) (h2 : ∀ k e, i ≤ k → es[k]? = some e → t ≤ (e.id : Int)) :
  hasId es t = (match es[i]? with | some e => decide ((e.id : Int) = t) | none => false) := by
 cases he : es[i]? with
 | none =>
  simp only [hasId, List.any_eq_false, decide_eq_true_eq]
  intro e hm
  obtain ⟨k, hk⟩ := List.mem_iff_getElem?.1 hm
  have hki : k < i := by
   have a := (List.getElem?_eq_some_iff.1 hk).1
   have b := List.getElem?_eq_none_iff.1 he
   omega
  have := h1 k e hki hk
  omega
 | some e =>
  simp only [hasId]
  rw [Bool.eq_iff_iff, List.any_eq_true]
  constructor
  ·rintro ⟨f, hf, hft⟩
   obtain ⟨k, hk⟩ := List.mem_iff_getElem?.1 hf
   simp at hft
   by_cases h : k < i
   ·have := h1 k f h hk; omega
   ·by_cases h' : k = i
    ·subst h'; rw [he] at hk; cases hk; simpa using hft
    ·have a := hs.lt he hk (by omega)
     have b := h2 i e (Nat.le_refl _) he
     omega
  ·intro h
   exact ⟨e, List.mem_of_getElem? he, h⟩
end Go.Proofs.YtfglkgkihafcpaaGreatDoor.Pl
namespace Go.Proofs.YtfglkgkihafcpaaGreatDoor.Pl
def ends (es : List E) : List (Nat × Nat) := es.map fun e => (e.a, e.b)
def cutE (es : List E) (R : Nat → Bool) : Int := (es.countP (fun e => R e.a != R e.b) : Nat)
theorem cutE_snoc (es : List E) (e : E) (R : Nat → Bool) : cutE (es ++ [e]) R = cutE es R + ind (R e.a && !R e.b) + ind (R e.b && !R e.a) := by
 unfold cutE
 rw [List.countP_append]
 cases h1 : R e.a <;> cases h2 : R e.b <;> simp [h1, h2, ind]
def sans (es : List E) (took : List Nat) : List E := es.filter (fun e => !took.contains e.id)
theorem mem_sans {es : List E} {took : List Nat} {e : E} : e ∈ sans es took ↔ e ∈ es ∧ e.id ∉ took := by
 simp [sans]
theorem len_le_of_mem : ∀ {l k : List Nat}, l.Nodup → (∀ i, i ∈ l → i ∈ k) → l.length ≤ k.length
 | [], _, _, _ => Nat.zero_le _
 | a :: l, k, hn, h => by
  rw [List.nodup_cons] at hn
  have ha := h a (List.mem_cons_self ..)
  have := len_le_of_mem (l := l) (k := k.erase a) hn.2 (fun i hi => by
   have hne : i ≠ a := fun e => hn.1 (e ▸ hi)
   exact (List.mem_erase_of_ne hne).2 (h i (List.mem_cons_of_mem _ hi)))
  rw [List.length_erase_of_mem ha] at this
  have : 0 < k.length := List.length_pos_of_mem ha
  simp only [List.length_cons]
  omega
end Go.Proofs.YtfglkgkihafcpaaGreatDoor.Pl
namespace Go.Proofs.YtfglkgkihafcpaaGreatDoor.Pl
end Go.Proofs.YtfglkgkihafcpaaGreatDoor.Pl
namespace Go.Proofs.YtfglkgkihafcpaaGreatDoor.Pl
inductive Anc (T : Nat → Nat) (up : Nat → Option (Nat × Nat)) : Nat → Nat → Prop where
 | refl (p : Nat) : Anc T up p p
 | step {p q : Nat} {s : Nat × Nat} (h : up p = some s) (t : Anc T up (T s.2) q) : Anc T up p q
namespace Anc
variable {T : Nat → Nat} {up : Nat → Option (Nat × Nat)}
theorem trans {p q r : Nat} (h : Anc T up p q) (g : Anc T up q r) : Anc T up p r := by
 induction h with
 | refl => exact g
 | step h _ ih => exact .step h (ih g)
theorem of_none {p q : Nat} (h : Anc T up p q) (hn : up p = none) : q = p := by
 cases h with
 | refl => rfl
 | step h _ => rw [hn] at h; cases h
theorem step_iff {p q : Nat} {s : Nat × Nat} (h : up p = some s) : Anc T up p q ↔ q = p ∨ Anc T up (T s.2) q := by
 constructor
 ·intro g
  cases g with
  | refl => exact .inl rfl
  | step h' t => rw [h] at h'; cases h'; exact .inr t
 ·rintro (rfl | t)
  ·exact .refl _
  ·exact .step h t
theorem total {p q r : Nat} (h : Anc T up p q) (g : Anc T up p r) : Anc T up q r ∨ Anc T up r q := by
 induction h with
 | refl => exact .inl g
 | @step p q s h t ih =>
  cases g with
  | refl => exact .inr (.step h t)
  | step h' t' => rw [h] at h'; cases h'; exact ih t'
theorem deep {d : Nat → Nat} (hd : ∀ p s, up p = some s → d (T s.2) < d p) {p q : Nat} (h : Anc T up p q) : d q ≤ d p ∧ (q ≠ p → d q < d p) := by
 induction h with
 | refl => exact ⟨Nat.le_refl _, fun h => absurd rfl h⟩
 | step h _ ih => have := hd _ _ h; exact ⟨by omega, fun _ => by omega⟩
theorem antisymm {d : Nat → Nat} (hd : ∀ p s, up p = some s → d (T s.2) < d p) {p q : Nat} (h : Anc T up p q) (g : Anc T up q p) : p = q := by
 apply Classical.byContradiction
 intro hne
 have a := (h.deep hd).2 (fun e => hne e.symm)
 have b := (g.deep hd).1
 omega
end Anc
structure BInv (n : Nat) (es : List E) (T : Nat → Nat) (up : Nat → Option (Nat × Nat)) : Prop where
 canon : Canon n T
 over : ∀ e, e ∈ es → e.a < n ∧ e.b < n
 inj : ∀ e f, e ∈ es → f ∈ es → e.id = f.id → e = f
 key : ∀ p s, up p = some s → p < n ∧ T p = p ∧ s.2 < n
 deep : ∃ d : Nat → Nat, ∀ p s, up p = some s → d (T s.2) < d p
 edge : ∀ p s, up p = some s → ∃ e, e ∈ es ∧ e.id = s.1 ∧ ((T e.a = p ∧ T e.b = T s.2) ∨ (T e.b = p ∧ T e.a = T s.2))
 uniq : ∀ p q s s', up p = some s → up q = some s' → s.1 = s'.1 → p = q
 loc : ∀ f, f ∈ es → T f.a = T f.b ∨ ∃ p s, up p = some s ∧ s.1 = f.id
 twice : ∀ u v, u < n → v < n → T u = T v → ∀ id, Conn (ends (sans es [id])) u v
theorem BInv.perm {n : Nat} {es fs : List E} {T : Nat → Nat} {up : Nat → Option (Nat × Nat)} (h : BInv n es T up) (p : ∀ e, e ∈ es ↔ e ∈ fs) : BInv n fs T up :=
 ⟨h.canon, fun e he => h.over e ((p e).2 he), fun e f he hf => h.inj e f ((p e).2 he) ((p f).2 hf), h.key, h.deep,
  fun q s hq => let ⟨e, he, r⟩ := h.edge q s hq; ⟨e, (p e).1 he, r⟩, h.uniq, fun f hf => h.loc f ((p f).2 hf), fun u v hu hv ht id => (h.twice u v hu hv ht id).mono fun e he => by
   obtain ⟨f, hf, rfl⟩ := List.mem_map.1 he
   rw [mem_sans] at hf
   exact List.mem_map.2 ⟨f, mem_sans.2 ⟨(p f).1 hf.1, hf.2⟩, rfl⟩⟩
theorem mem_ends {es : List E} {e : E} (h : e ∈ es) : (e.a, e.b) ∈ ends es := List.mem_map.2 ⟨e, h, rfl⟩
theorem ends_sub {es fs : List E} (h : ∀ e, e ∈ es → e ∈ fs) : ∀ e, e ∈ ends es → e ∈ ends fs := fun e he => by
 obtain ⟨f, hf, rfl⟩ := List.mem_map.1 he
 exact mem_ends (h f hf)
theorem ends_snoc (es : List E) (e : E) : ends (es ++ [e]) = ends es ++ [(e.a, e.b)] := by simp [ends]
theorem mem_sans1 {es : List E} {id : Nat} {e : E} : e ∈ sans es [id] ↔ e ∈ es ∧ e.id ≠ id := by
 rw [mem_sans]; simp
namespace BInv
variable {n : Nat} {es : List E} {T : Nat → Nat} {up : Nat → Option (Nat × Nat)}
theorem empty (n : Nat) : BInv n [] (fun x => x) (fun _ => none) :=
 ⟨⟨fun _ _ => Nat.le_refl _, fun _ _ => rfl⟩, (fun _ h => by cases h), (fun _ _ h => by cases h), (fun _ _ h => by cases h), ⟨fun _ => 0, fun _ _ h => by cases h⟩, (fun _ _ h => by cases h), (fun _ _ _ _ h => by cases h),
  (fun _ h => by cases h), fun u v _ _ h id => by rw [show u = v from h]; exact Conn.refl _ _⟩
theorem whole (h : BInv n es T up) {u v : Nat} (hu : u < n) (hv : v < n) (ht : T u = T v) : Conn (ends es) u v :=
 (h.twice u v hu hv ht 0).mono (ends_sub fun _ he => (mem_sans1.1 he).1)
theorem side (h : BInv n es T up) {p : Nat} {s : Nat × Nat} (hp : up p = some s) {f : E} (hf : f ∈ es) (hne : f.id ≠ s.1) : Anc T up (T f.a) p ↔ Anc T up (T f.b) p := by
 rcases h.loc f hf with e | ⟨p', s', hp', e⟩
 ·rw [e]
 ·have hpp : p ≠ p' := by
   intro hh
   subst hh
   rw [hp] at hp'; cases hp'; exact hne e.symm
  obtain ⟨g, hg, hge, hab⟩ := h.edge p' s' hp'
  obtain rfl := h.inj f g hf hg (by rw [hge, e])
  rcases hab with ⟨ha, hb⟩ | ⟨ha, hb⟩
  ·rw [ha, hb, Anc.step_iff hp']; simp [hpp]
  ·rw [ha, hb, Anc.step_iff hp']; simp [hpp]
theorem sides (h : BInv n es T up) {p : Nat} {s : Nat × Nat} (hp : up p = some s) {fs : List E} (hs : ∀ f, f ∈ fs → f ∈ es ∧ f.id ≠ s.1) {u v : Nat} (c : Conn (ends fs) u v) : Anc T up (T u) p ↔ Anc T up (T v) p :=
 c.ind (R := fun u v => Anc T up (T u) p ↔ Anc T up (T v) p) (fun _ => Iff.rfl) (fun _ _ h => h.symm) (fun _ _ _ h g => h.trans g) fun e he => by
  obtain ⟨f, hf, rfl⟩ := List.mem_map.1 he
  exact h.side hp (hs f hf).1 (hs f hf).2
theorem not_up (h : BInv n es T up) {p : Nat} {s : Nat × Nat} (hp : up p = some s) : ¬ Anc T up (T s.2) p := by
 obtain ⟨d, hd⟩ := h.deep
 intro g
 have a := (g.deep hd).1
 have b := hd _ _ hp
 omega
theorem tlt (h : BInv n es T up) {u : Nat} (hu : u < n) : T u < n := h.canon.lt hu
theorem tt (h : BInv n es T up) {u : Nat} (hu : u < n) : T (T u) = T u := h.canon.idem u hu
theorem link_conn (h : BInv n es T up) {p : Nat} {s : Nat × Nat} (hp : up p = some s) {id : Nat} (hid : s.1 ≠ id) : Conn (ends (sans es [id])) p (T s.2) := by
 obtain ⟨hp1, hp2, hp3⟩ := h.key p s hp
 obtain ⟨e, he, hei, hab⟩ := h.edge p s hp
 obtain ⟨ha, hb⟩ := h.over e he
 have hc : Conn (ends (sans es [id])) e.a e.b := Conn.of_mem (mem_ends (mem_sans1.2 ⟨he, by rw [hei]; exact hid⟩))
 rcases hab with ⟨h1, h2⟩ | ⟨h1, h2⟩
 ·exact ((h.twice p e.a hp1 ha (by rw [h1, hp2]) id).trans hc).trans (h.twice e.b (T s.2) hb (h.tlt hp3) (by rw [h2, h.tt hp3]) id)
 ·exact ((h.twice p e.b hp1 hb (by rw [h1, hp2]) id).trans hc.symm).trans (h.twice e.a (T s.2) ha (h.tlt hp3) (by rw [h2, h.tt hp3]) id)
theorem chain (h : BInv n es T up) {id : Nat} {p q : Nat} (g : Anc T up p q) (hid : ∀ r s, Anc T up p r → Anc T up r q → r ≠ q → up r = some s → s.1 ≠ id) : Conn (ends (sans es [id])) p q := by
 induction g with
 | refl => exact Conn.refl _ _
 | @step p q s hp t ih =>
  by_cases e : p = q
  ·rw [e]; exact Conn.refl _ _
  ·exact (h.link_conn hp (hid p s (.refl _) (.step hp t) e hp)).trans (ih fun r s' h1 h2 => hid r s' (.step hp h1) h2)
theorem anc_conn (h : BInv n es T up) {p q : Nat} (g : Anc T up p q) : Conn (ends es) p q := by
 induction g with
 | refl => exact Conn.refl _ _
 | @step p q s hp t ih =>
  exact Conn.trans ((h.link_conn hp (id := s.1 + 1) (by omega)).mono (ends_sub fun _ he => (mem_sans1.1 he).1)) ih
theorem anc_key (h : BInv n es T up) {p q : Nat} (g : Anc T up p q) (hp : p < n) (ht : T p = p) : q < n ∧ T q = q := by
 induction g with
 | refl => exact ⟨hp, ht⟩
 | step hs _ ih => obtain ⟨_, _, h3⟩ := h.key _ _ hs; exact ih (h.tlt h3) (h.tt h3)
theorem root (h : BInv n es T up) (p : Nat) : ∃ r, Anc T up p r ∧ up r = none := by
 obtain ⟨d, hd⟩ := h.deep
 have key : ∀ m p, d p = m → ∃ r, Anc T up p r ∧ up r = none := by
  intro m
  induction m using Nat.strongRecOn with
  | _ m ih =>
   intro p hm
   cases hp : up p with
   | none => exact ⟨p, .refl _, hp⟩
   | some s =>
    have := hd p s hp
    obtain ⟨r, h1, h2⟩ := ih (d (T s.2)) (by omega) (T s.2) rfl
    exact ⟨r, .step hp h1, h2⟩
 exact key _ p rfl
theorem roots (h : BInv n es T up) {u v r : Nat} (c : Conn (ends es) u v) (hr : up r = none) : Anc T up (T u) r ↔ Anc T up (T v) r :=
 c.ind (R := fun u v => Anc T up (T u) r ↔ Anc T up (T v) r) (fun _ => Iff.rfl) (fun _ _ h => h.symm) (fun _ _ _ h g => h.trans g) fun e he => by
  obtain ⟨f, hf, rfl⟩ := List.mem_map.1 he
  rcases h.loc f hf with e | ⟨p', s', hp', e⟩
  ·simp only [e]
  ·obtain ⟨g, hg, hge, hab⟩ := h.edge p' s' hp'
   obtain rfl := h.inj f g hf hg (by rw [hge, e])
   have hpp : r ≠ p' := fun hh => by rw [← hh, hr] at hp'; cases hp'
   rcases hab with ⟨ha, hb⟩ | ⟨ha, hb⟩
   ·simp only [ha, hb]; rw [Anc.step_iff hp']; simp [hpp]
   ·simp only [ha, hb]; rw [Anc.step_iff hp']; simp [hpp]
theorem cut (h : BInv n es T up) {p : Nat} {s : Nat × Nat} (hp : up p = some s) : ¬ Conn (ends (sans es [s.1])) p s.2 := by
 intro c
 obtain ⟨h1, h2, h3⟩ := h.key p s hp
 have := h.sides hp (fun f hf => mem_sans1.1 hf) c
 rw [h2] at this
 exact h.not_up hp (this.1 (.refl _))
theorem keeps (h : BInv n es T up) {id : Nat} (hn : ∀ p s, up p = some s → s.1 ≠ id) {u v : Nat} (c : Conn (ends es) u v) : Conn (ends (sans es [id])) u v :=
 c.ind (Conn.refl _) (fun _ _ h => h.symm) (fun _ _ _ h g => h.trans g) fun e he => by
  obtain ⟨f, hf, rfl⟩ := List.mem_map.1 he
  by_cases hfi : f.id = id
  ·rcases h.loc f hf with e | ⟨p, s, hp, e⟩
   ·obtain ⟨ha, hb⟩ := h.over f hf
    exact h.twice _ _ ha hb e id
   ·exact absurd (by rw [e, hfi]) (hn p s hp)
  ·exact Conn.of_mem (mem_ends (mem_sans1.2 ⟨hf, hfi⟩))
theorem bridge_iff (h : BInv n es T up) {e : E} (he : e ∈ es) : ¬ Conn (ends (sans es [e.id])) e.a e.b ↔ ∃ p s, up p = some s ∧ s.1 = e.id := by
 constructor
 ·intro hc
  apply Classical.byContradiction
  intro hn
  exact hc (h.keeps (fun p s hp hs => hn ⟨p, s, hp, hs⟩) (Conn.of_mem (mem_ends he)))
 ·rintro ⟨p, s, hp, hs⟩ c
  obtain ⟨h1, h2, h3⟩ := h.key p s hp
  have hsub : Conn (ends (sans es [s.1])) p s.2 := by
   have c0 : Conn (ends es) p s.2 := ((h.link_conn hp (id := s.1 + 1) (by omega)).mono (ends_sub fun _ he => (mem_sans1.1 he).1)).trans (h.whole (h.tlt h3) h3 (h.tt h3))
   rw [hs]
   refine c0.ind (Conn.refl _) (fun _ _ h => h.symm) (fun _ _ _ h g => h.trans g) fun x hx => ?_
   obtain ⟨f, hf, rfl⟩ := List.mem_map.1 hx
   by_cases hfi : f.id = e.id
   ·obtain rfl := h.inj f e hf he hfi
    exact c
   ·exact Conn.of_mem (mem_ends (mem_sans1.2 ⟨hf, hfi⟩))
  exact h.cut hp hsub
theorem twice_iff (h : BInv n es T up) {u v : Nat} (hu : u < n) (hv : v < n) : T u = T v ↔ Conn (ends es) u v ∧ ∀ e, e ∈ es → Conn (ends (sans es [e.id])) u v := by
 constructor
 ·intro ht
  exact ⟨h.whole hu hv ht, fun e _ => h.twice u v hu hv ht e.id⟩
 ·rintro ⟨c, hc⟩
  obtain ⟨d, hd⟩ := h.deep
  have same : ∀ p s, up p = some s → (Anc T up (T u) p ↔ Anc T up (T v) p) := fun p s hp => by
   obtain ⟨e, he, hei, _⟩ := h.edge p s hp
   have := hc e he
   rw [hei] at this
   exact h.sides hp (fun f hf => mem_sans1.1 hf) this
  have both : ∀ p, Anc T up (T u) p ↔ Anc T up (T v) p := fun p => by
   cases hp : up p with
   | none => exact h.roots c hp
   | some s => exact same p s hp
  exact Anc.antisymm hd ((both _).2 (.refl _)) ((both _).1 (.refl _))
theorem remove (h : BInv n es T up) {q : Nat} {s0 : Nat × Nat} (hq : up q = some s0) : BInv n (sans es [s0.1]) T (upd up q none) := by
 have hu : ∀ p s, upd up q none p = some s → p ≠ q ∧ up p = some s := fun p s hp => by
  by_cases e : p = q
  ·subst e; rw [upd_same] at hp; cases hp
  ·rw [upd_ne _ _ _ _ e] at hp; exact ⟨e, hp⟩
 refine ⟨h.canon, fun e he => h.over e (mem_sans1.1 he).1, fun e f he hf => h.inj e f (mem_sans1.1 he).1 (mem_sans1.1 hf).1, fun p s hp => h.key p s (hu p s hp).2, ?_, fun p s hp => ?_, fun p p' s s' hp hp' => h.uniq p p' s s' (hu _ _ hp).2 (hu _ _ hp').2, fun f hf => ?_, fun u v hu' hv ht id => ?_⟩
 ·obtain ⟨d, hd⟩ := h.deep
  exact ⟨d, fun p s hp => hd p s (hu p s hp).2⟩
 ·obtain ⟨h1, h2⟩ := hu p s hp
  obtain ⟨e, he, hei, r⟩ := h.edge p s h2
  exact ⟨e, mem_sans1.2 ⟨he, fun hh => h1 (h.uniq p q s s0 h2 hq (by rw [← hei, hh]))⟩, hei, r⟩
 ·obtain ⟨hf1, hf2⟩ := mem_sans1.1 hf
  rcases h.loc f hf1 with e | ⟨p, s, hp, e⟩
  ·exact .inl e
  ·refine .inr ⟨p, s, ?_, e⟩
   rw [upd_ne]; exact hp
   intro hpq; subst hpq; rw [hq] at hp; cases hp; exact hf2 e.symm
 ·have c := h.twice u v hu' hv ht id
  obtain ⟨e, he, hei, hab⟩ := h.edge q s0 hq
  by_cases hid : id = s0.1
  ·subst hid
   exact c.mono (ends_sub fun f hf => mem_sans1.2 ⟨hf, (mem_sans1.1 hf).2⟩)
  ·have c2 : Conn (ends (sans (sans es [s0.1]) [id] ++ [e])) u v := c.mono (ends_sub fun f hf => by
    obtain ⟨h1, h2⟩ := mem_sans1.1 hf
    by_cases e1 : f.id = s0.1
    ·obtain rfl := h.inj f e h1 he (by rw [e1, hei])
     simp
    ·exact List.mem_append_left _ (mem_sans1.2 ⟨mem_sans1.2 ⟨h1, e1⟩, h2⟩))
   rw [ends_snoc, Conn.snoc_iff] at c2
   have sd : ∀ {a b : Nat}, Conn (ends (sans (sans es [s0.1]) [id])) a b → (Anc T up (T a) q ↔ Anc T up (T b) q) := fun c => h.sides hq (fun f hf => mem_sans1.1 (mem_sans1.1 hf).1) c
   have n1 := h.not_up hq
   have n2 : Anc T up q q := .refl _
   rcases c2 with c2 | ⟨c3 | c3, c4 | c4⟩
   ·exact c2
   ·exact c3.trans c4.symm
   ·exfalso
    have x1 := sd c3
    have x2 := sd c4
    simp only at x1 x2
    rw [ht] at x1
    rcases hab with ⟨ha, hb⟩ | ⟨ha, hb⟩
    ·rw [ha] at x1; rw [hb] at x2; exact n1 (x2.1 (x1.2 n2))
    ·rw [ha] at x2; rw [hb] at x1; exact n1 (x1.1 (x2.2 n2))
   ·exfalso
    have x1 := sd c3
    have x2 := sd c4
    simp only at x1 x2
    rw [ht] at x1
    rcases hab with ⟨ha, hb⟩ | ⟨ha, hb⟩
    ·rw [ha] at x2; rw [hb] at x1; exact n1 (x1.1 (x2.2 n2))
    ·rw [ha] at x1; rw [hb] at x2; exact n1 (x2.1 (x1.2 n2))
   ·exact c3.trans c4.symm
theorem link (h : BInv n es T up) {q to : Nat} {e : E} (hq : up q = none) (hqn : q < n) (htq : T q = q) (hto : to < n) (ha : e.a < n) (hb : e.b < n) (hid : ∀ f, f ∈ es → f.id ≠ e.id)
  (hab : (T e.a = q ∧ T e.b = T to) ∨ (T e.b = q ∧ T e.a = T to)) (hc : ¬ Conn (ends es) q to) : BInv n (es ++ [e]) T (upd up q (some (e.id, to))) := by
 have hu : ∀ p s, upd up q (some (e.id, to)) p = some s → (p = q ∧ s = (e.id, to)) ∨ (p ≠ q ∧ up p = some s) := fun p s hp => by
  by_cases e : p = q
  ·subst e; rw [upd_same] at hp; cases hp; exact .inl ⟨rfl, rfl⟩
  ·rw [upd_ne _ _ _ _ e] at hp; exact .inr ⟨e, hp⟩
 have nid : ∀ p s, up p = some s → s.1 ≠ e.id := fun p s hp => by
  obtain ⟨f, hf, hfi, _⟩ := h.edge p s hp
  rw [← hfi]; exact hid f hf
 refine ⟨h.canon, fun f hf => ?_, fun f g hf hg => ?_, fun p s hp => ?_, ?_, fun p s hp => ?_, fun p p' s s' hp hp' he => ?_, fun f hf => ?_, fun u v hu' hv ht id => ?_⟩
 ·rcases List.mem_append.1 hf with hf | hf
  ·exact h.over f hf
  ·simp at hf; subst hf; exact ⟨ha, hb⟩
 ·intro hfg
  rcases List.mem_append.1 hf with hf | hf <;> rcases List.mem_append.1 hg with hg | hg
  ·exact h.inj f g hf hg hfg
  ·rw [List.mem_singleton] at hg; rw [hg] at hfg; exact absurd hfg (hid f hf)
  ·rw [List.mem_singleton] at hf; rw [hf] at hfg; exact absurd hfg.symm (hid g hg)
  ·simp at hf hg; rw [hf, hg]
 ·rcases hu p s hp with ⟨rfl, rfl⟩ | ⟨_, hp⟩
  ·exact ⟨hqn, htq, hto⟩
  ·exact h.key p s hp
 ·obtain ⟨d, hd⟩ := h.deep
  have hnq : ¬ Anc T up (T to) q := fun g => hc ((h.anc_conn g).symm.trans (h.whole (h.tlt hto) hto (h.tt hto)))
  refine ⟨fun p => open Classical in if Anc T up p q then d p + d (T to) + 1 else d p, fun p s hp => ?_⟩
  rcases hu p s hp with ⟨rfl, rfl⟩ | ⟨hne, hp⟩
  ·simp only
   rw [if_neg hnq, if_pos (Anc.refl _)]; omega
  ·have := hd p s hp
   have hiff : Anc T up p q ↔ Anc T up (T s.2) q := by rw [Anc.step_iff hp]; simp [Ne.symm hne]
   simp only
   by_cases hh : Anc T up (T s.2) q
   ·rw [if_pos hh, if_pos (hiff.2 hh)]; omega
   ·rw [if_neg hh, if_neg (fun g => hh (hiff.1 g))]; exact this
 ·rcases hu p s hp with ⟨rfl, rfl⟩ | ⟨_, hp⟩
  ·exact ⟨e, by simp, rfl, hab⟩
  ·obtain ⟨f, hf, r⟩ := h.edge p s hp
   exact ⟨f, List.mem_append_left _ hf, r⟩
 ·rcases hu p s hp with ⟨e1, e2⟩ | ⟨_, hp2⟩ <;> rcases hu p' s' hp' with ⟨e3, e4⟩ | ⟨_, hp2'⟩
  ·rw [e1, e3]
  ·rw [e2] at he; exact absurd he.symm (nid p' s' hp2')
  ·rw [e4] at he; exact absurd he (nid p s hp2)
  ·exact h.uniq p p' s s' hp2 hp2' he
 ·rcases List.mem_append.1 hf with hf | hf
  ·rcases h.loc f hf with x | ⟨p, s, hp, x⟩
   ·exact .inl x
   ·refine .inr ⟨p, s, ?_, x⟩
    rw [upd_ne]; exact hp
    intro hpq; subst hpq; rw [hq] at hp; cases hp
  ·simp at hf; subst hf
   exact .inr ⟨q, _, upd_same _ _ _, rfl⟩
 ·exact (h.twice u v hu' hv ht id).mono (ends_sub fun f hf => by
   obtain ⟨h1, h2⟩ := mem_sans1.1 hf
   exact mem_sans1.2 ⟨List.mem_append_left _ h1, h2⟩)
def Ring (T : Nat → Nat) (up : Nat → Option (Nat × Nat)) (x y top p : Nat) : Prop := (Anc T up (T x) p ∨ Anc T up (T y) p) ∧ Anc T up p top
theorem Ring.symm {x y top p : Nat} (h : Ring T up x y top p) : Ring T up y x top p := ⟨h.1.symm, h.2⟩
theorem ring_conn (h : BInv n es T up) {x y top : Nat} {e : E} (hx : x < n) (hy : y < n) (hex : (e.a = x ∧ e.b = y) ∨ (e.a = y ∧ e.b = x))
  (tx : Anc T up (T x) top) (ty : Anc T up (T y) top) {id : Nat} (hne : e.id ≠ id)
  (hw : ∀ r s, Anc T up (T x) r → Anc T up r top → r ≠ top → up r = some s → s.1 ≠ id) {z : Nat} (hz : Ring T up x y top z) : Conn (ends (sans (es ++ [e]) [id])) z top := by
 obtain ⟨d, hd⟩ := h.deep
 have mono : ∀ {a b : Nat}, Conn (ends (sans es [id])) a b → Conn (ends (sans (es ++ [e]) [id])) a b := fun c => c.mono (ends_sub fun f hf => by
  obtain ⟨h1, h2⟩ := mem_sans1.1 hf
  exact mem_sans1.2 ⟨List.mem_append_left _ h1, h2⟩)
 have hxx : Conn (ends (sans es [id])) x (T x) := h.twice _ _ hx (h.tlt hx) (h.tt hx).symm id
 have hyy : Conn (ends (sans es [id])) y (T y) := h.twice _ _ hy (h.tlt hy) (h.tt hy).symm id
 have hxt : Conn (ends (sans (es ++ [e]) [id])) x top := mono (hxx.trans (h.chain tx hw))
 have hxy : Conn (ends (sans (es ++ [e]) [id])) y x := by
  have : Conn (ends (sans (es ++ [e]) [id])) e.a e.b := Conn.of_mem (mem_ends (mem_sans1.2 ⟨by simp, hne⟩))
  rcases hex with ⟨h1, h2⟩ | ⟨h1, h2⟩
  ·rw [h1, h2] at this; exact this.symm
  ·rw [h1, h2] at this; exact this
 obtain ⟨hz1 | hz1, hz2⟩ := hz
 ·exact mono (h.chain hz2 fun r s h1 h2 h3 h4 => hw r s (hz1.trans h1) h2 h3 h4)
 ·by_cases hc : ∃ r s, Anc T up (T y) r ∧ Anc T up r z ∧ r ≠ z ∧ up r = some s ∧ s.1 = id
  ·obtain ⟨r, s, h1, h2, h3, h4, h5⟩ := hc
   refine mono (h.chain hz2 fun r' s' g1 g2 g3 g4 g5 => ?_)
   have := h.uniq r r' s s' h4 g4 (by rw [h5, g5])
   subst this
   exact h3 (Anc.antisymm hd h2 g1)
  ·have : Conn (ends (sans es [id])) (T y) z := h.chain hz1 fun r s g1 g2 g3 g4 g5 => hc ⟨r, s, g1, g2, g3, g4, g5⟩
   exact ((mono this).symm.trans (mono hyy).symm).trans (hxy.trans hxt)
theorem ring_all (h : BInv n es T up) {x y top : Nat} {e : E} (hx : x < n) (hy : y < n) (hex : (e.a = x ∧ e.b = y) ∨ (e.a = y ∧ e.b = x))
  (tx : Anc T up (T x) top) (ty : Anc T up (T y) top) (meet : ∀ p, Anc T up (T x) p → Anc T up (T y) p → Anc T up top p) {id : Nat} (hne : e.id ≠ id)
  {z : Nat} (hz : Ring T up x y top z) : Conn (ends (sans (es ++ [e]) [id])) z top := by
 obtain ⟨d, hd⟩ := h.deep
 by_cases hw : ∃ r s, Anc T up (T x) r ∧ Anc T up r top ∧ r ≠ top ∧ up r = some s ∧ s.1 = id
 ·obtain ⟨r, s, h1, h2, h3, h4, h5⟩ := hw
  refine h.ring_conn hy hx (hex.symm.imp (fun h => h) (fun h => h)) ty tx hne (fun r' s' g1 g2 g3 g4 g5 => ?_) hz.symm
  have := h.uniq r r' s s' h4 g4 (by rw [h5, g5])
  subst this
  exact h3 (Anc.antisymm hd h2 (meet r h1 g1))
 ·exact h.ring_conn hx hy hex tx ty hne (fun r s g1 g2 g3 g4 g5 => hw ⟨r, s, g1, g2, g3, g4, g5⟩) hz
theorem close (h : BInv n es T up) {x y top : Nat} {e : E} {T' : Nat → Nat} {up' : Nat → Option (Nat × Nat)} (hx : x < n) (hy : y < n) (hex : (e.a = x ∧ e.b = y) ∨ (e.a = y ∧ e.b = x)) (hid : ∀ f, f ∈ es → f.id ≠ e.id)
  (tx : Anc T up (T x) top) (ty : Anc T up (T y) top) (meet : ∀ p, Anc T up (T x) p → Anc T up (T y) p → Anc T up top p)
  (C' : Canon n T') (hT : ∀ u v, u < n → v < n → (T' u = T' v ↔ T u = T v ∨ (Ring T up x y top (T u) ∧ Ring T up x y top (T v))))
  (u1 : up' (T' top) = up top) (u2 : ∀ p, Ring T up x y top p → p ≠ T' top → up' p = none) (u3 : ∀ p, ¬ Ring T up x y top p → up' p = up p) : BInv n (es ++ [e]) T' up' := by
 obtain ⟨d, hd⟩ := h.deep
 have htop := h.anc_key tx (h.tlt hx) (h.tt hx)
 have rtop : Ring T up x y top top := ⟨.inl tx, .refl _⟩
 have rlt : ∀ {p}, Ring T up x y top p → p < n ∧ T p = p := fun hp => hp.1.elim (fun g => h.anc_key g (h.tlt hx) (h.tt hx)) (fun g => h.anc_key g (h.tlt hy) (h.tt hy))
 -- the new name of the ring
 have ht1 : T' top < n := C'.lt htop.1
 have ht2 : T (T' top) = T' top := by
  have a := h.canon.le (T' top) ht1
  have b : T' (T (T' top)) = T' (T' top) := (hT _ _ (h.tlt ht1) ht1).2 (.inl (h.tt ht1))
  rw [C'.idem _ htop.1] at b
  have c := C'.le (T (T' top)) (h.tlt ht1)
  omega
 have ht3 : Ring T up x y top (T' top) := by
  rcases (hT (T' top) top ht1 htop.1).1 (C'.idem _ htop.1) with g | ⟨g, _⟩
  ·rw [ht2, htop.2] at g; rw [g]; exact rtop
  ·rwa [ht2] at g
 have fin : ∀ u, u < n → Ring T up x y top (T u) → T' u = T' top := fun u hu hr => (hT u top hu htop.1).2 (.inr ⟨hr, by rw [htop.2]; exact rtop⟩)
 have fout : ∀ u, u < n → ¬ Ring T up x y top (T u) → T' u = T u := fun u hu hr => by
  have a : T' u = T' (T u) := (hT u (T u) hu (h.tlt hu)).2 (.inl (h.tt hu).symm)
  have b : T' (T' u) = T' u := C'.idem u hu
  have c := C'.lt hu
  rcases (hT (T' u) u c hu).1 b with g | ⟨_, g⟩
  ·have l1 := h.canon.le (T' u) c
   have l2 := C'.le (T u) (h.tlt hu)
   omega
  ·exact absurd g hr
 have par : ∀ p s, Ring T up x y top p → p ≠ top → up p = some s → Ring T up x y top (T s.2) := fun p s hr hne hp => by
  obtain ⟨h1, h2⟩ := hr
  refine ⟨h1.imp (fun g => g.trans (.step hp (.refl _))) (fun g => g.trans (.step hp (.refl _))), ?_⟩
  exact ((Anc.step_iff hp).1 h2).resolve_left (Ne.symm hne)
 have ptop : ∀ s, up top = some s → ¬ Ring T up x y top (T s.2) := fun s hp hr => h.not_up hp hr.2
 -- what the new forest's steps are
 have step : ∀ p s, up' p = some s → (p = T' top ∧ up top = some s) ∨ (¬ Ring T up x y top p ∧ up p = some s) := fun p s hp => by
  by_cases hr : Ring T up x y top p
  ·by_cases e1 : p = T' top
   ·subst e1; rw [u1] at hp; exact .inl ⟨rfl, hp⟩
   ·rw [u2 p hr e1] at hp; cases hp
  ·rw [u3 p hr] at hp; exact .inr ⟨hr, hp⟩
 have dle : ∀ p, Ring T up x y top p → d top ≤ d p := fun p hr => (hr.2.deep hd).1
 refine ⟨C', fun f hf => ?_, fun f g hf hg hfg => ?_, fun p s hp => ?_, ⟨fun p => if p = T' top then d top else d p, fun p s hp => ?_⟩, fun p s hp => ?_, fun p q s s' hp hq hs => ?_, fun f hf => ?_, fun u v hu hv ht id => ?_⟩
 ·rcases List.mem_append.1 hf with hf | hf
  ·exact h.over f hf
  ·rw [List.mem_singleton] at hf; subst hf
   rcases hex with ⟨h1, h2⟩ | ⟨h1, h2⟩ <;> rw [h1, h2]
   ·exact ⟨hx, hy⟩
   ·exact ⟨hy, hx⟩
 ·rcases List.mem_append.1 hf with hf | hf <;> rcases List.mem_append.1 hg with hg | hg
  ·exact h.inj f g hf hg hfg
  ·rw [List.mem_singleton] at hg; rw [hg] at hfg; exact absurd hfg (hid f hf)
  ·rw [List.mem_singleton] at hf; rw [hf] at hfg; exact absurd hfg.symm (hid g hg)
  ·rw [List.mem_singleton] at hf hg; rw [hf, hg]
 ·rcases step p s hp with ⟨rfl, hp2⟩ | ⟨hr, hp2⟩
  ·exact ⟨ht1, C'.idem _ htop.1, (h.key _ _ hp2).2.2⟩
  ·obtain ⟨k1, k2, k3⟩ := h.key p s hp2
   exact ⟨k1, by rw [fout p k1 (by rw [k2]; exact hr), k2], k3⟩
 ·rcases step p s hp with ⟨rfl, hp2⟩ | ⟨hr, hp2⟩
  ·have k3 := (h.key _ _ hp2).2.2
   have hne : T' s.2 ≠ T' top := fun hh => by
    rw [fout _ k3 (ptop s hp2)] at hh
    exact ptop s hp2 (hh ▸ ht3)
   have := hd _ _ hp2
   simp only
   rw [if_neg hne, if_pos True.intro, fout _ k3 (ptop s hp2)]; exact this
  ·have k3 := (h.key _ _ hp2).2.2
   have hne : p ≠ T' top := fun hh => hr (hh ▸ ht3)
   have := hd _ _ hp2
   simp only
   rw [if_neg hne]
   by_cases hq : Ring T up x y top (T s.2)
   ·rw [fin _ k3 hq, if_pos rfl]; have := dle _ hq; omega
   ·rw [fout _ k3 hq]
    split
    ·rename_i hh; exact absurd (hh ▸ ht3) hq
    ·exact this
 ·have tr : ∀ p s, up p = some s → ∃ e_1, e_1 ∈ es ++ [e] ∧ e_1.id = s.1 ∧ ((T' e_1.a = T' p ∧ T' e_1.b = T' s.2) ∨ (T' e_1.b = T' p ∧ T' e_1.a = T' s.2)) := fun p s hp => by
   obtain ⟨f, hf, hfi, hab⟩ := h.edge p s hp
   obtain ⟨k1, k2, k3⟩ := h.key p s hp
   obtain ⟨o1, o2⟩ := h.over f hf
   refine ⟨f, List.mem_append_left _ hf, hfi, ?_⟩
   rcases hab with ⟨h1, h2⟩ | ⟨h1, h2⟩
   ·exact .inl ⟨(hT _ _ o1 k1).2 (.inl (by rw [h1, k2])), (hT _ _ o2 k3).2 (.inl h2)⟩
   ·exact .inr ⟨(hT _ _ o2 k1).2 (.inl (by rw [h1, k2])), (hT _ _ o1 k3).2 (.inl h2)⟩
  rcases step p s hp with ⟨rfl, hp2⟩ | ⟨hr, hp2⟩
  ·have := tr _ _ hp2
   exact this
  ·obtain ⟨k1, k2, k3⟩ := h.key p s hp2
   have e1 : T' p = p := by rw [fout p k1 (by rw [k2]; exact hr), k2]
   have := tr _ _ hp2
   rwa [e1] at this
 ·rcases step p s hp with ⟨e1, hp2⟩ | ⟨hr, hp2⟩ <;> rcases step q s' hq with ⟨e2, hq2⟩ | ⟨hr', hq2⟩
  ·rw [e1, e2]
  ·exact absurd (h.uniq _ _ _ _ hp2 hq2 hs) (fun hh => hr' (hh ▸ rtop))
  ·exact absurd (h.uniq _ _ _ _ hp2 hq2 hs) (fun hh => hr (hh ▸ rtop))
  ·exact h.uniq _ _ _ _ hp2 hq2 hs
 ·rcases List.mem_append.1 hf with hf | hf
  ·obtain ⟨o1, o2⟩ := h.over f hf
   rcases h.loc f hf with g | ⟨p, s, hp, g⟩
   ·exact .inl ((hT _ _ o1 o2).2 (.inl g))
   ·obtain ⟨k1, k2, k3⟩ := h.key p s hp
    by_cases hr : Ring T up x y top p
    ·by_cases e1 : p = top
     ·subst e1; exact .inr ⟨T' p, s, by rw [u1]; exact hp, g⟩
     ·left
      obtain ⟨f', hf', hfi, hab⟩ := h.edge p s hp
      obtain rfl := h.inj f f' hf hf' (by rw [hfi, g])
      refine (hT _ _ o1 o2).2 (.inr ?_)
      rcases hab with ⟨h1, h2⟩ | ⟨h1, h2⟩ <;> rw [h1, h2]
      ·exact ⟨hr, par p s hr e1 hp⟩
      ·exact ⟨par p s hr e1 hp, hr⟩
    ·exact .inr ⟨p, s, by rw [u3 p hr]; exact hp, g⟩
  ·rw [List.mem_singleton] at hf; subst hf
   left
   have r1 : Ring T up x y top (T x) := ⟨.inl (.refl _), tx⟩
   have r2 : Ring T up x y top (T y) := ⟨.inr (.refl _), ty⟩
   rcases hex with ⟨h1, h2⟩ | ⟨h1, h2⟩ <;> rw [h1, h2]
   ·exact (hT _ _ hx hy).2 (.inr ⟨r1, r2⟩)
   ·exact (hT _ _ hy hx).2 (.inr ⟨r2, r1⟩)
 ·have mono : ∀ {a b : Nat}, Conn (ends (sans es [id])) a b → Conn (ends (sans (es ++ [e]) [id])) a b := fun c => c.mono (ends_sub fun f hf => by
   obtain ⟨h1, h2⟩ := mem_sans1.1 hf
   exact mem_sans1.2 ⟨List.mem_append_left _ h1, h2⟩)
  rcases (hT u v hu hv).1 ht with g | ⟨g1, g2⟩
  ·exact mono (h.twice u v hu hv g id)
  ·have a1 : Conn (ends (sans (es ++ [e]) [id])) u (T u) := mono (h.twice _ _ hu (h.tlt hu) (h.tt hu).symm id)
   have a2 : Conn (ends (sans (es ++ [e]) [id])) v (T v) := mono (h.twice _ _ hv (h.tlt hv) (h.tt hv).symm id)
   have tops : ∀ z, Ring T up x y top z → Conn (ends (sans (es ++ [e]) [id])) z top := fun z hz => by
    by_cases hne : e.id = id
    ·have : Conn (ends es) z top := h.anc_conn hz.2
     exact this.mono (ends_sub fun f hf => mem_sans1.2 ⟨List.mem_append_left _ hf, fun hh => hid f hf (by rw [hh, hne])⟩)
    ·exact h.ring_all hx hy hex tx ty meet hne hz
   exact (a1.trans (tops _ g1)).trans ((a2.trans (tops _ g2)).symm)
end BInv
end Go.Proofs.YtfglkgkihafcpaaGreatDoor.Pl
namespace Go.Proofs.YtfglkgkihafcpaaGreatDoor.Pl
inductive Path (T : Nat → Nat) (up : Nat → Option (Nat × Nat)) : Nat → List Nat → Prop where
 | last {p : Nat} (h : up p = none) : Path T up p [p]
 | cons {p : Nat} {s : Nat × Nat} {l : List Nat} (h : up p = some s) (t : Path T up (T s.2) l) : Path T up p (p :: l)
namespace Path
variable {T : Nat → Nat} {up : Nat → Option (Nat × Nat)}
theorem head {p : Nat} {l : List Nat} (h : Path T up p l) : ∃ l', l = p :: l' := by
 cases h with
 | last _ => exact ⟨[], rfl⟩
 | cons _ _ => exact ⟨_, rfl⟩
theorem unique {p : Nat} {l : List Nat} (h : Path T up p l) : ∀ {l' : List Nat}, Path T up p l' → l' = l := by
 induction h with
 | last h =>
  intro l' g
  cases g with
  | last _ => rfl
  | cons h' _ => rw [h] at h'; cases h'
 | cons h t ih =>
  intro l' g
  cases g with
  | last h' => rw [h] at h'; cases h'
  | cons h' t' => rw [h] at h'; cases h'; rw [ih t']
theorem mem {p : Nat} {l : List Nat} (h : Path T up p l) {q : Nat} : q ∈ l ↔ Anc T up p q := by
 induction h with
 | last h => simp only [List.mem_singleton]; exact ⟨fun e => e ▸ .refl _, fun g => g.of_none h⟩
 | cons h t ih => rw [List.mem_cons, ih, Anc.step_iff h]
theorem at_ {p : Nat} {l : List Nat} (h : Path T up p l) {i q : Nat} (hi : l[i]? = some q) : (i + 1 = l.length ∧ up q = none) ∨ ∃ s, up q = some s ∧ l[i + 1]? = some (T s.2) := by
 induction h generalizing i with
 | last h =>
  cases i with
  | zero => simp at hi; subst hi; exact .inl ⟨rfl, h⟩
  | succ i => simp at hi
 | @cons p s l h t ih =>
  cases i with
  | zero =>
   simp at hi; subst hi
   obtain ⟨l', rfl⟩ := t.head
   exact .inr ⟨s, h, rfl⟩
  | succ i =>
   simp at hi
   rcases ih hi with ⟨h1, h2⟩ | ⟨s', h1, h2⟩
   ·exact .inl ⟨by simp; omega, h2⟩
   ·exact .inr ⟨s', h1, by simpa using h2⟩
theorem drop {p : Nat} {l : List Nat} (h : Path T up p l) {i q : Nat} (hi : l[i]? = some q) : Path T up q (l.drop i) := by
 induction h generalizing i with
 | last h =>
  cases i with
  | zero => simp at hi; subst hi; exact .last h
  | succ i => simp at hi
 | cons h t ih =>
  cases i with
  | zero => simp at hi; subst hi; exact .cons h t
  | succ i => simp at hi; exact ih hi
theorem nodup {d : Nat → Nat} (hd : ∀ p s, up p = some s → d (T s.2) < d p) {p : Nat} {l : List Nat} (h : Path T up p l) : l.Nodup := by
 induction h with
 | last _ => simp
 | @cons p s l h t ih =>
  rw [List.nodup_cons]
  refine ⟨fun hm => ?_, ih⟩
  have a := ((t.mem.1 hm).deep hd).1
  have b := hd _ _ h
  omega
end Path
theorem nodup_lt_len {l : List Nat} {n : Nat} (h : l.Nodup) (hl : ∀ x, x ∈ l → x < n) : l.length ≤ n := by
 have := len_le_of_mem h (k := List.range n) (fun x hx => List.mem_range.2 (hl x hx))
 simpa using this
namespace BInv
variable {n : Nat} {es : List E} {T : Nat → Nat} {up : Nat → Option (Nat × Nat)}
theorem path (h : BInv n es T up) (p : Nat) : ∃ l, Path T up p l := by
 obtain ⟨d, hd⟩ := h.deep
 have key : ∀ m p, d p = m → ∃ l, Path T up p l := by
  intro m
  induction m using Nat.strongRecOn with
  | _ m ih =>
   intro p hm
   cases hp : up p with
   | none => exact ⟨[p], .last hp⟩
   | some s =>
    have := hd p s hp
    obtain ⟨l, hl⟩ := ih (d (T s.2)) (by omega) (T s.2) rfl
    exact ⟨p :: l, .cons hp hl⟩
 exact key _ p rfl
theorem path_nodup (h : BInv n es T up) {p : Nat} {l : List Nat} (hl : Path T up p l) : l.Nodup := let ⟨_, hd⟩ := h.deep; hl.nodup hd
theorem path_lt (h : BInv n es T up) {x : Nat} (hx : x < n) {l : List Nat} (hl : Path T up (T x) l) : ∀ p, p ∈ l → p < n ∧ T p = p :=
 fun _ hp => h.anc_key (hl.mem.1 hp) (h.tlt hx) (h.tt hx)
theorem path_len (h : BInv n es T up) {x : Nat} (hx : x < n) {l : List Nat} (hl : Path T up (T x) l) : l.length ≤ n :=
 nodup_lt_len (h.path_nodup hl) fun p hp => (h.path_lt hx hl p hp).1
structure Meet (L M : List Nat) (i k : Nat) : Prop where
 li : i < L.length
 lk : k < M.length
 same : L.drop i = M.drop k
theorem meet_start (h : BInv n es T up) {x y : Nat} (hx : x < n) (hy : y < n) (c : Conn (ends es) x y) {L M : List Nat} (hL : Path T up (T x) L) (hM : Path T up (T y) M) : Meet L M (L.length - 1) (M.length - 1) := by
 obtain ⟨l', e1⟩ := hL.head
 obtain ⟨m', e2⟩ := hM.head
 have p1 : 0 < L.length := by rw [e1]; simp
 have p2 : 0 < M.length := by rw [e2]; simp
 refine ⟨by omega, by omega, ?_⟩
 have g1 : L[L.length - 1]? = some (L[L.length - 1]'(by omega)) := List.getElem?_eq_getElem _
 have g2 : M[M.length - 1]? = some (M[M.length - 1]'(by omega)) := List.getElem?_eq_getElem _
 generalize L[L.length - 1]'(by omega) = r1 at g1
 generalize M[M.length - 1]'(by omega) = r2 at g2
 have a1 := hL.drop g1
 have a2 := hM.drop g2
 have b1 : up r1 = none := by
  rcases hL.at_ g1 with ⟨_, h⟩ | ⟨s, _, h⟩
  ·exact h
  ·have := (List.getElem?_eq_some_iff.1 h).1; omega
 have b2 : up r2 = none := by
  rcases hM.at_ g2 with ⟨_, h⟩ | ⟨s, _, h⟩
  ·exact h
  ·have := (List.getElem?_eq_some_iff.1 h).1; omega
 have c1 : Anc T up (T x) r1 := hL.mem.1 (List.mem_of_getElem? g1)
 have c2 : Anc T up (T y) r2 := hM.mem.1 (List.mem_of_getElem? g2)
 have c3 : Anc T up (T y) r1 := (h.roots c b1).1 c1
 have e : r1 = r2 := by
  rcases c3.total c2 with g | g
  ·exact (g.of_none b1).symm
  ·exact g.of_none b2
 subst e
 exact a2.unique a1
theorem meet_down {L M : List Nat} {i k : Nat} (h : Meet L M (i + 1) (k + 1)) {p : Nat} (h1 : L[i]? = some p) (h2 : M[k]? = some p) : Meet L M i k := by
 have a := (List.getElem?_eq_some_iff.1 h1)
 have b := (List.getElem?_eq_some_iff.1 h2)
 obtain ⟨a1, a2⟩ := a
 obtain ⟨b1, b2⟩ := b
 exact ⟨a1, b1, by rw [List.drop_eq_getElem_cons a1, List.drop_eq_getElem_cons b1, a2, b2, h.same]⟩
structure Top (T : Nat → Nat) (up : Nat → Option (Nat × Nat)) (x y top : Nat) : Prop where
 tx : Anc T up (T x) top
 ty : Anc T up (T y) top
 meet : ∀ p, Anc T up (T x) p → Anc T up (T y) p → Anc T up top p
theorem meet_top (h : BInv n es T up) {x y : Nat} {L M : List Nat} (hL : Path T up (T x) L) (hM : Path T up (T y) M) {i k top : Nat} (hm : Meet L M i k) (ht : L[i]? = some top)
  (stop : ∀ p, 0 < i → 0 < k → L[i - 1]? = some p → M[k - 1]? = some p → False) : Top T up x y top ∧ M[k]? = some top := by
 obtain ⟨d, hd⟩ := h.deep
 have hMk : M[k]? = some top := by
  have e1 : (L.drop i)[0]? = some top := by simpa using ht
  rw [hm.same] at e1
  simpa using e1
 have tx := hL.mem.1 (List.mem_of_getElem? ht)
 have ty := hM.mem.1 (List.mem_of_getElem? hMk)
 refine ⟨⟨tx, ty, fun p h1 h2 => ?_⟩, hMk⟩
 rcases tx.total h1 with g | g
 ·exact g
 ·by_cases hpt : p = top
  ·subst hpt; exact .refl _
  ·exfalso
   obtain ⟨i', hi'⟩ := List.mem_iff_getElem?.1 (hL.mem.2 h1)
   obtain ⟨k', hk'⟩ := List.mem_iff_getElem?.1 (hM.mem.2 h2)
   have e1 := (hM.drop hk').unique (hL.drop hi')
   have l1 : L.length - i' = M.length - k' := by have := congrArg List.length e1; simpa using this
   have l2 : L.length - i = M.length - k := by have := congrArg List.length hm.same; simpa using this
   have q1 := (List.getElem?_eq_some_iff.1 hi').1
   have q2 := (List.getElem?_eq_some_iff.1 hk').1
   have q3 := hm.li
   have q4 := hm.lk
   have hlt : i' < i := by
    rcases Nat.lt_trichotomy i' i with hh | hh | hh
    ·exact hh
    ·subst hh; rw [ht] at hi'; cases hi'; exact absurd rfl hpt
    ·exfalso
     -- p stands behind top: so top is below p
     have e2 : Path T up top (L.drop i) := hL.drop ht
     have e3 : (L.drop i)[i' - i]? = some p := by rw [List.getElem?_drop]; rw [show i + (i' - i) = i' by omega]; exact hi'
     have e4 : Anc T up top p := e2.mem.1 (List.mem_of_getElem? e3)
     exact hpt (Anc.antisymm hd g e4)
   have e5 : L[i - 1]? = M[k - 1]? := by
    have a1 : (L.drop i')[i - 1 - i']? = L[i - 1]? := by rw [List.getElem?_drop, show i' + (i - 1 - i') = i - 1 by omega]
    have a2 : (M.drop k')[i - 1 - i']? = M[k - 1]? := by rw [List.getElem?_drop, show k' + (i - 1 - i') = k - 1 by omega]
    rw [← a1, ← a2, e1]
   have e6 : L[i - 1]? = some (L[i - 1]'(by omega)) := List.getElem?_eq_getElem _
   exact stop _ (by omega) (by omega) e6 (e5 ▸ e6)
theorem ring_iff (h : BInv n es T up) {x y : Nat} {L M : List Nat} (hL : Path T up (T x) L) (hM : Path T up (T y) M) {i k top : Nat} (ht : L[i]? = some top) (hk : M[k]? = some top) {p : Nat} :
  Ring T up x y top p ∧ p ≠ top ↔ p ∈ L.take i ++ M.take k := by
 obtain ⟨d, hd⟩ := h.deep
 have one : ∀ {z : Nat} {L : List Nat}, Path T up z L → ∀ {i : Nat}, L[i]? = some top → (p ∈ L.take i ↔ Anc T up z p ∧ Anc T up p top ∧ p ≠ top) := by
  intro z L hL i ht
  constructor
  ·intro hm
   obtain ⟨j, hj⟩ := List.mem_iff_getElem?.1 hm
   rw [List.getElem?_take] at hj
   split at hj
   ·rename_i hji
    have e1 : (L.drop j)[i - j]? = some top := by rw [List.getElem?_drop, show j + (i - j) = i by omega]; exact ht
    refine ⟨hL.mem.1 (List.mem_of_getElem? hj), (hL.drop hj).mem.1 (List.mem_of_getElem? e1), fun e => ?_⟩
    subst e
    have nd := hL.nodup hd
    have a := List.getElem?_eq_some_iff.1 hj
    have b := List.getElem?_eq_some_iff.1 ht
    have := (List.getElem_inj nd).1 (a.2.trans b.2.symm)
    omega
   ·cases hj
  ·rintro ⟨h1, h2, h3⟩
   obtain ⟨j, hj⟩ := List.mem_iff_getElem?.1 (hL.mem.2 h1)
   by_cases hji : j < i
   ·exact List.mem_of_getElem? (i := j) (by rw [List.getElem?_take, if_pos hji]; exact hj)
   ·exfalso
    have e1 : (L.drop i)[j - i]? = some p := by rw [List.getElem?_drop, show i + (j - i) = j by omega]; exact hj
    have e2 : Anc T up top p := (hL.drop ht).mem.1 (List.mem_of_getElem? e1)
    exact h3 (Anc.antisymm hd h2 e2)
 rw [List.mem_append, one hL ht, one hM hk]
 unfold Ring
 constructor
 ·rintro ⟨⟨h1 | h1, h2⟩, h3⟩
  ·exact .inl ⟨h1, h2, h3⟩
  ·exact .inr ⟨h1, h2, h3⟩
 ·rintro (⟨h1, h2, h3⟩ | ⟨h1, h2, h3⟩)
  ·exact ⟨⟨.inl h1, h2⟩, h3⟩
  ·exact ⟨⟨.inr h1, h2⟩, h3⟩
theorem ring_nodup (h : BInv n es T up) {x y : Nat} {L M : List Nat} (hL : Path T up (T x) L) (hM : Path T up (T y) M) {i k top : Nat} (ht : L[i]? = some top) (hk : M[k]? = some top) (m : Top T up x y top) :
  (L.take i ++ M.take k).Nodup := by
 obtain ⟨d, hd⟩ := h.deep
 rw [List.nodup_append]
 refine ⟨(List.take_sublist _ _).nodup (hL.nodup hd), (List.take_sublist _ _).nodup (hM.nodup hd), fun p hp q hq e => ?_⟩
 subst e
 have a := (h.ring_iff hL hM ht hk).2 (List.mem_append_left _ hp)
 have b1 := hL.mem.1 (List.mem_of_mem_take hp)
 have b2 := hM.mem.1 (List.mem_of_mem_take hq)
 exact a.2 (Anc.antisymm hd a.1.2 (m.meet p b1 b2))
end BInv
def joins (T : Nat → Nat) (top : Nat) (l : List Nat) : Nat → Nat := l.foldl (fun T p => joinL T p top) T
theorem joins_snoc (T : Nat → Nat) (top : Nat) (l : List Nat) (p : Nat) : joins T top (l ++ [p]) = joinL (joins T top l) p top := by
 unfold joins; rw [List.foldl_append]; rfl
theorem joins_iff {T : Nat → Nat} {top : Nat} (htop : T top = top) {l : List Nat} (hl : ∀ p, p ∈ l → T p = p) {u v : Nat} :
  joins T top l u = joins T top l v ↔ T u = T v ∨ ((T u = top ∨ T u ∈ l) ∧ (T v = top ∨ T v ∈ l)) := by
 induction l using list_snoc_ind generalizing u v with
 | nil =>
  show T u = T v ↔ _
  simp only [List.not_mem_nil, or_false]
  constructor
  ·exact .inl
  ·rintro (h | ⟨h1, h2⟩)
   ·exact h
   ·rw [h1, h2]
 | snoc l p ih =>
  have hl' : ∀ p, p ∈ l → T p = p := fun q hq => hl q (List.mem_append_left _ hq)
  have hp : T p = p := hl p (by simp)
  have A : ∀ {w : Nat}, (joins T top l w = joins T top l p ∨ joins T top l w = joins T top l top) ↔ (T w = top ∨ T w ∈ l ++ [p]) := by
   intro w
   rw [ih hl', ih hl', hp, htop]
   simp only [List.mem_append, List.mem_singleton, true_or, and_true]
   constructor
   ·rintro ((h | ⟨h, _⟩) | h | h)
    ·exact .inr (.inr h)
    ·exact h.imp id .inl
    ·exact .inl h
    ·exact h.imp id .inl
   ·rintro (h | h | h)
    ·exact .inr (.inl h)
    ·exact .inr (.inr (.inr h))
    ·exact .inl (.inl h)
  rw [joins_snoc, joinL_iff, ih hl', A, A]
  constructor
  ·rintro ((h | ⟨h1, h2⟩) | h)
   ·exact .inl h
   ·exact .inr ⟨h1.imp id (List.mem_append_left _), h2.imp id (List.mem_append_left _)⟩
   ·exact .inr h
  ·rintro (h | h)
   ·exact .inl (.inl h)
   ·exact .inr h
theorem joins_canon {T : Nat → Nat} {n top : Nat} (C : Canon n T) (ht : top < n) {l : List Nat} (hl : ∀ p, p ∈ l → p < n) : Canon n (joins T top l) := by
 induction l using list_snoc_ind with
 | nil => exact C
 | snoc l p ih =>
  rw [joins_snoc]
  exact (ih fun q hq => hl q (List.mem_append_left _ hq)).join (hl p (by simp)) ht
def rids (up : Nat → Option (Nat × Nat)) (l : List Nat) : Nat → Option (Nat × Nat) := fun p => if p ∈ l then none else up p
theorem BInv.closed {n : Nat} {es : List E} {T : Nat → Nat} {up : Nat → Option (Nat × Nat)} (h : BInv n es T up) {x y : Nat} {e : E} (hx : x < n) (hy : y < n) (hex : e.a = x ∧ e.b = y) (hid : ∀ f, f ∈ es → f.id ≠ e.id)
  {L M : List Nat} (hL : Path T up (T x) L) (hM : Path T up (T y) M) {i k top : Nat} (ht : L[i]? = some top) (hk : M[k]? = some top) (m : BInv.Top T up x y top) :
  BInv n (es ++ [e]) (joins T top (L.take i ++ M.take k)) (upd (rids up (top :: (L.take i ++ M.take k))) (joins T top (L.take i ++ M.take k) top) (up top)) := by
 have hr := fun p => h.ring_iff hL hM ht hk (p := p)
 have htt := h.anc_key m.tx (h.tlt hx) (h.tt hx)
 have hkey : ∀ p, p ∈ L.take i ++ M.take k → p < n ∧ T p = p := fun p hp => by
  rcases List.mem_append.1 hp with hp | hp
  ·exact h.path_lt hx hL p (List.mem_of_mem_take hp)
  ·exact h.path_lt hy hM p (List.mem_of_mem_take hp)
 have hmem : ∀ p, (p = top ∨ p ∈ L.take i ++ M.take k) ↔ Ring T up x y top p := fun p => by
  constructor
  ·rintro (rfl | hp)
   ·exact ⟨.inl m.tx, .refl _⟩
   ·exact ((hr p).2 hp).1
  ·intro hp
   by_cases e : p = top
   ·exact .inl e
   ·exact .inr ((hr p).1 ⟨hp, e⟩)
 have hT : ∀ u v, u < n → v < n → (joins T top (L.take i ++ M.take k) u = joins T top (L.take i ++ M.take k) v ↔ T u = T v ∨ (Ring T up x y top (T u) ∧ Ring T up x y top (T v))) := fun u v _ _ => by
  rw [joins_iff htt.2 (fun p hp => (hkey p hp).2), hmem, hmem]
 have C' := joins_canon h.canon htt.1 (fun p hp => (hkey p hp).1)
 refine h.close hx hy (.inl hex) hid m.tx m.ty m.meet C' hT (upd_same _ _ _) (fun p hp hne => ?_) (fun p hp => ?_)
 ·rw [upd_ne _ _ _ _ hne]
  unfold rids
  rw [if_pos (List.mem_cons.2 ((hmem p).2 hp))]
 ·have hne : p ≠ joins T top (L.take i ++ M.take k) top := by
   intro e
   subst e
   have g : Ring T up x y top top := ⟨.inl m.tx, .refl _⟩
   have ht1 := C'.lt htt.1
   have b := C'.idem top htt.1
   -- the new name is one of the ring
   have ht2 : T (joins T top (L.take i ++ M.take k) top) = joins T top (L.take i ++ M.take k) top := by
    have a := h.canon.le _ ht1
    have b' := (hT _ _ (h.tlt ht1) ht1).2 (.inl (h.tt ht1))
    rw [b] at b'
    have c := C'.le _ (h.tlt ht1)
    omega
   rcases (hT _ _ ht1 htt.1).1 b with g' | ⟨g', _⟩
   ·rw [ht2, htt.2] at g'; rw [g'] at hp; exact hp g
   ·rw [ht2] at g'; exact hp g'
  rw [upd_ne _ _ _ _ hne]
  unfold rids
  rw [if_neg (fun hh => hp ((hmem p).1 (List.mem_cons.1 hh)))]
end Go.Proofs.YtfglkgkihafcpaaGreatDoor.Pl
namespace Go.Proofs.YtfglkgkihafcpaaGreatDoor.Pl
def Ids (up : Nat → Option (Nat × Nat)) (id : Nat) : Prop := ∃ p s, up p = some s ∧ s.1 = id
structure TInv (n : Nat) (es : List E) (T : Nat → Nat) (up0 up : Nat → Option (Nat × Nat)) (x p fr : Nat) (o : Option (Nat × Nat)) : Prop where
 b0 : BInv n es T up0
 hx : x < n
 hp : Anc T up0 (T x) p
 hfr : fr < n
 tfr : T fr = p
 rest : ∀ z, Anc T up0 p z → z ≠ p → up z = up0 z
 root : up (T x) = none
 pend : o = up0 p
 ids : ∀ id, Ids up0 id ↔ Ids up id ∨ ∃ s, o = some s ∧ s.1 = id
 done : o = none → BInv n es T up
 open_ : ∀ s, o = some s → BInv n (sans es [s.1]) T up ∧ Anc T up p (T x)
theorem sans_sub {es : List E} {id : Nat} : ∀ e, e ∈ sans es [id] → e ∈ es := fun _ h => (mem_sans1.1 h).1
theorem ids_upd_none {up : Nat → Option (Nat × Nat)} {q : Nat} {s0 : Nat × Nat} (hq : up q = some s0) (hu : ∀ p s, up p = some s → s.1 = s0.1 → p = q) {id : Nat} :
  Ids up id ↔ Ids (upd up q none) id ∨ s0.1 = id := by
 constructor
 ·rintro ⟨p, s, hp, rfl⟩
  by_cases e : s.1 = s0.1
  ·exact .inr e.symm
  ·refine .inl ⟨p, s, ?_, rfl⟩
   rw [upd_ne]; exact hp
   intro hh; subst hh; rw [hq] at hp; cases hp; exact e rfl
 ·rintro (⟨p, s, hp, rfl⟩ | rfl)
  ·by_cases e : p = q
   ·subst e; rw [upd_same] at hp; cases hp
   ·rw [upd_ne _ _ _ _ e] at hp; exact ⟨p, s, hp, rfl⟩
  ·exact ⟨q, s0, hq, rfl⟩
theorem ids_upd_some {up : Nat → Option (Nat × Nat)} {q : Nat} {s0 : Nat × Nat} (hq : up q = none) {id : Nat} : Ids (upd up q (some s0)) id ↔ Ids up id ∨ s0.1 = id := by
 constructor
 ·rintro ⟨p, s, hp, rfl⟩
  by_cases e : p = q
  ·subst e; rw [upd_same] at hp; cases hp; exact .inr rfl
  ·rw [upd_ne _ _ _ _ e] at hp; exact .inl ⟨p, s, hp, rfl⟩
 ·rintro (⟨p, s, hp, rfl⟩ | rfl)
  ·refine ⟨p, s, ?_, rfl⟩
   rw [upd_ne]; exact hp
   intro hh; subst hh; rw [hq] at hp; cases hp
  ·exact ⟨q, s0, upd_same _ _ _, rfl⟩
theorem BInv.turn_start {n : Nat} {es : List E} {T : Nat → Nat} {up : Nat → Option (Nat × Nat)} (h : BInv n es T up) {x : Nat} (hx : x < n) : TInv n es T up (upd up (T x) none) x (T x) x (up (T x)) := by
 refine ⟨h, hx, .refl _, hx, rfl, fun z _ hz => upd_ne _ _ _ _ hz, upd_same _ _ _, rfl, fun id => ?_, fun ho => ?_, fun s hs => ⟨h.remove hs, .refl _⟩⟩
 ·cases ho : up (T x) with
  | none =>
   have : upd up (T x) none = up := by
    funext z; by_cases e : z = T x
    ·subst e; rw [upd_same, ho]
    ·rw [upd_ne _ _ _ _ e]
   rw [this]; simp
  | some s0 =>
   rw [ids_upd_none ho (fun p s hp hs => h.uniq p _ s s0 hp ho hs)]
   simp
 ·have : upd up (T x) none = up := by
   funext z; by_cases e : z = T x
   ·subst e; rw [upd_same, ho]
   ·rw [upd_ne _ _ _ _ e]
  rw [this]; exact h
theorem anc_upd {T : Nat → Nat} {up : Nat → Option (Nat × Nat)} {p q r : Nat} (v : Option (Nat × Nat)) (h : Anc T up p r) (hn : ¬ Anc T up p q) : Anc T (upd up q v) p r := by
 induction h with
 | refl => exact .refl _
 | @step p r s hp t ih =>
  refine .step (s := s) ?_ (ih fun g => hn (.step hp g))
  rw [upd_ne]; exact hp
  intro e; subst e; exact hn (.refl _)
theorem sans_back {es : List E} {e : E} (he : e ∈ es) (inj : ∀ e f, e ∈ es → f ∈ es → e.id = f.id → e = f) (f : E) : f ∈ sans es [e.id] ++ [e] ↔ f ∈ es := by
 rw [List.mem_append, mem_sans1, List.mem_singleton]
 constructor
 ·rintro (⟨h, _⟩ | rfl)
  ·exact h
  ·exact he
 ·intro h
  by_cases c : f.id = e.id
  ·exact .inr (inj f e h he c)
  ·exact .inl ⟨h, c⟩
theorem TInv.next {n : Nat} {es : List E} {T : Nat → Nat} {up0 up : Nat → Option (Nat × Nat)} {x p fr : Nat} {s : Nat × Nat} (t : TInv n es T up0 up x p fr (some s)) :
  up (T s.2) = up0 (T s.2) ∧ TInv n es T up0 (upd up (T s.2) (some (s.1, fr))) x (T s.2) (T s.2) (up (T s.2)) := by
 have h := t.b0
 have hs0 : up0 p = some s := t.pend.symm
 obtain ⟨B, hA⟩ := t.open_ s rfl
 obtain ⟨k1, k2, k3⟩ := h.key p s hs0
 have q1 := h.tlt k3
 have q2 := h.tt k3
 have hqp : T s.2 ≠ p := fun e => h.not_up hs0 (e ▸ .refl _)
 have hqu : up (T s.2) = up0 (T s.2) := t.rest _ (.step hs0 (.refl _)) hqp
 refine ⟨hqu, ?_⟩
 -- p and what is above it are apart without the bridge
 have apart : ¬ Conn (ends (sans es [s.1])) p (T s.2) := fun c => h.cut hs0 (c.trans (h.twice _ _ q1 k3 q2 s.1))
 have hnq : ¬ Anc T up p (T s.2) := fun g => apart (B.anc_conn g)
 have hqx : T s.2 ≠ T x := fun e => apart (e ▸ B.anc_conn hA)
 obtain ⟨e, he, hei, hab⟩ := h.edge p s hs0
 obtain ⟨o1, o2⟩ := h.over e he
 have hab' : (T e.a = T s.2 ∧ T e.b = T fr) ∨ (T e.b = T s.2 ∧ T e.a = T fr) := by
  rw [t.tfr]; rcases hab with ⟨h1, h2⟩ | ⟨h1, h2⟩
  ·exact .inr ⟨h2, h1⟩
  ·exact .inl ⟨h2, h1⟩
 have hpf : Conn (ends (sans es [s.1])) p fr := h.twice p fr k1 t.hfr (by rw [k2, t.tfr]) s.1
 have hrest : ∀ z, Anc T up0 (T s.2) z → z ≠ T s.2 → upd up (T s.2) (some (s.1, fr)) z = up0 z := fun z hz hne => by
  rw [upd_ne _ _ _ _ hne]
  refine t.rest z (.step hs0 hz) fun e => ?_
  subst e
  exact h.not_up hs0 hz
 have hroot : upd up (T s.2) (some (s.1, fr)) (T x) = none := by rw [upd_ne _ _ _ _ (Ne.symm hqx)]; exact t.root
 have hanc : Anc T (upd up (T s.2) (some (s.1, fr))) (T s.2) (T x) :=
  .step (upd_same _ _ _) (by show Anc _ _ (T fr) _; rw [t.tfr]; exact anc_upd _ hA hnq)
 cases hn : up (T s.2) with
 | none =>
  have L := B.link (e := e) hn q1 q2 t.hfr o1 o2 (fun f hf => by rw [hei]; exact (mem_sans1.1 hf).2) hab' (fun c => apart (hpf.trans c.symm))
  rw [hei] at L
  have L' := L.perm (fs := es) (fun f => by rw [← hei]; exact sans_back he h.inj f)
  refine ⟨h, t.hx, t.hp.trans (.step hs0 (.refl _)), q1, q2, hrest, hroot, by rw [← hqu, hn], fun id => ?_, fun _ => L', fun _ hh => by cases hh⟩
  rw [t.ids, ids_upd_some hn]
  simp
 | some s' =>
  have hs' : up0 (T s.2) = some s' := by rw [← hqu, hn]
  have R := B.remove hn
  have hne : s'.1 ≠ s.1 := fun e => hqp (h.uniq _ _ _ _ hs' hs0 e)
  have u0 : upd up (T s.2) none (T s.2) = none := upd_same _ _ _
  have L := R.link (e := e) u0 q1 q2 t.hfr o1 o2 (fun f hf => by rw [hei]; exact (mem_sans1.1 (mem_sans1.1 hf).1).2) hab' (fun c => apart (hpf.trans (c.mono (ends_sub sans_sub)).symm))
  rw [hei] at L
  have eu : upd (upd up (T s.2) none) (T s.2) (some (s.1, fr)) = upd up (T s.2) (some (s.1, fr)) := by
   funext z; by_cases e : z = T s.2
   ·subst e; rw [upd_same, upd_same]
   ·rw [upd_ne _ _ _ _ e, upd_ne _ _ _ _ e, upd_ne _ _ _ _ e]
  rw [eu] at L
  have L' := L.perm (fs := sans es [s'.1]) (fun f => by
   rw [List.mem_append, mem_sans1, mem_sans1, mem_sans1, List.mem_singleton]
   constructor
   ·rintro (⟨⟨h1, h2⟩, h3⟩ | rfl)
    ·exact ⟨h1, h3⟩
    ·exact ⟨he, by rw [hei]; exact Ne.symm hne⟩
   ·rintro ⟨h1, h2⟩
    by_cases c : f.id = s.1
    ·exact .inr (h.inj f e h1 he (by rw [c, hei]))
    ·exact .inl ⟨⟨h1, c⟩, h2⟩)
  refine ⟨h, t.hx, t.hp.trans (.step hs0 (.refl _)), q1, q2, hrest, hroot, by rw [hs'], fun id => ?_, (fun hh => by cases hh), fun s'' hh => ?_⟩
  ·have a1 := t.ids id
   rw [a1, ids_upd_none hn (fun p' s'' hp hs => B.uniq p' _ s'' s' hp hn hs), ← eu, ids_upd_some u0]
   simp only [Option.some.injEq, exists_eq_left']
   constructor
   ·rintro ((a | a) | a)
    ·exact .inl (.inl a)
    ·exact .inr a
    ·exact .inl (.inr a)
   ·rintro ((a | a) | a)
    ·exact .inl (.inl a)
    ·exact .inr a
    ·exact .inl (.inr a)
  ·cases hh
   exact ⟨L', hanc⟩
structure Turned (n : Nat) (es : List E) (T : Nat → Nat) (up up' : Nat → Option (Nat × Nat)) (x : Nat) : Prop where
 inv : BInv n es T up'
 root : up' (T x) = none
 ids : ∀ id, Ids up id ↔ Ids up' id
theorem TInv.turned {n : Nat} {es : List E} {T : Nat → Nat} {up0 up : Nat → Option (Nat × Nat)} {x p fr : Nat} (t : TInv n es T up0 up x p fr none) : Turned n es T up0 up x :=
 ⟨t.done rfl, t.root, fun id => by rw [t.ids]; simp⟩
theorem Turned.bridge {n : Nat} {es : List E} {T : Nat → Nat} {up up' : Nat → Option (Nat × Nat)} {x y : Nat} (t : Turned n es T up up' x) {e : E} (hx : x < n) (hy : y < n) (hex : (e.a = x ∧ e.b = y) ∨ (e.a = y ∧ e.b = x))
  (hid : ∀ f, f ∈ es → f.id ≠ e.id) (hc : ¬ Conn (ends es) x y) : BInv n (es ++ [e]) T (upd up' (T x) (some (e.id, y))) ∧ ∀ id, Ids (upd up' (T x) (some (e.id, y))) id ↔ Ids up id ∨ e.id = id := by
 have h := t.inv
 have ha : e.a < n ∧ e.b < n := by rcases hex with ⟨h1, h2⟩ | ⟨h1, h2⟩ <;> rw [h1, h2] <;> exact ⟨by assumption, by assumption⟩
 refine ⟨h.link t.root (h.tlt hx) (h.tt hx) hy ha.1 ha.2 hid ?_ (fun c => hc ((h.whole hx (h.tlt hx) (h.tt hx).symm).trans c)), fun id => by rw [ids_upd_some t.root, ← t.ids]⟩
 rcases hex with ⟨h1, h2⟩ | ⟨h1, h2⟩
 ·rw [h1, h2]; exact .inl ⟨rfl, rfl⟩
 ·rw [h1, h2]; exact .inr ⟨rfl, rfl⟩
theorem ids_closed {n : Nat} {es : List E} {T : Nat → Nat} {up : Nat → Option (Nat × Nat)} (h : BInv n es T up) {l : List Nat} {top t' : Nat} (hl : top ∉ l) (ht : t' = top ∨ t' ∈ l) {id : Nat} :
  Ids (upd (rids up (top :: l)) t' (up top)) id ↔ Ids up id ∧ ∀ p s, p ∈ l → up p = some s → s.1 ≠ id := by
 constructor
 ·rintro ⟨p, s, hp, rfl⟩
  by_cases e : p = t'
  ·subst e; rw [upd_same] at hp
   exact ⟨⟨top, s, hp, rfl⟩, fun q s' hq hs' e => hl ((h.uniq _ _ _ _ hs' hp e) ▸ hq)⟩
  ·rw [upd_ne _ _ _ _ e] at hp
   unfold rids at hp
   split at hp
   ·cases hp
   ·rename_i hn
    exact ⟨⟨p, s, hp, rfl⟩, fun q s' hq hs' e => hn (List.mem_cons_of_mem _ ((h.uniq _ _ _ _ hs' hp e) ▸ hq))⟩
 ·rintro ⟨⟨p, s, hp, rfl⟩, hn⟩
  by_cases e : p = top
  ·subst e; exact ⟨t', s, by rw [upd_same]; exact hp, rfl⟩
  ·have hpl : p ∉ top :: l := by
    intro hm
    rcases List.mem_cons.1 hm with h1 | h1
    ·exact e h1
    ·exact hn p s h1 hp rfl
   have : p ≠ t' := fun h1 => hpl (by rw [h1]; exact List.mem_cons.2 ht)
   exact ⟨p, s, by rw [upd_ne _ _ _ _ this]; unfold rids; rw [if_neg hpl]; exact hp, rfl⟩
end Go.Proofs.YtfglkgkihafcpaaGreatDoor.Pl

