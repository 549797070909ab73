/- Union-find in plain terms: roots, paths that are shortened, labels that are least members. -/
namespace Go.Proofs.Ytkpoobnldgfapaa.Pl

def upd {α : Type} (f : Nat → α) (x : Nat) (v : α) : Nat → α := fun z => if z = x then v else f z

theorem upd_same {α : Type} (f : Nat → α) (x : Nat) (v : α) : upd f x v x = v := by simp [upd]
theorem upd_ne {α : Type} (f : Nat → α) (x z : Nat) (v : α) (h : z ≠ x) : upd f x v z = f z := by simp [upd, h]

/-- x leads to the root r in k steps. -/
inductive Root (up : Nat → Nat) : Nat → Nat → Nat → Prop where
  | here {r : Nat} (h : up r = r) : Root up r r 0
  | step {x r k : Nat} (h : up x ≠ x) (t : Root up (up x) r k) : Root up x r (k + 1)

theorem Root.isRoot {up : Nat → Nat} {x r k : Nat} (h : Root up x r k) : up r = r := by
  induction h with
  | here h => exact h
  | step _ _ ih => exact ih

theorem Root.unique {up : Nat → Nat} {x r k : Nat} (h : Root up x r k) : ∀ {r' k' : Nat}, Root up x r' k' → r' = r ∧ k' = k := by
  induction h with
  | here h =>
    intro r' k' h'
    cases h' with
    | here _ => exact ⟨rfl, rfl⟩
    | step n _ => exact absurd h n
  | step n _ ih =>
    intro r' k' h'
    cases h' with
    | here h => exact absurd h n
    | step _ t => obtain ⟨a, b⟩ := ih t; exact ⟨a, by omega⟩

structure Forest (n : Nat) (up : Nat → Nat) : Prop where
  lt : ∀ x, x < n → up x < n
  deep : ∃ d : Nat → Nat, ∀ x, x < n → up x ≠ x → d (up x) < d x

theorem Forest.root {n : Nat} {up : Nat → Nat} (F : Forest n up) {x : Nat} (hx : x < n) : ∃ r k, r < n ∧ Root up x r k := by
  obtain ⟨d, hd⟩ := F.deep
  have key : ∀ m x, d x = m → x < n → ∃ r k, r < n ∧ Root up x r k := by
    intro m
    induction m using Nat.strongRecOn with
    | _ m ih =>
      intro x hm hx
      by_cases h : up x = x
      · exact ⟨x, 0, hx, .here h⟩
      · have := hd x hx h
        obtain ⟨r, k, hr, t⟩ := ih (d (up x)) (by omega) (up x) rfl (F.lt x hx)
        exact ⟨r, k + 1, hr, .step h t⟩
  exact key _ x rfl hx

/-- A step down the path: the depth of the root is less. -/
theorem Root.deeper {n : Nat} {up : Nat → Nat} (lt : ∀ x, x < n → up x < n) {d : Nat → Nat} (hd : ∀ x, x < n → up x ≠ x → d (up x) < d x) {x r k : Nat} (h : Root up x r k) :
    x < n → r < n ∧ (x ≠ r → d r < d x) := by
  induction h with
  | here h => exact fun hx => ⟨hx, fun e => absurd rfl e⟩
  | @step x r k hne t ih =>
    intro hx
    obtain ⟨h1, h2⟩ := ih (lt _ hx)
    refine ⟨h1, fun _ => ?_⟩
    have h3 := hd x hx hne
    by_cases e : up x = r
    · rw [← e]; exact h3
    · have := h2 e; omega

/-- Putting x below its own root changes no root. -/
theorem Root.compress {up : Nat → Nat} {x r k : Nat} (h : Root up x r k) {z s j : Nat} (hz : Root up z s j) :
    ∃ j', Root (upd up x r) z s j' := by
  have hr := h.isRoot
  induction hz with
  | @here s hs =>
    refine ⟨0, .here ?_⟩
    by_cases e : s = x
    · subst e
      obtain ⟨rfl, _⟩ := (Root.here hs).unique h
      simp [upd]
    · simp [upd, e, hs]
  | @step z s j hne t ih =>
    obtain ⟨j', hj⟩ := ih
    by_cases e : z = x
    · subst e
      obtain ⟨rfl, _⟩ := (Root.step hne t).unique h
      by_cases e2 : r = z
      · subst e2; exact absurd hr hne
      · refine ⟨1, .step ?_ ?_⟩
        · simp [upd, e2]
        · rw [upd_same]
          refine .here ?_
          rw [upd_ne _ _ _ _ e2]; exact hr
    · refine ⟨j' + 1, .step ?_ ?_⟩
      · rw [upd_ne _ _ _ _ e]; exact hne
      · rw [upd_ne _ _ _ _ e]; exact hj

theorem Forest.compress {n : Nat} {up : Nat → Nat} (F : Forest n up) {x r k : Nat} (hx : x < n) (h : Root up x r k) : Forest n (upd up x r) := by
  obtain ⟨d, hd⟩ := F.deep
  obtain ⟨hr, hlt⟩ := h.deeper F.lt hd hx
  refine ⟨fun z hz => ?_, d, fun z hz hne => ?_⟩
  · by_cases e : z = x
    · subst e; rw [upd_same]; exact hr
    · rw [upd_ne _ _ _ _ e]; exact F.lt z hz
  · by_cases e : z = x
    · subst e; rw [upd_same] at hne ⊢; exact hlt (fun e => hne e.symm)
    · rw [upd_ne _ _ _ _ e] at hne ⊢; exact hd z hz hne

/-- Two forests with the same roots. -/
def SameRoots (n : Nat) (up up' : Nat → Nat) : Prop := ∀ x r k, x < n → Root up x r k → ∃ k', Root up' x r k'

theorem SameRoots.refl (n : Nat) (up : Nat → Nat) : SameRoots n up up := fun _ _ k _ h => ⟨k, h⟩
theorem SameRoots.trans {n : Nat} {a b c : Nat → Nat} (h : SameRoots n a b) (g : SameRoots n b c) : SameRoots n a c :=
  fun x r k hx hr => let ⟨k', h'⟩ := h x r k hx hr; g x r k' hx h'

/-- The root y is put below the root x. -/
theorem Root.link {up : Nat → Nat} {x y : Nat} (hx : up x = x) (hy : up y = y) (hxy : x ≠ y) {z s j : Nat} (hz : Root up z s j) :
    ∃ j', Root (upd up y x) z (if s = y then x else s) j' := by
  induction hz with
  | @here s hs =>
    by_cases e : s = y
    · subst e
      rw [if_pos rfl]
      refine ⟨1, .step (by rw [upd_same]; exact hxy) ?_⟩
      rw [upd_same]
      exact .here (by rw [upd_ne _ _ _ _ hxy]; exact hx)
    · rw [if_neg e]; exact ⟨0, .here (by rw [upd_ne _ _ _ _ e]; exact hs)⟩
  | @step z s j hne t ih =>
    obtain ⟨j', hj⟩ := ih
    have e : z ≠ y := fun e => hne (by rw [e]; exact hy)
    refine ⟨j' + 1, .step ?_ ?_⟩
    · rw [upd_ne _ _ _ _ e]; exact hne
    · rw [upd_ne _ _ _ _ e]; exact hj

open Classical in
theorem Forest.link {n : Nat} {up : Nat → Nat} (F : Forest n up) {x y : Nat} (hxn : x < n) (hx : up x = x) (hy : up y = y) (hxy : x ≠ y) :
    Forest n (upd up y x) := by
  obtain ⟨d, hd⟩ := F.deep
  refine ⟨fun z hz => ?_, fun z => d z + (if ∃ k, Root up z y k then d x + 1 else 0), fun z hz hne => ?_⟩
  · by_cases e : z = y
    · subst e; rw [upd_same]; exact hxn
    · rw [upd_ne _ _ _ _ e]; exact F.lt z hz
  · by_cases e : z = y
    · subst e
      rw [upd_same]
      have h1 : ∃ k, Root up z z k := ⟨0, .here hy⟩
      have h2 : ¬ ∃ k, Root up x z k := by
        rintro ⟨k, h⟩
        exact hxy ((Root.here hx).unique h).1.symm
      show d x + (if ∃ k, Root up x z k then d x + 1 else 0) < d z + (if ∃ k, Root up z z k then d x + 1 else 0)
      rw [if_pos h1, if_neg h2]
      omega
    · rw [upd_ne _ _ _ _ e] at hne ⊢
      have h3 := hd z hz hne
      show d (up z) + (if ∃ k, Root up (up z) y k then d x + 1 else 0) < d z + (if ∃ k, Root up z y k then d x + 1 else 0)
      by_cases h1 : ∃ k, Root up (up z) y k
      · have h2 : ∃ k, Root up z y k := let ⟨k, h⟩ := h1; ⟨k + 1, .step hne h⟩
        rw [if_pos h1, if_pos h2]; omega
      · rw [if_neg h1]; omega

def cnt (n : Nat) (p : Nat → Bool) : Nat := (List.range n).countP p

theorem cnt_succ (n : Nat) (p : Nat → Bool) : cnt (n + 1) p = cnt n p + (if p n then 1 else 0) := by
  unfold cnt
  rw [List.range_succ, List.countP_append]
  simp [List.countP_cons]

theorem cnt_congr {n : Nat} {p q : Nat → Bool} (h : ∀ x, x < n → p x = q x) : cnt n p = cnt n q := by
  induction n with
  | zero => rfl
  | succ n ih => rw [cnt_succ, cnt_succ, ih (fun x hx => h x (by omega)), h n (by omega)]

theorem cnt_or {n : Nat} {p q : Nat → Bool} (h : ∀ x, x < n → ¬ (p x = true ∧ q x = true)) : cnt n (fun x => p x || q x) = cnt n p + cnt n q := by
  induction n with
  | zero => rfl
  | succ n ih =>
    rw [cnt_succ, cnt_succ, cnt_succ, ih (fun x hx => h x (by omega))]
    have := h n (by omega)
    cases hp : p n <;> cases hq : q n <;> simp_all <;> omega

theorem cnt_le (n : Nat) (p : Nat → Bool) : cnt n p ≤ n := by
  induction n with
  | zero => exact Nat.le_refl _
  | succ n ih => rw [cnt_succ]; split <;> omega

theorem cnt_one {n : Nat} {p : Nat → Bool} {x : Nat} (hx : x < n) (h : ∀ z, z < n → (p z = true ↔ z = x)) : cnt n p = 1 := by
  induction n with
  | zero => omega
  | succ n ih =>
    rw [cnt_succ]
    by_cases e : x = n
    · subst e
      have h0 : cnt x p = 0 := by
        have : cnt x p = cnt x (fun _ => false) := cnt_congr fun z hz => by
          have := h z (by omega)
          cases hp : p z
          · rfl
          · exact absurd (this.1 hp) (by omega)
        rw [this]; simp [cnt]
      rw [h0, (h x (by omega)).2 rfl]; simp
    · have hn : p n = false := by
        cases hp : p n
        · rfl
        · exact absurd ((h n (by omega)).1 hp) (fun e' => e e'.symm)
      rw [ih (by omega) (fun z hz => h z (by omega)), hn]; simp

theorem cnt_lt_of {n : Nat} {p : Nat → Bool} {x : Nat} (hx : x < n) (h : p x = true) : 0 < cnt n p := by
  induction n with
  | zero => omega
  | succ n ih =>
    rw [cnt_succ]
    by_cases e : x = n
    · subst e; rw [h]; simp
    · have := ih (by omega); omega

/-- One more where one more says yes. -/
theorem cnt_remove {n : Nat} {p q : Nat → Bool} {x : Nat} (hx : x < n) (hp : p x = true) (hq : ∀ z, z < n → q z = (p z && decide (z ≠ x))) : cnt n p = cnt n q + 1 := by
  have h1 : cnt n p = cnt n (fun z => q z || decide (z = x)) := cnt_congr fun z hz => by
    rw [hq z hz]
    by_cases e : z = x
    · subst e; simp [hp]
    · simp [e]
  rw [h1, cnt_or]
  · rw [cnt_one (p := fun z => decide (z = x)) hx (fun z _ => by simp)]
  · intro z hz; rw [hq z hz]; simp

/-- Labels: of each the least member of its set. -/
structure Canon (n : Nat) (L : Nat → Nat) : Prop where
  le : ∀ x, x < n → L x ≤ x
  idem : ∀ x, x < n → L (L x) = L x

theorem Canon.lt {n : Nat} {L : Nat → Nat} (C : Canon n L) {x : Nat} (hx : x < n) : L x < n := Nat.lt_of_le_of_lt (C.le x hx) hx

def joinL (L : Nat → Nat) (x y : Nat) : Nat → Nat := fun z => if L z = max (L x) (L y) then min (L x) (L y) else L z

theorem joinL_comm (L : Nat → Nat) (x y : Nat) : joinL L x y = joinL L y x := by
  funext z; simp only [joinL, Nat.max_comm, Nat.min_comm]

theorem joinL_same {L : Nat → Nat} {x y : Nat} (h : L x = L y) : joinL L x y = L := by
  funext z; simp only [joinL, h, Nat.max_self, Nat.min_self]; split <;> simp_all

theorem Canon.join {n : Nat} {L : Nat → Nat} (C : Canon n L) {x y : Nat} (hx : x < n) (hy : y < n) : Canon n (joinL L x y) := by
  have h1 := C.idem x hx
  have h2 := C.idem y hy
  refine ⟨fun z hz => ?_, fun z hz => ?_⟩
  · have := C.le z hz
    unfold joinL; split <;> omega
  · have h3 := C.idem z hz
    unfold joinL
    by_cases e : L z = max (L x) (L y)
    · rw [if_pos e]
      have h4 : L (min (L x) (L y)) = min (L x) (L y) := by
        by_cases h : L x ≤ L y
        · rw [Nat.min_eq_left h]; exact h1
        · rw [Nat.min_eq_right (by omega)]; exact h2
      rw [h4]; split <;> rfl
    · rw [if_neg e, h3, if_neg e]

theorem joinL_iff {L : Nat → Nat} {x y a b : Nat} :
    joinL L x y a = joinL L x y b ↔ L a = L b ∨ ((L a = L x ∨ L a = L y) ∧ (L b = L x ∨ L b = L y)) := by
  unfold joinL
  by_cases h1 : L a = max (L x) (L y) <;> by_cases h2 : L b = max (L x) (L y)
  · rw [if_pos h1, if_pos h2]; omega
  · rw [if_pos h1, if_neg h2]; omega
  · rw [if_neg h1, if_pos h2]; omega
  · rw [if_neg h1, if_neg h2]; omega

/-- What the memory of a 'Sets' says. -/
structure SetsInv (n : Nat) (up size low : Nat → Nat) (many : Nat) (L : Nat → Nat) : Prop where
  forest : Forest n up
  canon : Canon n L
  lab : ∀ x r k, x < n → Root up x r k → low r = L x
  sep : ∀ x y r s j k, x < n → y < n → Root up x r j → Root up y s k → L x = L y → r = s
  siz : ∀ x r k, x < n → Root up x r k → size r = cnt n (fun z => decide (L z = L x))
  man : many = cnt n (fun z => decide (L z = z))

theorem SetsInv.new (n : Nat) : SetsInv n (fun x => x) (fun _ => 1) (fun x => x) n (fun x => x) := by
  have hr : ∀ {x r k : Nat}, Root (fun x => x) x r k → r = x := by
    intro x r k h
    cases h with
    | here _ => rfl
    | step h _ => exact absurd rfl h
  refine ⟨⟨fun x hx => hx, fun _ => 0, fun x _ h => absurd rfl h⟩, ⟨fun x _ => Nat.le_refl _, fun _ _ => rfl⟩, fun x r k _ h => hr h, fun x y r s j k _ _ h h' e => ?_, fun x r k hx h => ?_, ?_⟩
  · rw [hr h, hr h', e]
  · exact (cnt_one hx (fun z _ => by simp)).symm
  · simp [cnt]

theorem SetsInv.compress {n : Nat} {up size low : Nat → Nat} {many : Nat} {L : Nat → Nat} (I : SetsInv n up size low many L) {x r k : Nat} (hx : x < n) (h : Root up x r k) :
    SetsInv n (upd up x r) size low many L := by
  have back : ∀ {z s j : Nat}, z < n → Root (upd up x r) z s j → ∃ j', Root up z s j' := by
    intro z s j hz hs
    obtain ⟨s', j', _, h'⟩ := I.forest.root hz
    obtain ⟨j2, h2⟩ := h.compress h'
    obtain ⟨rfl, _⟩ := h2.unique hs
    exact ⟨j', h'⟩
  refine ⟨I.forest.compress hx h, I.canon, fun z s j hz hs => ?_, fun a b r s j k ha hb h1 h2 e => ?_, fun z s j hz hs => ?_, I.man⟩
  · obtain ⟨j', h'⟩ := back hz hs; exact I.lab z s j' hz h'
  · obtain ⟨j1, h1⟩ := back ha h1; obtain ⟨j2, h2⟩ := back hb h2; exact I.sep a b r s j1 j2 ha hb h1 h2 e
  · obtain ⟨j', h'⟩ := back hz hs; exact I.siz z s j' hz h'

/-- The sets of x and y are put together: the root q is put below the root p. -/
theorem SetsInv.link {n : Nat} {up size low : Nat → Nat} {many : Nat} {L : Nat → Nat} (I : SetsInv n up size low many L) {x y p q j k : Nat} (hx : x < n) (hy : y < n)
    (hp : Root up x p j) (hq : Root up y q k) (hpq : p ≠ q) :
    SetsInv n (upd up q p) (upd size p (size p + size q)) (upd low p (min (low p) (low q))) (many - 1) (joinL L x y) ∧ 1 ≤ many ∧ L x ≠ L y := by
  have hLne : L x ≠ L y := fun e => hpq (I.sep x y p q j k hx hy hp hq e)
  obtain ⟨d, hd⟩ := I.forest.deep
  have hpn := (hp.deeper I.forest.lt hd hx).1
  have hqn := (hq.deeper I.forest.lt hd hy).1
  have hpp := hp.isRoot
  have hqq := hq.isRoot
  have lp := I.lab x p j hx hp
  have lq := I.lab y q k hy hq
  have lpp := I.lab p p 0 hpn (.here hpp)
  have lqq := I.lab q q 0 hqn (.here hqq)
  have sp := I.siz x p j hx hp
  have sq := I.siz y q k hy hq
  have fwd : ∀ {z : Nat}, z < n → ∃ s j', Root up z s j' ∧ ∃ j2, Root (upd up q p) z (if s = q then p else s) j2 := by
    intro z hz
    obtain ⟨s, j', _, h'⟩ := I.forest.root hz
    exact ⟨s, j', h', h'.link hpp hqq hpq⟩
  -- which label decides which root
  have isq : ∀ {z s j' : Nat}, z < n → Root up z s j' → (s = q ↔ L z = L y) := fun hz h' =>
    ⟨fun e => by rw [← I.lab _ _ _ hz h', ← lq, e], fun e => I.sep _ _ _ _ _ _ hz hy h' hq e⟩
  have isp : ∀ {z s j' : Nat}, z < n → Root up z s j' → (s = p ↔ L z = L x) := fun hz h' =>
    ⟨fun e => by rw [← I.lab _ _ _ hz h', ← lp, e], fun e => I.sep _ _ _ _ _ _ hz hx h' hp e⟩
  have labq : ∀ {z : Nat}, L z = L y ∨ L z = L x → joinL L x y z = min (L x) (L y) := by
    intro z h; unfold joinL; split <;> omega
  have labo : ∀ {z : Nat}, L z ≠ L y → L z ≠ L x → joinL L x y z = L z := by
    intro z h h'; unfold joinL; split <;> omega
  refine ⟨⟨I.forest.link hpn hpp hqq hpq, I.canon.join hx hy, ?_, ?_, ?_, ?_⟩, ?_, hLne⟩
  · intro z s j hz hs
    obtain ⟨s', j', h', j2, h2⟩ := fwd hz
    obtain ⟨e, _⟩ := h2.unique hs
    have hq' := isq hz h'
    have hp' := isp hz h'
    have hl := I.lab _ _ _ hz h'
    by_cases e1 : s' = q
    · rw [if_pos e1] at e; subst e
      rw [upd_same, labq (.inl (hq'.1 e1)), lp, lq]
    · rw [if_neg e1] at e; subst e
      by_cases e2 : s = p
      · subst e2; rw [upd_same, labq (.inr (hp'.1 rfl)), lp, lq]
      · rw [upd_ne _ _ _ _ e2, hl, labo (fun e => e1 (hq'.2 e)) (fun e => e2 (hp'.2 e))]
  · intro a b r s j k ha hb h1 h2 e
    obtain ⟨s1, j1, h1', j2, h12⟩ := fwd ha
    obtain ⟨s2, j3, h2', j4, h22⟩ := fwd hb
    obtain ⟨e1, _⟩ := h12.unique h1
    obtain ⟨e2, _⟩ := h22.unique h2
    have q1 := isq ha h1'; have q2 := isq hb h2'
    have p1 := isp ha h1'; have p2 := isp hb h2'
    rw [joinL_iff] at e
    rcases e with e | ⟨ea, eb⟩
    · have := I.sep _ _ _ _ _ _ ha hb h1' h2' e
      rw [e1, e2, this]
    · have a1 : (if s1 = q then p else s1) = p := by
        rcases ea with ea | ea
        · rw [p1.2 ea]; split <;> rfl
        · rw [if_pos (q1.2 ea)]
      have b1 : (if s2 = q then p else s2) = p := by
        rcases eb with eb | eb
        · rw [p2.2 eb]; split <;> rfl
        · rw [if_pos (q2.2 eb)]
      rw [e1, e2, a1, b1]
  · intro z s j hz hs
    obtain ⟨s', j', h', j2, h2⟩ := fwd hz
    obtain ⟨e, _⟩ := h2.unique hs
    have hq' := isq hz h'
    have hp' := isp hz h'
    have hsz := I.siz _ _ _ hz h'
    have both : cnt n (fun z => decide (joinL L x y z = min (L x) (L y))) = size p + size q := by
      rw [sp, sq, ← cnt_or (fun w _ => by simp; omega)]
      refine cnt_congr fun w _ => ?_
      by_cases c1 : L w = L x
      · simp [c1, labq (.inr c1)]
      · by_cases c2 : L w = L y
        · simp [c2, labq (.inl c2)]
        · have : joinL L x y w = L w := labo c2 c1
          simp [c1, c2, this]; omega
    by_cases e1 : s' = q
    · rw [if_pos e1] at e; subst e
      rw [upd_same, labq (.inl (hq'.1 e1)), both]
    · rw [if_neg e1] at e; subst e
      by_cases e2 : s = p
      · subst e2; rw [upd_same, labq (.inr (hp'.1 rfl)), both]
      · have n1 : L z ≠ L y := fun e => e1 (hq'.2 e)
        have n2 : L z ≠ L x := fun e => e2 (hp'.2 e)
        rw [upd_ne _ _ _ _ e2, hsz, labo n1 n2]
        refine cnt_congr fun w _ => ?_
        have : joinL L x y w = L z ↔ L w = L z := by unfold joinL; split <;> omega
        simp [this]
  · rw [I.man]
    have hmx : max (L x) (L y) < n := by have := I.canon.lt hx; have := I.canon.lt hy; omega
    have hmm : L (max (L x) (L y)) = max (L x) (L y) := by
      have h1 := I.canon.idem x hx; have h2 := I.canon.idem y hy
      by_cases h : L x ≤ L y
      · rw [Nat.max_eq_right h]; exact h2
      · rw [Nat.max_eq_left (by omega)]; exact h1
    rw [cnt_remove (q := fun z => decide (joinL L x y z = z)) hmx (by simp [hmm])]
    · rfl
    · intro z hz
      by_cases c : z = max (L x) (L y)
      · subst c
        have : joinL L x y (max (L x) (L y)) = min (L x) (L y) := by unfold joinL; rw [hmm, if_pos rfl]
        simp [this]; omega
      · have := I.canon.le z hz
        by_cases c2 : L z = max (L x) (L y)
        · have h3 : joinL L x y z = min (L x) (L y) := by unfold joinL; rw [if_pos c2]
          have : ¬ L z = z := by omega
          simp [h3, this]; omega
        · have h3 : joinL L x y z = L z := by unfold joinL; rw [if_neg c2]
          simp [h3, c]
  · rw [I.man]
    have hxl := I.canon.lt hx
    have : cnt n (fun z => decide (L z = z)) = cnt n (fun z => decide (L z = z) && decide (z ≠ L x)) + 1 :=
      cnt_remove hxl (by simp [I.canon.idem x hx]) (fun z _ => rfl)
    omega

end Go.Proofs.Ytkpoobnldgfapaa.Pl
