/- What is together by edges: labels that are least members. -/
import Derived.Test.YtkpoobnldgfapaaPlSets
namespace Go.Proofs.Ytkpoobnldgfapaa.Pl

/-- Of each the least one that it is together with, by edges. -/
def labs (es : List (Nat × Nat)) : Nat → Nat := es.foldl (fun L e => joinL L e.1 e.2) (fun x => x)

def Conn (es : List (Nat × Nat)) (x y : Nat) : Prop := labs es x = labs es y

instance (es : List (Nat × Nat)) (x y : Nat) : Decidable (Conn es x y) := inferInstanceAs (Decidable (labs es x = labs es y))

theorem labs_nil : labs [] = fun x => x := rfl
theorem labs_snoc (es : List (Nat × Nat)) (e : Nat × Nat) : labs (es ++ [e]) = joinL (labs es) e.1 e.2 := by
  unfold labs; rw [List.foldl_append]; rfl

theorem list_snoc_ind {α : Type} {P : List α → Prop} (nil : P []) (snoc : ∀ l x, P l → P (l ++ [x])) (l : List α) : P l := by
  have key : ∀ n (l : List α), l.length = n → P l := by
    intro n
    induction n with
    | zero => intro l h; rw [List.eq_nil_of_length_eq_zero h]; exact nil
    | succ n ih =>
      intro l h
      have hne : l ≠ [] := by intro e; simp [e] at h
      rw [← List.dropLast_concat_getLast hne]
      exact snoc _ _ (ih _ (by simp [h]))
  exact key _ l rfl

theorem labs_canon (es : List (Nat × Nat)) (n : Nat) : Canon n (labs es) := by
  have key : (∀ x, labs es x ≤ x) ∧ ∀ x, labs es (labs es x) = labs es x := by
    induction es using list_snoc_ind with
    | nil => exact ⟨fun _ => Nat.le_refl _, fun _ => rfl⟩
    | snoc l e ih =>
      rw [labs_snoc]
      have C : ∀ n, Canon n (labs l) := fun n => ⟨fun x _ => ih.1 x, fun x _ => ih.2 x⟩
      exact ⟨fun x => ((C (x + e.1 + e.2 + 1)).join (x := e.1) (y := e.2) (by omega) (by omega)).le x (by omega),
        fun x => ((C (x + e.1 + e.2 + 1)).join (x := e.1) (y := e.2) (by omega) (by omega)).idem x (by omega)⟩
  exact ⟨fun x _ => key.1 x, fun x _ => key.2 x⟩

theorem labs_le (es : List (Nat × Nat)) (x : Nat) : labs es x ≤ x := (labs_canon es (x + 1)).le x (by omega)
theorem labs_idem (es : List (Nat × Nat)) (x : Nat) : labs es (labs es x) = labs es x := (labs_canon es (x + 1)).idem x (by omega)

theorem Conn.refl (es : List (Nat × Nat)) (x : Nat) : Conn es x x := rfl
theorem Conn.symm {es : List (Nat × Nat)} {x y : Nat} (h : Conn es x y) : Conn es y x := Eq.symm h
theorem Conn.trans {es : List (Nat × Nat)} {x y z : Nat} (h : Conn es x y) (g : Conn es y z) : Conn es x z := Eq.trans h g

theorem Conn.snoc_iff {es : List (Nat × Nat)} {e : Nat × Nat} {x y : Nat} :
    Conn (es ++ [e]) x y ↔ Conn es x y ∨ ((Conn es x e.1 ∨ Conn es x e.2) ∧ (Conn es y e.1 ∨ Conn es y e.2)) := by
  unfold Conn; rw [labs_snoc, joinL_iff]

/-- Whatever is an equivalence and holds of the edges holds of what is together. -/
theorem Conn.ind {es : List (Nat × Nat)} {R : Nat → Nat → Prop} (refl : ∀ x, R x x) (symm : ∀ x y, R x y → R y x) (trans : ∀ x y z, R x y → R y z → R x z)
    (edge : ∀ e, e ∈ es → R e.1 e.2) {x y : Nat} (h : Conn es x y) : R x y := by
  induction es using list_snoc_ind generalizing x y with
  | nil => have : x = y := h; rw [this]; exact refl y
  | snoc l e ih =>
    have ih' : ∀ {x y}, Conn l x y → R x y := fun h => ih (fun e he => edge e (List.mem_append_left _ he)) h
    have he := edge e (by simp)
    rcases Conn.snoc_iff.1 h with h | ⟨h1, h2⟩
    · exact ih' h
    · have a1 : R x e.1 := by
        rcases h1 with h1 | h1
        · exact ih' h1
        · exact trans _ _ _ (ih' h1) (symm _ _ he)
      have a2 : R y e.1 := by
        rcases h2 with h2 | h2
        · exact ih' h2
        · exact trans _ _ _ (ih' h2) (symm _ _ he)
      exact trans _ _ _ a1 (symm _ _ a2)

theorem Conn.of_mem {es : List (Nat × Nat)} {a b : Nat} (h : (a, b) ∈ es) : Conn es a b := by
  induction es using list_snoc_ind with
  | nil => cases h
  | snoc l e ih =>
    rw [Conn.snoc_iff]
    rcases List.mem_append.1 h with h | h
    · exact .inl (ih h)
    · simp at h; subst h; exact .inr ⟨.inl rfl, .inr rfl⟩

theorem Conn.mono {es fs : List (Nat × Nat)} (h : ∀ e, e ∈ es → e ∈ fs) {x y : Nat} (c : Conn es x y) : Conn fs x y :=
  c.ind (Conn.refl _) (fun _ _ h => h.symm) (fun _ _ _ h g => h.trans g) (fun _ he => Conn.of_mem (h _ he))

/-- An edge may be named from either end, and come wherever it comes. -/
theorem Conn.mono' {es fs : List (Nat × Nat)} (h : ∀ a b, (a, b) ∈ es → (a, b) ∈ fs ∨ (b, a) ∈ fs) {x y : Nat} (c : Conn es x y) : Conn fs x y :=
  c.ind (Conn.refl _) (fun _ _ h => h.symm) (fun _ _ _ h g => h.trans g) (fun e he => by
    rcases h e.1 e.2 he with h | h
    · exact Conn.of_mem h
    · exact (Conn.of_mem h).symm)

/-- Labels that tell the same sets are the same. -/
theorem canon_unique {n : Nat} {L L' : Nat → Nat} (C : Canon n L) (C' : Canon n L') (h : ∀ x y, x < n → y < n → (L x = L y ↔ L' x = L' y)) : ∀ x, x < n → L x = L' x := by
  intro x hx
  have h1 := C.le x hx
  have h2 := C'.le x hx
  have a : L (L' x) = L x := (h _ _ (by omega) hx).2 (C'.idem x hx)
  have b : L' (L x) = L' x := (h _ _ (by omega) hx).1 (C.idem x hx)
  have c := C.le (L' x) (by omega)
  have d := C'.le (L x) (by omega)
  omega

theorem labs_unique {n : Nat} {es : List (Nat × Nat)} {L : Nat → Nat} (C : Canon n L) (h : ∀ x y, x < n → y < n → (L x = L y ↔ Conn es x y)) : ∀ x, x < n → L x = labs es x :=
  canon_unique C (labs_canon es n) h

theorem labs_congr {es fs : List (Nat × Nat)} (h : ∀ x y, Conn es x y ↔ Conn fs x y) (x : Nat) : labs es x = labs fs x :=
  canon_unique (labs_canon es (x + 1)) (labs_canon fs (x + 1)) (fun x y _ _ => h x y) x (by omega)

theorem labs_mem {es fs : List (Nat × Nat)} (h : ∀ a b, (a, b) ∈ es → (a, b) ∈ fs ∨ (b, a) ∈ fs) (g : ∀ a b, (a, b) ∈ fs → (a, b) ∈ es ∨ (b, a) ∈ es) (x : Nat) : labs es x = labs fs x :=
  labs_congr (fun _ _ => ⟨Conn.mono' h, Conn.mono' g⟩) x

/-- The parts that two labellings tell, in the order of their least members. -/
def parts (n : Nat) (L : Nat → Nat) : List (List Nat) :=
  ((List.range n).filter (fun x => decide (L x = x))).map (fun r => (List.range n).filter (fun x => decide (L x = r)))

theorem parts_congr {n : Nat} {L L' : Nat → Nat} (h : ∀ x, x < n → L x = L' x) : parts n L = parts n L' := by
  unfold parts
  rw [List.filter_congr (q := fun x => decide (L' x = x)) (fun x hx => by rw [h x (List.mem_range.1 hx)])]
  refine List.map_congr_left (fun r _ => List.filter_congr (fun x hx => by rw [h x (List.mem_range.1 hx)]))

/-- Labels that stand still when they are told along edges are the least ones. -/
theorem labs_of_fix {es : List (Nat × Nat)} {l : Nat → Nat} {n : Nat} (le : ∀ x, x < n → l x ≤ x) (con : ∀ x, x < n → Conn es x (l x)) (fix : ∀ e, e ∈ es → l e.1 = l e.2) :
    ∀ x, x < n → l x = labs es x := by
  have keep : ∀ {x y : Nat}, Conn es x y → l x = l y := fun h =>
    h.ind (R := fun x y => l x = l y) (fun _ => rfl) (fun _ _ h => h.symm) (fun _ _ _ h g => h.trans g) fix
  intro x hx
  have h1 : l x = l (labs es x) := keep (labs_idem es x).symm
  have h2 := labs_le es x
  have h3 := le (labs es x) (by omega)
  have h4 : labs es x = labs es (l x) := con x hx
  have h5 := labs_le es (l x)
  omega

def isRoot (L : Nat → Nat) (x : Nat) : Bool := decide (L x = x)

theorem parts_eq (n : Nat) (L : Nat → Nat) : parts n L = ((List.range n).filter (isRoot L)).map (fun r => (List.range n).filter (fun x => decide (L x = r))) := rfl

theorem roots_length (n : Nat) (L : Nat → Nat) : ((List.range n).filter (isRoot L)).length = cnt n (isRoot L) := by
  rw [← List.countP_eq_length_filter]; rfl

theorem parts_length (n : Nat) (L : Nat → Nat) : (parts n L).length = cnt n (isRoot L) := by
  rw [parts_eq, List.length_map, roots_length]

/-- Of a root: how many roots are less. -/
theorem roots_get {n : Nat} {p : Nat → Bool} {r : Nat} (hr : r < n) (h : p r = true) : ((List.range n).filter p)[cnt r p]? = some r := by
  induction n with
  | zero => omega
  | succ n ih =>
    rw [List.range_succ, List.filter_append]
    by_cases e : r = n
    · subst e
      have hl : ((List.range r).filter p).length = cnt r p := by rw [← List.countP_eq_length_filter]; rfl
      rw [List.getElem?_append_right (by omega), hl]
      simp [h]
    · have := ih (by omega)
      rw [List.getElem?_append_left (List.getElem?_eq_some_iff.1 this).1]
      exact this

theorem cnt_lt {n r : Nat} {p : Nat → Bool} (hr : r < n) (h : p r = true) : cnt r p < cnt n p := by
  have := roots_get hr h
  have h2 := (List.getElem?_eq_some_iff.1 this).1
  rw [← List.countP_eq_length_filter] at h2
  exact h2

theorem cnt_mono {n m : Nat} {p : Nat → Bool} (h : m ≤ n) : cnt m p ≤ cnt n p := by
  induction n with
  | zero => obtain rfl : m = 0 := by omega
            exact Nat.le_refl _
  | succ n ih =>
    by_cases e : m = n + 1
    · subst e; exact Nat.le_refl _
    · rw [cnt_succ]; have := ih (by omega); omega

/-- One more that is a root: one more part. -/
theorem parts_succ_root {n : Nat} {L : Nat → Nat} (C : Canon (n + 1) L) (h : L n = n) : parts (n + 1) L = parts n L ++ [[n]] := by
  have hne : ∀ r, r < n → decide (L n = r) = false := fun r hr => by simp [h]; omega
  unfold parts
  rw [List.range_succ, List.filter_append, List.map_append]
  have e1 : ([n].filter fun x => decide (L x = x)) = [n] := by simp [h]
  rw [e1]
  congr 1
  · refine List.map_congr_left fun r hr => ?_
    have hr' := List.mem_range.1 (List.mem_filter.1 hr).1
    rw [List.filter_append]
    simp [hne r hr']
  · have : (List.range n).filter (fun x => decide (L x = n)) = [] := by
      rw [List.filter_eq_nil_iff]
      intro x hx e
      have h1 := List.mem_range.1 hx
      have h2 := C.le x (by omega)
      simp at e; omega
    simp [this, h]

/-- One more that is no root: it goes to its root's part. -/
theorem parts_succ_other {n : Nat} {L : Nat → Nat} (C : Canon (n + 1) L) (h : L n ≠ n) :
    parts (n + 1) L = (parts n L).modify (cnt (L n) (isRoot L)) (fun p => p ++ [n]) := by
  have hle := C.le n (by omega)
  have hlt : L n < n := by omega
  have hroot : isRoot L (L n) = true := by simp [isRoot, C.idem n (by omega)]
  have e1 : (List.range (n + 1)).filter (isRoot L) = (List.range n).filter (isRoot L) := by
    rw [List.range_succ, List.filter_append]; simp [isRoot, h]
  apply List.ext_getElem?
  intro i
  rw [parts_eq, parts_eq, e1, List.getElem?_modify, List.getElem?_map, List.getElem?_map]
  by_cases hi : cnt (L n) (isRoot L) = i
  · subst hi
    rw [roots_get hlt hroot]
    simp [List.range_succ, List.filter_append]
  · cases hr : ((List.range n).filter (isRoot L))[i]? with
    | none => simp
    | some r =>
      have hmem := List.mem_of_getElem? hr
      rw [List.mem_filter, List.mem_range] at hmem
      have hne : ¬ L n = r := by
        intro e
        subst e
        have h2 := roots_get (p := isRoot L) hmem.1 hmem.2
        have hl1 := (List.getElem?_eq_some_iff.1 hr)
        have hl2 := (List.getElem?_eq_some_iff.1 h2)
        have nd : ((List.range n).filter (isRoot L)).Nodup := List.Pairwise.filter _ List.nodup_range
        exact hi ((List.getElem_inj nd).1 (hl2.2.trans hl1.2.symm))
      simp [hi, List.range_succ, List.filter_append, hne]

end Go.Proofs.Ytkpoobnldgfapaa.Pl
