/- Part 29 of the proof: D1. -/
import Derived.Test.YtkpoobnldgfapabGreatDoorIl18
set_option linter.unusedVariables false
set_option linter.unusedSimpArgs false
namespace Go.Proofs.YtkpoobnldgfapabGreatDoor.Pl
theorem ends_in {es : List E} {a b : Nat} (h : (a, b) ∈ ends es) : ∃ e, e ∈ es ∧ e.a = a ∧ e.b = b := by
  unfold ends at h
  obtain ⟨e, he, h⟩ := List.mem_map.1 h
  simp only [Prod.mk.injEq] at h
  exact ⟨e, he, h.1, h.2⟩
end Go.Proofs.YtkpoobnldgfapabGreatDoor.Pl
namespace Go.Proofs.YtkpoobnldgfapabGreatDoor.Pl
structure DS where
  cnt : Nat
  ord : Nat → Nat
  low : Nat → Nat
  st : List Nat
  ps : List (List Nat)
  cuts : List Nat
def DS.enter (s : DS) (x : Nat) : DS := { s with cnt := s.cnt + 1, ord := upd s.ord x (s.cnt + 1), low := upd s.low x (s.cnt + 1) }
def DS.pushE (s : DS) (id : Nat) : DS := { s with st := s.st ++ [id] }
def DS.lower (s : DS) (x v : Nat) : DS := { s with low := upd s.low x (min (s.low x) v) }
abbrev less1 (es : List E) (w : Nat) : List E := es.filter (fun e => decide (e.a ≠ w ∧ e.b ≠ w))
theorem mem_less1 {es : List E} {w : Nat} {e : E} : e ∈ less1 es w ↔ e ∈ es ∧ ¬ touch e w := by
  unfold less1 touch; rw [List.mem_filter]; simp only [decide_eq_true_eq, not_or]
def StepB (es : List E) (e f : E) : Prop := ∃ w, touch e w ∧ touch f w ∧ Conn (ends (less1 es w)) (othE e w) (othE f w)
inductive Blk (es : List E) : E → E → Prop where
  | refl (e : E) : Blk es e e
  | step {e f g : E} : Blk es e f → f ∈ es → g ∈ es → StepB es f g → Blk es e g
theorem StepB.symm {es : List E} {e f : E} (h : StepB es e f) : StepB es f e := by obtain ⟨w, h1, h2, h3⟩ := h; exact ⟨w, h2, h1, h3.symm⟩
theorem Blk.one {es : List E} {e f : E} (he : e ∈ es) (hf : f ∈ es) (h : StepB es e f) : Blk es e f := .step (.refl e) he hf h
theorem Blk.trans {es : List E} {e f g : E} (h : Blk es e f) (k : Blk es f g) : Blk es e g := by
  induction k with
  | refl => exact h
  | step _ h1 h2 h3 ih => exact .step ih h1 h2 h3
theorem Blk.symm {es : List E} {e f : E} (h : Blk es e f) : Blk es f e := by
  induction h with
  | refl => exact .refl _
  | step _ h1 h2 h3 ih => exact (Blk.one h2 h1 h3.symm).trans ih
def Sep (es : List E) (x : Nat) : Prop := ∃ a b, a ≠ x ∧ b ≠ x ∧ Conn (ends es) a b ∧ ¬ Conn (ends (less1 es x)) a b
theorem Conn.of_edge' {es : List E} {e : E} (h : e ∈ es) {x : Nat} (ht : touch e x) : Conn (ends es) x (othE e x) := by
  have := Conn.of_edge h
  unfold othE
  rcases ht with h1 | h1
  · rw [if_pos h1]; rw [h1] at this; exact this
  · by_cases h2 : e.a = x
    · rw [if_pos h2]; rw [h2] at this; exact this
    · rw [if_neg h2]; rw [h1] at this; exact this.symm
theorem nosep {es : List E} {x : Nat} (h : ∀ e f, e ∈ es → f ∈ es → touch e x → touch f x → Conn (ends (less1 es x)) (othE e x) (othE f x)) : ¬ Sep es x := by
  rintro ⟨a, b, ha, hb, hc, hn⟩
  apply hn
  obtain ⟨y0, hy⟩ : ∃ y0, ∀ e, e ∈ es → touch e x → Conn (ends (less1 es x)) y0 (othE e x) := by
    by_cases hx : ∃ e, e ∈ es ∧ touch e x
    · obtain ⟨e, he, ht⟩ := hx
      exact ⟨othE e x, fun f hf hft => h e f he hf ht hft⟩
    · exact ⟨x, fun e he ht => absurd ⟨e, he, ht⟩ hx⟩
  have key : ∀ u v, Conn (ends es) u v → Conn (ends (less1 es x)) (if u = x then y0 else u) (if v = x then y0 else v) := by
    intro u v huv
    refine Conn.ind (R := fun u v => Conn (ends (less1 es x)) (if u = x then y0 else u) (if v = x then y0 else v)) (fun _ => Conn.refl _ _) (fun _ _ h => h.symm) (fun _ _ _ h g => h.trans g) (fun p hp => ?_) huv
    obtain ⟨e, he, h1, h2⟩ := ends_in (a := p.1) (b := p.2) hp
    by_cases t : touch e x
    · have h3 := hy e he t
      unfold othE at h3
      rw [← h1, ← h2]
      by_cases e1 : e.a = x
      · rw [if_pos e1] at h3
        rw [if_pos e1]
        by_cases e2 : e.b = x
        · rw [if_pos e2]; exact Conn.refl _ _
        · rw [if_neg e2]; exact h3
      · rw [if_neg e1] at h3
        rw [if_neg e1]
        have e2 : e.b = x := by rcases t with t | t; exact absurd t e1; exact t
        rw [if_pos e2]; exact h3.symm
    · have h3 : e ∈ less1 es x := mem_less1.2 ⟨he, t⟩
      have n1 : e.a ≠ x := fun h => t (.inl h)
      have n2 : e.b ≠ x := fun h => t (.inr h)
      rw [← h1, ← h2, if_neg n1, if_neg n2]
      exact Conn.of_edge h3
  have := key a b hc
  rwa [if_neg ha, if_neg hb] at this
def newB (s0 s : DS) (v : Nat) : Bool := decide (s0.ord v = 0) && decide (s.ord v ≠ 0)
theorem newB_iff {s0 s : DS} {v : Nat} : newB s0 s v = true ↔ s0.ord v = 0 ∧ s.ord v ≠ 0 := by unfold newB; simp
abbrev inE (es : List E) (D : Nat → Bool) : List E := es.filter (fun e => D e.a && D e.b)
theorem mem_inE {es : List E} {D : Nat → Bool} {e : E} : e ∈ inE es D ↔ e ∈ es ∧ D e.a = true ∧ D e.b = true := by unfold inE; rw [List.mem_filter, Bool.and_eq_true]
theorem inE_mono {es : List E} {D D' : Nat → Bool} (h : ∀ v, D v = true → D' v = true) {x y : Nat} (c : Conn (ends (inE es D)) x y) : Conn (ends (inE es D')) x y :=
  c.of_sub fun e he => by obtain ⟨h1, h2, h3⟩ := mem_inE.1 he; exact mem_inE.2 ⟨h1, h _ h2, h _ h3⟩
theorem inE_less {es : List E} {D : Nat → Bool} {w : Nat} (hw : D w = false) {x y : Nat} (c : Conn (ends (inE es D)) x y) : Conn (ends (less1 es w)) x y :=
  c.of_sub fun e he => by
    obtain ⟨h1, h2, h3⟩ := mem_inE.1 he
    refine mem_less1.2 ⟨h1, ?_⟩
    rintro (h | h)
    · rw [h, hw] at h2; cases h2
    · rw [h, hw] at h3; cases h3
def visB (s : DS) (v : Nat) : Bool := decide (s.ord v ≠ 0)
def ClassB (es : List E) (p : List Nat) : Prop := ∀ e f, e ∈ es → f ∈ es → e.id ∈ p → (f.id ∈ p ↔ Blk es e f)
structure Pre (es : List E) (s : DS) (G : Nat → Prop) (y : Nat) (by_ : Int) (par : Option E) : Prop where
  none_ : par = none → by_ < 0 ∧ ∀ v, ¬ G v
  some_ : ∀ e, par = some e → e ∈ es ∧ by_ = e.id ∧ touch e y ∧ G (othE e y) ∧ ∀ a, G a → Conn (ends (inE es (visB s))) a (othE e y) ∧ s.ord a ≤ s.ord (othE e y)
  grey : ∀ v, G v → s.ord v ≠ 0
  black : ∀ v, s.ord v ≠ 0 → ¬ G v → ∀ e, e ∈ es → touch e v → s.ord (othE e v) ≠ 0
  new : s.ord y = 0
  inj : ∀ u v, s.ord u ≠ 0 → s.ord u = s.ord v → u = v
  le : ∀ v, s.ord v ≤ s.cnt
structure LInv (es : List E) (s0 : DS) (G : Nat → Prop) (x : Nat) (by_ : Int) (par : Option E) (done : List E) (ch : Nat) (s : DS) (T : List Nat) (P : List (List Nat)) (C : List Nat) : Prop where
  pre : Pre es s0 G x by_ par
  old : ∀ v, s0.ord v ≠ 0 → s.ord v = s0.ord v ∧ s.low v = s0.low v
  self : s.ord x = s0.cnt + 1
  lo : ∀ v, newB s0 s v = true → s0.cnt < s.ord v
  le : ∀ v, s.ord v ≤ s.cnt
  inj : ∀ u v, s.ord u ≠ 0 → s.ord u = s.ord v → u = v
  closed : ∀ v, newB s0 s v = true → v ≠ x → ∀ e, e ∈ es → touch e v → s.ord (othE e v) ≠ 0
  seen : ∀ e, e ∈ done → s.ord (othE e x) ≠ 0
  inner : ∀ v, newB s0 s v = true → Conn (ends (inE es (newB s0 s))) x v
  st : s.st = s0.st ++ T
  ps : s.ps = s0.ps ++ P
  cs : s.cuts = s0.cuts ++ C
  ids : ∀ id, id ∈ T ++ P.flatten ↔ ∃ e, e ∈ es ∧ e.id = id ∧ (e.id : Int) ≠ by_ ∧ ((∃ v, v ≠ x ∧ newB s0 s v = true ∧ touch e v) ∨ e ∈ done)
  nodup : (T ++ P.flatten).Nodup
  lowLe : ∀ e v, e ∈ es → (e.id : Int) ≠ by_ → newB s0 s v = true → touch e v → newB s0 s (othE e v) = false → (v ≠ x ∨ e ∈ done) → s.low x ≤ s.ord (othE e v)
  lowS : s.low x ≤ s.ord x
  lowEx : s.low x = s.ord x ∨ ∃ e v, e ∈ es ∧ (e.id : Int) ≠ by_ ∧ newB s0 s v = true ∧ touch e v ∧ newB s0 s (othE e v) = false ∧ s.low x = s.ord (othE e v) ∧ s.ord (othE e v) ≠ 0
  cls : ∀ p, p ∈ P → p ≠ [] ∧ ClassB es p
  root : par = none → T = []
  blk : ∀ e0, par = some e0 → ∀ t, t ∈ T → ∃ f, f ∈ es ∧ f.id = t ∧ Blk es e0 f
  cNew : ∀ v, v ∈ C → newB s0 s v = true
  cIn : ∀ v, v ≠ x → newB s0 s v = true → (v ∈ C ↔ Sep es v)
  cX : x ∈ C → Sep es x
  cOut : x ∈ C ∨ ((∀ v w, newB s0 s v = true → newB s0 s w = true → v ≠ x → w ≠ x → Conn (ends (less1 es x)) v w) ∧ ∀ e0, par = some e0 → ∀ v, newB s0 s v = true → v ≠ x → Conn (ends (less1 es x)) v (othE e0 x))
  zero : ch = 0 → ∀ v, newB s0 s v = true → v = x
  many : 0 < ch → ∃ v, v ≠ x ∧ newB s0 s v = true
structure Post (es : List E) (s0 : DS) (G : Nat → Prop) (y : Nat) (by_ : Int) (par : Option E) (s : DS) (T : List Nat) (P : List (List Nat)) (C : List Nat) : Prop where
  old : ∀ v, s0.ord v ≠ 0 → s.ord v = s0.ord v ∧ s.low v = s0.low v
  self : s.ord y = s0.cnt + 1
  lo : ∀ v, newB s0 s v = true → s0.cnt < s.ord v
  le : ∀ v, s.ord v ≤ s.cnt
  inj : ∀ u v, s.ord u ≠ 0 → s.ord u = s.ord v → u = v
  closed : ∀ v, newB s0 s v = true → ∀ e, e ∈ es → touch e v → s.ord (othE e v) ≠ 0
  inner : ∀ v, newB s0 s v = true → Conn (ends (inE es (newB s0 s))) y v
  st : s.st = s0.st ++ T
  ps : s.ps = s0.ps ++ P
  cs : s.cuts = s0.cuts ++ C
  ids : ∀ id, id ∈ T ++ P.flatten ↔ ∃ e, e ∈ es ∧ e.id = id ∧ (e.id : Int) ≠ by_ ∧ ∃ v, newB s0 s v = true ∧ touch e v
  nodup : (T ++ P.flatten).Nodup
  lowLe : ∀ e v, e ∈ es → (e.id : Int) ≠ by_ → newB s0 s v = true → touch e v → newB s0 s (othE e v) = false → s.low y ≤ s.ord (othE e v)
  lowS : s.low y ≤ s.ord y
  lowEx : s.low y = s.ord y ∨ ∃ e v, e ∈ es ∧ (e.id : Int) ≠ by_ ∧ newB s0 s v = true ∧ touch e v ∧ newB s0 s (othE e v) = false ∧ s.low y = s.ord (othE e v)
  cls : ∀ p, p ∈ P → p ≠ [] ∧ ClassB es p
  root : par = none → T = []
  blk : ∀ e0, par = some e0 → ∀ t, t ∈ T → ∃ f, f ∈ es ∧ f.id = t ∧ Blk es e0 f
  cNew : ∀ v, v ∈ C → newB s0 s v = true
  cIn : ∀ v, newB s0 s v = true → (v ∈ C ↔ Sep es v)
theorem newB_at {s0 s : DS} {v : Nat} (h0 : s0.ord v = 0) (h : s.ord v ≠ 0) : newB s0 s v = true := newB_iff.2 ⟨h0, h⟩
theorem newB_old {s0 s : DS} {v : Nat} (h0 : s0.ord v ≠ 0) : newB s0 s v = false := by unfold newB; simp [h0]
theorem newB_no {s0 s : DS} {v : Nat} (h0 : s.ord v = 0) : newB s0 s v = false := by unfold newB; simp [h0]
theorem othE_ne {e : E} (h : e.a ≠ e.b) {x : Nat} (ht : touch e x) : othE e x ≠ x := by
  unfold othE
  rcases ht with h1 | h1
  · rw [if_pos h1]; omega
  · rw [if_neg (by omega)]; omega
theorem LInv.start {es : List E} {s0 : DS} {G : Nat → Prop} {x : Nat} {by_ : Int} {par : Option E} (h : Pre es s0 G x by_ par) : LInv es s0 G x by_ par [] 0 (s0.enter x) [] [] [] := by
  have hv : ∀ v, newB s0 (s0.enter x) v = true ↔ v = x := fun v => by
    rw [newB_iff]
    show s0.ord v = 0 ∧ upd s0.ord x (s0.cnt + 1) v ≠ 0 ↔ v = x
    by_cases e : v = x
    · subst e; rw [upd_same]; exact ⟨fun _ => rfl, fun _ => ⟨h.new, by omega⟩⟩
    · rw [upd_ne _ _ _ _ e]; exact ⟨fun ⟨h1, h2⟩ => absurd h1 h2, fun h => absurd h e⟩
  have hx : (s0.enter x).ord x = s0.cnt + 1 := upd_same _ _ _
  have hne : ∀ v, v ≠ x → (s0.enter x).ord v = s0.ord v := fun v e => upd_ne _ _ _ _ e
  have hl : (s0.enter x).low x = s0.cnt + 1 := upd_same _ _ _
  refine ⟨h, fun v hv0 => ?_, hx, fun v h1 => ?_, fun v => ?_, fun u v hu huv => ?_, fun v h1 h2 => absurd ((hv v).1 h1) h2, fun e he => by simp at he, fun v h1 => ?_, by simp [DS.enter], by simp [DS.enter], by simp [DS.enter], fun id => ?_, by simp,
    fun e v _ _ h1 _ _ h4 => ?_, by rw [hl, hx]; exact Nat.le_refl _, .inl (by rw [hl, hx]), fun p hp => by simp at hp, fun _ => rfl, fun _ _ t ht => by simp at ht, fun v hv => by simp at hv, fun v h1 h2 => absurd ((hv v).1 h2) h1, fun h => by simp at h, .inr ⟨fun v w h1 _ h3 => absurd ((hv v).1 h1) h3, fun _ _ v h1 h3 => absurd ((hv v).1 h1) h3⟩, fun _ v h1 => (hv v).1 h1, fun h => by omega⟩
  · have e : v ≠ x := fun e => hv0 (e ▸ h.new)
    exact ⟨hne v e, upd_ne _ _ _ _ e⟩
  · rw [(hv v).1 h1, hx]; omega
  · by_cases e : v = x
    · rw [e, hx]; exact Nat.le_refl _
    · rw [hne v e]; have := h.le v; show _ ≤ s0.cnt + 1; omega
  · by_cases e1 : u = x <;> by_cases e2 : v = x
    · omega
    · rw [e1, hx, hne v e2] at huv; have := h.le v; omega
    · rw [e2, hx, hne u e1] at huv; have := h.le u; omega
    · rw [hne u e1, hne v e2] at huv; rw [hne u e1] at hu; exact h.inj u v hu huv
  · rw [(hv v).1 h1]; exact Conn.refl _ _
  · constructor
    · intro h; simp at h
    · rintro ⟨e, _, _, _, ⟨v, h1, h2, _⟩ | h⟩
      · exact absurd ((hv v).1 h2) h1
      · simp at h
  · rcases h4 with h4 | h4
    · exact absurd ((hv v).1 h1) h4
    · simp at h4
end Go.Proofs.YtkpoobnldgfapabGreatDoor.Pl
namespace Go.Proofs.YtkpoobnldgfapabGreatDoor.Pl
theorem touch_or {e : E} {x v : Nat} (hx : touch e x) (hv : touch e v) : v = x ∨ v = othE e x := by
  unfold othE
  rcases hx with h1 | h1 <;> rcases hv with h2 | h2
  · exact .inl (by omega)
  · rw [if_pos h1]; exact .inr h2.symm
  · by_cases h3 : e.a = x
    · exact .inl (by omega)
    · rw [if_neg h3]; exact .inr h2.symm
  · exact .inl (by omega)
section
variable {es : List E} {s0 : DS} {G : Nat → Prop} {x : Nat} {by_ : Int} {par : Option E} {done : List E} {ch : Nat} {s : DS} {T : List Nat} {P : List (List Nat)} {C : List Nat}
theorem LInv.new_x (h : LInv es s0 G x by_ par done ch s T P C) : newB s0 s x = true := newB_at h.pre.new (by rw [h.self]; omega)
theorem LInv.less_x (h : LInv es s0 G x by_ par done ch s T P C) {v : Nat} (hv : s0.ord v ≠ 0) : s.ord v < s.ord x := by
  rw [(h.old v hv).1, h.self]; have := h.pre.le v; omega
theorem LInv.black (h : LInv es s0 G x by_ par done ch s T P C) {v : Nat} (hv : s.ord v ≠ 0) (hG : ¬ G v) (hx : v ≠ x) {e : E} (he : e ∈ es) (ht : touch e v) : s.ord (othE e v) ≠ 0 := by
  by_cases h0 : s0.ord v = 0
  · exact h.closed v (newB_at h0 hv) hx e he ht
  · have := h.pre.black v h0 hG e he ht
    rw [(h.old _ this).1]; exact this
theorem LInv.back (inj : Inj es) (hne : ∀ e, e ∈ es → e.a ≠ e.b) (h : LInv es s0 G x by_ par done ch s T P C) {e : E} (he : e ∈ es) (ht : touch e x) (hb : (e.id : Int) ≠ by_) (hd : e ∉ done) (hv : s.ord (othE e x) ≠ 0) (hl : s.ord (othE e x) < s.ord x) :
    LInv es s0 G x by_ par (done ++ [e]) ch ((s.pushE e.id).lower x (s.ord (othE e x))) (T ++ [e.id]) P C := by
  have h0 : s0.ord (othE e x) ≠ 0 := fun h0 => by
    have := h.lo _ (newB_at h0 hv)
    rw [h.self] at hl; omega
  have hxx := oth_oth ht
  have hG : G (othE e x) := Classical.byContradiction fun hG => by
    have := h.pre.black _ h0 hG e he (oth_touch ht)
    rw [hxx] at this
    exact this h.pre.new
  obtain ⟨e0, hp⟩ : ∃ e0, par = some e0 := by
    cases hp : par with
    | none => exact absurd hG ((h.pre.none_ hp).2 _)
    | some e0 => exact ⟨e0, rfl⟩
  obtain ⟨p1, p2, p3, p4, p5⟩ := h.pre.some_ e0 hp
  have hnew : newB s0 s (othE e x) = false := newB_old h0
  have hnotin : e.id ∉ T ++ P.flatten := fun hm => by
    obtain ⟨f, h1, h2, h3, h4⟩ := (h.ids e.id).1 hm
    have : f = e := inj f e h1 he h2
    subst this
    rcases h4 with ⟨v, v1, v2, v3⟩ | h4
    · rcases touch_or ht v3 with h5 | h5
      · exact v1 h5
      · rw [h5, hnew] at v2; cases v2
    · exact hd h4
  obtain ⟨y, hy⟩ : ∃ y, othE e x = y := ⟨_, rfl⟩
  rw [hy] at hv hl h0 hG hnew hxx ⊢
  have lx : ((s.pushE e.id).lower x (s.ord y)).low x = min (s.low x) (s.ord y) := upd_same _ _ _
  have xs0 : ∀ v, s0.ord v ≠ 0 → v ≠ x := fun v hv e => hv (e ▸ h.pre.new)
  refine ⟨h.pre, fun v hv => ⟨(h.old v hv).1, (upd_ne _ _ _ _ (xs0 v hv)).trans (h.old v hv).2⟩, h.self, h.lo, h.le, h.inj, h.closed, fun f hf => ?_, h.inner, ?_, h.ps, h.cs, fun id => ?_, ?_, fun f v h1 h2 h3 h4 h5 h6 => ?_, ?_, ?_, h.cls, fun hn => ?_, fun e1 he1 t htt => ?_, h.cNew, h.cIn, h.cX, h.cOut, h.zero, h.many⟩
  · rcases List.mem_append.1 hf with hf | hf
    · exact h.seen f hf
    · rw [List.mem_singleton.1 hf, hy]; exact hv
  · show s.st ++ [e.id] = _
    rw [h.st, List.append_assoc]
  · have : id ∈ T ++ [e.id] ++ P.flatten ↔ id ∈ T ++ P.flatten ∨ id = e.id := by simp only [List.mem_append, List.mem_singleton]; constructor <;> intro hh <;> rcases hh with (hh | hh) | hh <;> simp [hh]
    rw [this, h.ids]
    constructor
    · rintro (⟨f, h1, h2, h3, h4⟩ | hh)
      · exact ⟨f, h1, h2, h3, h4.imp (fun h => h) (List.mem_append_left _)⟩
      · exact ⟨e, he, hh.symm, hb, .inr (by simp)⟩
    · rintro ⟨f, h1, h2, h3, h4 | h4⟩
      · exact .inl ⟨f, h1, h2, h3, .inl h4⟩
      · rcases List.mem_append.1 h4 with h4 | h4
        · exact .inl ⟨f, h1, h2, h3, .inr h4⟩
        · rw [List.mem_singleton.1 h4] at h2; exact .inr h2.symm
  · have hp : (T ++ [e.id] ++ P.flatten).Perm (e.id :: (T ++ P.flatten)) := by
      rw [List.append_assoc, List.singleton_append]; exact List.perm_middle
    rw [hp.nodup_iff, List.nodup_cons]
    exact ⟨hnotin, h.nodup⟩
  · rw [lx]
    have key : f ∈ es → (v ≠ x ∨ f ∈ done) → min (s.low x) (s.ord y) ≤ s.ord (othE f v) := fun _ h6 => Nat.le_trans (Nat.min_le_left _ _) (h.lowLe f v h1 h2 h3 h4 h5 h6)
    rcases h6 with h6 | h6
    · exact key h1 (.inl h6)
    · rcases List.mem_append.1 h6 with h6 | h6
      · exact key h1 (.inr h6)
      · by_cases hvx : v = x
        · rw [List.mem_singleton.1 h6, hvx]
          show _ ≤ s.ord (othE e x)
          rw [hy]; exact Nat.min_le_right _ _
        · exact key h1 (.inl hvx)
  · rw [lx]; exact Nat.le_trans (Nat.min_le_left _ _) h.lowS
  · rw [lx]
    by_cases hm : s.low x ≤ s.ord y
    · rw [Nat.min_eq_left hm]; exact h.lowEx
    · rw [Nat.min_eq_right (by omega)]
      exact .inr ⟨e, x, he, hb, h.new_x, ht, by rw [hy]; exact hnew, by rw [hy]; rfl, by rw [hy]; exact hv⟩
  · rw [hp] at hn; cases hn
  · have : e1 = e0 := by rw [hp] at he1; exact (Option.some.inj he1).symm
    subst this
    rcases List.mem_append.1 htt with htt | htt
    · exact h.blk e1 he1 t htt
    · refine ⟨e, he, (List.mem_singleton.1 htt).symm, Blk.one p1 he ⟨x, p3, ht, ?_⟩⟩
      rw [hy]
      exact (inE_less (D := visB s0) (by unfold visB; simp [h.pre.new]) (p5 y hG).1).symm
end
end Go.Proofs.YtkpoobnldgfapabGreatDoor.Pl
namespace Go.Proofs.YtkpoobnldgfapabGreatDoor.Pl
theorem Conn.keeps {es : List E} {D : Nat → Bool} (h : ∀ e, e ∈ es → D e.a = D e.b) {x y : Nat} (c : Conn (ends es) x y) : D x = D y :=
  c.ind (R := fun u v => D u = D v) (fun _ => rfl) (fun _ _ h => h.symm) (fun _ _ _ h g => h.trans g) fun p hp => by
    obtain ⟨e, he, h1, h2⟩ := ends_in (a := p.1) (b := p.2) hp
    rw [← h1, ← h2]; exact h e he
theorem Blk.keeps {es : List E} {B : E → Prop} (h : ∀ f g, f ∈ es → g ∈ es → B f → StepB es f g → B g) {e f : E} (k : Blk es e f) (he : B e) : B f := by
  induction k with
  | refl => exact he
  | step _ h1 h2 h3 ih => exact h _ _ h1 h2 ih h3
section
variable {es : List E} {s0 : DS} {G : Nat → Prop} {x : Nat} {by_ : Int} {par : Option E} {done : List E} {ch : Nat} {s s1 : DS} {T Ty : List Nat} {P Py : List (List Nat)} {C Cy : List Nat} {e : E}
structure Both (es : List E) (s0 : DS) (G : Nat → Prop) (x : Nat) (by_ : Int) (par : Option E) (done : List E) (ch : Nat) (s s1 : DS) (T Ty : List Nat) (P Py : List (List Nat)) (C Cy : List Nat) (e : E) : Prop where
  inj : Inj es
  hne : ∀ e, e ∈ es → e.a ≠ e.b
  l : LInv es s0 G x by_ par done ch s T P C
  p : Post es (s.pushE e.id) (fun v => G v ∨ v = x) (othE e x) e.id (some e) s1 Ty Py Cy
  he : e ∈ es
  ht : touch e x
  hb : (e.id : Int) ≠ by_
  hd : e ∉ done
  dt : ∀ f, f ∈ done → touch f x
  hv : s.ord (othE e x) = 0
namespace Both
variable (b : Both es s0 G x by_ par done ch s s1 T Ty P Py C Cy e)
include b
theorem ord_old {v : Nat} (hv : s.ord v ≠ 0) : s1.ord v = s.ord v := (b.p.old v hv).1
theorem low_old {v : Nat} (hv : s.ord v ≠ 0) : s1.low v = s.low v := (b.p.old v hv).2
theorem sx : s.ord x ≠ 0 := by rw [b.l.self]; omega
theorem old_s {v : Nat} (hv : s0.ord v ≠ 0) : s.ord v ≠ 0 := by rw [(b.l.old v hv).1]; exact hv
theorem y_x : othE e x ≠ x := othE_ne (b.hne e b.he) b.ht
theorem dy_y : newB (s.pushE e.id) s1 (othE e x) = true := newB_at b.hv (by rw [b.p.self]; omega)
theorem dy_old {v : Nat} (hv : s.ord v ≠ 0) : newB (s.pushE e.id) s1 v = false := by
  have _ := b.hv
  exact newB_old hv
theorem dy_new {v : Nat} (h : newB (s.pushE e.id) s1 v = true) : s.ord v = 0 ∧ s0.ord v = 0 ∧ s1.ord v ≠ 0 ∧ newB s0 s v = false ∧ v ≠ x := by
  obtain ⟨h1, h2⟩ := newB_iff.1 h
  have h1 : s.ord v = 0 := h1
  refine ⟨h1, Classical.byContradiction fun h0 => b.old_s h0 h1, h2, newB_no h1, fun e => b.sx (e ▸ h1)⟩
theorem d2 {v : Nat} : newB s0 s1 v = true ↔ newB s0 s v = true ∨ newB (s.pushE e.id) s1 v = true := by
  constructor
  · intro h
    obtain ⟨h1, h2⟩ := newB_iff.1 h
    by_cases h3 : s.ord v = 0
    · exact .inr (newB_at h3 h2)
    · exact .inl (newB_at h1 h3)
  · rintro (h | h)
    · obtain ⟨h1, h2⟩ := newB_iff.1 h
      exact newB_at h1 (by rw [b.ord_old h2]; exact h2)
    · obtain ⟨_, h1, h2, _⟩ := b.dy_new h
      exact newB_at h1 h2
theorem d2_x {v : Nat} (hx : v ≠ x) : newB s0 s1 v = true ↔ (newB s0 s v = true ∧ v ≠ x) ∨ newB (s.pushE e.id) s1 v = true := by
  rw [b.d2]
  constructor
  · rintro (h | h); exact .inl ⟨h, hx⟩; exact .inr h
  · rintro (h | h); exact .inl h.1; exact .inr h
theorem out {f : E} {v : Nat} (hf : f ∈ es) (h1 : newB (s.pushE e.id) s1 v = true) (h2 : touch f v) (h3 : newB (s.pushE e.id) s1 (othE f v) = false) : s.ord (othE f v) ≠ 0 ∧ (G (othE f v) ∨ othE f v = x) := by
  have hc := b.p.closed v h1 f hf h2
  have h4 : s.ord (othE f v) ≠ 0 := fun h4 => by rw [newB_at (s0 := s.pushE e.id) h4 hc] at h3; cases h3
  refine ⟨h4, Classical.byContradiction fun hn => ?_⟩
  have h5 := b.l.black h4 (fun hG => hn (.inl hG)) (fun e => hn (.inr e)) hf (oth_touch h2)
  rw [oth_oth h2] at h5
  exact h5 (b.dy_new h1).1
theorem shut (hl : s1.ord x ≤ s1.low (othE e x)) {f : E} {v : Nat} (hf : f ∈ es) (h1 : newB (s.pushE e.id) s1 v = true) (h2 : touch f v) : newB (s.pushE e.id) s1 (othE f v) = true ∨ othE f v = x := by
  cases h3 : newB (s.pushE e.id) s1 (othE f v) with
  | true => exact .inl rfl
  | false =>
    right
    obtain ⟨h4, h5⟩ := b.out hf h1 h2 h3
    rcases h5 with h5 | h5
    · exfalso
      have h0 := b.l.pre.grey _ h5
      have lt := b.l.less_x h0
      have hfe : (f.id : Int) ≠ e.id := fun h => by
        have : f = e := b.inj f e hf b.he (by omega)
        subst this
        rcases touch_or b.ht h2 with q | q
        · exact (b.dy_new h1).2.2.2.2 q
        · rw [q, oth_oth b.ht] at h0
          exact h0 b.l.pre.new
      have := b.p.lowLe f v hf hfe h1 h2 h3
      rw [b.ord_old h4] at this
      rw [b.ord_old b.sx] at hl
      omega
    · exact h5
theorem shut_less (hl : s1.ord x ≤ s1.low (othE e x)) {u v : Nat} (c : Conn (ends (less1 es x)) u v) : newB (s.pushE e.id) s1 u = newB (s.pushE e.id) s1 v := by
  refine Conn.keeps (D := newB (s.pushE e.id) s1) (fun f hf => ?_) c
  obtain ⟨h1, h2⟩ := mem_less1.1 hf
  have key : ∀ v, touch f v → newB (s.pushE e.id) s1 v = true → newB (s.pushE e.id) s1 (othE f v) = true := fun v hv hD => by
    rcases b.shut hl h1 hD hv with h | h
    · exact h
    · exact absurd (h ▸ oth_touch hv) h2
  have ea : othE f f.a = f.b := by unfold othE; rw [if_pos rfl]
  have eb : othE f f.b = f.a := by unfold othE; rw [if_neg (b.hne f h1)]
  rw [Bool.eq_iff_iff]
  exact ⟨fun h => by have := key f.a (.inl rfl) h; rwa [ea] at this, fun h => by have := key f.b (.inr rfl) h; rwa [eb] at this⟩
theorem e_not : e.id ∉ Ty ++ Py.flatten := fun hm => by
  obtain ⟨f, _, h2, h3, _⟩ := (b.p.ids e.id).1 hm
  exact h3 (by rw [h2])
theorem touches {f : E} {v : Nat} (hf : f ∈ es) (h1 : newB (s.pushE e.id) s1 v = true) (h2 : touch f v) : f = e ∨ f.id ∈ Ty ++ Py.flatten := by
  by_cases h : f = e
  · exact .inl h
  · refine .inr ((b.p.ids f.id).2 ⟨f, hf, rfl, fun h' => h (b.inj f e hf b.he (by omega)), v, h1, h2⟩)
theorem in_ty {f : E} (hf : f ∈ es) (h : f.id ∈ e.id :: Ty) : ∃ v, newB (s.pushE e.id) s1 v = true ∧ touch f v := by
  rcases List.mem_cons.1 h with h | h
  · have : f = e := b.inj f e hf b.he h
    subst this
    exact ⟨_, b.dy_y, oth_touch b.ht⟩
  · obtain ⟨g, h1, h2, h3, v, h4, h5⟩ := (b.p.ids f.id).1 (List.mem_append_left _ h)
    have : g = f := b.inj g f h1 hf h2
    subst this
    exact ⟨v, h4, h5⟩
theorem whole (hl : s1.ord x ≤ s1.low (othE e x)) : ClassB es (e.id :: Ty) := by
  have one : ∀ f, f ∈ es → f.id ∈ e.id :: Ty → Blk es e f := fun f hf h => by
    rcases List.mem_cons.1 h with h | h
    · rw [b.inj f e hf b.he h]; exact .refl _
    · obtain ⟨g, g1, g2, g3⟩ := b.p.blk e rfl f.id h
      rw [← b.inj g f g1 hf g2]; exact g3
  have back : ∀ f g, f ∈ es → g ∈ es → f.id ∈ e.id :: Ty → StepB es f g → g.id ∈ e.id :: Ty := by
    intro f g hf hg hB hst
    have fin : ∀ v, newB (s.pushE e.id) s1 v = true → touch g v → g.id ∈ e.id :: Ty := fun v hD hgv => by
      rcases b.touches hg hD hgv with h | h
      · rw [h]; exact List.mem_cons_self
      · rcases List.mem_append.1 h with h | h
        · exact List.mem_cons_of_mem _ h
        · exfalso
          obtain ⟨p, hp, hgp⟩ := List.mem_flatten.1 h
          have hfp := ((b.p.cls p hp).2 g f hg hf hgp).2 (Blk.one hg hf hst.symm)
          have hfl : f.id ∈ Py.flatten := List.mem_flatten.2 ⟨p, hp, hfp⟩
          rcases List.mem_cons.1 hB with h' | h'
          · exact b.e_not (List.mem_append_right _ (h' ▸ hfl))
          · exact (List.nodup_append.1 b.p.nodup).2.2 _ h' _ hfl rfl
    obtain ⟨w, w1, w2, w3⟩ := hst
    obtain ⟨v, hv1, hv2⟩ := b.in_ty hf hB
    cases hDw : newB (s.pushE e.id) s1 w with
    | true => exact fin w hDw w2
    | false =>
      have hwx : w = x := by
        rcases touch_or hv2 w1 with h | h
        · rw [h, hv1] at hDw; cases hDw
        · rcases b.shut hl hf hv1 hv2 with h' | h'
          · rw [← h, hDw] at h'; cases h'
          · rw [h, h']
      subst hwx
      have ho : othE f w = v := by
        rcases touch_or w1 hv2 with h | h
        · rw [h, hDw] at hv1; cases hv1
        · exact h.symm
      have hs := b.shut_less hl w3
      rw [ho, hv1] at hs
      exact fin _ hs.symm (oth_touch w2)
  intro f g hf hg h
  constructor
  · intro h'; exact (one f hf h).symm.trans (one g hg h')
  · intro k
    exact Blk.keeps (B := fun f => f.id ∈ e.id :: Ty) back k h
theorem up (hl : ¬ s1.ord x ≤ s1.low (othE e x)) : ∃ e0, par = some e0 ∧ Conn (ends (less1 es x)) (othE e x) (othE e0 x) := by
  have hx := b.ord_old b.sx
  rcases b.p.lowEx with h | ⟨f, v, h1, h2, h3, h4, h5, h6⟩
  · have hlo := b.p.lo _ b.dy_y
    have := b.l.le x
    have hc : (s.pushE e.id).cnt = s.cnt := rfl
    rw [hc] at hlo
    omega
  · obtain ⟨h7, h8⟩ := b.out h1 h3 h4 h5
    rw [b.ord_old h7] at h6
    have hwx : othE f v ≠ x := fun e => by rw [e] at h6; omega
    have hG : G (othE f v) := h8.resolve_right hwx
    cases hp : par with
    | none => exact absurd hG ((b.l.pre.none_ hp).2 _)
    | some e0 =>
      obtain ⟨p1, p2, p3, p4, p5⟩ := b.l.pre.some_ e0 hp
      refine ⟨e0, rfl, ?_⟩
      have c1 : Conn (ends (less1 es x)) (othE e x) v := inE_less (b.dy_old b.sx) (b.p.inner v h3)
      have c2 : Conn (ends (less1 es x)) v (othE f v) := Conn.of_edge' (mem_less1.2 ⟨h1, fun ht => by
        rcases touch_or h4 ht with q | q
        · exact (b.dy_new h3).2.2.2.2 q.symm
        · exact hwx q.symm⟩) h4
      have c3 : Conn (ends (less1 es x)) (othE f v) (othE e0 x) := inE_less (D := visB s0) (by unfold visB; simp [b.l.pre.new]) (p5 _ hG).1
      exact (c1.trans c2).trans c3
end Both
end
end Go.Proofs.YtkpoobnldgfapabGreatDoor.Pl
namespace Go.Proofs.YtkpoobnldgfapabGreatDoor.Pl
section
variable {es : List E} {s0 : DS} {G : Nat → Prop} {x : Nat} {by_ : Int} {par : Option E} {done : List E} {ch : Nat} {s s1 : DS} {T Ty : List Nat} {P Py : List (List Nat)} {C Cy : List Nat} {e : E}
theorem Both.frame (b : Both es s0 G x by_ par done ch s s1 T Ty P Py C Cy e) {s2 : DS} {T2 : List Nat} {P2 : List (List Nat)} {C2 : List Nat}
    (ho : s2.ord = s1.ord) (hc : s2.cnt = s1.cnt) (hl : s2.low = upd s1.low x (min (s1.low x) (s1.low (othE e x))))
    (st : s2.st = s0.st ++ T2) (ps : s2.ps = s0.ps ++ P2) (cs : s2.cuts = s0.cuts ++ C2) (hp : (T2 ++ P2.flatten).Perm ((T ++ P.flatten) ++ (e.id :: (Ty ++ Py.flatten))))
    (cls : ∀ p, p ∈ P2 → p ≠ [] ∧ ClassB es p) (root : par = none → T2 = []) (blk : ∀ e0, par = some e0 → ∀ t, t ∈ T2 → ∃ f, f ∈ es ∧ f.id = t ∧ Blk es e0 f)
    (cMem : ∀ v, v ≠ x → (v ∈ C2 ↔ v ∈ C ∨ v ∈ Cy)) (cX : x ∈ C2 → Sep es x)
    (cOut : x ∈ C2 ∨ ((∀ v w, newB s0 s1 v = true → newB s0 s1 w = true → v ≠ x → w ≠ x → Conn (ends (less1 es x)) v w) ∧ ∀ e0, par = some e0 → ∀ v, newB s0 s1 v = true → v ≠ x → Conn (ends (less1 es x)) v (othE e0 x))) :
    LInv es s0 G x by_ par (done ++ [e]) (ch + 1) s2 T2 P2 C2 := by
  have hN : ∀ v, newB s0 s2 v = newB s0 s1 v := fun v => by unfold newB; rw [ho]
  have hN' : newB s0 s2 = newB s0 s1 := funext hN
  have sx1 := b.ord_old b.sx
  have hyx := b.y_x
  have lx : s2.low x = min (s.low x) (s1.low (othE e x)) := by rw [hl, upd_same, b.low_old b.sx]
  have yN : newB s0 s1 (othE e x) = true := b.d2.2 (.inr b.dy_y)
  have ordm : ∀ v, s.ord v ≠ 0 → s1.ord v ≠ 0 := fun v hv => by rw [b.ord_old hv]; exact hv
  have cnt1 : s.cnt ≤ s1.cnt := by
    have h1 := b.p.le (othE e x)
    have h2 := b.p.lo _ b.dy_y
    have h3 : (s.pushE e.id).cnt = s.cnt := rfl
    omega
  refine ⟨b.l.pre, fun v hv => ?_, ?_, fun v h => ?_, fun v => ?_, fun u v hu huv => ?_, fun v h1 h2 f hf hft => ?_, fun f hf => ?_, fun v h => ?_, st, ps, cs, fun id => ?_, ?_, fun f v h1 h2 h3 h4 h5 h6 => ?_, ?_, ?_, cls, root, blk, fun v hv => ?_, fun v h1 h2 => ?_, cX, ?_, fun h => by omega, fun _ => ⟨_, hyx, by rw [hN]; exact yN⟩⟩
  · have hs := b.old_s hv
    have hvx : v ≠ x := fun e => hv (e ▸ b.l.pre.new)
    rw [ho, hl, upd_ne _ _ _ _ hvx, b.ord_old hs, b.low_old hs]
    exact b.l.old v hv
  · rw [ho, sx1]; exact b.l.self
  · rw [hN, b.d2] at h
    rw [ho]
    rcases h with h | h
    · rw [b.ord_old (newB_iff.1 h).2]; exact b.l.lo v h
    · have h1 := b.p.lo v h
      have h2 := b.l.le x
      rw [b.l.self] at h2
      have h3 : (s.pushE e.id).cnt = s.cnt := rfl
      omega
  · rw [ho, hc]; exact b.p.le v
  · rw [ho] at hu huv; exact b.p.inj u v hu huv
  · rw [hN, b.d2_x h2] at h1
    rw [ho]
    rcases h1 with h1 | h1
    · exact ordm _ (b.l.closed v h1.1 h2 f hf hft)
    · exact b.p.closed v h1 f hf hft
  · rw [ho]
    rcases List.mem_append.1 hf with hf | hf
    · exact ordm _ (b.l.seen f hf)
    · rw [List.mem_singleton.1 hf]; exact (newB_iff.1 yN).2
  · rw [hN, b.d2] at h
    rw [hN']
    rcases h with h | h
    · exact inE_mono (fun w hw => b.d2.2 (.inl hw)) (b.l.inner v h)
    · have c1 : Conn (ends (inE es (newB s0 s1))) (othE e x) v := inE_mono (fun w hw => b.d2.2 (.inr hw)) (b.p.inner v h)
      have hx2 : newB s0 s1 x = true := b.d2.2 (.inl b.l.new_x)
      have hin : e ∈ inE es (newB s0 s1) := by
        refine mem_inE.2 ⟨b.he, ?_, ?_⟩
        · rcases touch_or b.ht (show touch e e.a from .inl rfl) with q | q
          · rw [q]; exact hx2
          · rw [q]; exact yN
        · rcases touch_or b.ht (show touch e e.b from .inr rfl) with q | q
          · rw [q]; exact hx2
          · rw [q]; exact yN
      exact (Conn.of_edge' hin b.ht).trans c1
  · rw [hp.mem_iff, List.mem_append, List.mem_cons, b.l.ids, b.p.ids]
    constructor
    · rintro (⟨f, h1, h2, h3, ⟨v, v1, v2, v3⟩ | h4⟩ | h | ⟨f, h1, h2, h3, v, v1, v2⟩)
      · exact ⟨f, h1, h2, h3, .inl ⟨v, v1, by rw [hN]; exact b.d2.2 (.inl v2), v3⟩⟩
      · exact ⟨f, h1, h2, h3, .inr (List.mem_append_left _ h4)⟩
      · exact ⟨e, b.he, h.symm, b.hb, .inr (by simp)⟩
      · refine ⟨f, h1, h2, fun hb => ?_, .inl ⟨v, (b.dy_new v1).2.2.2.2, by rw [hN]; exact b.d2.2 (.inr v1), v2⟩⟩
        -- the edge by which x was met touches none of the child's
        cases hpar : par with
        | none => have := (b.l.pre.none_ hpar).1; omega
        | some e0 =>
          obtain ⟨p1, p2, p3, p4, p5⟩ := b.l.pre.some_ e0 hpar
          have : f = e0 := b.inj f e0 h1 p1 (by omega)
          subst this
          rcases touch_or p3 v2 with q | q
          · exact (b.dy_new v1).2.2.2.2 q
          · have := b.l.pre.grey _ p4
            rw [← q] at this
            exact this (b.dy_new v1).2.1
    · rintro ⟨f, h1, h2, h3, ⟨v, v1, v2, v3⟩ | h4⟩
      · rw [hN, b.d2_x v1] at v2
        rcases v2 with v2 | v2
        · exact .inl ⟨f, h1, h2, h3, .inl ⟨v, v1, v2.1, v3⟩⟩
        · rcases b.touches h1 v2 v3 with h | h
          · rw [h] at h2; exact .inr (.inl h2.symm)
          · rw [h2] at h; exact .inr (.inr ((b.p.ids id).1 h))
      · rcases List.mem_append.1 h4 with h4 | h4
        · exact .inl ⟨f, h1, h2, h3, .inr h4⟩
        · rw [List.mem_singleton.1 h4] at h2; exact .inr (.inl h2.symm)
  · rw [hp.nodup_iff, List.nodup_append]
    refine ⟨b.l.nodup, List.nodup_cons.2 ⟨b.e_not, b.p.nodup⟩, fun t1 ht1 t2 ht2 h12 => ?_⟩
    subst h12
    obtain ⟨f, h1, h2, h3, h4⟩ := (b.l.ids _).1 ht1
    -- f touches none of the child's
    have hfar : ∀ v, touch f v → newB (s.pushE e.id) s1 v = true → False := fun v hv hD => by
      have hv0 := (b.dy_new hD).1
      rcases h4 with ⟨w, w1, w2, w3⟩ | h4
      · rcases touch_or w3 hv with q | q
        · rw [q] at hv0; exact (newB_iff.1 w2).2 hv0
        · rw [q] at hv0; exact b.l.closed w w2 w1 f h1 w3 hv0
      · have hsn := b.l.seen f h4
        have hfx := b.dt f h4
        rcases touch_or hfx hv with q | q
        · exact (b.dy_new hD).2.2.2.2 q
        · rw [q] at hv0; exact hsn hv0
    rcases List.mem_cons.1 ht2 with h | h
    · have : f = e := b.inj f e h1 b.he (by omega)
      subst this
      exact hfar _ (oth_touch b.ht) b.dy_y
    · obtain ⟨g, g1, g2, g3, v, g4, g5⟩ := (b.p.ids _).1 h
      have : f = g := b.inj f g h1 g1 (by omega)
      subst this
      exact hfar v g5 g4
  · rw [lx, ho]
    rw [hN] at h3 h5
    have hD5 : newB s0 s (othE f v) = false ∧ newB (s.pushE e.id) s1 (othE f v) = false := by
      constructor
      · cases h : newB s0 s (othE f v) with
        | false => rfl
        | true => rw [b.d2.2 (.inl h)] at h5; cases h5
      · cases h : newB (s.pushE e.id) s1 (othE f v) with
        | false => rfl
        | true => rw [b.d2.2 (.inr h)] at h5; cases h5
    have old5 : ∀ hs : s.ord (othE f v) ≠ 0, s.low x ≤ s.ord (othE f v) → min (s.low x) (s1.low (othE e x)) ≤ s1.ord (othE f v) := fun hs h => by
      rw [b.ord_old hs]; exact Nat.le_trans (Nat.min_le_left _ _) h
    rcases b.d2.1 h3 with h3 | h3
    · by_cases hvx : v = x
      · rcases h6 with h6 | h6
        · exact absurd hvx h6
        · rcases List.mem_append.1 h6 with h6 | h6
          · refine old5 ?_ (b.l.lowLe f v h1 h2 h3 h4 hD5.1 (.inr h6))
            rw [hvx]; exact b.l.seen f h6
          · rw [List.mem_singleton.1 h6, hvx, b.dy_y] at hD5; cases hD5.2
      · exact old5 (b.l.closed v h3 hvx f h1 h4) (b.l.lowLe f v h1 h2 h3 h4 hD5.1 (.inl hvx))
    · by_cases hfe : f = e
      · subst hfe
        rcases touch_or b.ht h4 with q | q
        · exact absurd q (b.dy_new h3).2.2.2.2
        · rw [q, oth_oth b.ht, b.l.new_x] at hD5; cases hD5.1
      · exact Nat.le_trans (Nat.min_le_right _ _) (b.p.lowLe f v h1 (fun h' => hfe (b.inj f e h1 b.he (by omega))) h3 h4 hD5.2)
  · rw [lx, ho, sx1]; exact Nat.le_trans (Nat.min_le_left _ _) b.l.lowS
  · rw [lx, ho]
    by_cases hm : s.low x ≤ s1.low (othE e x)
    · rw [Nat.min_eq_left hm, sx1]
      rcases b.l.lowEx with h | ⟨f, v, h1, h2, h3, h4, h5, h6⟩
      · exact .inl h
      · obtain ⟨h6, hvx⟩ := h6
        refine .inr ⟨f, v, h1, h2, by rw [hN]; exact b.d2.2 (.inl h3), h4, ?_, ?_, ordm _ hvx⟩
        · rw [hN]
          cases h : newB s0 s1 (othE f v) with
          | false => rfl
          | true =>
            rcases b.d2.1 h with h | h
            · rw [h5] at h; cases h
            · exact absurd (b.dy_new h).1 hvx
        · rw [b.ord_old hvx]; exact h6
    · rw [Nat.min_eq_right (by omega)]
      rcases b.p.lowEx with h | ⟨f, v, h1, h2, h3, h4, h5, h6⟩
      · exfalso
        have h7 := b.p.lo _ b.dy_y
        have h8 := b.l.lowS
        have h9 := b.l.le x
        have h10 : (s.pushE e.id).cnt = s.cnt := rfl
        omega
      · obtain ⟨h7, h8⟩ := b.out h1 h3 h4 h5
        have h9 := b.ord_old h7
        have hwx : othE f v ≠ x := fun q => by
          rw [q] at h6 h9
          have := b.l.lowS
          omega
        have hG := h8.resolve_right hwx
        have hby : (f.id : Int) ≠ by_ := fun hb => by
          cases hpar : par with
          | none => have := (b.l.pre.none_ hpar).1; omega
          | some e0 =>
            obtain ⟨p1, p2, p3, p4, p5⟩ := b.l.pre.some_ e0 hpar
            have : f = e0 := b.inj f e0 h1 p1 (by omega)
            subst this
            rcases touch_or p3 h4 with q | q
            · exact (b.dy_new h3).2.2.2.2 q
            · have := b.l.pre.grey _ p4
              rw [← q] at this
              exact this (b.dy_new h3).2.1
        exact .inr ⟨f, v, h1, hby, by rw [hN]; exact b.d2.2 (.inr h3), h4, by rw [hN]; exact newB_old (b.l.pre.grey _ hG), h6, ordm _ h7⟩
  · rw [hN, b.d2]
    by_cases hvx : v = x
    · rw [hvx]; exact .inl b.l.new_x
    · rcases (cMem v hvx).1 hv with h | h
      · exact .inl (b.l.cNew v h)
      · exact .inr (b.p.cNew v h)
  · rw [hN, b.d2_x h1] at h2
    rw [cMem v h1]
    rcases h2 with h2 | h2
    · rw [← b.l.cIn v h1 h2.1]
      constructor
      · rintro (h | h)
        · exact h
        · have := (b.dy_new (b.p.cNew v h)).2.2.2.1
          rw [h2.1] at this; cases this
      · exact .inl
    · rw [← b.p.cIn v h2]
      constructor
      · rintro (h | h)
        · have := b.l.cNew v h
          rw [(b.dy_new h2).2.2.2.1] at this; cases this
        · exact h
      · exact .inr
  · rw [hN']; exact cOut
end
end Go.Proofs.YtkpoobnldgfapabGreatDoor.Pl
namespace Go.Proofs.YtkpoobnldgfapabGreatDoor.Pl
section
variable {es : List E} {s0 : DS} {G : Nat → Prop} {x : Nat} {by_ : Int} {par : Option E} {done : List E} {ch : Nat} {s s1 : DS} {T Ty : List Nat} {P Py : List (List Nat)} {C Cy : List Nat} {e : E}
theorem LInv.post (hne : ∀ e, e ∈ es → e.a ≠ e.b) (h : LInv es s0 G x by_ par done ch s T P C) (hall : ∀ e, e ∈ done ↔ e ∈ es ∧ touch e x) : Post es s0 G x by_ par s T P C := by
  have hx0 : visB s0 x = false := by unfold visB; simp [h.pre.new]
  refine ⟨h.old, h.self, h.lo, h.le, h.inj, fun v h1 f hf hft => ?_, h.inner, h.st, h.ps, h.cs, fun id => ?_, h.nodup, fun f v h1 h2 h3 h4 h5 => ?_, h.lowS, ?_, h.cls, h.root, h.blk, h.cNew, fun v hv => ?_⟩
  · by_cases e : v = x
    · subst e; exact h.seen f ((hall f).2 ⟨hf, hft⟩)
    · exact h.closed v h1 e f hf hft
  · rw [h.ids]
    constructor
    · rintro ⟨f, h1, h2, h3, ⟨v, v1, v2, v3⟩ | h4⟩
      · exact ⟨f, h1, h2, h3, v, v2, v3⟩
      · exact ⟨f, h1, h2, h3, x, h.new_x, ((hall f).1 h4).2⟩
    · rintro ⟨f, h1, h2, h3, v, v2, v3⟩
      by_cases e : v = x
      · subst e; exact ⟨f, h1, h2, h3, .inr ((hall f).2 ⟨h1, v3⟩)⟩
      · exact ⟨f, h1, h2, h3, .inl ⟨v, e, v2, v3⟩⟩
  · by_cases e : v = x
    · subst e; exact h.lowLe f v h1 h2 h3 h4 h5 (.inr ((hall f).2 ⟨h1, h4⟩))
    · exact h.lowLe f v h1 h2 h3 h4 h5 (.inl e)
  · rcases h.lowEx with h1 | ⟨f, v, h1, h2, h3, h4, h5, h6, h7⟩
    · exact .inl h1
    · exact .inr ⟨f, v, h1, h2, h3, h4, h5, h6⟩
  · by_cases e : v = x
    · subst e
      refine ⟨h.cX, fun hs => ?_⟩
      rcases h.cOut with hc | ⟨c1, c2⟩
      · exact hc
      · exfalso
        refine nosep (fun f g hf hg hft hgt => ?_) hs
        -- a neighbour: new, or up the way
        have nb : ∀ f, f ∈ es → touch f v → (newB s0 s (othE f v) = true ∧ othE f v ≠ v) ∨ G (othE f v) := fun f hf hft => by
          have hv := h.seen f ((hall f).2 ⟨hf, hft⟩)
          by_cases h0 : s0.ord (othE f v) = 0
          · exact .inl ⟨newB_at h0 hv, othE_ne (hne f hf) hft⟩
          · refine .inr (Classical.byContradiction fun hG => ?_)
            have := h.pre.black _ h0 hG f hf (oth_touch hft)
            rw [oth_oth hft] at this
            exact this h.pre.new
        cases hp : par with
        | none =>
          have nG := (h.pre.none_ hp).2
          obtain ⟨f1, f2⟩ := (nb f hf hft).resolve_right (nG _)
          obtain ⟨g1, g2⟩ := (nb g hg hgt).resolve_right (nG _)
          exact c1 _ _ f1 g1 f2 g2
        | some e0 =>
          obtain ⟨p1, p2, p3, p4, p5⟩ := h.pre.some_ e0 hp
          have toP : ∀ f, f ∈ es → touch f v → Conn (ends (less1 es v)) (othE f v) (othE e0 v) := fun f hf hft => by
            rcases nb f hf hft with ⟨f1, f2⟩ | hG
            · exact c2 e0 hp _ f1 f2
            · exact inE_less hx0 (p5 _ hG).1
          exact (toP f hf hft).trans (toP g hg hgt).symm
    · exact h.cIn v e hv
end
structure DTop (es : List E) (s : DS) (k : Nat) : Prop where
  le : ∀ v, s.ord v ≤ s.cnt
  inj : ∀ u v, s.ord u ≠ 0 → s.ord u = s.ord v → u = v
  closed : ∀ v, s.ord v ≠ 0 → ∀ e, e ∈ es → touch e v → s.ord (othE e v) ≠ 0
  st : s.st = []
  ids : ∀ id, id ∈ s.ps.flatten ↔ ∃ e, e ∈ es ∧ e.id = id ∧ ∃ v, s.ord v ≠ 0 ∧ touch e v
  nodup : s.ps.flatten.Nodup
  cls : ∀ p, p ∈ s.ps → p ≠ [] ∧ ClassB es p
  cNew : ∀ v, v ∈ s.cuts → s.ord v ≠ 0
  cIn : ∀ v, s.ord v ≠ 0 → (v ∈ s.cuts ↔ Sep es v)
  met : ∀ v, v < k → s.ord v ≠ 0
def DS.zero : DS := ⟨0, fun _ => 0, fun _ => 0, [], [], []⟩
theorem DTop.start (es : List E) : DTop es DS.zero 0 :=
  ⟨fun _ => Nat.le_refl _, fun _ _ h => absurd rfl h, fun _ h => absurd rfl h, rfl, fun id => ⟨fun h => by simp [DS.zero] at h, fun ⟨_, _, _, _, h, _⟩ => absurd rfl h⟩, by simp [DS.zero], fun p h => by simp [DS.zero] at h, fun v h => by simp [DS.zero] at h, fun _ h => absurd rfl h, fun v h => by omega⟩
end Go.Proofs.YtkpoobnldgfapabGreatDoor.Pl
namespace Go.Proofs.YtkpoobnldgfapabGreatDoor.Pl
end Go.Proofs.YtkpoobnldgfapabGreatDoor.Pl
namespace Go.Proofs.YtkpoobnldgfapabGreatDoor.Pl
end Go.Proofs.YtkpoobnldgfapabGreatDoor.Pl
namespace Go.Proofs.YtkpoobnldgfapabGreatDoor.Pl
structure FixInv (es : List E) (b : Nat → Nat) : Prop where
  le : ∀ i, i < es.length → b i ≤ i
  blk : ∀ (i : Nat) (e : E), es[i]? = some e → ∃ f, es[b i]? = some f ∧ Blk es f e
theorem FixInv.start (es : List E) : FixInv es (fun i => i) := ⟨fun _ _ => Nat.le_refl _, fun _ e h => ⟨e, h, .refl e⟩⟩
end Go.Proofs.YtkpoobnldgfapabGreatDoor.Pl

