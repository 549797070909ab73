/- Part 20 of the proof: D1. -/
import Derived.Test.YtfglkgkihafcpaaGreatDoorDp15
set_option linter.unusedVariables false
set_option linter.unusedSimpArgs false
namespace Go.Proofs.YtfglkgkihafcpaaGreatDoor.Pl
theorem ends_in {es : List E} {a b : Nat} (h : (a, b) ∈ ends es) : ∃ e, e ∈ es ∧ e.a = a ∧ e.b = b := by
 unfold ends at h
 obtain ⟨e, he, h⟩ := List.mem_map.1 h
 simp only [Prod.mk.injEq] at h
 exact ⟨e, he, h.1, h.2⟩
end Go.Proofs.YtfglkgkihafcpaaGreatDoor.Pl
namespace Go.Proofs.YtfglkgkihafcpaaGreatDoor.Pl
structure DS where
 cnt : Nat
 ord : Nat → Nat
 low : Nat → Nat
 st : List Nat
 ps : List (List Nat)
 cuts : List Nat
inductive Cmd where
 | deep (x : Nat) (by_ : Int)
 | loop (x : Nat) (by_ : Int) (l : List E) (ch : Nat)
def DS.enter (s : DS) (x : Nat) : DS := { s with cnt := s.cnt + 1, ord := upd s.ord x (s.cnt + 1), low := upd s.low x (s.cnt + 1) }
def DS.pushE (s : DS) (id : Nat) : DS := { s with st := s.st ++ [id] }
def DS.lower (s : DS) (x v : Nat) : DS := { s with low := upd s.low x (min (s.low x) v) }
def DS.emit (s : DS) (k : Nat) : DS := { s with ps := s.ps ++ [s.st.drop k], st := s.st.take k }
def DS.cut (s : DS) (x : Nat) (c : Bool) : DS := if c = true then { s with cuts := s.cuts ++ [x] } else s
def DS.after (s : DS) (x y k : Nat) (c : Bool) : DS := if s.ord x ≤ s.low y then ((s.lower x (s.low y)).emit k).cut x c else s.lower x (s.low y)
inductive Run (nb : Nat → List E) : Cmd → DS → DS → Prop where
 | deep {x : Nat} {by_ : Int} {s s' : DS} : Run nb (.loop x by_ (nb x) 0) (s.enter x) s' → Run nb (.deep x by_) s s'
 | nil {x : Nat} {by_ : Int} {ch : Nat} {s : DS} : Run nb (.loop x by_ [] ch) s s
 | skip {x : Nat} {by_ : Int} {ch : Nat} {e : E} {l : List E} {s s' : DS} : (e.id : Int) = by_ → Run nb (.loop x by_ l ch) s s' → Run nb (.loop x by_ (e :: l) ch) s s'
 | child {x : Nat} {by_ : Int} {ch : Nat} {e : E} {l : List E} {s s1 s' : DS} : (e.id : Int) ≠ by_ → s.ord (othE e x) = 0 → Run nb (.deep (othE e x) e.id) (s.pushE e.id) s1 →
   Run nb (.loop x by_ l (ch + 1)) (s1.after x (othE e x) s.st.length (decide (0 ≤ by_) || decide (1 < ch + 1))) s' → Run nb (.loop x by_ (e :: l) ch) s s'
 | back {x : Nat} {by_ : Int} {ch : Nat} {e : E} {l : List E} {s s' : DS} : (e.id : Int) ≠ by_ → s.ord (othE e x) ≠ 0 → s.ord (othE e x) < s.ord x →
   Run nb (.loop x by_ l ch) ((s.pushE e.id).lower x (s.ord (othE e x))) s' → Run nb (.loop x by_ (e :: l) ch) s s'
 | done {x : Nat} {by_ : Int} {ch : Nat} {e : E} {l : List E} {s s' : DS} : (e.id : Int) ≠ by_ → s.ord (othE e x) ≠ 0 → ¬ s.ord (othE e x) < s.ord x →
   Run nb (.loop x by_ l ch) s s' → Run nb (.loop x by_ (e :: l) ch) s s'
abbrev less1 (es : List E) (w : Nat) : List E := es.filter (fun e => decide (e.a ≠ w ∧ e.b ≠ w))
theorem mem_less1 {es : List E} {w : Nat} {e : E} : e ∈ less1 es w ↔ e ∈ es ∧ ¬ touch e w := by
 unfold less1 touch; rw [List.mem_filter]; simp only [decide_eq_true_eq, not_or]
def StepB (es : List E) (e f : E) : Prop := ∃ w, touch e w ∧ touch f w ∧ Conn (ends (less1 es w)) (othE e w) (othE f w)
inductive Blk (es : List E) : E → E → Prop where
 | refl (e : E) : Blk es e e
 | step {e f g : E} : Blk es e f → f ∈ es → g ∈ es → StepB es f g → Blk es e g
theorem StepB.symm {es : List E} {e f : E} (h : StepB es e f) : StepB es f e := by obtain ⟨w, h1, h2, h3⟩ := h; exact ⟨w, h2, h1, h3.symm⟩
theorem Blk.one {es : List E} {e f : E} (he : e ∈ es) (hf : f ∈ es) (h : StepB es e f) : Blk es e f := .step (.refl e) he hf h
theorem Blk.trans {es : List E} {e f g : E} (h : Blk es e f) (k : Blk es f g) : Blk es e g := by
 induction k with
 | refl => exact h
 | step _ h1 h2 h3 ih => exact .step ih h1 h2 h3
theorem Blk.symm {es : List E} {e f : E} (h : Blk es e f) : Blk es f e := by
 induction h with
 | refl => exact .refl _
 | step _ h1 h2 h3 ih => exact (Blk.one h2 h1 h3.symm).trans ih
def Sep (es : List E) (x : Nat) : Prop := ∃ a b, a ≠ x ∧ b ≠ x ∧ Conn (ends es) a b ∧ ¬ Conn (ends (less1 es x)) a b
theorem Conn.of_edge' {es : List E} {e : E} (h : e ∈ es) {x : Nat} (ht : touch e x) : Conn (ends es) x (othE e x) := by
 have := Conn.of_edge h
 unfold othE
 rcases ht with h1 | h1
 ·rw [if_pos h1]; rw [h1] at this; exact this
 ·by_cases h2 : e.a = x
  ·rw [if_pos h2]; rw [h2] at this; exact this
  ·rw [if_neg h2]; rw [h1] at this; exact this.symm
theorem nosep {es : List E} {x : Nat} (h : ∀ e f, e ∈ es → f ∈ es → touch e x → touch f x → Conn (ends (less1 es x)) (othE e x) (othE f x)) : ¬ Sep es x := by
 rintro ⟨a, b, ha, hb, hc, hn⟩
 apply hn
 obtain ⟨y0, hy⟩ : ∃ y0, ∀ e, e ∈ es → touch e x → Conn (ends (less1 es x)) y0 (othE e x) := by
  by_cases hx : ∃ e, e ∈ es ∧ touch e x
  ·obtain ⟨e, he, ht⟩ := hx
   exact ⟨othE e x, fun f hf hft => h e f he hf ht hft⟩
  ·exact ⟨x, fun e he ht => absurd ⟨e, he, ht⟩ hx⟩
 have key : ∀ u v, Conn (ends es) u v → Conn (ends (less1 es x)) (if u = x then y0 else u) (if v = x then y0 else v) := by
  intro u v huv
  refine Conn.ind (R := fun u v => Conn (ends (less1 es x)) (if u = x then y0 else u) (if v = x then y0 else v)) (fun _ => Conn.refl _ _) (fun _ _ h => h.symm) (fun _ _ _ h g => h.trans g) (fun p hp => ?_) huv
  obtain ⟨e, he, h1, h2⟩ := ends_in (a := p.1) (b := p.2) hp
  by_cases t : touch e x
  ·have h3 := hy e he t
   unfold othE at h3
   rw [← h1, ← h2]
   by_cases e1 : e.a = x
   ·rw [if_pos e1] at h3
    rw [if_pos e1]
    by_cases e2 : e.b = x
    ·rw [if_pos e2]; exact Conn.refl _ _
    ·rw [if_neg e2]; exact h3
   ·rw [if_neg e1] at h3
    rw [if_neg e1]
    have e2 : e.b = x := by rcases t with t | t; exact absurd t e1; exact t
    rw [if_pos e2]; exact h3.symm
  ·have h3 : e ∈ less1 es x := mem_less1.2 ⟨he, t⟩
   have n1 : e.a ≠ x := fun h => t (.inl h)
   have n2 : e.b ≠ x := fun h => t (.inr h)
   rw [← h1, ← h2, if_neg n1, if_neg n2]
   exact Conn.of_edge h3
 have := key a b hc
 rwa [if_neg ha, if_neg hb] at this
def newB (s0 s : DS) (v : Nat) : Bool := decide (s0.ord v = 0) && decide (s.ord v ≠ 0)
theorem newB_iff {s0 s : DS} {v : Nat} : newB s0 s v = true ↔ s0.ord v = 0 ∧ s.ord v ≠ 0 := by unfold newB; simp
abbrev inE (es : List E) (D : Nat → Bool) : List E := es.filter (fun e => D e.a && D e.b)
theorem mem_inE {es : List E} {D : Nat → Bool} {e : E} : e ∈ inE es D ↔ e ∈ es ∧ D e.a = true ∧ D e.b = true := by unfold inE; rw [List.mem_filter, Bool.and_eq_true]
theorem inE_mono {es : List E} {D D' : Nat → Bool} (h : ∀ v, D v = true → D' v = true) {x y : Nat} (c : Conn (ends (inE es D)) x y) : Conn (ends (inE es D')) x y :=
 c.of_sub fun e he => by obtain ⟨h1, h2, h3⟩ := mem_inE.1 he; exact mem_inE.2 ⟨h1, h _ h2, h _ h3⟩
theorem inE_less {es : List E} {D : Nat → Bool} {w : Nat} (hw : D w = false) {x y : Nat} (c : Conn (ends (inE es D)) x y) : Conn (ends (less1 es w)) x y :=
 c.of_sub fun e he => by
  obtain ⟨h1, h2, h3⟩ := mem_inE.1 he
  refine mem_less1.2 ⟨h1, ?_⟩
  rintro (h | h)
  ·rw [h, hw] at h2; cases h2
  ·rw [h, hw] at h3; cases h3
def visB (s : DS) (v : Nat) : Bool := decide (s.ord v ≠ 0)
theorem visB_iff {s : DS} {v : Nat} : visB s v = true ↔ s.ord v ≠ 0 := by unfold visB; simp
def ClassB (es : List E) (p : List Nat) : Prop := ∀ e f, e ∈ es → f ∈ es → e.id ∈ p → (f.id ∈ p ↔ Blk es e f)
structure Pre (es : List E) (s : DS) (G : Nat → Prop) (y : Nat) (by_ : Int) (par : Option E) : Prop where
 none_ : par = none → by_ < 0 ∧ ∀ v, ¬ G v
 some_ : ∀ e, par = some e → e ∈ es ∧ by_ = e.id ∧ touch e y ∧ G (othE e y) ∧ ∀ a, G a → Conn (ends (inE es (visB s))) a (othE e y) ∧ s.ord a ≤ s.ord (othE e y)
 grey : ∀ v, G v → s.ord v ≠ 0
 black : ∀ v, s.ord v ≠ 0 → ¬ G v → ∀ e, e ∈ es → touch e v → s.ord (othE e v) ≠ 0
 new : s.ord y = 0
 inj : ∀ u v, s.ord u ≠ 0 → s.ord u = s.ord v → u = v
 le : ∀ v, s.ord v ≤ s.cnt
structure LInv (es : List E) (s0 : DS) (G : Nat → Prop) (x : Nat) (by_ : Int) (par : Option E) (done : List E) (ch : Nat) (s : DS) (T : List Nat) (P : List (List Nat)) (C : List Nat) : Prop where
 pre : Pre es s0 G x by_ par
 old : ∀ v, s0.ord v ≠ 0 → s.ord v = s0.ord v ∧ s.low v = s0.low v
 self : s.ord x = s0.cnt + 1
 lo : ∀ v, newB s0 s v = true → s0.cnt < s.ord v
 le : ∀ v, s.ord v ≤ s.cnt
 inj : ∀ u v, s.ord u ≠ 0 → s.ord u = s.ord v → u = v
 closed : ∀ v, newB s0 s v = true → v ≠ x → ∀ e, e ∈ es → touch e v → s.ord (othE e v) ≠ 0
 seen : ∀ e, e ∈ done → s.ord (othE e x) ≠ 0
 inner : ∀ v, newB s0 s v = true → Conn (ends (inE es (newB s0 s))) x v
 st : s.st = s0.st ++ T
 ps : s.ps = s0.ps ++ P
 cs : s.cuts = s0.cuts ++ C
 ids : ∀ id, id ∈ T ++ P.flatten ↔ ∃ e, e ∈ es ∧ e.id = id ∧ (e.id : Int) ≠ by_ ∧ ((∃ v, v ≠ x ∧ newB s0 s v = true ∧ touch e v) ∨ e ∈ done)
 nodup : (T ++ P.flatten).Nodup
 lowLe : ∀ e v, e ∈ es → (e.id : Int) ≠ by_ → newB s0 s v = true → touch e v → newB s0 s (othE e v) = false → (v ≠ x ∨ e ∈ done) → s.low x ≤ s.ord (othE e v)
 lowS : s.low x ≤ s.ord x
 lowEx : s.low x = s.ord x ∨ ∃ e v, e ∈ es ∧ (e.id : Int) ≠ by_ ∧ newB s0 s v = true ∧ touch e v ∧ newB s0 s (othE e v) = false ∧ s.low x = s.ord (othE e v) ∧ s.ord (othE e v) ≠ 0
 cls : ∀ p, p ∈ P → p ≠ [] ∧ ClassB es p
 root : par = none → T = []
 blk : ∀ e0, par = some e0 → ∀ t, t ∈ T → ∃ f, f ∈ es ∧ f.id = t ∧ Blk es e0 f
 cNew : ∀ v, v ∈ C → newB s0 s v = true
 cIn : ∀ v, v ≠ x → newB s0 s v = true → (v ∈ C ↔ Sep es v)
 cX : x ∈ C → Sep es x
 cOut : x ∈ C ∨ ((∀ v w, newB s0 s v = true → newB s0 s w = true → v ≠ x → w ≠ x → Conn (ends (less1 es x)) v w) ∧ ∀ e0, par = some e0 → ∀ v, newB s0 s v = true → v ≠ x → Conn (ends (less1 es x)) v (othE e0 x))
 zero : ch = 0 → ∀ v, newB s0 s v = true → v = x
 many : 0 < ch → ∃ v, v ≠ x ∧ newB s0 s v = true
structure Post (es : List E) (s0 : DS) (G : Nat → Prop) (y : Nat) (by_ : Int) (par : Option E) (s : DS) (T : List Nat) (P : List (List Nat)) (C : List Nat) : Prop where
 old : ∀ v, s0.ord v ≠ 0 → s.ord v = s0.ord v ∧ s.low v = s0.low v
 self : s.ord y = s0.cnt + 1
 lo : ∀ v, newB s0 s v = true → s0.cnt < s.ord v
 le : ∀ v, s.ord v ≤ s.cnt
 inj : ∀ u v, s.ord u ≠ 0 → s.ord u = s.ord v → u = v
 closed : ∀ v, newB s0 s v = true → ∀ e, e ∈ es → touch e v → s.ord (othE e v) ≠ 0
 inner : ∀ v, newB s0 s v = true → Conn (ends (inE es (newB s0 s))) y v
 st : s.st = s0.st ++ T
 ps : s.ps = s0.ps ++ P
 cs : s.cuts = s0.cuts ++ C
 ids : ∀ id, id ∈ T ++ P.flatten ↔ ∃ e, e ∈ es ∧ e.id = id ∧ (e.id : Int) ≠ by_ ∧ ∃ v, newB s0 s v = true ∧ touch e v
 nodup : (T ++ P.flatten).Nodup
 lowLe : ∀ e v, e ∈ es → (e.id : Int) ≠ by_ → newB s0 s v = true → touch e v → newB s0 s (othE e v) = false → s.low y ≤ s.ord (othE e v)
 lowS : s.low y ≤ s.ord y
 lowEx : s.low y = s.ord y ∨ ∃ e v, e ∈ es ∧ (e.id : Int) ≠ by_ ∧ newB s0 s v = true ∧ touch e v ∧ newB s0 s (othE e v) = false ∧ s.low y = s.ord (othE e v)
 cls : ∀ p, p ∈ P → p ≠ [] ∧ ClassB es p
 root : par = none → T = []
 blk : ∀ e0, par = some e0 → ∀ t, t ∈ T → ∃ f, f ∈ es ∧ f.id = t ∧ Blk es e0 f
 cNew : ∀ v, v ∈ C → newB s0 s v = true
 cIn : ∀ v, newB s0 s v = true → (v ∈ C ↔ Sep es v)
theorem newB_at {s0 s : DS} {v : Nat} (h0 : s0.ord v = 0) (h : s.ord v ≠ 0) : newB s0 s v = true := newB_iff.2 ⟨h0, h⟩
theorem newB_old {s0 s : DS} {v : Nat} (h0 : s0.ord v ≠ 0) : newB s0 s v = false := by unfold newB; simp [h0]
theorem newB_no {s0 s : DS} {v : Nat} (h0 : s.ord v = 0) : newB s0 s v = false := by unfold newB; simp [h0]
theorem othE_ne {e : E} (h : e.a ≠ e.b) {x : Nat} (ht : touch e x) : othE e x ≠ x := by
 unfold othE
 rcases ht with h1 | h1
 ·rw [if_pos h1]; omega
 ·rw [if_neg (by omega)]; omega
theorem LInv.start {es : List E} {s0 : DS} {G : Nat → Prop} {x : Nat} {by_ : Int} {par : Option E} (h : Pre es s0 G x by_ par) : LInv es s0 G x by_ par [] 0 (s0.enter x) [] [] [] := by
 have hv : ∀ v, newB s0 (s0.enter x) v = true ↔ v = x := fun v => by
  rw [newB_iff]
  show s0.ord v = 0 ∧ upd s0.ord x (s0.cnt + 1) v ≠ 0 ↔ v = x
  by_cases e : v = x
  ·subst e; rw [upd_same]; exact ⟨fun _ => rfl, fun _ => ⟨h.new, by omega⟩⟩
  ·rw [upd_ne _ _ _ _ e]; exact ⟨fun ⟨h1, h2⟩ => absurd h1 h2, fun h => absurd h e⟩
 have hx : (s0.enter x).ord x = s0.cnt + 1 := upd_same _ _ _
 have hne : ∀ v, v ≠ x → (s0.enter x).ord v = s0.ord v := fun v e => upd_ne _ _ _ _ e
 have hl : (s0.enter x).low x = s0.cnt + 1 := upd_same _ _ _
 refine ⟨h, fun v hv0 => ?_, hx, fun v h1 => ?_, fun v => ?_, fun u v hu huv => ?_, fun v h1 h2 => absurd ((hv v).1 h1) h2, fun e he => by simp at he, fun v h1 => ?_, by simp [DS.enter], by simp [DS.enter], by simp [DS.enter], fun id => ?_, by simp,
  fun e v _ _ h1 _ _ h4 => ?_, by rw [hl, hx]; exact Nat.le_refl _, .inl (by rw [hl, hx]), fun p hp => by simp at hp, fun _ => rfl, fun _ _ t ht => by simp at ht, fun v hv => by simp at hv, fun v h1 h2 => absurd ((hv v).1 h2) h1, fun h => by simp at h, .inr ⟨fun v w h1 _ h3 => absurd ((hv v).1 h1) h3, fun _ _ v h1 h3 => absurd ((hv v).1 h1) h3⟩, fun _ v h1 => (hv v).1 h1, fun h => by omega⟩
 ·have e : v ≠ x := fun e => hv0 (e ▸ h.new)
  exact ⟨hne v e, upd_ne _ _ _ _ e⟩
 ·rw [(hv v).1 h1, hx]; omega
 ·by_cases e : v = x
  ·rw [e, hx]; exact Nat.le_refl _
  ·rw [hne v e]; have := h.le v; show _ ≤ s0.cnt + 1; omega
 ·by_cases e1 : u = x <;> by_cases e2 : v = x
  ·omega
  ·rw [e1, hx, hne v e2] at huv; have := h.le v; omega
  ·rw [e2, hx, hne u e1] at huv; have := h.le u; omega
  ·rw [hne u e1, hne v e2] at huv; rw [hne u e1] at hu; exact h.inj u v hu huv
 ·rw [(hv v).1 h1]; exact Conn.refl _ _
 ·constructor
  ·intro h; simp at h
  ·rintro ⟨e, _, _, _, ⟨v, h1, h2, _⟩ | h⟩
   ·exact absurd ((hv v).1 h2) h1
   ·simp at h
 ·rcases h4 with h4 | h4
  ·exact absurd ((hv v).1 h1) h4
  ·simp at h4
end Go.Proofs.YtfglkgkihafcpaaGreatDoor.Pl
namespace Go.Proofs.YtfglkgkihafcpaaGreatDoor.Pl
theorem touch_or {e : E} {x v : Nat} (hx : touch e x) (hv : touch e v) : v = x ∨ v = othE e x := by
 unfold othE
 rcases hx with h1 | h1 <;> rcases hv with h2 | h2
 ·exact .inl (by omega)
 ·rw [if_pos h1]; exact .inr h2.symm
 ·by_cases h3 : e.a = x
  ·exact .inl (by omega)
  ·rw [if_neg h3]; exact .inr h2.symm
 ·exact .inl (by omega)
section
variable {es : List E} {s0 : DS} {G : Nat → Prop} {x : Nat} {by_ : Int} {par : Option E} {done : List E} {ch : Nat} {s : DS} {T : List Nat} {P : List (List Nat)} {C : List Nat}
theorem LInv.new_x (h : LInv es s0 G x by_ par done ch s T P C) : newB s0 s x = true := newB_at h.pre.new (by rw [h.self]; omega)
theorem LInv.less_x (h : LInv es s0 G x by_ par done ch s T P C) {v : Nat} (hv : s0.ord v ≠ 0) : s.ord v < s.ord x := by
 rw [(h.old v hv).1, h.self]; have := h.pre.le v; omega
theorem LInv.black (h : LInv es s0 G x by_ par done ch s T P C) {v : Nat} (hv : s.ord v ≠ 0) (hG : ¬ G v) (hx : v ≠ x) {e : E} (he : e ∈ es) (ht : touch e v) : s.ord (othE e v) ≠ 0 := by
 by_cases h0 : s0.ord v = 0
 ·exact h.closed v (newB_at h0 hv) hx e he ht
 ·have := h.pre.black v h0 hG e he ht
  rw [(h.old _ this).1]; exact this
theorem LInv.grow (h : LInv es s0 G x by_ par done ch s T P C) {e : E} (hs : s.ord (othE e x) ≠ 0)
  (hi : (e.id : Int) ≠ by_ → ∃ v, v ≠ x ∧ newB s0 s v = true ∧ touch e v) (hl : (e.id : Int) ≠ by_ → newB s0 s (othE e x) = true) : LInv es s0 G x by_ par (done ++ [e]) ch s T P C := by
 refine ⟨h.pre, h.old, h.self, h.lo, h.le, h.inj, h.closed, fun f hf => ?_, h.inner, h.st, h.ps, h.cs, fun id => ?_, h.nodup, fun f v h1 h2 h3 h4 h5 h6 => ?_, h.lowS, h.lowEx, h.cls, h.root, h.blk, h.cNew, h.cIn, h.cX, h.cOut, h.zero, h.many⟩
 ·rcases List.mem_append.1 hf with hf | hf
  ·exact h.seen f hf
  ·rw [List.mem_singleton.1 hf]; exact hs
 ·rw [h.ids]
  constructor
  ·rintro ⟨f, h1, h2, h3, h4⟩
   exact ⟨f, h1, h2, h3, h4.imp (fun h => h) (List.mem_append_left _)⟩
  ·rintro ⟨f, h1, h2, h3, h4 | h4⟩
   ·exact ⟨f, h1, h2, h3, .inl h4⟩
   ·rcases List.mem_append.1 h4 with h4 | h4
    ·exact ⟨f, h1, h2, h3, .inr h4⟩
    ·rw [List.mem_singleton.1 h4] at h1 h2 h3
     exact ⟨e, h1, h2, h3, .inl (hi h3)⟩
 ·by_cases hv : v = x
  ·rcases h6 with h6 | h6
   ·exact absurd hv h6
   ·rcases List.mem_append.1 h6 with h6 | h6
    ·exact h.lowLe f v h1 h2 h3 h4 h5 (.inr h6)
    ·have hfe := List.mem_singleton.1 h6
     rw [hfe] at h2 h5
     rw [hv, hl h2] at h5; cases h5
  ·exact h.lowLe f v h1 h2 h3 h4 h5 (.inl hv)
theorem LInv.skip (inj : Inj es) (h : LInv es s0 G x by_ par done ch s T P C) {e : E} (he : e ∈ es) (hb : (e.id : Int) = by_) : LInv es s0 G x by_ par (done ++ [e]) ch s T P C := by
 refine h.grow ?_ (fun h' => absurd hb h') (fun h' => absurd hb h')
 cases hp : par with
 | none => have := (h.pre.none_ hp).1; omega
 | some e0 =>
  obtain ⟨h1, h2, h3, h4, h5⟩ := h.pre.some_ e0 hp
  have : e = e0 := inj e e0 he h1 (by omega)
  rw [this]
  have hv := h.pre.grey _ h4
  rw [(h.old _ hv).1]; exact hv
theorem LInv.done' (hne : ∀ e, e ∈ es → e.a ≠ e.b) (h : LInv es s0 G x by_ par done ch s T P C) {e : E} (he : e ∈ es) (ht : touch e x) (hv : s.ord (othE e x) ≠ 0) (hl : ¬ s.ord (othE e x) < s.ord x) : LInv es s0 G x by_ par (done ++ [e]) ch s T P C := by
 have hn : newB s0 s (othE e x) = true := by
  refine newB_at (Classical.byContradiction fun h0 => hl (h.less_x h0)) hv
 exact h.grow hv (fun _ => ⟨_, othE_ne (hne e he) ht, hn, oth_touch ht⟩) (fun _ => hn)
theorem LInv.back (inj : Inj es) (hne : ∀ e, e ∈ es → e.a ≠ e.b) (h : LInv es s0 G x by_ par done ch s T P C) {e : E} (he : e ∈ es) (ht : touch e x) (hb : (e.id : Int) ≠ by_) (hd : e ∉ done) (hv : s.ord (othE e x) ≠ 0) (hl : s.ord (othE e x) < s.ord x) :
  LInv es s0 G x by_ par (done ++ [e]) ch ((s.pushE e.id).lower x (s.ord (othE e x))) (T ++ [e.id]) P C := by
 have h0 : s0.ord (othE e x) ≠ 0 := fun h0 => by
  have := h.lo _ (newB_at h0 hv)
  rw [h.self] at hl; omega
 have hxx := oth_oth ht
 have hG : G (othE e x) := Classical.byContradiction fun hG => by
  have := h.pre.black _ h0 hG e he (oth_touch ht)
  rw [hxx] at this
  exact this h.pre.new
 obtain ⟨e0, hp⟩ : ∃ e0, par = some e0 := by
  cases hp : par with
  | none => exact absurd hG ((h.pre.none_ hp).2 _)
  | some e0 => exact ⟨e0, rfl⟩
 obtain ⟨p1, p2, p3, p4, p5⟩ := h.pre.some_ e0 hp
 have hnew : newB s0 s (othE e x) = false := newB_old h0
 have hnotin : e.id ∉ T ++ P.flatten := fun hm => by
  obtain ⟨f, h1, h2, h3, h4⟩ := (h.ids e.id).1 hm
  have : f = e := inj f e h1 he h2
  subst this
  rcases h4 with ⟨v, v1, v2, v3⟩ | h4
  ·rcases touch_or ht v3 with h5 | h5
   ·exact v1 h5
   ·rw [h5, hnew] at v2; cases v2
  ·exact hd h4
 obtain ⟨y, hy⟩ : ∃ y, othE e x = y := ⟨_, rfl⟩
 rw [hy] at hv hl h0 hG hnew hxx ⊢
 have lx : ((s.pushE e.id).lower x (s.ord y)).low x = min (s.low x) (s.ord y) := upd_same _ _ _
 have xs0 : ∀ v, s0.ord v ≠ 0 → v ≠ x := fun v hv e => hv (e ▸ h.pre.new)
 refine ⟨h.pre, fun v hv => ⟨(h.old v hv).1, (upd_ne _ _ _ _ (xs0 v hv)).trans (h.old v hv).2⟩, h.self, h.lo, h.le, h.inj, h.closed, fun f hf => ?_, h.inner, ?_, h.ps, h.cs, fun id => ?_, ?_, fun f v h1 h2 h3 h4 h5 h6 => ?_, ?_, ?_, h.cls, fun hn => ?_, fun e1 he1 t htt => ?_, h.cNew, h.cIn, h.cX, h.cOut, h.zero, h.many⟩
 ·rcases List.mem_append.1 hf with hf | hf
  ·exact h.seen f hf
  ·rw [List.mem_singleton.1 hf, hy]; exact hv
 ·show s.st ++ [e.id] = _
  rw [h.st, List.append_assoc]
 ·have : id ∈ T ++ [e.id] ++ P.flatten ↔ id ∈ T ++ P.flatten ∨ id = e.id := by simp only [List.mem_append, List.mem_singleton]; constructor <;> intro hh <;> rcases hh with (hh | hh) | hh <;> simp [hh]
  rw [this, h.ids]
  constructor
  ·rintro (⟨f, h1, h2, h3, h4⟩ | hh)
   ·exact ⟨f, h1, h2, h3, h4.imp (fun h => h) (List.mem_append_left _)⟩
   ·exact ⟨e, he, hh.symm, hb, .inr (by simp)⟩
  ·rintro ⟨f, h1, h2, h3, h4 | h4⟩
   ·exact .inl ⟨f, h1, h2, h3, .inl h4⟩
   ·rcases List.mem_append.1 h4 with h4 | h4
    ·exact .inl ⟨f, h1, h2, h3, .inr h4⟩
    ·rw [List.mem_singleton.1 h4] at h2; exact .inr h2.symm
 ·have hp : (T ++ [e.id] ++ P.flatten).Perm (e.id :: (T ++ P.flatten)) := by
   rw [List.append_assoc, List.singleton_append]; exact List.perm_middle
  rw [hp.nodup_iff, List.nodup_cons]
  exact ⟨hnotin, h.nodup⟩
 ·rw [lx]
  have key : f ∈ es → (v ≠ x ∨ f ∈ done) → min (s.low x) (s.ord y) ≤ s.ord (othE f v) := fun _ h6 => Nat.le_trans (Nat.min_le_left _ _) (h.lowLe f v h1 h2 h3 h4 h5 h6)
  rcases h6 with h6 | h6
  ·exact key h1 (.inl h6)
  ·rcases List.mem_append.1 h6 with h6 | h6
   ·exact key h1 (.inr h6)
   ·by_cases hvx : v = x
    ·rw [List.mem_singleton.1 h6, hvx]
     show _ ≤ s.ord (othE e x)
     rw [hy]; exact Nat.min_le_right _ _
    ·exact key h1 (.inl hvx)
 ·rw [lx]; exact Nat.le_trans (Nat.min_le_left _ _) h.lowS
 ·rw [lx]
  by_cases hm : s.low x ≤ s.ord y
  ·rw [Nat.min_eq_left hm]; exact h.lowEx
  ·rw [Nat.min_eq_right (by omega)]
   exact .inr ⟨e, x, he, hb, h.new_x, ht, by rw [hy]; exact hnew, by rw [hy]; rfl, by rw [hy]; exact hv⟩
 ·rw [hp] at hn; cases hn
 ·have : e1 = e0 := by rw [hp] at he1; exact (Option.some.inj he1).symm
  subst this
  rcases List.mem_append.1 htt with htt | htt
  ·exact h.blk e1 he1 t htt
  ·refine ⟨e, he, (List.mem_singleton.1 htt).symm, Blk.one p1 he ⟨x, p3, ht, ?_⟩⟩
   rw [hy]
   exact (inE_less (D := visB s0) (by unfold visB; simp [h.pre.new]) (p5 y hG).1).symm
theorem LInv.preChild (hne : ∀ e, e ∈ es → e.a ≠ e.b) (h : LInv es s0 G x by_ par done ch s T P C) {e : E} (he : e ∈ es) (ht : touch e x) (hv : s.ord (othE e x) = 0) :
  Pre es (s.pushE e.id) (fun v => G v ∨ v = x) (othE e x) e.id (some e) := by
 have hxx := oth_oth ht
 have vm : ∀ v, s0.ord v ≠ 0 → s.ord v ≠ 0 := fun v hv => by rw [(h.old v hv).1]; exact hv
 have hsx : s.ord x ≠ 0 := by rw [h.self]; omega
 refine ⟨fun h => (by cases h), fun e1 he1 => ?_, fun v hG => ?_, fun v h1 h2 f hf hft => ?_, hv, h.inj, h.le⟩
 ·have := (Option.some.inj he1).symm
  subst this
  rw [hxx]
  refine ⟨he, rfl, oth_touch ht, .inr rfl, fun a ha => ?_⟩
  rcases ha with ha | ha
  ·have ha0 := h.pre.grey a ha
   refine ⟨?_, Nat.le_of_lt (h.less_x ha0)⟩
   cases hp : par with
   | none => exact absurd ha ((h.pre.none_ hp).2 _)
   | some e0 =>
    obtain ⟨p1, p2, p3, p4, p5⟩ := h.pre.some_ e0 hp
    have c1 : Conn (ends (inE es (visB s))) a (othE e0 x) := inE_mono (fun v hv => visB_iff.2 (vm v (visB_iff.1 hv))) (p5 a ha).1
    have hin : e0 ∈ inE es (visB s) := by
     have hpv := vm _ (h.pre.grey _ p4)
     refine mem_inE.2 ⟨p1, ?_, ?_⟩
     ·rcases touch_or p3 (show touch e0 e0.a from .inl rfl) with q | q
      ·rw [q]; exact visB_iff.2 hsx
      ·rw [q]; exact visB_iff.2 hpv
     ·rcases touch_or p3 (show touch e0 e0.b from .inr rfl) with q | q
      ·rw [q]; exact visB_iff.2 hsx
      ·rw [q]; exact visB_iff.2 hpv
    exact c1.trans (Conn.of_edge' hin p3).symm
  ·rw [ha]; exact ⟨Conn.refl _ _, Nat.le_refl _⟩
 ·rcases hG with hG | hG
  ·exact vm v (h.pre.grey v hG)
  ·rw [hG]; exact hsx
 ·exact h.black h1 (fun hG => h2 (.inl hG)) (fun e => h2 (.inr e)) hf hft
end
end Go.Proofs.YtfglkgkihafcpaaGreatDoor.Pl
namespace Go.Proofs.YtfglkgkihafcpaaGreatDoor.Pl
theorem after_ord (s : DS) (x y k : Nat) (c : Bool) : (s.after x y k c).ord = s.ord ∧ (s.after x y k c).cnt = s.cnt ∧ (s.after x y k c).low = upd s.low x (min (s.low x) (s.low y)) := by
 unfold DS.after DS.cut DS.emit DS.lower
 split
 ·cases c <;> exact ⟨rfl, rfl, rfl⟩
 ·exact ⟨rfl, rfl, rfl⟩
theorem Conn.keeps {es : List E} {D : Nat → Bool} (h : ∀ e, e ∈ es → D e.a = D e.b) {x y : Nat} (c : Conn (ends es) x y) : D x = D y :=
 c.ind (R := fun u v => D u = D v) (fun _ => rfl) (fun _ _ h => h.symm) (fun _ _ _ h g => h.trans g) fun p hp => by
  obtain ⟨e, he, h1, h2⟩ := ends_in (a := p.1) (b := p.2) hp
  rw [← h1, ← h2]; exact h e he
theorem Blk.keeps {es : List E} {B : E → Prop} (h : ∀ f g, f ∈ es → g ∈ es → B f → StepB es f g → B g) {e f : E} (k : Blk es e f) (he : B e) : B f := by
 induction k with
 | refl => exact he
 | step _ h1 h2 h3 ih => exact h _ _ h1 h2 ih h3
section
variable {es : List E} {s0 : DS} {G : Nat → Prop} {x : Nat} {by_ : Int} {par : Option E} {done : List E} {ch : Nat} {s s1 : DS} {T Ty : List Nat} {P Py : List (List Nat)} {C Cy : List Nat} {e : E}
structure Both (es : List E) (s0 : DS) (G : Nat → Prop) (x : Nat) (by_ : Int) (par : Option E) (done : List E) (ch : Nat) (s s1 : DS) (T Ty : List Nat) (P Py : List (List Nat)) (C Cy : List Nat) (e : E) : Prop where
 inj : Inj es
 hne : ∀ e, e ∈ es → e.a ≠ e.b
 l : LInv es s0 G x by_ par done ch s T P C
 p : Post es (s.pushE e.id) (fun v => G v ∨ v = x) (othE e x) e.id (some e) s1 Ty Py Cy
 he : e ∈ es
 ht : touch e x
 hb : (e.id : Int) ≠ by_
 hd : e ∉ done
 dt : ∀ f, f ∈ done → touch f x
 hv : s.ord (othE e x) = 0
namespace Both
variable (b : Both es s0 G x by_ par done ch s s1 T Ty P Py C Cy e)
include b
theorem ord_old {v : Nat} (hv : s.ord v ≠ 0) : s1.ord v = s.ord v := (b.p.old v hv).1
theorem low_old {v : Nat} (hv : s.ord v ≠ 0) : s1.low v = s.low v := (b.p.old v hv).2
theorem sx : s.ord x ≠ 0 := by rw [b.l.self]; omega
theorem old_s {v : Nat} (hv : s0.ord v ≠ 0) : s.ord v ≠ 0 := by rw [(b.l.old v hv).1]; exact hv
theorem y_x : othE e x ≠ x := othE_ne (b.hne e b.he) b.ht
theorem dy_y : newB (s.pushE e.id) s1 (othE e x) = true := newB_at b.hv (by rw [b.p.self]; omega)
theorem dy_old {v : Nat} (hv : s.ord v ≠ 0) : newB (s.pushE e.id) s1 v = false := by
 have _ := b.hv
 exact newB_old hv
theorem dy_new {v : Nat} (h : newB (s.pushE e.id) s1 v = true) : s.ord v = 0 ∧ s0.ord v = 0 ∧ s1.ord v ≠ 0 ∧ newB s0 s v = false ∧ v ≠ x := by
 obtain ⟨h1, h2⟩ := newB_iff.1 h
 have h1 : s.ord v = 0 := h1
 refine ⟨h1, Classical.byContradiction fun h0 => b.old_s h0 h1, h2, newB_no h1, fun e => b.sx (e ▸ h1)⟩
theorem d2 {v : Nat} : newB s0 s1 v = true ↔ newB s0 s v = true ∨ newB (s.pushE e.id) s1 v = true := by
 constructor
 ·intro h
  obtain ⟨h1, h2⟩ := newB_iff.1 h
  by_cases h3 : s.ord v = 0
  ·exact .inr (newB_at h3 h2)
  ·exact .inl (newB_at h1 h3)
 ·rintro (h | h)
  ·obtain ⟨h1, h2⟩ := newB_iff.1 h
   exact newB_at h1 (by rw [b.ord_old h2]; exact h2)
  ·obtain ⟨_, h1, h2, _⟩ := b.dy_new h
   exact newB_at h1 h2
theorem d2_x {v : Nat} (hx : v ≠ x) : newB s0 s1 v = true ↔ (newB s0 s v = true ∧ v ≠ x) ∨ newB (s.pushE e.id) s1 v = true := by
 rw [b.d2]
 constructor
 ·rintro (h | h); exact .inl ⟨h, hx⟩; exact .inr h
 ·rintro (h | h); exact .inl h.1; exact .inr h
theorem out {f : E} {v : Nat} (hf : f ∈ es) (h1 : newB (s.pushE e.id) s1 v = true) (h2 : touch f v) (h3 : newB (s.pushE e.id) s1 (othE f v) = false) : s.ord (othE f v) ≠ 0 ∧ (G (othE f v) ∨ othE f v = x) := by
 have hc := b.p.closed v h1 f hf h2
 have h4 : s.ord (othE f v) ≠ 0 := fun h4 => by rw [newB_at (s0 := s.pushE e.id) h4 hc] at h3; cases h3
 refine ⟨h4, Classical.byContradiction fun hn => ?_⟩
 have h5 := b.l.black h4 (fun hG => hn (.inl hG)) (fun e => hn (.inr e)) hf (oth_touch h2)
 rw [oth_oth h2] at h5
 exact h5 (b.dy_new h1).1
theorem shut (hl : s1.ord x ≤ s1.low (othE e x)) {f : E} {v : Nat} (hf : f ∈ es) (h1 : newB (s.pushE e.id) s1 v = true) (h2 : touch f v) : newB (s.pushE e.id) s1 (othE f v) = true ∨ othE f v = x := by
 cases h3 : newB (s.pushE e.id) s1 (othE f v) with
 | true => exact .inl rfl
 | false =>
  right
  obtain ⟨h4, h5⟩ := b.out hf h1 h2 h3
  rcases h5 with h5 | h5
  ·exfalso
   have h0 := b.l.pre.grey _ h5
   have lt := b.l.less_x h0
   have hfe : (f.id : Int) ≠ e.id := fun h => by
    have : f = e := b.inj f e hf b.he (by omega)
    subst this
    rcases touch_or b.ht h2 with q | q
    ·exact (b.dy_new h1).2.2.2.2 q
    ·rw [q, oth_oth b.ht] at h0
     exact h0 b.l.pre.new
   have := b.p.lowLe f v hf hfe h1 h2 h3
   rw [b.ord_old h4] at this
   rw [b.ord_old b.sx] at hl
   omega
  ·exact h5
theorem shut_less (hl : s1.ord x ≤ s1.low (othE e x)) {u v : Nat} (c : Conn (ends (less1 es x)) u v) : newB (s.pushE e.id) s1 u = newB (s.pushE e.id) s1 v := by
 refine Conn.keeps (D := newB (s.pushE e.id) s1) (fun f hf => ?_) c
 obtain ⟨h1, h2⟩ := mem_less1.1 hf
 have key : ∀ v, touch f v → newB (s.pushE e.id) s1 v = true → newB (s.pushE e.id) s1 (othE f v) = true := fun v hv hD => by
  rcases b.shut hl h1 hD hv with h | h
  ·exact h
  ·exact absurd (h ▸ oth_touch hv) h2
 have ea : othE f f.a = f.b := by unfold othE; rw [if_pos rfl]
 have eb : othE f f.b = f.a := by unfold othE; rw [if_neg (b.hne f h1)]
 rw [Bool.eq_iff_iff]
 exact ⟨fun h => by have := key f.a (.inl rfl) h; rwa [ea] at this, fun h => by have := key f.b (.inr rfl) h; rwa [eb] at this⟩
theorem e_not : e.id ∉ Ty ++ Py.flatten := fun hm => by
 obtain ⟨f, _, h2, h3, _⟩ := (b.p.ids e.id).1 hm
 exact h3 (by rw [h2])
theorem touches {f : E} {v : Nat} (hf : f ∈ es) (h1 : newB (s.pushE e.id) s1 v = true) (h2 : touch f v) : f = e ∨ f.id ∈ Ty ++ Py.flatten := by
 by_cases h : f = e
 ·exact .inl h
 ·refine .inr ((b.p.ids f.id).2 ⟨f, hf, rfl, fun h' => h (b.inj f e hf b.he (by omega)), v, h1, h2⟩)
theorem in_ty {f : E} (hf : f ∈ es) (h : f.id ∈ e.id :: Ty) : ∃ v, newB (s.pushE e.id) s1 v = true ∧ touch f v := by
 rcases List.mem_cons.1 h with h | h
 ·have : f = e := b.inj f e hf b.he h
  subst this
  exact ⟨_, b.dy_y, oth_touch b.ht⟩
 ·obtain ⟨g, h1, h2, h3, v, h4, h5⟩ := (b.p.ids f.id).1 (List.mem_append_left _ h)
  have : g = f := b.inj g f h1 hf h2
  subst this
  exact ⟨v, h4, h5⟩
theorem whole (hl : s1.ord x ≤ s1.low (othE e x)) : ClassB es (e.id :: Ty) := by
 have one : ∀ f, f ∈ es → f.id ∈ e.id :: Ty → Blk es e f := fun f hf h => by
  rcases List.mem_cons.1 h with h | h
  ·rw [b.inj f e hf b.he h]; exact .refl _
  ·obtain ⟨g, g1, g2, g3⟩ := b.p.blk e rfl f.id h
   rw [← b.inj g f g1 hf g2]; exact g3
 have back : ∀ f g, f ∈ es → g ∈ es → f.id ∈ e.id :: Ty → StepB es f g → g.id ∈ e.id :: Ty := by
  intro f g hf hg hB hst
  have fin : ∀ v, newB (s.pushE e.id) s1 v = true → touch g v → g.id ∈ e.id :: Ty := fun v hD hgv => by
   rcases b.touches hg hD hgv with h | h
   ·rw [h]; exact List.mem_cons_self
   ·rcases List.mem_append.1 h with h | h
    ·exact List.mem_cons_of_mem _ h
    ·exfalso
     obtain ⟨p, hp, hgp⟩ := List.mem_flatten.1 h
     have hfp := ((b.p.cls p hp).2 g f hg hf hgp).2 (Blk.one hg hf hst.symm)
     have hfl : f.id ∈ Py.flatten := List.mem_flatten.2 ⟨p, hp, hfp⟩
     rcases List.mem_cons.1 hB with h' | h'
     ·exact b.e_not (List.mem_append_right _ (h' ▸ hfl))
     ·exact (List.nodup_append.1 b.p.nodup).2.2 _ h' _ hfl rfl
  obtain ⟨w, w1, w2, w3⟩ := hst
  obtain ⟨v, hv1, hv2⟩ := b.in_ty hf hB
  cases hDw : newB (s.pushE e.id) s1 w with
  | true => exact fin w hDw w2
  | false =>
   have hwx : w = x := by
    rcases touch_or hv2 w1 with h | h
    ·rw [h, hv1] at hDw; cases hDw
    ·rcases b.shut hl hf hv1 hv2 with h' | h'
     ·rw [← h, hDw] at h'; cases h'
     ·rw [h, h']
   subst hwx
   have ho : othE f w = v := by
    rcases touch_or w1 hv2 with h | h
    ·rw [h, hDw] at hv1; cases hv1
    ·exact h.symm
   have hs := b.shut_less hl w3
   rw [ho, hv1] at hs
   exact fin _ hs.symm (oth_touch w2)
 intro f g hf hg h
 constructor
 ·intro h'; exact (one f hf h).symm.trans (one g hg h')
 ·intro k
  exact Blk.keeps (B := fun f => f.id ∈ e.id :: Ty) back k h
theorem up (hl : ¬ s1.ord x ≤ s1.low (othE e x)) : ∃ e0, par = some e0 ∧ Conn (ends (less1 es x)) (othE e x) (othE e0 x) := by
 have hx := b.ord_old b.sx
 rcases b.p.lowEx with h | ⟨f, v, h1, h2, h3, h4, h5, h6⟩
 ·have hlo := b.p.lo _ b.dy_y
  have := b.l.le x
  have hc : (s.pushE e.id).cnt = s.cnt := rfl
  rw [hc] at hlo
  omega
 ·obtain ⟨h7, h8⟩ := b.out h1 h3 h4 h5
  rw [b.ord_old h7] at h6
  have hwx : othE f v ≠ x := fun e => by rw [e] at h6; omega
  have hG : G (othE f v) := h8.resolve_right hwx
  cases hp : par with
  | none => exact absurd hG ((b.l.pre.none_ hp).2 _)
  | some e0 =>
   obtain ⟨p1, p2, p3, p4, p5⟩ := b.l.pre.some_ e0 hp
   refine ⟨e0, rfl, ?_⟩
   have c1 : Conn (ends (less1 es x)) (othE e x) v := inE_less (b.dy_old b.sx) (b.p.inner v h3)
   have c2 : Conn (ends (less1 es x)) v (othE f v) := Conn.of_edge' (mem_less1.2 ⟨h1, fun ht => by
    rcases touch_or h4 ht with q | q
    ·exact (b.dy_new h3).2.2.2.2 q.symm
    ·exact hwx q.symm⟩) h4
   have c3 : Conn (ends (less1 es x)) (othE f v) (othE e0 x) := inE_less (D := visB s0) (by unfold visB; simp [b.l.pre.new]) (p5 _ hG).1
   exact (c1.trans c2).trans c3
end Both
end
end Go.Proofs.YtfglkgkihafcpaaGreatDoor.Pl
namespace Go.Proofs.YtfglkgkihafcpaaGreatDoor.Pl
section
variable {es : List E} {s0 : DS} {G : Nat → Prop} {x : Nat} {by_ : Int} {par : Option E} {done : List E} {ch : Nat} {s s1 : DS} {T Ty : List Nat} {P Py : List (List Nat)} {C Cy : List Nat} {e : E}
theorem Both.frame (b : Both es s0 G x by_ par done ch s s1 T Ty P Py C Cy e) {s2 : DS} {T2 : List Nat} {P2 : List (List Nat)} {C2 : List Nat}
  (ho : s2.ord = s1.ord) (hc : s2.cnt = s1.cnt) (hl : s2.low = upd s1.low x (min (s1.low x) (s1.low (othE e x))))
  (st : s2.st = s0.st ++ T2) (ps : s2.ps = s0.ps ++ P2) (cs : s2.cuts = s0.cuts ++ C2) (hp : (T2 ++ P2.flatten).Perm ((T ++ P.flatten) ++ (e.id :: (Ty ++ Py.flatten))))
  (cls : ∀ p, p ∈ P2 → p ≠ [] ∧ ClassB es p) (root : par = none → T2 = []) (blk : ∀ e0, par = some e0 → ∀ t, t ∈ T2 → ∃ f, f ∈ es ∧ f.id = t ∧ Blk es e0 f)
  (cMem : ∀ v, v ≠ x → (v ∈ C2 ↔ v ∈ C ∨ v ∈ Cy)) (cX : x ∈ C2 → Sep es x)
  (cOut : x ∈ C2 ∨ ((∀ v w, newB s0 s1 v = true → newB s0 s1 w = true → v ≠ x → w ≠ x → Conn (ends (less1 es x)) v w) ∧ ∀ e0, par = some e0 → ∀ v, newB s0 s1 v = true → v ≠ x → Conn (ends (less1 es x)) v (othE e0 x))) :
  LInv es s0 G x by_ par (done ++ [e]) (ch + 1) s2 T2 P2 C2 := by
 have hN : ∀ v, newB s0 s2 v = newB s0 s1 v := fun v => by unfold newB; rw [ho]
 have hN' : newB s0 s2 = newB s0 s1 := funext hN
 have sx1 := b.ord_old b.sx
 have hyx := b.y_x
 have lx : s2.low x = min (s.low x) (s1.low (othE e x)) := by rw [hl, upd_same, b.low_old b.sx]
 have yN : newB s0 s1 (othE e x) = true := b.d2.2 (.inr b.dy_y)
 have ordm : ∀ v, s.ord v ≠ 0 → s1.ord v ≠ 0 := fun v hv => by rw [b.ord_old hv]; exact hv
 have cnt1 : s.cnt ≤ s1.cnt := by
  have h1 := b.p.le (othE e x)
  have h2 := b.p.lo _ b.dy_y
  have h3 : (s.pushE e.id).cnt = s.cnt := rfl
  omega
 refine ⟨b.l.pre, fun v hv => ?_, ?_, fun v h => ?_, fun v => ?_, fun u v hu huv => ?_, fun v h1 h2 f hf hft => ?_, fun f hf => ?_, fun v h => ?_, st, ps, cs, fun id => ?_, ?_, fun f v h1 h2 h3 h4 h5 h6 => ?_, ?_, ?_, cls, root, blk, fun v hv => ?_, fun v h1 h2 => ?_, cX, ?_, fun h => by omega, fun _ => ⟨_, hyx, by rw [hN]; exact yN⟩⟩
 ·have hs := b.old_s hv
  have hvx : v ≠ x := fun e => hv (e ▸ b.l.pre.new)
  rw [ho, hl, upd_ne _ _ _ _ hvx, b.ord_old hs, b.low_old hs]
  exact b.l.old v hv
 ·rw [ho, sx1]; exact b.l.self
 ·rw [hN, b.d2] at h
  rw [ho]
  rcases h with h | h
  ·rw [b.ord_old (newB_iff.1 h).2]; exact b.l.lo v h
  ·have h1 := b.p.lo v h
   have h2 := b.l.le x
   rw [b.l.self] at h2
   have h3 : (s.pushE e.id).cnt = s.cnt := rfl
   omega
 ·rw [ho, hc]; exact b.p.le v
 ·rw [ho] at hu huv; exact b.p.inj u v hu huv
 ·rw [hN, b.d2_x h2] at h1
  rw [ho]
  rcases h1 with h1 | h1
  ·exact ordm _ (b.l.closed v h1.1 h2 f hf hft)
  ·exact b.p.closed v h1 f hf hft
 ·rw [ho]
  rcases List.mem_append.1 hf with hf | hf
  ·exact ordm _ (b.l.seen f hf)
  ·rw [List.mem_singleton.1 hf]; exact (newB_iff.1 yN).2
 ·rw [hN, b.d2] at h
  rw [hN']
  rcases h with h | h
  ·exact inE_mono (fun w hw => b.d2.2 (.inl hw)) (b.l.inner v h)
  ·have c1 : Conn (ends (inE es (newB s0 s1))) (othE e x) v := inE_mono (fun w hw => b.d2.2 (.inr hw)) (b.p.inner v h)
   have hx2 : newB s0 s1 x = true := b.d2.2 (.inl b.l.new_x)
   have hin : e ∈ inE es (newB s0 s1) := by
    refine mem_inE.2 ⟨b.he, ?_, ?_⟩
    ·rcases touch_or b.ht (show touch e e.a from .inl rfl) with q | q
     ·rw [q]; exact hx2
     ·rw [q]; exact yN
    ·rcases touch_or b.ht (show touch e e.b from .inr rfl) with q | q
     ·rw [q]; exact hx2
     ·rw [q]; exact yN
   exact (Conn.of_edge' hin b.ht).trans c1
 ·rw [hp.mem_iff, List.mem_append, List.mem_cons, b.l.ids, b.p.ids]
  constructor
  ·rintro (⟨f, h1, h2, h3, ⟨v, v1, v2, v3⟩ | h4⟩ | h | ⟨f, h1, h2, h3, v, v1, v2⟩)
   ·exact ⟨f, h1, h2, h3, .inl ⟨v, v1, by rw [hN]; exact b.d2.2 (.inl v2), v3⟩⟩
   ·exact ⟨f, h1, h2, h3, .inr (List.mem_append_left _ h4)⟩
   ·exact ⟨e, b.he, h.symm, b.hb, .inr (by simp)⟩
   ·refine ⟨f, h1, h2, fun hb => ?_, .inl ⟨v, (b.dy_new v1).2.2.2.2, by rw [hN]; exact b.d2.2 (.inr v1), v2⟩⟩
    -- the edge by which x was met touches none of the child's
    cases hpar : par with
    | none => have := (b.l.pre.none_ hpar).1; omega
    | some e0 =>
     obtain ⟨p1, p2, p3, p4, p5⟩ := b.l.pre.some_ e0 hpar
     have : f = e0 := b.inj f e0 h1 p1 (by omega)
     subst this
     rcases touch_or p3 v2 with q | q
     ·exact (b.dy_new v1).2.2.2.2 q
     ·have := b.l.pre.grey _ p4
      rw [← q] at this
      exact this (b.dy_new v1).2.1
  ·rintro ⟨f, h1, h2, h3, ⟨v, v1, v2, v3⟩ | h4⟩
   ·rw [hN, b.d2_x v1] at v2
    rcases v2 with v2 | v2
    ·exact .inl ⟨f, h1, h2, h3, .inl ⟨v, v1, v2.1, v3⟩⟩
    ·rcases b.touches h1 v2 v3 with h | h
     ·rw [h] at h2; exact .inr (.inl h2.symm)
     ·rw [h2] at h; exact .inr (.inr ((b.p.ids id).1 h))
   ·rcases List.mem_append.1 h4 with h4 | h4
    ·exact .inl ⟨f, h1, h2, h3, .inr h4⟩
    ·rw [List.mem_singleton.1 h4] at h2; exact .inr (.inl h2.symm)
 ·rw [hp.nodup_iff, List.nodup_append]
  refine ⟨b.l.nodup, List.nodup_cons.2 ⟨b.e_not, b.p.nodup⟩, fun t1 ht1 t2 ht2 h12 => ?_⟩
  subst h12
  obtain ⟨f, h1, h2, h3, h4⟩ := (b.l.ids _).1 ht1
  -- f touches none of the child's
  have hfar : ∀ v, touch f v → newB (s.pushE e.id) s1 v = true → False := fun v hv hD => by
   have hv0 := (b.dy_new hD).1
   rcases h4 with ⟨w, w1, w2, w3⟩ | h4
   ·rcases touch_or w3 hv with q | q
    ·rw [q] at hv0; exact (newB_iff.1 w2).2 hv0
    ·rw [q] at hv0; exact b.l.closed w w2 w1 f h1 w3 hv0
   ·have hsn := b.l.seen f h4
    have hfx := b.dt f h4
    rcases touch_or hfx hv with q | q
    ·exact (b.dy_new hD).2.2.2.2 q
    ·rw [q] at hv0; exact hsn hv0
  rcases List.mem_cons.1 ht2 with h | h
  ·have : f = e := b.inj f e h1 b.he (by omega)
   subst this
   exact hfar _ (oth_touch b.ht) b.dy_y
  ·obtain ⟨g, g1, g2, g3, v, g4, g5⟩ := (b.p.ids _).1 h
   have : f = g := b.inj f g h1 g1 (by omega)
   subst this
   exact hfar v g5 g4
 ·rw [lx, ho]
  rw [hN] at h3 h5
  have hD5 : newB s0 s (othE f v) = false ∧ newB (s.pushE e.id) s1 (othE f v) = false := by
   constructor
   ·cases h : newB s0 s (othE f v) with
    | false => rfl
    | true => rw [b.d2.2 (.inl h)] at h5; cases h5
   ·cases h : newB (s.pushE e.id) s1 (othE f v) with
    | false => rfl
    | true => rw [b.d2.2 (.inr h)] at h5; cases h5
  have old5 : ∀ hs : s.ord (othE f v) ≠ 0, s.low x ≤ s.ord (othE f v) → min (s.low x) (s1.low (othE e x)) ≤ s1.ord (othE f v) := fun hs h => by
   rw [b.ord_old hs]; exact Nat.le_trans (Nat.min_le_left _ _) h
  rcases b.d2.1 h3 with h3 | h3
  ·by_cases hvx : v = x
   ·rcases h6 with h6 | h6
    ·exact absurd hvx h6
    ·rcases List.mem_append.1 h6 with h6 | h6
     ·refine old5 ?_ (b.l.lowLe f v h1 h2 h3 h4 hD5.1 (.inr h6))
      rw [hvx]; exact b.l.seen f h6
     ·rw [List.mem_singleton.1 h6, hvx, b.dy_y] at hD5; cases hD5.2
   ·exact old5 (b.l.closed v h3 hvx f h1 h4) (b.l.lowLe f v h1 h2 h3 h4 hD5.1 (.inl hvx))
  ·by_cases hfe : f = e
   ·subst hfe
    rcases touch_or b.ht h4 with q | q
    ·exact absurd q (b.dy_new h3).2.2.2.2
    ·rw [q, oth_oth b.ht, b.l.new_x] at hD5; cases hD5.1
   ·exact Nat.le_trans (Nat.min_le_right _ _) (b.p.lowLe f v h1 (fun h' => hfe (b.inj f e h1 b.he (by omega))) h3 h4 hD5.2)
 ·rw [lx, ho, sx1]; exact Nat.le_trans (Nat.min_le_left _ _) b.l.lowS
 ·rw [lx, ho]
  by_cases hm : s.low x ≤ s1.low (othE e x)
  ·rw [Nat.min_eq_left hm, sx1]
   rcases b.l.lowEx with h | ⟨f, v, h1, h2, h3, h4, h5, h6⟩
   ·exact .inl h
   ·obtain ⟨h6, hvx⟩ := h6
    refine .inr ⟨f, v, h1, h2, by rw [hN]; exact b.d2.2 (.inl h3), h4, ?_, ?_, ordm _ hvx⟩
    ·rw [hN]
     cases h : newB s0 s1 (othE f v) with
     | false => rfl
     | true =>
      rcases b.d2.1 h with h | h
      ·rw [h5] at h; cases h
      ·exact absurd (b.dy_new h).1 hvx
    ·rw [b.ord_old hvx]; exact h6
  ·rw [Nat.min_eq_right (by omega)]
   rcases b.p.lowEx with h | ⟨f, v, h1, h2, h3, h4, h5, h6⟩
   ·exfalso
    have h7 := b.p.lo _ b.dy_y
    have h8 := b.l.lowS
    have h9 := b.l.le x
    have h10 : (s.pushE e.id).cnt = s.cnt := rfl
    omega
   ·obtain ⟨h7, h8⟩ := b.out h1 h3 h4 h5
    have h9 := b.ord_old h7
    have hwx : othE f v ≠ x := fun q => by
     rw [q] at h6 h9
     have := b.l.lowS
     omega
    have hG := h8.resolve_right hwx
    have hby : (f.id : Int) ≠ by_ := fun hb => by
     cases hpar : par with
     | none => have := (b.l.pre.none_ hpar).1; omega
     | some e0 =>
      obtain ⟨p1, p2, p3, p4, p5⟩ := b.l.pre.some_ e0 hpar
      have : f = e0 := b.inj f e0 h1 p1 (by omega)
      subst this
      rcases touch_or p3 h4 with q | q
      ·exact (b.dy_new h3).2.2.2.2 q
      ·have := b.l.pre.grey _ p4
       rw [← q] at this
       exact this (b.dy_new h3).2.1
    exact .inr ⟨f, v, h1, hby, by rw [hN]; exact b.d2.2 (.inr h3), h4, by rw [hN]; exact newB_old (b.l.pre.grey _ hG), h6, ordm _ h7⟩
 ·rw [hN, b.d2]
  by_cases hvx : v = x
  ·rw [hvx]; exact .inl b.l.new_x
  ·rcases (cMem v hvx).1 hv with h | h
   ·exact .inl (b.l.cNew v h)
   ·exact .inr (b.p.cNew v h)
 ·rw [hN, b.d2_x h1] at h2
  rw [cMem v h1]
  rcases h2 with h2 | h2
  ·rw [← b.l.cIn v h1 h2.1]
   constructor
   ·rintro (h | h)
    ·exact h
    ·have := (b.dy_new (b.p.cNew v h)).2.2.2.1
     rw [h2.1] at this; cases this
   ·exact .inl
  ·rw [← b.p.cIn v h2]
   constructor
   ·rintro (h | h)
    ·have := b.l.cNew v h
     rw [(b.dy_new h2).2.2.2.1] at this; cases this
    ·exact h
   ·exact .inr
 ·rw [hN']; exact cOut
end
end Go.Proofs.YtfglkgkihafcpaaGreatDoor.Pl
namespace Go.Proofs.YtfglkgkihafcpaaGreatDoor.Pl
section
variable {es : List E} {s0 : DS} {G : Nat → Prop} {x : Nat} {by_ : Int} {par : Option E} {done : List E} {ch : Nat} {s s1 : DS} {T Ty : List Nat} {P Py : List (List Nat)} {C Cy : List Nat} {e : E}
theorem Both.inner_y (b : Both es s0 G x by_ par done ch s s1 T Ty P Py C Cy e) {v : Nat} (h : newB (s.pushE e.id) s1 v = true) : Conn (ends (less1 es x)) (othE e x) v := inE_less (b.dy_old b.sx) (b.p.inner v h)
theorem by_par {h : LInv es s0 G x by_ par done ch s T P C} : 0 ≤ by_ ↔ ∃ e0, par = some e0 := by
 cases hp : par with
 | none => have := (h.pre.none_ hp).1; exact ⟨fun h => by omega, fun ⟨_, h⟩ => by cases h⟩
 | some e0 => have := (h.pre.some_ e0 hp).2.1; exact ⟨fun _ => ⟨e0, rfl⟩, fun _ => by omega⟩
theorem Both.next (b : Both es s0 G x by_ par done ch s s1 T Ty P Py C Cy e) :
  ∃ T2 P2 C2, LInv es s0 G x by_ par (done ++ [e]) (ch + 1) (s1.after x (othE e x) s.st.length (decide (0 ≤ by_) || decide (1 < ch + 1))) T2 P2 C2 := by
 obtain ⟨c, hc⟩ : ∃ c, (decide (0 ≤ by_) || decide (1 < ch + 1)) = c := ⟨_, rfl⟩
 rw [hc]
 obtain ⟨o1, o2, o3⟩ := after_ord s1 x (othE e x) s.st.length c
 have st1 : s1.st = s.st ++ (e.id :: Ty) := by rw [b.p.st]; show s.st ++ [e.id] ++ Ty = _; simp
 have ps1 : s1.ps = s0.ps ++ (P ++ Py) := by rw [b.p.ps]; show s.ps ++ Py = _; rw [b.l.ps, List.append_assoc]
 have cs1 : s1.cuts = s0.cuts ++ (C ++ Cy) := by rw [b.p.cs]; show s.cuts ++ Cy = _; rw [b.l.cs, List.append_assoc]
 have hyx := b.y_x
 have dyx : newB (s.pushE e.id) s1 x = false := b.dy_old b.sx
 have xCy : x ∉ Cy := fun h => by have := b.p.cNew x h; rw [dyx] at this; cases this
 have cX0 : x ∈ C ++ Cy → Sep es x := fun h => by
  rcases List.mem_append.1 h with h | h
  ·exact b.l.cX h
  ·exact absurd h xCy
 have blkTy : ∀ e0, Blk es e0 e → ∀ t, t ∈ e.id :: Ty → ∃ f, f ∈ es ∧ f.id = t ∧ Blk es e0 f := fun e0 k t ht => by
  rcases List.mem_cons.1 ht with h | h
  ·exact ⟨e, b.he, h.symm, k⟩
  ·obtain ⟨f, h1, h2, h3⟩ := b.p.blk e rfl t h
   exact ⟨f, h1, h2, k.trans h3⟩
 by_cases hl : s1.ord x ≤ s1.low (othE e x)
 ·-- a whole part
  have ha : s1.after x (othE e x) s.st.length c = ((s1.lower x (s1.low (othE e x))).emit s.st.length).cut x c := by unfold DS.after; rw [if_pos hl]
  have hst : (s1.after x (othE e x) s.st.length c).st = s.st := by
   rw [ha]; unfold DS.cut DS.emit DS.lower
   cases c <;> simp [st1]
  have hps : (s1.after x (othE e x) s.st.length c).ps = s1.ps ++ [e.id :: Ty] := by
   rw [ha]; unfold DS.cut DS.emit DS.lower
   cases c <;> simp [st1]
  have hcs : (s1.after x (othE e x) s.st.length c).cuts = s1.cuts ++ (if c = true then [x] else []) := by
   rw [ha]; unfold DS.cut DS.emit DS.lower
   cases c <;> simp
  refine ⟨T, P ++ Py ++ [e.id :: Ty], C ++ Cy ++ (if c = true then [x] else []), b.frame o1 o2 o3 (by rw [hst]; exact b.l.st) (by rw [hps, ps1]; simp) (by rw [hcs, cs1]; simp) ?_ ?_ b.l.root b.l.blk ?_ ?_ ?_⟩
  ·simp only [List.flatten_append, List.flatten_cons, List.flatten_nil, List.append_nil, List.append_assoc]
   refine List.Perm.append_left T (List.Perm.append_left P.flatten ?_)
   rw [← List.cons_append]
   exact List.perm_append_comm
  ·intro p hp
   rcases List.mem_append.1 hp with hp | hp
   ·rcases List.mem_append.1 hp with hp | hp
    ·exact b.l.cls p hp
    ·exact b.p.cls p hp
   ·rw [List.mem_singleton.1 hp]; exact ⟨by simp, b.whole hl⟩
  ·intro v hv
   cases c <;> simp [hv]
  ·intro hx
   by_cases hcc : c = true
   ·-- x parts the child from another one
    obtain ⟨u, u1, u2, u3⟩ : ∃ u, u ≠ x ∧ newB (s.pushE e.id) s1 u = false ∧ Conn (ends es) x u := by
     rw [hcc, Bool.or_eq_true, decide_eq_true_eq, decide_eq_true_eq] at hc
     rcases hc with hc | hc
     ·obtain ⟨e0, hp⟩ := (by_par (h := b.l)).1 hc
      obtain ⟨p1, p2, p3, p4, p5⟩ := b.l.pre.some_ e0 hp
      have hv := b.old_s (b.l.pre.grey _ p4)
      exact ⟨othE e0 x, othE_ne (b.hne e0 p1) p3, b.dy_old hv, Conn.of_edge' p1 p3⟩
     ·obtain ⟨u, u1, u2⟩ := b.l.many (by omega)
      refine ⟨u, u1, b.dy_old (newB_iff.1 u2).2, (b.l.inner u u2).of_sub fun f hf => (mem_inE.1 hf).1⟩
    refine ⟨othE e x, u, hyx, u1, (Conn.of_edge' b.he b.ht).symm.trans u3, fun hc => ?_⟩
    have := b.shut_less hl hc
    rw [b.dy_y, u2] at this; cases this
   ·rw [if_neg hcc, List.append_nil] at hx; exact cX0 hx
  ·rcases b.l.cOut with h | ⟨h1, h2⟩
   ·exact .inl (List.mem_append_left _ (List.mem_append_left _ h))
   ·by_cases hcc : c = true
    ·rw [if_pos hcc]; exact .inl (by simp)
    ·right
     rw [Bool.not_eq_true] at hcc
     rw [hcc, Bool.or_eq_false_iff, decide_eq_false_iff_not, decide_eq_false_iff_not] at hc
     have hpn : ∀ e0, par = some e0 → False := fun e0 hp => hc.1 ((by_par (h := b.l)).2 ⟨e0, hp⟩)
     have hch : ch = 0 := by omega
     have only : ∀ v, newB s0 s1 v = true → v ≠ x → newB (s.pushE e.id) s1 v = true := fun v hv hx => by
      rcases (b.d2_x hx).1 hv with h | h
      ·exact absurd (b.l.zero hch v h.1) hx
      ·exact h
     exact ⟨fun v w hv hw hvx hwx => (b.inner_y (only v hv hvx)).symm.trans (b.inner_y (only w hw hwx)), fun e0 hp => (hpn e0 hp).elim⟩
 ·-- not yet whole
  obtain ⟨e0, hp, hup⟩ := b.up hl
  obtain ⟨p1, p2, p3, p4, p5⟩ := b.l.pre.some_ e0 hp
  have hk : Blk es e0 e := Blk.one p1 b.he ⟨x, p3, b.ht, hup.symm⟩
  have ha : s1.after x (othE e x) s.st.length c = s1.lower x (s1.low (othE e x)) := by unfold DS.after; rw [if_neg hl]
  have hst : (s1.after x (othE e x) s.st.length c).st = s1.st := by rw [ha]; rfl
  have hps : (s1.after x (othE e x) s.st.length c).ps = s1.ps := by rw [ha]; rfl
  have hcs : (s1.after x (othE e x) s.st.length c).cuts = s1.cuts := by rw [ha]; rfl
  refine ⟨T ++ e.id :: Ty, P ++ Py, C ++ Cy, b.frame o1 o2 o3 (by rw [hst, st1, b.l.st, List.append_assoc]) (by rw [hps, ps1]) (by rw [hcs, cs1]) ?_ ?_ (fun h => by rw [hp] at h; cases h) ?_ ?_ cX0 ?_⟩
  ·simp only [List.flatten_append, List.append_assoc]
   refine List.Perm.append_left T ?_
   rw [← List.append_assoc]
   refine List.Perm.trans (List.Perm.append_right _ List.perm_append_comm) ?_
   rw [List.append_assoc]
   exact List.Perm.refl _
  ·intro p hp
   rcases List.mem_append.1 hp with hp | hp
   ·exact b.l.cls p hp
   ·exact b.p.cls p hp
  ·intro e1 he1 t ht
   have : e1 = e0 := by rw [hp] at he1; exact (Option.some.inj he1).symm
   subst this
   rcases List.mem_append.1 ht with ht | ht
   ·exact b.l.blk e1 hp t ht
   ·exact blkTy e1 hk t ht
  ·intro v _; exact List.mem_append
  ·rcases b.l.cOut with h | ⟨h1, h2⟩
   ·exact .inl (List.mem_append_left _ h)
   ·right
    have toP : ∀ v, newB s0 s1 v = true → v ≠ x → Conn (ends (less1 es x)) v (othE e0 x) := fun v hv hx => by
     rcases (b.d2_x hx).1 hv with h | h
     ·exact h2 e0 hp v h.1 hx
     ·exact (b.inner_y h).symm.trans hup
    refine ⟨fun v w hv hw hvx hwx => (toP v hv hvx).trans (toP w hw hwx).symm, fun e1 he1 => ?_⟩
    have : e1 = e0 := by rw [hp] at he1; exact (Option.some.inj he1).symm
    subst this
    exact toP
theorem LInv.post (hne : ∀ e, e ∈ es → e.a ≠ e.b) (h : LInv es s0 G x by_ par done ch s T P C) (hall : ∀ e, e ∈ done ↔ e ∈ es ∧ touch e x) : Post es s0 G x by_ par s T P C := by
 have hx0 : visB s0 x = false := by unfold visB; simp [h.pre.new]
 refine ⟨h.old, h.self, h.lo, h.le, h.inj, fun v h1 f hf hft => ?_, h.inner, h.st, h.ps, h.cs, fun id => ?_, h.nodup, fun f v h1 h2 h3 h4 h5 => ?_, h.lowS, ?_, h.cls, h.root, h.blk, h.cNew, fun v hv => ?_⟩
 ·by_cases e : v = x
  ·subst e; exact h.seen f ((hall f).2 ⟨hf, hft⟩)
  ·exact h.closed v h1 e f hf hft
 ·rw [h.ids]
  constructor
  ·rintro ⟨f, h1, h2, h3, ⟨v, v1, v2, v3⟩ | h4⟩
   ·exact ⟨f, h1, h2, h3, v, v2, v3⟩
   ·exact ⟨f, h1, h2, h3, x, h.new_x, ((hall f).1 h4).2⟩
  ·rintro ⟨f, h1, h2, h3, v, v2, v3⟩
   by_cases e : v = x
   ·subst e; exact ⟨f, h1, h2, h3, .inr ((hall f).2 ⟨h1, v3⟩)⟩
   ·exact ⟨f, h1, h2, h3, .inl ⟨v, e, v2, v3⟩⟩
 ·by_cases e : v = x
  ·subst e; exact h.lowLe f v h1 h2 h3 h4 h5 (.inr ((hall f).2 ⟨h1, h4⟩))
  ·exact h.lowLe f v h1 h2 h3 h4 h5 (.inl e)
 ·rcases h.lowEx with h1 | ⟨f, v, h1, h2, h3, h4, h5, h6, h7⟩
  ·exact .inl h1
  ·exact .inr ⟨f, v, h1, h2, h3, h4, h5, h6⟩
 ·by_cases e : v = x
  ·subst e
   refine ⟨h.cX, fun hs => ?_⟩
   rcases h.cOut with hc | ⟨c1, c2⟩
   ·exact hc
   ·exfalso
    refine nosep (fun f g hf hg hft hgt => ?_) hs
    -- a neighbour: new, or up the way
    have nb : ∀ f, f ∈ es → touch f v → (newB s0 s (othE f v) = true ∧ othE f v ≠ v) ∨ G (othE f v) := fun f hf hft => by
     have hv := h.seen f ((hall f).2 ⟨hf, hft⟩)
     by_cases h0 : s0.ord (othE f v) = 0
     ·exact .inl ⟨newB_at h0 hv, othE_ne (hne f hf) hft⟩
     ·refine .inr (Classical.byContradiction fun hG => ?_)
      have := h.pre.black _ h0 hG f hf (oth_touch hft)
      rw [oth_oth hft] at this
      exact this h.pre.new
    cases hp : par with
    | none =>
     have nG := (h.pre.none_ hp).2
     obtain ⟨f1, f2⟩ := (nb f hf hft).resolve_right (nG _)
     obtain ⟨g1, g2⟩ := (nb g hg hgt).resolve_right (nG _)
     exact c1 _ _ f1 g1 f2 g2
    | some e0 =>
     obtain ⟨p1, p2, p3, p4, p5⟩ := h.pre.some_ e0 hp
     have toP : ∀ f, f ∈ es → touch f v → Conn (ends (less1 es v)) (othE f v) (othE e0 v) := fun f hf hft => by
      rcases nb f hf hft with ⟨f1, f2⟩ | hG
      ·exact c2 e0 hp _ f1 f2
      ·exact inE_less hx0 (p5 _ hG).1
     exact (toP f hf hft).trans (toP g hg hgt).symm
  ·exact h.cIn v e hv
end
theorem run_inv {es : List E} (inj : Inj es) (hne : ∀ e, e ∈ es → e.a ≠ e.b) {nb : Nat → List E} (hnb : ∀ x e, e ∈ nb x ↔ e ∈ es ∧ touch e x) (hnd : ∀ x, (nb x).Nodup) {c : Cmd} {s s' : DS} (r : Run nb c s s') :
  match c with
  | .deep y by_ => ∀ G par, Pre es s G y by_ par → ∃ T P C, Post es s G y by_ par s' T P C
  | .loop x by_ l ch => ∀ s0 G par done T P C, LInv es s0 G x by_ par done ch s T P C → done ++ l = nb x → ∃ ch' T' P' C', LInv es s0 G x by_ par (nb x) ch' s' T' P' C' := by
 induction r with
 | @deep x by_ s s' _ ih =>
  intro G par hp
  obtain ⟨ch', T', P', C', h⟩ := ih s G par [] [] [] [] (LInv.start hp) rfl
  exact ⟨T', P', C', h.post hne (hnb x)⟩
 | @nil x by_ ch s =>
  intro s0 G par done T P C h hl
  rw [List.append_nil] at hl
  rw [hl] at h
  exact ⟨ch, T, P, C, h⟩
 | @skip x by_ ch e l s s' hb _ ih =>
  intro s0 G par done T P C h hl
  have he := (hnb x e).1 (by rw [← hl]; simp)
  exact ih s0 G par (done ++ [e]) T P C (h.skip inj he.1 hb) (by rw [← hl]; simp)
 | @child x by_ ch e l s s1 s' hb hv _ _ ih1 ih2 =>
  intro s0 G par done T P C h hl
  have he := (hnb x e).1 (by rw [← hl]; simp)
  have hd : e ∉ done := fun hd => by
   have := hnd x
   rw [← hl, List.nodup_append] at this
   exact this.2.2 e hd e (by simp) rfl
  obtain ⟨Ty, Py, Cy, hp⟩ := ih1 _ _ (h.preChild hne he.1 he.2 hv)
  have b : Both es s0 G x by_ par done ch s s1 T Ty P Py C Cy e := ⟨inj, hne, h, hp, he.1, he.2, hb, hd, fun f hf => ((hnb x f).1 (by rw [← hl]; exact List.mem_append_left _ hf)).2, hv⟩
  obtain ⟨T2, P2, C2, h2⟩ := b.next
  exact ih2 s0 G par (done ++ [e]) T2 P2 C2 h2 (by rw [← hl]; simp)
 | @back x by_ ch e l s s' hb hv hlt _ ih =>
  intro s0 G par done T P C h hl
  have he := (hnb x e).1 (by rw [← hl]; simp)
  have hd : e ∉ done := fun hd => by
   have := hnd x
   rw [← hl, List.nodup_append] at this
   exact this.2.2 e hd e (by simp) rfl
  exact ih s0 G par (done ++ [e]) _ P C (h.back inj hne he.1 he.2 hb hd hv hlt) (by rw [← hl]; simp)
 | @done x by_ ch e l s s' hb hv hlt _ ih =>
  intro s0 G par done T P C h hl
  have he := (hnb x e).1 (by rw [← hl]; simp)
  exact ih s0 G par (done ++ [e]) T P C (h.done' hne he.1 he.2 hv hlt) (by rw [← hl]; simp)
structure DTop (es : List E) (s : DS) (k : Nat) : Prop where
 le : ∀ v, s.ord v ≤ s.cnt
 inj : ∀ u v, s.ord u ≠ 0 → s.ord u = s.ord v → u = v
 closed : ∀ v, s.ord v ≠ 0 → ∀ e, e ∈ es → touch e v → s.ord (othE e v) ≠ 0
 st : s.st = []
 ids : ∀ id, id ∈ s.ps.flatten ↔ ∃ e, e ∈ es ∧ e.id = id ∧ ∃ v, s.ord v ≠ 0 ∧ touch e v
 nodup : s.ps.flatten.Nodup
 cls : ∀ p, p ∈ s.ps → p ≠ [] ∧ ClassB es p
 cNew : ∀ v, v ∈ s.cuts → s.ord v ≠ 0
 cIn : ∀ v, s.ord v ≠ 0 → (v ∈ s.cuts ↔ Sep es v)
 met : ∀ v, v < k → s.ord v ≠ 0
def DS.zero : DS := ⟨0, fun _ => 0, fun _ => 0, [], [], []⟩
theorem DTop.start (es : List E) : DTop es DS.zero 0 :=
 ⟨fun _ => Nat.le_refl _, fun _ _ h => absurd rfl h, fun _ h => absurd rfl h, rfl, fun id => ⟨fun h => by simp [DS.zero] at h, fun ⟨_, _, _, _, h, _⟩ => absurd rfl h⟩, by simp [DS.zero], fun p h => by simp [DS.zero] at h, fun v h => by simp [DS.zero] at h, fun _ h => absurd rfl h, fun v h => by omega⟩
theorem DTop.met' {es : List E} {s : DS} {k : Nat} (h : DTop es s k) (hk : s.ord k ≠ 0) : DTop es s (k + 1) :=
 ⟨h.le, h.inj, h.closed, h.st, h.ids, h.nodup, h.cls, h.cNew, h.cIn, fun v hv => by
  by_cases e : v = k
  ·subst e; exact hk
  ·exact h.met v (by omega)⟩
theorem DTop.root {es : List E} (inj : Inj es) (hne : ∀ e, e ∈ es → e.a ≠ e.b) {nb : Nat → List E} (hnb : ∀ x e, e ∈ nb x ↔ e ∈ es ∧ touch e x) (hnd : ∀ x, (nb x).Nodup) {s s' : DS} {k : Nat} (h : DTop es s k) (hk : s.ord k = 0)
  (r : Run nb (.deep k (-1)) s s') : DTop es s' (k + 1) := by
 obtain ⟨T, P, C, p⟩ := run_inv inj hne hnb hnd r (fun _ => False) none ⟨fun _ => ⟨by omega, fun _ h => h⟩, fun _ h => (by cases h), fun _ h => h.elim, fun v hv _ => h.closed v hv, hk, h.inj, h.le⟩
 have hT := p.root rfl
 subst hT
 have vis : ∀ v, s'.ord v ≠ 0 ↔ s.ord v ≠ 0 ∨ newB s s' v = true := fun v => by
  constructor
  ·intro hv
   by_cases h0 : s.ord v = 0
   ·exact .inr (newB_at h0 hv)
   ·exact .inl h0
  ·rintro (hv | hv)
   ·rw [(p.old v hv).1]; exact hv
   ·exact (newB_iff.1 hv).2
 have hby : ∀ e : E, (e.id : Int) ≠ -1 := fun e => by omega
 have pid : ∀ id, id ∈ P.flatten ↔ ∃ e, e ∈ es ∧ e.id = id ∧ ∃ v, newB s s' v = true ∧ touch e v := fun id => by
  have := p.ids id
  rw [List.nil_append] at this
  rw [this]
  exact ⟨fun ⟨e, h1, h2, _, h4⟩ => ⟨e, h1, h2, h4⟩, fun ⟨e, h1, h2, h4⟩ => ⟨e, h1, h2, hby e, h4⟩⟩
 refine ⟨p.le, p.inj, fun v hv e he ht => ?_, by rw [p.st, h.st]; rfl, fun id => ?_, ?_, fun q hq => ?_, fun v hv => ?_, fun v hv => ?_, fun v hv => ?_⟩
 ·rcases (vis v).1 hv with hv | hv
  ·exact (vis _).2 (.inl (h.closed v hv e he ht))
  ·exact p.closed v hv e he ht
 ·rw [p.ps, List.flatten_append, List.mem_append, h.ids, pid]
  constructor
  ·rintro (⟨e, h1, h2, v, v1, v2⟩ | ⟨e, h1, h2, v, v1, v2⟩)
   ·exact ⟨e, h1, h2, v, (vis v).2 (.inl v1), v2⟩
   ·exact ⟨e, h1, h2, v, (vis v).2 (.inr v1), v2⟩
  ·rintro ⟨e, h1, h2, v, v1, v2⟩
   rcases (vis v).1 v1 with v1 | v1
   ·exact .inl ⟨e, h1, h2, v, v1, v2⟩
   ·exact .inr ⟨e, h1, h2, v, v1, v2⟩
 ·rw [p.ps, List.flatten_append, List.nodup_append]
  have hn := p.nodup
  rw [List.nil_append] at hn
  refine ⟨h.nodup, hn, fun a ha b hb hab => ?_⟩
  subst hab
  obtain ⟨e, h1, h2, v, v1, v2⟩ := (h.ids _).1 ha
  obtain ⟨f, g1, g2, w, w1, w2⟩ := (pid _).1 hb
  have : e = f := inj e f h1 g1 (by omega)
  subst this
  have h0 := (newB_iff.1 w1).1
  rcases touch_or v2 w2 with q | q
  ·rw [q] at h0; exact v1 h0
  ·rw [q] at h0; exact h.closed v v1 e h1 v2 h0
 ·rw [p.ps] at hq
  rcases List.mem_append.1 hq with hq | hq
  ·exact h.cls q hq
  ·exact p.cls q hq
 ·rw [p.cs] at hv
  rcases List.mem_append.1 hv with hv | hv
  ·exact (vis v).2 (.inl (h.cNew v hv))
  ·exact (vis v).2 (.inr (p.cNew v hv))
 ·rw [p.cs, List.mem_append]
  rcases (vis v).1 hv with hv | hv
  ·rw [← h.cIn v hv]
   exact ⟨fun hh => hh.elim (fun h => h) (fun hc => by have := p.cNew v hc; rw [newB_old hv] at this; cases this), .inl⟩
  ·rw [← p.cIn v hv]
   exact ⟨fun hh => hh.elim (fun hc => absurd (newB_iff.1 hv).1 (h.cNew v hc)) (fun h => h), .inr⟩
 ·by_cases e : v = k
  ·subst e; rw [p.self]; omega
  ·exact (vis v).2 (.inl (h.met v (by omega)))
end Go.Proofs.YtfglkgkihafcpaaGreatDoor.Pl
namespace Go.Proofs.YtfglkgkihafcpaaGreatDoor.Pl
def unv (n : Nat) (s : DS) : Nat := cnt n (fun v => decide (s.ord v = 0))
def wt (s : DS) : Nat := s.cnt + s.st.length + s.ps.length + s.cuts.length
theorem unv_enter {n : Nat} {s : DS} {x : Nat} (hx : x < n) (h0 : s.ord x = 0) : unv n s = unv n (s.enter x) + 1 := by
 refine cnt_remove hx (by simp [h0]) (fun z hz => ?_)
 show decide (upd s.ord x (s.cnt + 1) z = 0) = (decide (s.ord z = 0) && decide (z ≠ x))
 by_cases e : z = x
 ·subst e; rw [upd_same]; simp
 ·rw [upd_ne _ _ _ _ e]; simp [e]
theorem unv_congr {n : Nat} {s s' : DS} (h : s'.ord = s.ord) : unv n s' = unv n s := by unfold unv; rw [h]
theorem wt_enter (s : DS) (x : Nat) : wt (s.enter x) = wt s + 1 := by unfold wt DS.enter; simp only; omega
theorem wt_push (s : DS) (id : Nat) : wt (s.pushE id) = wt s + 1 := by unfold wt DS.pushE; simp; omega
theorem wt_after (s : DS) (x y k : Nat) (c : Bool) : wt (s.after x y k c) ≤ wt s + 2 := by
 unfold DS.after
 split
 ·unfold wt DS.cut DS.emit DS.lower
  cases c <;> simp <;> omega
 ·unfold wt DS.lower; simp only; omega
theorem run_st {nb : Nat → List E} {c : Cmd} {s s' : DS} (r : Run nb c s s') : s.st.length ≤ s'.st.length := by
 induction r with
 | deep _ ih => exact ih
 | nil => exact Nat.le_refl _
 | skip _ _ ih => exact ih
 | @child x by_ ch e l s s1 s' h1 h2 h3 h4 ih1 ih2 =>
  refine Nat.le_trans ?_ ih2
  have h5 : s.st.length + 1 ≤ s1.st.length := by simpa [DS.pushE] using ih1
  unfold DS.after
  split
  ·have : (((s1.lower x (s1.low (othE e x))).emit s.st.length).cut x (decide (0 ≤ by_) || decide (1 < ch + 1))).st = s1.st.take s.st.length := by
    unfold DS.cut; split <;> rfl
   rw [this, List.length_take]; omega
  ·show _ ≤ s1.st.length; omega
 | @back x by_ ch e l s s' h1 h2 h3 h4 ih =>
  refine Nat.le_trans ?_ ih
  show _ ≤ (s.st ++ [e.id]).length
  rw [List.length_append]; omega
 | done _ _ _ _ ih => exact ih
end Go.Proofs.YtfglkgkihafcpaaGreatDoor.Pl
namespace Go.Proofs.YtfglkgkihafcpaaGreatDoor.Pl
structure BlkList (es : List E) (ps : List (List Nat)) : Prop where
 rise : ∀ p, p ∈ ps → p.Pairwise (· < ·)
 ne : ∀ p, p ∈ ps → p ≠ []
 heads : ps.Pairwise (fun p q => p.headD 0 < q.headD 0)
 ids : ∀ id, id ∈ ps.flatten ↔ ∃ e, e ∈ es ∧ e.id = id
 cls : ∀ p, p ∈ ps → ClassB es p
theorem rising_ext {p q : List Nat} (hp : p.Pairwise (· < ·)) (hq : q.Pairwise (· < ·)) (h : ∀ x, x ∈ p ↔ x ∈ q) : p = q :=
 List.Perm.eq_of_pairwise (fun a b _ _ h1 h2 => by omega) hp hq ((List.perm_ext_iff_of_nodup (hp.imp fun h => Nat.ne_of_lt h) (hq.imp fun h => Nat.ne_of_lt h)).2 h)
theorem BlkList.sub {es : List E} {ps qs : List (List Nat)} (h : BlkList es ps) (g : BlkList es qs) {p : List Nat} (hp : p ∈ ps) : p ∈ qs := by
 obtain ⟨a, ha⟩ : ∃ a, a ∈ p := by
  cases p with
  | nil => exact absurd rfl (h.ne _ hp)
  | cons a l => exact ⟨a, List.mem_cons_self⟩
 obtain ⟨e, he, rfl⟩ := (h.ids a).1 (List.mem_flatten.2 ⟨p, hp, ha⟩)
 obtain ⟨q, hq, haq⟩ := List.mem_flatten.1 ((g.ids e.id).2 ⟨e, he, rfl⟩)
 have : p = q := rising_ext (h.rise p hp) (g.rise q hq) fun x => by
  constructor
  ·intro hx
   obtain ⟨f, hf, rfl⟩ := (h.ids x).1 (List.mem_flatten.2 ⟨p, hp, hx⟩)
   exact (g.cls q hq e f he hf haq).2 ((h.cls p hp e f he hf ha).1 hx)
  ·intro hx
   obtain ⟨f, hf, rfl⟩ := (g.ids x).1 (List.mem_flatten.2 ⟨q, hq, hx⟩)
   exact (h.cls p hp e f he hf ha).2 ((g.cls q hq e f he hf haq).1 hx)
 rw [this]; exact hq
theorem BlkList.unique {es : List E} {ps qs : List (List Nat)} (h : BlkList es ps) (g : BlkList es qs) : ps = qs :=
 List.Perm.eq_of_pairwise (fun a b _ _ h1 h2 => by omega) h.heads g.heads
  ((List.perm_ext_iff_of_nodup (h.heads.imp fun {a b} h e => by subst e; omega) (g.heads.imp fun {a b} h e => by subst e; omega)).2 fun p => ⟨fun hp => h.sub g hp, fun hp => g.sub h hp⟩)
theorem ClassB.perm {es : List E} {p q : List Nat} (h : ClassB es p) (hp : q.Perm p) : ClassB es q := fun e f he hf hi => by
 rw [hp.mem_iff] at hi ⊢
 exact h e f he hf hi
theorem DTop.list {es : List E} {s : DS} {n : Nat} (ho : ∀ e, e ∈ es → e.a < n ∧ e.b < n) (h : DTop es s n) {ps qs : List (List Nat)} (hr : ∀ p, p ∈ ps → p.Pairwise (· < ·)) (hperm : ps.Perm qs) (hh : ps.Pairwise (fun p q => p.headD 0 ≤ q.headD 0))
  (hq : qs.length = s.ps.length) (hi : ∀ (i : Nat) (p q : List Nat), qs[i]? = some p → s.ps[i]? = some q → p.Perm q) : BlkList es ps := by
 have hmem : ∀ p, p ∈ ps → ∃ q, q ∈ s.ps ∧ p.Perm q := fun p hp => by
  obtain ⟨i, hi'⟩ := List.mem_iff_getElem?.1 (hperm.mem_iff.1 hp)
  have hlt := (List.getElem?_eq_some_iff.1 hi').1
  obtain ⟨q, hq'⟩ : ∃ q, s.ps[i]? = some q := ⟨_, List.getElem?_eq_getElem (by rw [← hq]; exact hlt)⟩
  exact ⟨q, List.mem_of_getElem? hq', hi i p q hi' hq'⟩
 have hback : ∀ q, q ∈ s.ps → ∃ p, p ∈ ps ∧ p.Perm q := fun q hq1 => by
  obtain ⟨i, hi'⟩ := List.mem_iff_getElem?.1 hq1
  have hlt := (List.getElem?_eq_some_iff.1 hi').1
  obtain ⟨p, hp'⟩ : ∃ p, qs[i]? = some p := ⟨_, List.getElem?_eq_getElem (by rw [hq]; exact hlt)⟩
  exact ⟨p, hperm.mem_iff.2 (List.mem_of_getElem? hp'), hi i p q hp' hi'⟩
 have hne : ∀ p, p ∈ ps → p ≠ [] := fun p hp e => by
  obtain ⟨q, hq1, hq2⟩ := hmem p hp
  subst e
  exact (h.cls q hq1).1 (List.nil_perm.1 hq2)
 have hids : ∀ id, id ∈ ps.flatten ↔ ∃ e, e ∈ es ∧ e.id = id := fun id => by
  have h1 : id ∈ ps.flatten ↔ id ∈ s.ps.flatten := by
   rw [List.mem_flatten, List.mem_flatten]
   constructor
   ·rintro ⟨p, hp, hx⟩
    obtain ⟨q, hq1, hq2⟩ := hmem p hp
    exact ⟨q, hq1, hq2.mem_iff.1 hx⟩
   ·rintro ⟨q, hq1, hx⟩
    obtain ⟨p, hp, hq2⟩ := hback q hq1
    exact ⟨p, hp, hq2.mem_iff.2 hx⟩
  rw [h1, h.ids]
  constructor
  ·rintro ⟨e, he, hid, _⟩; exact ⟨e, he, hid⟩
  ·rintro ⟨e, he, hid⟩; exact ⟨e, he, hid, e.a, h.met e.a (ho e he).1, .inl rfl⟩
 have hdis : (s.ps.Pairwise (fun p q => ∀ x, x ∈ p → x ∉ q)) := by
  have := h.nodup
  unfold List.Nodup at this
  rw [List.pairwise_flatten] at this
  exact this.2.imp fun {p q} hpq x hx hx' => hpq x hx x hx' rfl
 have hdq : qs.Pairwise (fun p q => ∀ x, x ∈ p → x ∉ q) := by
  rw [List.pairwise_iff_getElem] at hdis ⊢
  intro i j hi1 hj1 hij x hx hx'
  have a1 := hi i _ _ (List.getElem?_eq_getElem hi1) (List.getElem?_eq_getElem (by omega))
  have a2 := hi j _ _ (List.getElem?_eq_getElem hj1) (List.getElem?_eq_getElem (by omega))
  exact hdis i j (by omega) (by omega) hij x (a1.mem_iff.1 hx) (a2.mem_iff.1 hx')
 have hdp : ps.Pairwise (fun p q => ∀ x, x ∈ p → x ∉ q) := (hperm.pairwise_iff (fun {a b} h x h1 h2 => h x h2 h1)).2 hdq
 refine ⟨hr, hne, ?_, hids, fun p hp => ?_⟩
 ·refine (hh.and hdp).imp_of_mem fun {p q} hp hq hpq => ?_
  obtain ⟨h1, h2⟩ := hpq
  refine Nat.lt_of_le_of_ne h1 fun e => ?_
  have a1 : p.headD 0 ∈ p := by
   cases p with
   | nil => exact absurd rfl (hne _ hp)
   | cons a l => exact List.mem_cons_self
  have a2 : q.headD 0 ∈ q := by
   cases q with
   | nil => exact absurd rfl (hne _ hq)
   | cons a l => exact List.mem_cons_self
  exact h2 _ a1 (e ▸ a2)
 ·obtain ⟨q, hq1, hq2⟩ := hmem p hp
  exact (h.cls q hq1).2.perm hq2
end Go.Proofs.YtfglkgkihafcpaaGreatDoor.Pl
namespace Go.Proofs.YtfglkgkihafcpaaGreatDoor.Pl
end Go.Proofs.YtfglkgkihafcpaaGreatDoor.Pl

