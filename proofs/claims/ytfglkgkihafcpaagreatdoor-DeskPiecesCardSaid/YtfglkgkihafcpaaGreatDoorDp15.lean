/- Part 15 of the proof: P4 PlNorm. -/
import Derived.Test.YtfglkgkihafcpaaGreatDoorDp12
set_option linter.unusedVariables false
set_option linter.unusedSimpArgs false
namespace Go.Proofs.YtfglkgkihafcpaaGreatDoor.Pl
def mk (es : List E) (id : Nat) : Nat := msk (trE es) (rsE es) id
def brE (es : List E) : List Nat := (es.filter (fun e => decide (mk es e.id = 0))).map (·.id)
def alikeTo (M : Nat → Nat) (x : Nat) (l : List E) : List (Nat × Nat) := (l.filter (fun f => decide (M x ≠ 0 ∧ M x = M f.id))).map (fun f => (x, f.id))
def alikes (M : Nat → Nat) : List E → List (Nat × Nat)
 | [] => []
 | e :: l => alikeTo M e.id l ++ alikes M l
theorem alikeTo_cons (M : Nat → Nat) (x : Nat) (f : E) (l : List E) : alikeTo M x (f :: l) = (if M x ≠ 0 ∧ M x = M f.id then [(x, f.id)] else []) ++ alikeTo M x l := by
 unfold alikeTo
 rw [List.filter_cons]
 by_cases h : M x ≠ 0 ∧ M x = M f.id
 ·rw [if_pos h, if_pos (by simpa using h)]; rfl
 ·rw [if_neg h, if_neg (by simpa using h)]; rfl
theorem alikeTo_len (M : Nat → Nat) (x : Nat) (l : List E) : (alikeTo M x l).length ≤ l.length := by
 unfold alikeTo; rw [List.length_map]; exact List.length_filter_le _ _
theorem alikes_len (M : Nat → Nat) (l : List E) : (alikes M l).length ≤ l.length * l.length := by
 induction l with
 | nil => simp [alikes]
 | cons e l ih =>
  have := alikeTo_len M e.id l
  simp only [alikes, List.length_append, List.length_cons, Nat.add_mul, Nat.mul_add]
  omega
def took (es : List E) : List (List Nat) := [[]] ++ (brE es).map (fun id => [id]) ++ (alikes (mk es) es).map (fun p => [p.1, p.2])
def Thr (es : List E) (x y : Nat) : Prop := ∀ l, l ∈ took es → Conn (ends (sans es l)) x y
theorem mem_sansL {es : List E} {l : List Nat} {e : E} : e ∈ sans es l ↔ e ∈ es ∧ e.id ∉ l := by
 unfold sans; rw [List.mem_filter]; simp
theorem Thr.refl (es : List E) (x : Nat) : Thr es x x := fun _ _ => Conn.refl _ _
theorem Thr.symm {es : List E} {x y : Nat} (h : Thr es x y) : Thr es y x := fun l hl => (h l hl).symm
theorem Thr.trans {es : List E} {x y z : Nat} (h : Thr es x y) (g : Thr es y z) : Thr es x z := fun l hl => (h l hl).trans (g l hl)
end Go.Proofs.YtfglkgkihafcpaaGreatDoor.Pl
namespace Go.Proofs.YtfglkgkihafcpaaGreatDoor.Pl
def ApI (n : Nat) (es : List E) (tk : List (List Nat)) (A : Nat × Nat → Bool) (t b' a' : Nat) : Prop :=
 ∀ a b, A (a, b) = true ↔ (a < b ∧ b < n ∧ ((∃ l, l ∈ tk.take t ∧ ¬ Conn (ends (sans es l)) a b) ∨ ∃ l, tk[t]? = some l ∧ ¬ Conn (ends (sans es l)) a b ∧ (b < b' ∨ (b = b' ∧ a < a'))))
theorem ApI.start (n : Nat) (es : List E) (tk : List (List Nat)) : ApI n es tk (fun _ => false) 0 0 0 := fun a b => by
 simp
theorem ApI.store {n : Nat} {es : List E} {tk : List (List Nat)} {A : Nat × Nat → Bool} {t b' a' : Nat} {l : List Nat} (h : ApI n es tk A t b' a') (hl : tk[t]? = some l) (hc : ¬ Conn (ends (sans es l)) a' b') (hab : a' < b') (hb : b' < n) :
  ApI n es tk (fun p => if p = (a', b') then true else A p) t b' (a' + 1) := fun a b => by
 by_cases e : (a, b) = (a', b')
 ·simp only [Prod.mk.injEq] at e
  obtain ⟨rfl, rfl⟩ := e
  simp only [if_true, true_iff]
  exact ⟨hab, hb, .inr ⟨l, hl, hc, .inr ⟨trivial, by omega⟩⟩⟩
 ·show (if (a, b) = (a', b') then true else A (a, b)) = true ↔ _
  rw [if_neg e, h a b]
  have hne : ¬ (a = a' ∧ b = b') := fun hh => e (by rw [hh.1, hh.2])
  constructor
  ·rintro ⟨h1, h2, h3 | ⟨l', h4, h5, h6⟩⟩
   ·exact ⟨h1, h2, .inl h3⟩
   ·exact ⟨h1, h2, .inr ⟨l', h4, h5, by omega⟩⟩
  ·rintro ⟨h1, h2, h3 | ⟨l', h4, h5, h6⟩⟩
   ·exact ⟨h1, h2, .inl h3⟩
   ·exact ⟨h1, h2, .inr ⟨l', h4, h5, by omega⟩⟩
theorem ApI.skip {n : Nat} {es : List E} {tk : List (List Nat)} {A : Nat × Nat → Bool} {t b' a' : Nat} {l : List Nat} (h : ApI n es tk A t b' a') (hl : tk[t]? = some l) (hc : Conn (ends (sans es l)) a' b') :
  ApI n es tk A t b' (a' + 1) := fun a b => by
 rw [h a b]
 constructor
 ·rintro ⟨h1, h2, h3 | ⟨l', h4, h5, h6⟩⟩
  ·exact ⟨h1, h2, .inl h3⟩
  ·exact ⟨h1, h2, .inr ⟨l', h4, h5, by omega⟩⟩
 ·rintro ⟨h1, h2, h3 | ⟨l', h4, h5, h6⟩⟩
  ·exact ⟨h1, h2, .inl h3⟩
  ·refine ⟨h1, h2, .inr ⟨l', h4, h5, ?_⟩⟩
   rw [hl] at h4; cases h4
   rcases h6 with h6 | ⟨rfl, h6⟩
   ·exact .inl h6
   ·by_cases e : a = a'
    ·subst e; exact absurd hc h5
    ·exact .inr ⟨rfl, by omega⟩
theorem ApI.row {n : Nat} {es : List E} {tk : List (List Nat)} {A : Nat × Nat → Bool} {t b' : Nat} (h : ApI n es tk A t b' b') : ApI n es tk A t (b' + 1) 0 := fun a b => by
 rw [h a b]
 constructor
 ·rintro ⟨h1, h2, h3 | ⟨l', h4, h5, h6⟩⟩
  ·exact ⟨h1, h2, .inl h3⟩
  ·exact ⟨h1, h2, .inr ⟨l', h4, h5, by omega⟩⟩
 ·rintro ⟨h1, h2, h3 | ⟨l', h4, h5, h6⟩⟩
  ·exact ⟨h1, h2, .inl h3⟩
  ·exact ⟨h1, h2, .inr ⟨l', h4, h5, by omega⟩⟩
theorem ApI.list {n : Nat} {es : List E} {tk : List (List Nat)} {A : Nat × Nat → Bool} {t : Nat} {l : List Nat} (h : ApI n es tk A t n 0) (hl : tk[t]? = some l) : ApI n es tk A (t + 1) 0 0 := fun a b => by
 rw [h a b]
 have ht : tk.take (t + 1) = tk.take t ++ [l] := by rw [List.take_add_one, hl]; rfl
 constructor
 ·rintro ⟨h1, h2, ⟨l', h3, h4⟩ | ⟨l', h4, h5, h6⟩⟩
  ·exact ⟨h1, h2, .inl ⟨l', by rw [ht]; exact List.mem_append_left _ h3, h4⟩⟩
  ·rw [hl] at h4; cases h4
   exact ⟨h1, h2, .inl ⟨l, by rw [ht]; simp, h5⟩⟩
 ·rintro ⟨h1, h2, ⟨l', h3, h4⟩ | ⟨l', h4, h5, h6⟩⟩
  ·rw [ht] at h3
   rcases List.mem_append.1 h3 with h3 | h3
   ·exact ⟨h1, h2, .inl ⟨l', h3, h4⟩⟩
   ·rw [List.mem_singleton] at h3; subst h3
    exact ⟨h1, h2, .inr ⟨l', hl, h4, .inl h2⟩⟩
  ·omega
theorem ApI.done {n : Nat} {es : List E} {A : Nat × Nat → Bool} (h : ApI n es (took es) A (took es).length 0 0) {a b : Nat} (hab : a < b) (hb : b < n) : A (a, b) = false ↔ Thr es a b := by
 rw [← Bool.not_eq_true, h a b, List.take_length]
 unfold Thr
 constructor
 ·intro hn l hl
  exact Classical.byContradiction fun hc => hn ⟨hab, hb, .inl ⟨l, hl, hc⟩⟩
 ·rintro ht ⟨_, _, ⟨l, hl, hc⟩ | ⟨l, hl, hc, h6⟩⟩
  ·exact hc (ht l hl)
  ·omega
structure JnI (n : Nat) (es : List E) (js : List (Nat × Nat)) (b' a' : Nat) : Prop where
 ok : ∀ p, p ∈ js → p.1 < n ∧ p.2 < n ∧ Thr es p.1 p.2
 all : ∀ a b, a < b → (b < b' ∨ (b = b' ∧ a < a')) → Thr es a b → Conn js a b
theorem JnI.start (n : Nat) (es : List E) : JnI n es [] 0 0 := ⟨fun _ h => (by cases h), fun a b h1 h2 _ => by omega⟩
theorem JnI.join {n : Nat} {es : List E} {js : List (Nat × Nat)} {b' a' : Nat} (h : JnI n es js b' a') (ht : Thr es a' b') (ha : a' < n) (hb : b' < n) : JnI n es (js ++ [(a', b')]) b' (a' + 1) :=
 ⟨fun p hp => by
  rcases List.mem_append.1 hp with hp | hp
  ·exact h.ok p hp
  ·rw [List.mem_singleton] at hp; subst hp; exact ⟨ha, hb, ht⟩,
  fun a b h1 h2 h3 => by
   by_cases e : a = a' ∧ b = b'
   ·obtain ⟨rfl, rfl⟩ := e
    exact Conn.of_mem (by simp)
   ·exact (h.all a b h1 (by omega) h3).mono fun e he => List.mem_append_left _ he⟩
theorem JnI.skip {n : Nat} {es : List E} {js : List (Nat × Nat)} {b' a' : Nat} (h : JnI n es js b' a') (ht : ¬ Thr es a' b') : JnI n es js b' (a' + 1) :=
 ⟨h.ok, fun a b h1 h2 h3 => by
  by_cases e : a = a' ∧ b = b'
  ·obtain ⟨rfl, rfl⟩ := e
   exact absurd h3 ht
  ·exact h.all a b h1 (by omega) h3⟩
theorem JnI.row {n : Nat} {es : List E} {js : List (Nat × Nat)} {b' : Nat} (h : JnI n es js b' b') : JnI n es js (b' + 1) 0 := ⟨h.ok, fun a b h1 h2 h3 => h.all a b h1 (by omega) h3⟩
theorem JnI.done {n : Nat} {es : List E} {js : List (Nat × Nat)} (h : JnI n es js n 0) {x y : Nat} (hx : x < n) (hy : y < n) : labs js x = labs js y ↔ Thr es x y := by
 constructor
 ·intro c
  have c' : Conn js x y := c
  refine c'.ind (R := fun x y => Thr es x y) (fun x => Thr.refl es x) (fun _ _ h => h.symm) (fun _ _ _ h g => h.trans g) (fun p hp => ?_)
  exact (h.ok p hp).2.2
 ·intro ht
  rcases Nat.lt_trichotomy x y with e | e | e
  ·exact h.all x y e (.inl hy) ht
  ·rw [e]
  ·exact (h.all y x e (.inl hx) ht.symm).symm
end Go.Proofs.YtfglkgkihafcpaaGreatDoor.Pl

namespace Go.Proofs.YtfglkgkihafcpaaGreatDoor.Pl
def norm (e : E) : E := ⟨e.id, min e.a e.b, max e.a e.b⟩
theorem norm_or (e : E) : ((norm e).a = e.a ∧ (norm e).b = e.b) ∨ ((norm e).a = e.b ∧ (norm e).b = e.a) := by
 unfold norm; dsimp only; omega
theorem sans_norm (es : List E) (l : List Nat) : sans (es.map norm) l = (sans es l).map norm := by
 unfold sans; rw [List.filter_map]; rfl
theorem conn_norm {es : List E} {x y : Nat} : Conn (ends (es.map norm)) x y ↔ Conn (ends es) x y := by
 constructor
 ·refine fun c => c.mono' fun a b hab => ?_
  obtain ⟨f, hf, he⟩ := List.mem_map.1 hab
  obtain ⟨e, he2, rfl⟩ := List.mem_map.1 hf
  simp only [Prod.mk.injEq] at he
  rcases norm_or e with ⟨h1, h2⟩ | ⟨h1, h2⟩
  ·exact .inl (List.mem_map.2 ⟨e, he2, by rw [← he.1, ← he.2, h1, h2]⟩)
  ·exact .inr (List.mem_map.2 ⟨e, he2, by rw [← he.1, ← he.2, h1, h2]⟩)
 ·refine fun c => c.mono' fun a b hab => ?_
  obtain ⟨e, he, hee⟩ := List.mem_map.1 hab
  simp only [Prod.mk.injEq] at hee
  rcases norm_or e with ⟨h1, h2⟩ | ⟨h1, h2⟩
  ·exact .inl (List.mem_map.2 ⟨norm e, List.mem_map.2 ⟨e, he, rfl⟩, by simp [h1, h2, hee.1, hee.2]⟩)
  ·exact .inr (List.mem_map.2 ⟨norm e, List.mem_map.2 ⟨e, he, rfl⟩, by simp [h1, h2, hee.1, hee.2]⟩)
theorem ids_norm {es : List E} (id : Nat) : (∃ f, f ∈ es.map norm ∧ f.id = id ∧ ¬ Conn (ends (Pl.sans (es.map norm) [f.id])) f.a f.b) ↔ ∃ e, e ∈ es ∧ e.id = id ∧ ¬ Conn (ends (Pl.sans es [e.id])) e.a e.b := by
 have key : ∀ e : E, Conn (ends (Pl.sans (es.map norm) [(norm e).id])) (norm e).a (norm e).b ↔ Conn (ends (Pl.sans es [e.id])) e.a e.b := fun e => by
  rw [sans_norm, conn_norm]
  show Conn (ends (Pl.sans es [e.id])) _ _ ↔ _
  rcases norm_or e with ⟨h1, h2⟩ | ⟨h1, h2⟩
  ·rw [h1, h2]
  ·rw [h1, h2]; exact ⟨Conn.symm, Conn.symm⟩
 constructor
 ·rintro ⟨f, hf, hid, hc⟩
  obtain ⟨e, he, rfl⟩ := List.mem_map.1 hf
  exact ⟨e, he, hid, fun c => hc ((key e).2 c)⟩
 ·rintro ⟨e, he, hid, hc⟩
  exact ⟨norm e, List.mem_map.2 ⟨e, he, rfl⟩, hid, fun c => hc ((key e).1 c)⟩
end Go.Proofs.YtfglkgkihafcpaaGreatDoor.Pl

