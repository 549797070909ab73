/- Part 18 of the proof: P4 PlNorm. -/
import Derived.Test.YtkpoobnldgfapabGreatDoorIl15
set_option linter.unusedVariables false
set_option linter.unusedSimpArgs false
namespace Go.Proofs.YtkpoobnldgfapabGreatDoor.Pl
def mk (es : List E) (id : Nat) : Nat := msk (trE es) (rsE es) id
theorem mk_fine {es : List E} (hs : Sorted es) {f : E} (hf : f ∈ es) : mk es f.id ≠ 0 ↔ Conn (ends (sans es [f.id])) f.a f.b := by
  have T := trees es hs
  unfold mk
  rw [T.sp.fine_iff hf, Ne, msk_zero]
  constructor
  · intro h
    apply Classical.byContradiction
    intro hn
    exact h fun r hr hon => hn ⟨r, ((T.mem r).1 hr).1, ((T.mem r).1 hr).2, hon⟩
  · rintro ⟨e, h1, h2, h3⟩ h
    exact h e ((T.mem e).2 ⟨h1, h2⟩) h3
theorem mk_alike {es : List E} (hs : Sorted es) {e f : E} (he : e ∈ es) (hf : f ∈ es) (hne : e ≠ f) (h0 : mk es e.id ≠ 0) (h1 : mk es f.id ≠ 0) :
    mk es e.id = mk es f.id ↔ ¬ Conn (ends (Spans.two es e f)) f.a f.b := by
  have T := trees es hs
  rw [T.sp.two_iff he hf hne ((mk_fine hs he).1 h0) ((mk_fine hs hf).1 h1)]
  unfold mk
  rw [msk_eq]
  constructor
  · intro h r h1 h2; exact h r ((T.mem r).2 ⟨h1, h2⟩)
  · intro h r hr; exact h r ((T.mem r).1 hr).1 ((T.mem r).1 hr).2
def brE (es : List E) : List Nat := (es.filter (fun e => decide (mk es e.id = 0))).map (·.id)
theorem mem_brE {es : List E} (hs : Sorted es) {id : Nat} : id ∈ brE es ↔ ∃ e, e ∈ es ∧ e.id = id ∧ ¬ Conn (ends (sans es [e.id])) e.a e.b := by
  unfold brE
  rw [List.mem_map]
  constructor
  · rintro ⟨e, he, rfl⟩
    obtain ⟨h1, h2⟩ := List.mem_filter.1 he
    exact ⟨e, h1, rfl, fun c => (mk_fine hs h1).2 c (by simpa using h2)⟩
  · rintro ⟨e, he, rfl, hc⟩
    exact ⟨e, List.mem_filter.2 ⟨he, by
      rw [decide_eq_true_eq]
      exact Classical.byContradiction fun h => hc ((mk_fine hs he).1 h)⟩, rfl⟩
def alikeTo (M : Nat → Nat) (x : Nat) (l : List E) : List (Nat × Nat) := (l.filter (fun f => decide (M x ≠ 0 ∧ M x = M f.id))).map (fun f => (x, f.id))
def alikes (M : Nat → Nat) : List E → List (Nat × Nat)
  | [] => []
  | e :: l => alikeTo M e.id l ++ alikes M l
theorem alikes_of {M : Nat → Nat} {l : List E} (hs : Sorted l) {e f : E} (he : e ∈ l) (hf : f ∈ l) (hlt : e.id < f.id) (h0 : M e.id ≠ 0) (h : M e.id = M f.id) : (e.id, f.id) ∈ alikes M l := by
  induction l with
  | nil => cases he
  | cons x l ih =>
    have hs' := List.pairwise_cons.1 hs
    rcases List.mem_cons.1 he with rfl | he2
    · rcases List.mem_cons.1 hf with rfl | hf2
      · omega
      · exact List.mem_append_left _ (List.mem_map.2 ⟨f, List.mem_filter.2 ⟨hf2, by simp [h0, ← h]⟩, rfl⟩)
    · rcases List.mem_cons.1 hf with rfl | hf2
      · have := hs'.1 e he2; omega
      · exact List.mem_append_right _ (ih hs'.2 he2 hf2)
def took (es : List E) : List (List Nat) := [[]] ++ (brE es).map (fun id => [id]) ++ (alikes (mk es) es).map (fun p => [p.1, p.2])
def Thr (es : List E) (x y : Nat) : Prop := ∀ l, l ∈ took es → Conn (ends (sans es l)) x y
theorem mem_sansL {es : List E} {l : List Nat} {e : E} : e ∈ sans es l ↔ e ∈ es ∧ e.id ∉ l := by
  unfold sans; rw [List.mem_filter]; simp
theorem Thr.whole {es : List E} {x y : Nat} (h : Thr es x y) : Conn (ends es) x y := by
  have := h [] (by simp [took])
  exact this.of_sub fun e he => (mem_sansL.1 he).1
theorem Thr.one {es : List E} (hs : Sorted es) {x y : Nat} (h : Thr es x y) (id : Nat) : Conn (ends (sans es [id])) x y := by
  by_cases hx : ∃ e, e ∈ es ∧ e.id = id
  · obtain ⟨e, he, rfl⟩ := hx
    by_cases hc : Conn (ends (sans es [e.id])) e.a e.b
    · refine h.whole.via fun f hf => ?_
      by_cases e1 : f.id = e.id
      · have : f = e := (trees es hs).sp.inj f e hf he e1
        subst this; exact hc
      · exact Conn.of_edge (mem_sans1.2 ⟨hf, e1⟩)
    · exact h [e.id] (by
        have : e.id ∈ brE es := (mem_brE hs).2 ⟨e, he, rfl, hc⟩
        simp only [took, List.mem_append, List.mem_map]
        exact .inl (.inr ⟨_, this, rfl⟩))
  · exact h.whole.of_sub fun f hf => mem_sans1.2 ⟨hf, fun e => hx ⟨f, hf, e⟩⟩
theorem Thr.two {es : List E} (hs : Sorted es) {x y : Nat} (h : Thr es x y) (i j : Nat) : Conn (ends (sans es [i, j])) x y := by
  have S := (trees es hs).sp
  have h2 : ∀ {i j : Nat}, (¬ ∃ e, e ∈ es ∧ e.id = i) → Conn (ends (sans es [i, j])) x y := fun {i j} hn => (h.one hs j).of_sub fun f hf => by
    obtain ⟨h1, h2⟩ := mem_sans1.1 hf
    exact mem_sansL.2 ⟨h1, by simp only [List.mem_cons, List.not_mem_nil, or_false, not_or]; exact ⟨fun e => hn ⟨f, h1, e⟩, h2⟩⟩
  have sw : ∀ {i j : Nat}, Conn (ends (sans es [i, j])) x y → Conn (ends (sans es [j, i])) x y := fun c => c.of_sub fun f hf => by
    obtain ⟨h1, h2⟩ := mem_sansL.1 hf
    exact mem_sansL.2 ⟨h1, by simp only [List.mem_cons, List.not_mem_nil, or_false, not_or] at h2 ⊢; exact ⟨h2.2, h2.1⟩⟩
  by_cases hi : ∃ e, e ∈ es ∧ e.id = i
  · by_cases hj : ∃ e, e ∈ es ∧ e.id = j
    · obtain ⟨e, he, rfl⟩ := hi
      obtain ⟨f, hf, rfl⟩ := hj
      have key : ∀ {e f : E}, e ∈ es → f ∈ es → e.id ≤ f.id → Conn (ends (sans es [e.id, f.id])) x y := by
        intro e f he hf hle
        by_cases hef : e.id = f.id
        · exact (h.one hs e.id).of_sub fun g hg => by
            obtain ⟨h1, h2⟩ := mem_sans1.1 hg
            exact mem_sansL.2 ⟨h1, by simp only [List.mem_cons, List.not_mem_nil, or_false, not_or]; exact ⟨h2, by rw [← hef]; exact h2⟩⟩
        · have hne : e ≠ f := fun hh => hef (by rw [hh])
          have mem2 : ∀ g, g ∈ Spans.two es e f ↔ g ∈ sans es [e.id, f.id] := fun g => by
            rw [Spans.mem_two, mem_sansL]; simp only [List.mem_cons, List.not_mem_nil, or_false, not_or]
          -- one whose ends hold together without both: it may be put back
          have back : ∀ {e f : E}, e ∈ es → f ∈ es → Conn (ends (Spans.two es e f)) f.a f.b → Conn (ends (Spans.two es e f)) x y := fun {e f} he hf hc => (h.one hs e.id).via fun g hg => by
            obtain ⟨h1, h2⟩ := mem_sans1.1 hg
            by_cases e1 : g.id = f.id
            · have : g = f := S.inj g f h1 hf e1
              subst this; exact hc
            · exact Conn.of_edge (Spans.mem_two.2 ⟨h1, h2, e1⟩)
          by_cases hc : Conn (ends (Spans.two es e f)) f.a f.b
          · exact (back he hf hc).of_sub fun g hg => (mem2 g).1 hg
          · by_cases hc2 : Conn (ends (Spans.two es f e)) e.a e.b
            · exact (back hf he hc2).of_sub fun g hg => (mem2 g).1 (Spans.two_comm.1 hg)
            · by_cases fe : mk es e.id = 0
              · -- e parts alone: the other one's ends hold no way across it
                have hb : ¬ Conn (ends (sans es [e.id])) e.a e.b := fun c => (mk_fine hs he).2 c fe
                by_cases ff : mk es f.id = 0
                · have hb2 : ¬ Conn (ends (sans es [f.id])) f.a f.b := fun c => (mk_fine hs hf).2 c ff
                  -- both are bridges: x and y are together without each, so without both
                  apply Classical.byContradiction
                  intro hn
                  have c1 := h.one hs e.id
                  have iE : Inj (sans es [e.id]) := fun a b ha hb => S.inj a b (mem_sans1.1 ha).1 (mem_sans1.1 hb).1
                  have hfe : f ∈ sans es [e.id] := mem_sans1.2 ⟨hf, fun hh => hef hh.symm⟩
                  have hn2 : ¬ Conn (ends (sans (sans es [e.id]) [f.id])) x y := fun c => hn (c.of_sub fun g hg => (mem2 g).1 hg)
                  have c2 := h.one hs f.id
                  have up : ∀ {u v : Nat}, Conn (ends (sans (sans es [e.id]) [f.id])) u v → Conn (ends (sans es [f.id])) u v := fun c => c.of_sub fun g hg => by
                    obtain ⟨h1, h2⟩ := mem_sans1.1 hg
                    exact mem_sans1.2 ⟨(mem_sans1.1 h1).1, h2⟩
                  rcases c1.cross iE hfe hn2 with ⟨k1, k2⟩ | ⟨k1, k2⟩
                  · exact hb2 (((up k1).symm.trans c2).trans (up k2))
                  · exact hb2 (((up k2).symm.trans c2.symm).trans (up k1))
                · exfalso
                  -- f is fine: without e, a bridge, still
                  have cf := (mk_fine hs hf).1 ff
                  have iF : Inj (sans es [f.id]) := fun a b ha hb => S.inj a b (mem_sans1.1 ha).1 (mem_sans1.1 hb).1
                  have hef2 : e ∈ sans es [f.id] := mem_sans1.2 ⟨he, hef⟩
                  have hn2 : ¬ Conn (ends (sans (sans es [f.id]) [e.id])) f.a f.b := fun c => hc (c.of_sub fun g hg => Spans.two_comm.1 hg)
                  have up : ∀ {u v : Nat}, Conn (ends (sans (sans es [f.id]) [e.id])) u v → Conn (ends (sans es [e.id])) u v := fun c => c.of_sub fun g hg => by
                    obtain ⟨h1, h2⟩ := mem_sans1.1 hg
                    exact mem_sans1.2 ⟨(mem_sans1.1 h1).1, h2⟩
                  have ffc : Conn (ends (sans es [e.id])) f.a f.b := Conn.of_edge (mem_sans1.2 ⟨hf, fun hh => hef hh.symm⟩)
                  rcases cf.cross iF hef2 hn2 with ⟨k1, k2⟩ | ⟨k1, k2⟩
                  · exact hb (((up k1).symm.trans ffc).trans (up k2))
                  · exact hb (((up k2).symm.trans ffc.symm).trans (up k1))
              · by_cases ff : mk es f.id = 0
                · exfalso
                  have hb2 : ¬ Conn (ends (sans es [f.id])) f.a f.b := fun c => (mk_fine hs hf).2 c ff
                  have ce := (mk_fine hs he).1 fe
                  have iE : Inj (sans es [e.id]) := fun a b ha hb => S.inj a b (mem_sans1.1 ha).1 (mem_sans1.1 hb).1
                  have hfe : f ∈ sans es [e.id] := mem_sans1.2 ⟨hf, fun hh => hef hh.symm⟩
                  have hn2 : ¬ Conn (ends (sans (sans es [e.id]) [f.id])) e.a e.b := fun c => hc2 (c.of_sub fun g hg => Spans.two_comm.1 hg)
                  have up : ∀ {u v : Nat}, Conn (ends (sans (sans es [e.id]) [f.id])) u v → Conn (ends (sans es [f.id])) u v := fun c => c.of_sub fun g hg => by
                    obtain ⟨h1, h2⟩ := mem_sans1.1 hg
                    exact mem_sans1.2 ⟨(mem_sans1.1 h1).1, h2⟩
                  have eec : Conn (ends (sans es [f.id])) e.a e.b := Conn.of_edge (mem_sans1.2 ⟨he, hef⟩)
                  rcases ce.cross iE hfe hn2 with ⟨k1, k2⟩ | ⟨k1, k2⟩
                  · exact hb2 (((up k1).symm.trans eec).trans (up k2))
                  · exact hb2 (((up k2).symm.trans eec.symm).trans (up k1))
                · have hal := (mk_alike hs he hf hne fe ff).2 hc
                  have hm := alikes_of hs he hf (by omega) fe hal
                  exact h [e.id, f.id] (by
                    simp only [took, List.mem_append, List.mem_map]
                    exact .inr ⟨_, hm, rfl⟩)
      rcases Nat.le_total e.id f.id with hle | hle
      · exact key he hf hle
      · exact sw (key hf he hle)
    · exact sw (h2 hj)
  · exact h2 hi
theorem Thr.refl (es : List E) (x : Nat) : Thr es x x := fun _ _ => Conn.refl _ _
theorem Thr.symm {es : List E} {x y : Nat} (h : Thr es x y) : Thr es y x := fun l hl => (h l hl).symm
theorem Thr.trans {es : List E} {x y z : Nat} (h : Thr es x y) (g : Thr es y z) : Thr es x z := fun l hl => (h l hl).trans (g l hl)
end Go.Proofs.YtkpoobnldgfapabGreatDoor.Pl
namespace Go.Proofs.YtkpoobnldgfapabGreatDoor.Pl
def ApI (n : Nat) (es : List E) (tk : List (List Nat)) (A : Nat × Nat → Bool) (t b' a' : Nat) : Prop :=
  ∀ a b, A (a, b) = true ↔ (a < b ∧ b < n ∧ ((∃ l, l ∈ tk.take t ∧ ¬ Conn (ends (sans es l)) a b) ∨ ∃ l, tk[t]? = some l ∧ ¬ Conn (ends (sans es l)) a b ∧ (b < b' ∨ (b = b' ∧ a < a'))))
theorem ApI.start (n : Nat) (es : List E) (tk : List (List Nat)) : ApI n es tk (fun _ => false) 0 0 0 := fun a b => by
  simp
theorem ApI.row {n : Nat} {es : List E} {tk : List (List Nat)} {A : Nat × Nat → Bool} {t b' : Nat} (h : ApI n es tk A t b' b') : ApI n es tk A t (b' + 1) 0 := fun a b => by
  rw [h a b]
  constructor
  · rintro ⟨h1, h2, h3 | ⟨l', h4, h5, h6⟩⟩
    · exact ⟨h1, h2, .inl h3⟩
    · exact ⟨h1, h2, .inr ⟨l', h4, h5, by omega⟩⟩
  · rintro ⟨h1, h2, h3 | ⟨l', h4, h5, h6⟩⟩
    · exact ⟨h1, h2, .inl h3⟩
    · exact ⟨h1, h2, .inr ⟨l', h4, h5, by omega⟩⟩
theorem ApI.done {n : Nat} {es : List E} {A : Nat × Nat → Bool} (h : ApI n es (took es) A (took es).length 0 0) {a b : Nat} (hab : a < b) (hb : b < n) : A (a, b) = false ↔ Thr es a b := by
  rw [← Bool.not_eq_true, h a b, List.take_length]
  unfold Thr
  constructor
  · intro hn l hl
    exact Classical.byContradiction fun hc => hn ⟨hab, hb, .inl ⟨l, hl, hc⟩⟩
  · rintro ht ⟨_, _, ⟨l, hl, hc⟩ | ⟨l, hl, hc, h6⟩⟩
    · exact hc (ht l hl)
    · omega
structure JnI (n : Nat) (es : List E) (js : List (Nat × Nat)) (b' a' : Nat) : Prop where
  ok : ∀ p, p ∈ js → p.1 < n ∧ p.2 < n ∧ Thr es p.1 p.2
  all : ∀ a b, a < b → (b < b' ∨ (b = b' ∧ a < a')) → Thr es a b → Conn js a b
theorem JnI.start (n : Nat) (es : List E) : JnI n es [] 0 0 := ⟨fun _ h => (by cases h), fun a b h1 h2 _ => by omega⟩
theorem JnI.join {n : Nat} {es : List E} {js : List (Nat × Nat)} {b' a' : Nat} (h : JnI n es js b' a') (ht : Thr es a' b') (ha : a' < n) (hb : b' < n) : JnI n es (js ++ [(a', b')]) b' (a' + 1) :=
  ⟨fun p hp => by
    rcases List.mem_append.1 hp with hp | hp
    · exact h.ok p hp
    · rw [List.mem_singleton] at hp; subst hp; exact ⟨ha, hb, ht⟩,
   fun a b h1 h2 h3 => by
    by_cases e : a = a' ∧ b = b'
    · obtain ⟨rfl, rfl⟩ := e
      exact Conn.of_mem (by simp)
    · exact (h.all a b h1 (by omega) h3).mono fun e he => List.mem_append_left _ he⟩
theorem JnI.row {n : Nat} {es : List E} {js : List (Nat × Nat)} {b' : Nat} (h : JnI n es js b' b') : JnI n es js (b' + 1) 0 := ⟨h.ok, fun a b h1 h2 h3 => h.all a b h1 (by omega) h3⟩
theorem JnI.done {n : Nat} {es : List E} {js : List (Nat × Nat)} (h : JnI n es js n 0) {x y : Nat} (hx : x < n) (hy : y < n) : labs js x = labs js y ↔ Thr es x y := by
  constructor
  · intro c
    have c' : Conn js x y := c
    refine c'.ind (R := fun x y => Thr es x y) (fun x => Thr.refl es x) (fun _ _ h => h.symm) (fun _ _ _ h g => h.trans g) (fun p hp => ?_)
    exact (h.ok p hp).2.2
  · intro ht
    rcases Nat.lt_trichotomy x y with e | e | e
    · exact h.all x y e (.inl hy) ht
    · rw [e]
    · exact (h.all y x e (.inl hx) ht.symm).symm
end Go.Proofs.YtkpoobnldgfapabGreatDoor.Pl

namespace Go.Proofs.YtkpoobnldgfapabGreatDoor.Pl
def norm (e : E) : E := ⟨e.id, min e.a e.b, max e.a e.b⟩
theorem norm_or (e : E) : ((norm e).a = e.a ∧ (norm e).b = e.b) ∨ ((norm e).a = e.b ∧ (norm e).b = e.a) := by
  unfold norm; dsimp only; omega
theorem sans_norm (es : List E) (l : List Nat) : sans (es.map norm) l = (sans es l).map norm := by
  unfold sans; rw [List.filter_map]; rfl
theorem conn_norm {es : List E} {x y : Nat} : Conn (ends (es.map norm)) x y ↔ Conn (ends es) x y := by
  constructor
  · refine fun c => c.mono' fun a b hab => ?_
    obtain ⟨f, hf, he⟩ := List.mem_map.1 hab
    obtain ⟨e, he2, rfl⟩ := List.mem_map.1 hf
    simp only [Prod.mk.injEq] at he
    rcases norm_or e with ⟨h1, h2⟩ | ⟨h1, h2⟩
    · exact .inl (List.mem_map.2 ⟨e, he2, by rw [← he.1, ← he.2, h1, h2]⟩)
    · exact .inr (List.mem_map.2 ⟨e, he2, by rw [← he.1, ← he.2, h1, h2]⟩)
  · refine fun c => c.mono' fun a b hab => ?_
    obtain ⟨e, he, hee⟩ := List.mem_map.1 hab
    simp only [Prod.mk.injEq] at hee
    rcases norm_or e with ⟨h1, h2⟩ | ⟨h1, h2⟩
    · exact .inl (List.mem_map.2 ⟨norm e, List.mem_map.2 ⟨e, he, rfl⟩, by simp [h1, h2, hee.1, hee.2]⟩)
    · exact .inr (List.mem_map.2 ⟨norm e, List.mem_map.2 ⟨e, he, rfl⟩, by simp [h1, h2, hee.1, hee.2]⟩)
theorem ids_norm {es : List E} (id : Nat) : (∃ f, f ∈ es.map norm ∧ f.id = id ∧ ¬ Conn (ends (Pl.sans (es.map norm) [f.id])) f.a f.b) ↔ ∃ e, e ∈ es ∧ e.id = id ∧ ¬ Conn (ends (Pl.sans es [e.id])) e.a e.b := by
  have key : ∀ e : E, Conn (ends (Pl.sans (es.map norm) [(norm e).id])) (norm e).a (norm e).b ↔ Conn (ends (Pl.sans es [e.id])) e.a e.b := fun e => by
    rw [sans_norm, conn_norm]
    show Conn (ends (Pl.sans es [e.id])) _ _ ↔ _
    rcases norm_or e with ⟨h1, h2⟩ | ⟨h1, h2⟩
    · rw [h1, h2]
    · rw [h1, h2]; exact ⟨Conn.symm, Conn.symm⟩
  constructor
  · rintro ⟨f, hf, hid, hc⟩
    obtain ⟨e, he, rfl⟩ := List.mem_map.1 hf
    exact ⟨e, he, hid, fun c => hc ((key e).2 c)⟩
  · rintro ⟨e, he, hid, hc⟩
    exact ⟨norm e, List.mem_map.2 ⟨e, he, rfl⟩, hid, fun c => hc ((key e).1 c)⟩
theorem sorted_norm {es : List E} : Sorted (es.map norm) ↔ Sorted es := by
  unfold Sorted; rw [List.pairwise_map]; rfl
structure BP (n i : Nat) (es : List E) : Prop where
  sorted : Sorted es
  over : ∀ e, e ∈ es → e.a < n ∧ e.b < n
  lt : ∀ e, e ∈ es → e.id < i
  len : es.length ≤ i
theorem BP.nil (n : Nat) : BP n 0 [] := ⟨List.Pairwise.nil, fun _ h => (by cases h), fun _ h => (by cases h), Nat.le_refl _⟩
theorem BP.same {n i : Nat} {es : List E} (h : BP n i es) : BP n (i + 1) es := ⟨h.sorted, h.over, fun e he => by have := h.lt e he; omega, by have := h.len; omega⟩
theorem BP.add {n i x y : Nat} {es : List E} (h : BP n i es) (hx : x < n) (hy : y < n) : BP n (i + 1) (es ++ [⟨i, x, y⟩]) := by
  refine ⟨List.pairwise_append.2 ⟨h.sorted, List.pairwise_singleton _ _, fun a ha b hb => ?_⟩, fun e he => ?_, fun e he => ?_, by rw [List.length_append]; have := h.len; simp; omega⟩
  · rw [List.mem_singleton.1 hb]; exact h.lt a ha
  · rcases List.mem_append.1 he with he | he
    · exact h.over e he
    · rw [List.mem_singleton.1 he]; exact ⟨hx, hy⟩
  · rcases List.mem_append.1 he with he | he
    · have := h.lt e he; omega
    · rw [List.mem_singleton.1 he]; show i < i + 1; omega
theorem BP.fresh {n i : Nat} {es : List E} (h : BP n i es) : ∀ e, e ∈ es → e.id ≠ i := fun e he => by have := h.lt e he; omega
theorem BP.last {n i x y : Nat} {es : List E} (h : BP n i es) (hx : x < n) (hy : y < n) : i ∈ brE ((es ++ [(⟨i, x, y⟩ : E)]).map norm) ↔ ¬ Conn (ends es) x y := by
  rw [mem_brE (sorted_norm.2 (h.add hx hy).sorted), ids_norm]
  have e1 : sans (es ++ [⟨i, x, y⟩]) [i] = es := by
    unfold sans
    rw [List.filter_append, List.filter_eq_self.2 (fun e he => by have := h.fresh e he; simp [this])]
    simp
  constructor
  · rintro ⟨e, he, hid, hc⟩
    rcases List.mem_append.1 he with he | he
    · exact absurd hid (h.fresh e he)
    · rw [List.mem_singleton.1 he] at hc
      rw [e1] at hc; exact hc
  · intro hc
    exact ⟨(⟨i, x, y⟩ : E), List.mem_append_right _ (List.mem_singleton.2 rfl), rfl, (by rw [e1]; exact hc : ¬ Conn (ends (sans (es ++ [⟨i, x, y⟩]) [i])) x y)⟩
end Go.Proofs.YtkpoobnldgfapabGreatDoor.Pl

