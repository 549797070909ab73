/- Part 15 of the proof: P3. -/
import Derived.Test.YtkpoobnldgfapabGreatDoorIl07
import Derived.Test.YtkpoobnldgfapabGreatDoorIl14
set_option linter.unusedVariables false
set_option linter.unusedSimpArgs false
namespace Go.Proofs.YtkpoobnldgfapabGreatDoor.Pl
def Inj (es : List E) : Prop := ∀ e f, e ∈ es → f ∈ es → e.id = f.id → e = f
theorem Conn.of_sub {es fs : List E} (h : ∀ e, e ∈ es → e ∈ fs) {x y : Nat} (c : Conn (ends es) x y) : Conn (ends fs) x y := c.mono (ends_sub h)
theorem Conn.of_edge {es : List E} {e : E} (h : e ∈ es) : Conn (ends es) e.a e.b := Conn.of_mem (mem_ends h)
theorem Conn.via {es fs : List E} (h : ∀ e, e ∈ es → Conn (ends fs) e.a e.b) {x y : Nat} (c : Conn (ends es) x y) : Conn (ends fs) x y :=
  c.ind (Conn.refl _) (fun _ _ h => h.symm) (fun _ _ _ h g => h.trans g) fun e he => by
    obtain ⟨f, hf, rfl⟩ := List.mem_map.1 he
    exact h f hf
theorem Conn.split {es : List E} (inj : Inj es) {e : E} (he : e ∈ es) {u v : Nat} :
    Conn (ends es) u v ↔ Conn (ends (sans es [e.id])) u v ∨ ((Conn (ends (sans es [e.id])) u e.a ∨ Conn (ends (sans es [e.id])) u e.b) ∧ (Conn (ends (sans es [e.id])) v e.a ∨ Conn (ends (sans es [e.id])) v e.b)) := by
  rw [← Conn.snoc_iff (e := (e.a, e.b)), ← ends_snoc]
  exact ⟨Conn.of_sub fun f hf => (sans_back he inj f).2 hf, Conn.of_sub fun f hf => (sans_back he inj f).1 hf⟩
theorem Conn.cross {es : List E} (inj : Inj es) {e : E} (he : e ∈ es) {u v : Nat} (c : Conn (ends es) u v) (hn : ¬ Conn (ends (sans es [e.id])) u v) :
    (Conn (ends (sans es [e.id])) u e.a ∧ Conn (ends (sans es [e.id])) v e.b) ∨ (Conn (ends (sans es [e.id])) u e.b ∧ Conn (ends (sans es [e.id])) v e.a) := by
  rcases (Conn.split inj he).1 c with h | ⟨h1 | h1, h2 | h2⟩
  · exact absurd h hn
  · exact absurd (h1.trans h2.symm) hn
  · exact .inl ⟨h1, h2⟩
  · exact .inr ⟨h1, h2⟩
  · exact absurd (h1.trans h2.symm) hn
structure Spans (es tr : List E) : Prop where
  inj : Inj es
  sub : ∀ e, e ∈ tr → e ∈ es
  conn : ∀ e, e ∈ es → Conn (ends tr) e.a e.b
  free : ∀ f, f ∈ tr → ¬ Conn (ends (sans tr [f.id])) f.a f.b
def OnR (tr : List E) (e : E) (id : Nat) : Prop := id = e.id ∨ ¬ Conn (ends (sans tr [id])) e.a e.b
instance (tr : List E) (e : E) (id : Nat) : Decidable (OnR tr e id) := inferInstanceAs (Decidable (_ ∨ _))
theorem Spans.nil : Spans [] [] := ⟨fun _ _ h => (by cases h), fun _ h => h, fun _ h => (by cases h), fun _ h => (by cases h)⟩
theorem Spans.tree {es tr : List E} (h : Spans es tr) {e : E} (hid : ∀ f, f ∈ es → f.id ≠ e.id) (hn : ¬ Conn (ends tr) e.a e.b) : Spans (es ++ [e]) (tr ++ [e]) := by
  have inj : Inj (es ++ [e]) := fun f g hf hg hfg => by
    rcases List.mem_append.1 hf with hf | hf <;> rcases List.mem_append.1 hg with hg | hg
    · exact h.inj f g hf hg hfg
    · rw [List.mem_singleton] at hg; rw [hg] at hfg; exact absurd hfg (hid f hf)
    · rw [List.mem_singleton] at hf; rw [hf] at hfg; exact absurd hfg.symm (hid g hg)
    · rw [List.mem_singleton] at hf hg; rw [hf, hg]
  refine ⟨inj, fun f hf => ?_, fun f hf => ?_, fun f hf => ?_⟩
  · rcases List.mem_append.1 hf with hf | hf
    · exact List.mem_append_left _ (h.sub f hf)
    · exact List.mem_append_right _ hf
  · rcases List.mem_append.1 hf with hf | hf
    · exact (h.conn f hf).of_sub fun g hg => List.mem_append_left _ hg
    · exact Conn.of_edge (List.mem_append_right _ hf)
  · rcases List.mem_append.1 hf with hf | hf
    · intro c
      have c2 : Conn (ends (sans tr [f.id] ++ [e])) f.a f.b := c.of_sub fun g hg => by
        obtain ⟨h1, h2⟩ := mem_sans1.1 hg
        rcases List.mem_append.1 h1 with h1 | h1
        · exact List.mem_append_left _ (mem_sans1.2 ⟨h1, h2⟩)
        · exact List.mem_append_right _ h1
      have up : ∀ {x y : Nat}, Conn (ends (sans tr [f.id])) x y → Conn (ends tr) x y := fun c => c.of_sub sans_sub
      have ff := Conn.of_edge hf
      rw [ends_snoc, Conn.snoc_iff] at c2
      rcases c2 with c2 | ⟨c3 | c3, c4 | c4⟩
      · exact h.free f hf c2
      · exact h.free f hf (c3.trans c4.symm)
      · exact hn (((up c3).symm.trans ff).trans (up c4))
      · exact hn (((up c4).symm.trans ff.symm).trans (up c3))
      · exact h.free f hf (c3.trans c4.symm)
    · rw [List.mem_singleton] at hf
      subst hf
      intro c
      exact hn (c.of_sub fun g hg => by
        obtain ⟨h1, h2⟩ := mem_sans1.1 hg
        rcases List.mem_append.1 h1 with h1 | h1
        · exact h1
        · rw [List.mem_singleton] at h1; rw [h1] at h2; exact absurd rfl h2)
theorem Spans.rest {es tr : List E} (h : Spans es tr) {e : E} (hid : ∀ f, f ∈ es → f.id ≠ e.id) (hc : Conn (ends tr) e.a e.b) : Spans (es ++ [e]) tr := by
  have inj : Inj (es ++ [e]) := fun f g hf hg hfg => by
    rcases List.mem_append.1 hf with hf | hf <;> rcases List.mem_append.1 hg with hg | hg
    · exact h.inj f g hf hg hfg
    · rw [List.mem_singleton] at hg; rw [hg] at hfg; exact absurd hfg (hid f hf)
    · rw [List.mem_singleton] at hf; rw [hf] at hfg; exact absurd hfg.symm (hid g hg)
    · rw [List.mem_singleton] at hf hg; rw [hf, hg]
  refine ⟨inj, fun f hf => List.mem_append_left _ (h.sub f hf), fun f hf => ?_, h.free⟩
  rcases List.mem_append.1 hf with hf | hf
  · exact h.conn f hf
  · rw [List.mem_singleton] at hf; subst hf; exact hc
namespace Spans
variable {es tr : List E}
theorem injT (h : Spans es tr) : Inj tr := fun e f he hf => h.inj e f (h.sub e he) (h.sub f hf)
theorem whole (h : Spans es tr) {x y : Nat} : Conn (ends es) x y ↔ Conn (ends tr) x y := ⟨Conn.via h.conn, Conn.of_sub h.sub⟩
theorem sans_none {id : Nat} (hn : ∀ f, f ∈ tr → f.id ≠ id) {x y : Nat} : Conn (ends (sans tr [id])) x y ↔ Conn (ends tr) x y :=
  ⟨Conn.of_sub sans_sub, Conn.of_sub fun f hf => mem_sans1.2 ⟨hf, hn f hf⟩⟩
theorem rest_id (h : Spans es tr) {e : E} (he : e ∈ es) (hr : e ∉ tr) : ∀ f, f ∈ tr → f.id ≠ e.id := fun f hf hh => hr ((h.inj f e (h.sub f hf) he hh) ▸ hf)
theorem onr_tree (h : Spans es tr) {e : E} (he : e ∈ es) (hr : e ∉ tr) {f : E} (hf : f ∈ tr) : OnR tr e f.id ↔ ¬ Conn (ends (sans tr [f.id])) e.a e.b := by
  unfold OnR
  simp [h.rest_id he hr f hf]
theorem onr_rest (h : Spans es tr) {e g : E} (he : e ∈ es) (hr : e ∉ tr) (hg : g ∈ es) (hgr : g ∉ tr) : OnR tr e g.id ↔ g = e := by
  unfold OnR
  rw [sans_none (h.rest_id hg hgr)]
  simp only [h.conn e he, not_true_eq_false, or_false]
  exact ⟨fun hh => h.inj g e hg he hh, fun hh => by rw [hh]⟩
theorem hold (h : Spans es tr) {f e : E} (hf : f ∈ tr) (he : e ∈ es) (hon : ¬ Conn (ends (sans tr [f.id])) e.a e.b) {gs : List E} (hs : ∀ g, g ∈ sans tr [f.id] → g ∈ gs) (hg : e ∈ gs) : Conn (ends gs) f.a f.b := by
  have ee : Conn (ends gs) e.a e.b := Conn.of_edge hg
  rcases (h.conn e he).cross h.injT hf hon with ⟨h1, h2⟩ | ⟨h1, h2⟩
  · exact ((h1.of_sub hs).symm.trans ee).trans (h2.of_sub hs)
  · exact ((h2.of_sub hs).symm.trans ee.symm).trans (h1.of_sub hs)
theorem tree_fine (h : Spans es tr) {f : E} (hf : f ∈ tr) : Conn (ends (sans es [f.id])) f.a f.b ↔ ∃ e, e ∈ es ∧ e ∉ tr ∧ OnR tr e f.id := by
  constructor
  · intro c
    apply Classical.byContradiction
    intro hn
    refine h.free f hf (c.via fun g hg => ?_)
    obtain ⟨h1, h2⟩ := mem_sans1.1 hg
    by_cases hgt : g ∈ tr
    · exact Conn.of_edge (mem_sans1.2 ⟨hgt, h2⟩)
    · apply Classical.byContradiction
      intro hc
      exact hn ⟨g, h1, hgt, .inr hc⟩
  · rintro ⟨e, he, hr, hon⟩
    rw [h.onr_tree he hr hf] at hon
    exact h.hold hf he hon (fun g hg => by obtain ⟨h1, h2⟩ := mem_sans1.1 hg; exact mem_sans1.2 ⟨h.sub g h1, h2⟩) (mem_sans1.2 ⟨he, fun hh => h.rest_id he hr f hf hh.symm⟩)
theorem rest_fine (h : Spans es tr) {f : E} (hf : f ∈ es) (hr : f ∉ tr) : Conn (ends (sans es [f.id])) f.a f.b :=
  (h.conn f hf).of_sub fun g hg => mem_sans1.2 ⟨h.sub g hg, h.rest_id hf hr g hg⟩
theorem fine_iff (h : Spans es tr) {f : E} (hf : f ∈ es) : Conn (ends (sans es [f.id])) f.a f.b ↔ ∃ e, e ∈ es ∧ e ∉ tr ∧ OnR tr e f.id := by
  by_cases ht : f ∈ tr
  · exact h.tree_fine ht
  · exact ⟨fun _ => ⟨f, hf, ht, .inl rfl⟩, fun _ => h.rest_fine hf ht⟩
theorem less (h : Spans es tr) {e : E} (he : e ∈ es) (hr : e ∉ tr) : Spans (sans es [e.id]) tr :=
  ⟨fun f g hf hg => h.inj f g (mem_sans1.1 hf).1 (mem_sans1.1 hg).1, fun f hf => mem_sans1.2 ⟨h.sub f hf, h.rest_id he hr f hf⟩, fun f hf => h.conn f (mem_sans1.1 hf).1, h.free⟩
def two (es : List E) (e f : E) : List E := sans (sans es [e.id]) [f.id]
theorem mem_two {e f g : E} : g ∈ two es e f ↔ g ∈ es ∧ g.id ≠ e.id ∧ g.id ≠ f.id := by
  unfold two; rw [mem_sans1, mem_sans1]; exact ⟨fun ⟨⟨a, b⟩, c⟩ => ⟨a, b, c⟩, fun ⟨a, b, c⟩ => ⟨⟨a, b⟩, c⟩⟩
theorem two_swap (h : Spans es tr) {e f : E} (he : e ∈ es) (hf : f ∈ es) (hne : e ≠ f) (fe : Conn (ends (sans es [e.id])) e.a e.b) (c : Conn (ends (two es e f)) f.a f.b) : Conn (ends (two es e f)) e.a e.b := by
  refine fe.via fun g hg => ?_
  obtain ⟨h1, h2⟩ := mem_sans1.1 hg
  by_cases hgf : g.id = f.id
  · rw [h.inj g f h1 hf hgf]; exact c
  · exact Conn.of_edge (mem_two.2 ⟨h1, h2, hgf⟩)
theorem two_comm {e f g : E} : g ∈ two es e f ↔ g ∈ two es f e := by
  rw [mem_two, mem_two]; exact ⟨fun ⟨a, b, c⟩ => ⟨a, c, b⟩, fun ⟨a, b, c⟩ => ⟨a, c, b⟩⟩
theorem two_mixed (h : Spans es tr) {e f : E} (he : e ∈ es) (hr : e ∉ tr) (hf : f ∈ tr) (ff : Conn (ends (sans es [f.id])) f.a f.b) :
    ¬ Conn (ends (two es e f)) f.a f.b ↔ ∀ r, r ∈ es → r ∉ tr → (OnR tr r e.id ↔ OnR tr r f.id) := by
  have L := h.less he hr
  have key := L.tree_fine hf
  change Conn (ends (two es e f)) f.a f.b ↔ _ at key
  rw [key]
  constructor
  · intro hn r hr1 hr2
    have hme := h.onr_rest hr1 hr2 he hr
    have only : ∀ r, r ∈ es → r ∉ tr → OnR tr r f.id → r = e := fun r h1 h2 h3 => by
      apply Classical.byContradiction
      intro hne
      exact hn ⟨r, mem_sans1.2 ⟨h1, fun hh => hne (h.inj r e h1 he hh)⟩, h2, h3⟩
    rw [hme]
    constructor
    · rintro rfl
      obtain ⟨r, h1, h2, h3⟩ := (h.tree_fine hf).1 ff
      have := only r h1 h2 h3
      rw [← this]; exact h3
    · intro h3; exact (only r hr1 hr2 h3).symm
  · rintro hs ⟨r, h1, h2, h3⟩
    obtain ⟨h4, h5⟩ := mem_sans1.1 h1
    have := (h.onr_rest h4 h2 he hr).1 ((hs r h4 h2).2 h3)
    exact h5 (by rw [this])
theorem two_tree (h : Spans es tr) {e f : E} (he : e ∈ tr) (hf : f ∈ tr) (hne : e ≠ f) (ff : Conn (ends (sans es [f.id])) f.a f.b) :
    ¬ Conn (ends (two es e f)) f.a f.b ↔ ∀ r, r ∈ es → r ∉ tr → (OnR tr r e.id ↔ OnR tr r f.id) := by
  have hid : e.id ≠ f.id := fun hh => hne (h.injT e f he hf hh)
  have iT := h.injT
  have iTe : Inj (sans tr [e.id]) := fun a b ha hb => iT a b (mem_sans1.1 ha).1 (mem_sans1.1 hb).1
  have iTf : Inj (sans tr [f.id]) := fun a b ha hb => iT a b (mem_sans1.1 ha).1 (mem_sans1.1 hb).1
  -- a ring round one of them alone holds that one's ends
  have alone : ∀ {e f : E}, e ∈ tr → f ∈ tr → e.id ≠ f.id → ∀ {r : E}, r ∈ es → r ∉ tr → Conn (ends (sans tr [e.id])) r.a r.b → ¬ Conn (ends (sans tr [f.id])) r.a r.b → Conn (ends (two es e f)) f.a f.b := by
    intro e f he hf hid r hr1 hr2 c1 c2
    have iTe : Inj (sans tr [e.id]) := fun a b ha hb => iT a b (mem_sans1.1 ha).1 (mem_sans1.1 hb).1
    have hfe : f ∈ sans tr [e.id] := mem_sans1.2 ⟨hf, fun hh => hid hh.symm⟩
    have c3 : ¬ Conn (ends (sans (sans tr [e.id]) [f.id])) r.a r.b := fun c => c2 (c.of_sub fun g hg => by
      obtain ⟨g1, g2⟩ := mem_sans1.1 hg
      exact mem_sans1.2 ⟨(mem_sans1.1 g1).1, g2⟩)
    have rr : Conn (ends (two es e f)) r.a r.b := Conn.of_edge (mem_two.2 ⟨hr1, fun hh => h.rest_id hr1 hr2 e he hh.symm, fun hh => h.rest_id hr1 hr2 f hf hh.symm⟩)
    have lift : ∀ {x y : Nat}, Conn (ends (sans (sans tr [e.id]) [f.id])) x y → Conn (ends (two es e f)) x y := fun c => c.of_sub fun g hg => by
      obtain ⟨g1, g2⟩ := mem_sans1.1 hg
      obtain ⟨g3, g4⟩ := mem_sans1.1 g1
      exact mem_two.2 ⟨h.sub g g3, g4, g2⟩
    rcases c1.cross iTe hfe c3 with ⟨h1, h2⟩ | ⟨h1, h2⟩
    · exact ((lift h1).symm.trans rr).trans (lift h2)
    · exact ((lift h2).symm.trans rr.symm).trans (lift h1)
  constructor
  · intro hn r hr1 hr2
    rw [h.onr_tree hr1 hr2 he, h.onr_tree hr1 hr2 hf]
    constructor
    · intro c1
      apply Classical.byContradiction
      intro c2
      have c2' : Conn (ends (sans tr [f.id])) r.a r.b := Classical.byContradiction c2
      have ce := alone hf he (Ne.symm hid) hr1 hr2 c2' c1
      exact hn (Conn.of_sub (fun g hg => two_comm.1 hg) (h.two_swap (h.sub f hf) (h.sub e he) (Ne.symm hne) ff ce))
    · intro c1 c2
      exact hn (alone he hf hid hr1 hr2 c2 c1)
  · intro hs c
    -- two colours
    have flip : ∀ {f : E}, f ∈ tr → ∀ {x y : Nat}, Conn (ends tr) x y → ¬ Conn (ends (sans tr [f.id])) x y → (Conn (ends (sans tr [f.id])) x f.a ↔ ¬ Conn (ends (sans tr [f.id])) y f.a) := by
      intro f hf x y c1 c2
      rcases c1.cross iT hf c2 with ⟨h1, h2⟩ | ⟨h1, h2⟩
      · exact ⟨fun _ h3 => c2 (h1.trans h3.symm), fun _ => h1⟩
      · exact ⟨fun h3 => absurd (h3.symm.trans h1) (h.free f hf), fun h3 => absurd h2 h3⟩
    have stay : ∀ {f : E} {x y : Nat}, Conn (ends (sans tr [f.id])) x y → (Conn (ends (sans tr [f.id])) x f.a ↔ Conn (ends (sans tr [f.id])) y f.a) := fun c => ⟨fun h1 => c.symm.trans h1, fun h1 => c.trans h1⟩
    have col := c.ind (R := fun x y => ((Conn (ends (sans tr [f.id])) x f.a ↔ Conn (ends (sans tr [e.id])) x e.a) ↔ (Conn (ends (sans tr [f.id])) y f.a ↔ Conn (ends (sans tr [e.id])) y e.a)))
      (fun _ => Iff.rfl) (fun _ _ h => h.symm) (fun _ _ _ h g => h.trans g) (fun p hp => by
        obtain ⟨g, hg, rfl⟩ := List.mem_map.1 hp
        obtain ⟨g1, g2, g3⟩ := mem_two.1 hg
        by_cases gt : g ∈ tr
        · have a1 := stay (f := f) (Conn.of_edge (mem_sans1.2 ⟨gt, g3⟩) : Conn (ends (sans tr [f.id])) g.a g.b)
          have a2 := stay (f := e) (Conn.of_edge (mem_sans1.2 ⟨gt, g2⟩) : Conn (ends (sans tr [e.id])) g.a g.b)
          rw [a1, a2]
        · have hh := hs g g1 gt
          rw [h.onr_tree g1 gt he, h.onr_tree g1 gt hf] at hh
          have cg := h.conn g g1
          by_cases k : Conn (ends (sans tr [f.id])) g.a g.b
          · have k2 : Conn (ends (sans tr [e.id])) g.a g.b := Classical.byContradiction fun x => hh.1 x k
            rw [stay k, stay k2]
          · have k2 : ¬ Conn (ends (sans tr [e.id])) g.a g.b := hh.2 k
            have a1 := flip hf cg k
            have a2 := flip he cg k2
            rw [a1, a2]
            constructor
            · intro hx; exact ⟨fun y => Classical.byContradiction fun z => (hx.2 z) y, fun y => Classical.byContradiction fun z => (hx.1 z) y⟩
            · intro hx; exact ⟨fun y z => y (hx.2 z), fun y z => y (hx.1 z)⟩)
    have b1 : Conn (ends (sans tr [f.id])) f.a f.a := Conn.refl _ _
    have b2 : ¬ Conn (ends (sans tr [f.id])) f.b f.a := fun x => h.free f hf x.symm
    have b3 := stay (f := e) (Conn.of_edge (mem_sans1.2 ⟨hf, fun hh => hid hh.symm⟩) : Conn (ends (sans tr [e.id])) f.a f.b)
    rw [b3] at col
    by_cases k : Conn (ends (sans tr [e.id])) f.b e.a
    · exact b2 ((col.1 ⟨fun _ => k, fun _ => b1⟩).2 k)
    · exact k ((col.2 ⟨fun x => absurd x b2, fun x => absurd x k⟩).1 b1)
theorem two_iff (h : Spans es tr) {e f : E} (he : e ∈ es) (hf : f ∈ es) (hne : e ≠ f) (fe : Conn (ends (sans es [e.id])) e.a e.b) (ff : Conn (ends (sans es [f.id])) f.a f.b) :
    ¬ Conn (ends (two es e f)) f.a f.b ↔ ∀ r, r ∈ es → r ∉ tr → (OnR tr r e.id ↔ OnR tr r f.id) := by
  by_cases te : e ∈ tr <;> by_cases tf : f ∈ tr
  · exact h.two_tree te tf hne ff
  · have m := h.two_mixed hf tf te fe
    have sw : Conn (ends (two es e f)) f.a f.b ↔ Conn (ends (two es f e)) e.a e.b := by
      constructor
      · intro c; exact (h.two_swap he hf hne fe c).of_sub fun g hg => two_comm.1 hg
      · intro c; exact (h.two_swap hf he (Ne.symm hne) ff c).of_sub fun g hg => two_comm.1 hg
    rw [sw, m]
    exact ⟨fun x r h1 h2 => (x r h1 h2).symm, fun x r h1 h2 => (x r h1 h2).symm⟩
  · exact h.two_mixed he te tf ff
  · constructor
    · intro hn
      exact absurd ((h.conn f hf).of_sub fun g hg => mem_two.2 ⟨h.sub g hg, h.rest_id he te g hg, h.rest_id hf tf g hg⟩) hn
    · intro hs
      have := (h.onr_rest he te hf tf).1 ((hs e he te).1 (.inl rfl))
      exact absurd this.symm hne
end Spans
end Go.Proofs.YtkpoobnldgfapabGreatDoor.Pl
namespace Go.Proofs.YtkpoobnldgfapabGreatDoor.Pl
theorem cnt_filter (n : Nat) (p : Nat → Bool) : ((List.range n).filter p).length = cnt n p := by
  unfold cnt; rw [List.countP_eq_length_filter]
theorem cnt_le_of_inj {n : Nat} {p q : Nat → Bool} (f : Nat → Nat) (hf : ∀ x, x < n → p x = true → f x < n ∧ q (f x) = true) (hi : ∀ x y, x < n → y < n → p x = true → p y = true → f x = f y → x = y) : cnt n p ≤ cnt n q := by
  rw [← cnt_filter, ← cnt_filter]
  have hnd : (((List.range n).filter p).map f).Nodup := by
    unfold List.Nodup
    rw [List.pairwise_map]
    have h0 : ((List.range n).filter p).Nodup := List.nodup_range.sublist List.filter_sublist
    refine List.Pairwise.imp_of_mem (fun {a b} ha hb hne e => ?_) h0
    rw [List.mem_filter, List.mem_range] at ha hb
    exact hne (hi a b ha.1 hb.1 ha.2 hb.2 e)
  have := len_le_of_mem hnd (k := (List.range n).filter q) (fun i hi' => by
    obtain ⟨x, hx, rfl⟩ := List.mem_map.1 hi'
    rw [List.mem_filter, List.mem_range] at hx ⊢
    exact hf x hx.1 hx.2)
  rwa [List.length_map] at this
namespace BInv
variable {n : Nat} {es : List E} {T : Nat → Nat} {up : Nat → Option (Nat × Nat)}
theorem conn_T (h : BInv n es T up) {x : Nat} (hx : x < n) : Conn (ends es) x (T x) := h.whole hx (h.tlt hx) (h.tt hx).symm
theorem count (h : BInv n es T up) : cnt n (isRoot T) = cnt n (isRoot (labs (ends es))) + cnt n (fun p => (up p).isSome) := by
  have C := labs_canon (ends es) n
  have e1 : cnt n (isRoot T) = cnt n (fun p => (isRoot T p && (up p).isNone) || (up p).isSome) := cnt_congr fun x _ => by
    cases hu : up x with
    | none => simp
    | some s =>
      have := (h.key x s hu).2.1
      simp [isRoot, this]
  rw [e1, cnt_or (fun x _ hh => by cases hu : up x <;> simp [hu] at hh)]
  congr 1
  apply Nat.le_antisymm
  · refine cnt_le_of_inj (labs (ends es)) (fun x hx _ => ⟨C.lt hx, ?_⟩) (fun x y hx hy px py hxy => ?_)
    · unfold isRoot; rw [C.idem x hx]; simp
    · simp only [isRoot, Bool.and_eq_true, decide_eq_true_eq, Option.isNone_iff_eq_none] at px py
      have hr := (h.roots (u := x) (v := y) hxy px.2).1 (by rw [px.1]; exact Anc.refl _)
      rw [py.1] at hr
      exact hr.of_none py.2
  · have ex : ∀ x, ∃ r, Anc T up (T x) r ∧ up r = none := fun x => h.root (T x)
    refine cnt_le_of_inj (fun x => Classical.choose (ex x)) (fun x hx _ => ?_) (fun x y hx hy px py hxy => ?_)
    · obtain ⟨c1, c2⟩ := Classical.choose_spec (ex x)
      obtain ⟨k1, k2⟩ := h.anc_key c1 (h.tlt hx) (h.tt hx)
      exact ⟨k1, by simp [isRoot, k2, c2]⟩
    · simp only [isRoot, decide_eq_true_eq] at px py
      have cx : Conn (ends es) x (Classical.choose (ex x)) := (h.conn_T hx).trans (h.anc_conn (Classical.choose_spec (ex x)).1)
      have cy : Conn (ends es) y (Classical.choose (ex y)) := (h.conn_T hy).trans (h.anc_conn (Classical.choose_spec (ex y)).1)
      have hxy' : Classical.choose (ex x) = Classical.choose (ex y) := hxy
      rw [hxy'] at cx
      have : labs (ends es) x = labs (ends es) y := cx.trans cy.symm
      rw [px, py] at this
      exact this
end BInv
end Go.Proofs.YtkpoobnldgfapabGreatDoor.Pl
namespace Go.Proofs.YtkpoobnldgfapabGreatDoor.Pl
theorem pos_split {es : List E} (hs : Sorted es) (t : Int) : (∀ k e, k < posOf es t → es[k]? = some e → (e.id : Int) < t) ∧ (∀ k e, posOf es t ≤ k → es[k]? = some e → t ≤ (e.id : Int)) := by
  induction es with
  | nil => exact ⟨fun k e _ h => by simp at h, fun k e _ h => by simp at h⟩
  | cons f es ih =>
    have hs' : Sorted es := (List.pairwise_cons.1 hs).2
    have hf := (List.pairwise_cons.1 hs).1
    obtain ⟨h1, h2⟩ := ih hs'
    rw [posOf_cons]
    by_cases hft : (f.id : Int) < t
    · rw [if_pos hft]
      refine ⟨fun k e hk he => ?_, fun k e hk he => ?_⟩
      · cases k with
        | zero => simp at he; subst he; exact hft
        | succ k => exact h1 k e (by omega) (by simpa using he)
      · cases k with
        | zero => omega
        | succ k => exact h2 k e (by omega) (by simpa using he)
    · rw [if_neg hft]
      have h0 : posOf es t = 0 := by
        unfold posOf
        rw [List.countP_eq_zero]
        intro e he
        have := hf e he
        simp; omega
      rw [h0]
      refine ⟨fun k e hk _ => by omega, fun k e _ he => ?_⟩
      cases k with
      | zero => simp at he; subst he; omega
      | succ k => have := hf e (List.mem_of_getElem? (by simpa using he)); omega
theorem mem_take_get {α : Type} {l : List α} {i : Nat} {x : α} (h : x ∈ l.take i) : ∃ k, k < i ∧ l[k]? = some x := by
  obtain ⟨k, hk⟩ := List.mem_iff_getElem?.1 h
  rw [List.getElem?_take] at hk
  split at hk
  · exact ⟨k, by assumption, hk⟩
  · cases hk
theorem mem_drop_get {α : Type} {l : List α} {i : Nat} {x : α} (h : x ∈ l.drop i) : ∃ k, i ≤ k ∧ l[k]? = some x := by
  obtain ⟨k, hk⟩ := List.mem_iff_getElem?.1 h
  rw [List.getElem?_drop] at hk
  exact ⟨i + k, by omega, hk⟩
theorem sorted_ins {es : List E} (hs : Sorted es) (e : E) (hh : hasId es e.id = false) : Sorted (es.take (posOf es e.id) ++ e :: es.drop (posOf es e.id)) := by
  obtain ⟨h1, h2⟩ := pos_split hs (e.id : Int)
  have hne : ∀ f, f ∈ es → f.id ≠ e.id := by
    intro f hf h
    simp only [hasId, List.any_eq_false, decide_eq_true_eq] at hh
    exact hh f hf (by omega)
  unfold Sorted
  rw [List.pairwise_append]
  refine ⟨hs.sublist (List.take_sublist _ _), ?_, ?_⟩
  · rw [List.pairwise_cons]
    refine ⟨fun f hf => ?_, hs.sublist (List.drop_sublist _ _)⟩
    obtain ⟨k, hk, hfk⟩ := mem_drop_get hf
    have a := h2 k f hk hfk
    have b := hne f (List.mem_of_getElem? hfk)
    omega
  · intro f hf g hg
    obtain ⟨k, hk, hfk⟩ := mem_take_get hf
    have a := h1 k f hk hfk
    rcases List.mem_cons.1 hg with rfl | hg
    · omega
    · obtain ⟨j, hj, hgj⟩ := mem_drop_get hg
      have b := h2 j g hj hgj
      omega
theorem mem_ins {es : List E} {e f : E} {i : Nat} : f ∈ es.take i ++ e :: es.drop i ↔ f = e ∨ f ∈ es := by
  have : f ∈ es ↔ f ∈ es.take i ∨ f ∈ es.drop i := by rw [← List.mem_append, List.take_append_drop]
  rw [this, List.mem_append, List.mem_cons]
  constructor
  · rintro (h | h | h) <;> simp [h]
  · rintro (h | h | h) <;> simp [h]
end Go.Proofs.YtkpoobnldgfapabGreatDoor.Pl
namespace Go.Proofs.YtkpoobnldgfapabGreatDoor.Pl
structure Tell (n : Nat) (es : List E) (l : Nat → Nat) : Prop where
  le : ∀ x, x < n → l x ≤ x
  con : ∀ x, x < n → Conn (ends es) x (l x)
theorem Tell.start (n : Nat) (es : List E) : Tell n es (fun x => x) := ⟨fun _ _ => Nat.le_refl _, fun _ _ => Conn.refl _ _⟩
def told (l : Nat → Nat) (a b : Nat) : Nat → Nat := upd (upd l a (min (l a) (l b))) b (min (l a) (l b))
theorem told_le (l : Nat → Nat) (a b x : Nat) : told l a b x ≤ l x := by
  unfold told upd
  by_cases h1 : x = b
  · rw [if_pos h1, h1]; exact Nat.min_le_right _ _
  · rw [if_neg h1]
    by_cases h2 : x = a
    · rw [if_pos h2, h2]; exact Nat.min_le_left _ _
    · rw [if_neg h2]; exact Nat.le_refl _
theorem Tell.told {n : Nat} {es : List E} {l : Nat → Nat} (h : Tell n es l) {e : E} (he : e ∈ es) (ha : e.a < n) (hb : e.b < n) : Tell n es (told l e.a e.b) := by
  refine ⟨fun x hx => Nat.le_trans (told_le _ _ _ _) (h.le x hx), fun x hx => ?_⟩
  have hc : Conn (ends es) e.a e.b := Conn.of_mem (mem_ends' he)
  have key : ∀ z, (z = e.a ∨ z = e.b) → Conn (ends es) z (min (l e.a) (l e.b)) := fun z hz => by
    have c1 : Conn (ends es) z e.a := by
      rcases hz with rfl | rfl
      · exact Conn.refl _ _
      · exact hc.symm
    rcases Nat.le_total (l e.a) (l e.b) with g | g
    · rw [Nat.min_eq_left g]; exact c1.trans (h.con _ ha)
    · rw [Nat.min_eq_right g]; exact (c1.trans hc).trans (h.con _ hb)
  unfold Pl.told upd
  by_cases h1 : x = e.b
  · rw [if_pos h1]; exact key x (.inr h1)
  · rw [if_neg h1]
    by_cases h2 : x = e.a
    · rw [if_pos h2]; exact key x (.inl h2)
    · rw [if_neg h2]; exact h.con x hx
end Go.Proofs.YtkpoobnldgfapabGreatDoor.Pl
namespace Go.Proofs.YtkpoobnldgfapabGreatDoor.Pl
theorem hasId_iff {es : List E} {t : Int} : hasId es t = true ↔ ∃ e, e ∈ es ∧ (e.id : Int) = t := by
  simp [hasId]
structure Made (n m : Nat) (es fs : List E) : Prop where
  sorted : Sorted es
  over : ∀ e, e ∈ es → e.a < n ∧ e.b < n
  mem : ∀ e, e ∈ es ↔ e ∈ fs
  len : es.length = fs.length
  le : es.length ≤ m
theorem Made.nil (n : Nat) : Made n 0 [] [] := ⟨List.Pairwise.nil, fun _ h => (by cases h), fun _ => Iff.rfl, rfl, Nat.le_refl _⟩
theorem Made.hasId {n m : Nat} {es fs : List E} (h : Made n m es fs) (t : Int) : hasId es t = hasId fs t := by
  rw [Bool.eq_iff_iff, hasId_iff, hasId_iff]
  exact ⟨fun ⟨e, h1, h2⟩ => ⟨e, (h.mem e).1 h1, h2⟩, fun ⟨e, h1, h2⟩ => ⟨e, (h.mem e).2 h1, h2⟩⟩
theorem Made.same {n m : Nat} {es fs : List E} (h : Made n m es fs) : Made n (m + 1) es fs := ⟨h.sorted, h.over, h.mem, h.len, by have := h.le; omega⟩
theorem Made.add {n m : Nat} {es fs : List E} (h : Made n m es fs) {e : E} (hh : Pl.hasId es e.id = false) (ha : e.a < n) (hb : e.b < n) : Made n (m + 1) (es.take (posOf es e.id) ++ e :: es.drop (posOf es e.id)) (fs ++ [e]) := by
  refine ⟨sorted_ins h.sorted e hh, fun f hf => ?_, fun f => ?_, ?_, ?_⟩
  · rcases mem_ins.1 hf with rfl | hf
    · exact ⟨ha, hb⟩
    · exact h.over f hf
  · rw [mem_ins, List.mem_append, List.mem_singleton, h.mem]; exact or_comm
  · have := h.len
    simp only [List.length_append, List.length_take, List.length_cons, List.length_drop, List.length_nil]
    have := posOf_le es e.id
    omega
  · have := h.le
    simp only [List.length_append, List.length_take, List.length_cons, List.length_drop]
    have := posOf_le es e.id
    omega
end Go.Proofs.YtkpoobnldgfapabGreatDoor.Pl
namespace Go.Proofs.YtkpoobnldgfapabGreatDoor.Pl
def PartsP (n a b : Nat) (X Y B : Nat → Nat) : Prop :=
  ∃ k l, k < n ∧ l < n ∧ k ≠ a ∧ k ≠ b ∧ l ≠ a ∧ l ≠ b ∧ X k = X l ∧ Y k = Y l ∧ B k ≠ B l
def PInv (i a b : Nat) (X Y B : Nat → Nat) (get : Nat × Nat → Option Nat) : Prop :=
  (∀ k, k < i → k ≠ a → k ≠ b → get (X k, Y k) = some (B k)) ∧
  (∀ p v, get p = some v → ∃ k, k < i ∧ k ≠ a ∧ k ≠ b ∧ (X k, Y k) = p ∧ v = B k)
theorem PInv.none {i a b : Nat} {X Y B : Nat → Nat} {get : Nat × Nat → Option Nat} (h : PInv i a b X Y B get) : ¬ PartsP i a b X Y B := by
  rintro ⟨k, l, hk, hl, ka, kb, la, lb, hX, hY, hB⟩
  have h1 := h.1 k hk ka kb
  have h2 := h.1 l hl la lb
  rw [hX, hY, h2] at h1
  exact hB (Option.some.inj h1).symm
theorem PInv.same {i a b : Nat} {X Y B : Nat → Nat} {get : Nat × Nat → Option Nat} (h : PInv i a b X Y B get) (hg : get (X i, Y i) = some (B i)) : PInv (i + 1) a b X Y B get := by
  refine ⟨fun k hk ka kb => ?_, fun p v hv => ?_⟩
  · by_cases e : k = i
    · subst e; exact hg
    · exact h.1 k (by omega) ka kb
  · obtain ⟨k, hk, r⟩ := h.2 p v hv
    exact ⟨k, by omega, r⟩
theorem PInv.new {i a b : Nat} {X Y B : Nat → Nat} {get get' : Nat × Nat → Option Nat} (h : PInv i a b X Y B get) (ia : i ≠ a) (ib : i ≠ b) (hg : get (X i, Y i) = Option.none)
    (hs : ∀ p, get' p = if p = (X i, Y i) then some (B i) else get p) : PInv (i + 1) a b X Y B get' := by
  refine ⟨fun k hk ka kb => ?_, fun p v hv => ?_⟩
  · rw [hs]
    by_cases e : (X k, Y k) = (X i, Y i)
    · rw [if_pos e]
      by_cases e2 : k = i
      · rw [e2]
      · have := h.1 k (by omega) ka kb
        rw [e, hg] at this; cases this
    · rw [if_neg e]
      exact h.1 k (by rcases Nat.lt_or_ge k i with h | h; exact h; exact absurd (by rw [show k = i by omega]) e) ka kb
  · rw [hs] at hv
    by_cases e : p = (X i, Y i)
    · rw [if_pos e] at hv
      exact ⟨i, by omega, ia, ib, e.symm, (Option.some.inj hv).symm⟩
    · rw [if_neg e] at hv
      obtain ⟨k, hk, r⟩ := h.2 p v hv
      exact ⟨k, by omega, r⟩
end Go.Proofs.YtkpoobnldgfapabGreatDoor.Pl
namespace Go.Proofs.YtkpoobnldgfapabGreatDoor.Pl
end Go.Proofs.YtkpoobnldgfapabGreatDoor.Pl
namespace Go.Proofs.YtkpoobnldgfapabGreatDoor.Pl
end Go.Proofs.YtkpoobnldgfapabGreatDoor.Pl
namespace Go.Proofs.YtkpoobnldgfapabGreatDoor.Pl
def sw (e : E) : E := ⟨e.id, e.b, e.a⟩
def Alike (es fs : List E) : Prop := ∀ f, f ∈ fs ↔ ∃ e, e ∈ es ∧ f = sw e
theorem Alike.sans {es fs : List E} (h : Alike es fs) (took : List Nat) : Alike (sans es took) (sans fs took) := fun f => by
  rw [mem_sans, h f]
  constructor
  · rintro ⟨⟨e, he, rfl⟩, h2⟩; exact ⟨e, mem_sans.2 ⟨he, h2⟩, rfl⟩
  · rintro ⟨e, he, rfl⟩; rw [mem_sans] at he; exact ⟨⟨e, he.1, rfl⟩, he.2⟩
theorem Alike.conn {es fs : List E} (h : Alike es fs) {x y : Nat} : Conn (ends fs) x y ↔ Conn (ends es) x y := by
  constructor
  · refine fun c => c.mono' fun a b hab => ?_
    obtain ⟨f, hf, he⟩ := List.mem_map.1 hab
    obtain ⟨e, he2, rfl⟩ := (h f).1 hf
    simp only [sw, Prod.mk.injEq] at he
    exact .inr (List.mem_map.2 ⟨e, he2, by rw [← he.1, ← he.2]⟩)
  · refine fun c => c.mono' fun a b hab => ?_
    obtain ⟨e, he, hee⟩ := List.mem_map.1 hab
    simp only [Prod.mk.injEq] at hee
    exact .inr (List.mem_map.2 ⟨sw e, (h _).2 ⟨e, he, rfl⟩, by simp [sw, hee.1, hee.2]⟩)
theorem Alike.ids {es fs : List E} (h : Alike es fs) (id : Nat) : (∃ f, f ∈ fs ∧ f.id = id ∧ ¬ Conn (ends (Pl.sans fs [f.id])) f.a f.b) ↔ ∃ e, e ∈ es ∧ e.id = id ∧ ¬ Conn (ends (Pl.sans es [e.id])) e.a e.b := by
  constructor
  · rintro ⟨f, hf, hid, hc⟩
    obtain ⟨e, he, rfl⟩ := (h f).1 hf
    exact ⟨e, he, hid, fun c => hc ((h.sans [e.id]).conn.2 c.symm)⟩
  · rintro ⟨e, he, hid, hc⟩
    exact ⟨sw e, (h _).2 ⟨e, he, rfl⟩, hid, fun c => hc ((h.sans [e.id]).conn.1 c).symm⟩
theorem Alike.T {n : Nat} {es fs : List E} {T T' : Nat → Nat} {up up' : Nat → Option (Nat × Nat)} (h : Alike es fs) (hB : BInv n es T up) (hB' : BInv n fs T' up') : ∀ x, x < n → T x = T' x :=
  canon_unique hB.canon hB'.canon fun u v hu hv => by
    rw [hB.twice_iff hu hv, hB'.twice_iff hu hv, h.conn]
    constructor
    · rintro ⟨h1, h2⟩
      refine ⟨h1, fun f hf => ?_⟩
      obtain ⟨e, he, rfl⟩ := (h f).1 hf
      exact (h.sans [e.id]).conn.2 (h2 e he)
    · rintro ⟨h1, h2⟩
      exact ⟨h1, fun e he => (h.sans [e.id]).conn.1 (h2 (sw e) ((h _).2 ⟨e, he, rfl⟩))⟩
structure Come (es took left : List E) : Prop where
  perm : (took ++ left).Perm es
theorem Come.start (es : List E) : Come es [] es := ⟨List.Perm.refl _⟩
theorem Come.next {es took left : List E} (h : Come es took left) {k : Nat} {e : E} (hk : left[k]? = some e) : Come es (took ++ [e]) (left.take k ++ left.drop (k + 1)) := by
  have hl := (List.getElem?_eq_some_iff.1 hk)
  have hp : (e :: (left.take k ++ left.drop (k + 1))).Perm left := by
    have h1 : left = left.take k ++ e :: left.drop (k + 1) := by
      have : left.drop k = e :: left.drop (k + 1) := by rw [← hl.2]; exact List.drop_eq_getElem_cons hl.1
      rw [← this, List.take_append_drop]
    conv => rhs; rw [h1]
    exact List.perm_middle.symm
  refine ⟨?_⟩
  rw [List.append_assoc]
  exact (List.Perm.append_left took hp).trans h.perm
theorem Come.fresh {es took left : List E} (h : Come es took left) (hs : Sorted es) {e : E} (he : e ∈ left) : ∀ f, f ∈ took.map sw → f.id ≠ e.id := by
  have hn : ((took ++ left).map (·.id)).Nodup := (h.perm.map (·.id)).nodup_iff.2 (by
    unfold List.Nodup; rw [List.pairwise_map]; exact hs.imp fun h => Nat.ne_of_lt h)
  rw [List.map_append, List.nodup_append] at hn
  intro f hf
  obtain ⟨g, hg, rfl⟩ := List.mem_map.1 hf
  exact hn.2.2 g.id (List.mem_map.2 ⟨g, hg, rfl⟩) e.id (List.mem_map.2 ⟨e, he, rfl⟩)
theorem Come.mem {es took left : List E} (h : Come es took left) {e : E} (he : e ∈ left) : e ∈ es := h.perm.mem_iff.1 (List.mem_append_right _ he)
theorem Come.done {es took : List E} (h : Come es took []) : Alike es (took.map sw) := fun f => by
  have hp := h.perm
  rw [List.append_nil] at hp
  rw [List.mem_map]
  constructor
  · rintro ⟨e, he, rfl⟩; exact ⟨e, hp.mem_iff.1 he, rfl⟩
  · rintro ⟨e, he, rfl⟩; exact ⟨e, hp.mem_iff.2 he, rfl⟩
theorem Come.len {es took left : List E} (h : Come es took left) : took.length + left.length = es.length := by
  rw [← List.length_append]; exact h.perm.length_eq
end Go.Proofs.YtkpoobnldgfapabGreatDoor.Pl
namespace Go.Proofs.YtkpoobnldgfapabGreatDoor.Pl
def treeStep (s : List E × List E) (e : E) : List E × List E := if Conn (ends s.1) e.a e.b then (s.1, s.2 ++ [e]) else (s.1 ++ [e], s.2)
def treesOf (es : List E) : List E × List E := es.foldl treeStep ([], [])
def trE (es : List E) : List E := (treesOf es).1
def rsE (es : List E) : List E := (treesOf es).2
theorem treesOf_snoc (es : List E) (e : E) : treesOf (es ++ [e]) = treeStep (treesOf es) e := by unfold treesOf; rw [List.foldl_append]; rfl
structure Trees (es tr rs : List E) : Prop where
  sp : Spans es tr
  mem : ∀ e, e ∈ rs ↔ e ∈ es ∧ e ∉ tr
  len : tr.length + rs.length = es.length
  subT : tr.Sublist es
  subR : rs.Sublist es
theorem Trees.nil : Trees [] [] [] := ⟨Spans.nil, fun e => by simp, rfl, List.Sublist.refl _, List.Sublist.refl _⟩
theorem Trees.step {es tr rs : List E} (h : Trees es tr rs) {e : E} (hid : ∀ f, f ∈ es → f.id ≠ e.id) : Trees (es ++ [e]) (treeStep (tr, rs) e).1 (treeStep (tr, rs) e).2 := by
  have hne : e ∉ es := fun hh => hid e hh rfl
  unfold treeStep
  by_cases c : Conn (ends tr) e.a e.b
  · rw [if_pos c]
    refine ⟨h.sp.rest hid c, fun f => ?_, by simp; have := h.len; omega, h.subT.trans (List.sublist_append_left _ _), h.subR.append (List.Sublist.refl _)⟩
    rw [List.mem_append, List.mem_append, List.mem_singleton, h.mem]
    constructor
    · rintro (⟨h1, h2⟩ | rfl)
      · exact ⟨.inl h1, h2⟩
      · exact ⟨.inr rfl, fun ht => hne (h.sp.sub _ ht)⟩
    · rintro ⟨h1 | h1, h2⟩
      · exact .inl ⟨h1, h2⟩
      · exact .inr h1
  · rw [if_neg c]
    refine ⟨h.sp.tree hid c, fun f => ?_, by simp; have := h.len; omega, h.subT.append (List.Sublist.refl _), h.subR.trans (List.sublist_append_left _ _)⟩
    rw [List.mem_append, List.mem_append, List.mem_singleton, h.mem]
    constructor
    · rintro ⟨h1, h2⟩
      refine ⟨.inl h1, fun hh => ?_⟩
      rcases hh with hh | rfl
      · exact h2 hh
      · exact hne h1
    · rintro ⟨h1 | h1, h2⟩
      · exact ⟨h1, fun hh => h2 (.inl hh)⟩
      · exact absurd (.inr h1) h2
theorem Sorted.fresh {es : List E} {e : E} (h : Sorted (es ++ [e])) : ∀ f, f ∈ es → f.id ≠ e.id := fun f hf => by
  have := (List.pairwise_append.1 h).2.2 f hf e (by simp)
  omega
theorem trees (es : List E) : Sorted es → Trees es (trE es) (rsE es) := by
  refine list_snoc_ind (P := fun es => Sorted es → Trees es (trE es) (rsE es)) (fun _ => Trees.nil) (fun l x ih hs => ?_) es
  unfold trE rsE
  rw [treesOf_snoc]
  exact (ih (hs.sublist (List.sublist_append_left _ _))).step hs.fresh
def othE (e : E) (x : Nat) : Nat := if e.a = x then e.b else e.a
def touch (e : E) (x : Nat) : Prop := e.a = x ∨ e.b = x
instance (e : E) (x : Nat) : Decidable (touch e x) := inferInstanceAs (Decidable (_ ∨ _))
theorem oth_touch {e : E} {x : Nat} (h : touch e x) : touch e (othE e x) := by
  unfold othE touch at *; split <;> simp
theorem oth_oth {e : E} {x : Nat} (h : touch e x) : othE e (othE e x) = x := by
  unfold othE touch at *
  by_cases h1 : e.a = x
  · rw [if_pos h1]
    by_cases h2 : e.a = e.b
    · rw [if_pos h2, ← h2]; exact h1
    · rw [if_neg h2]; exact h1
  · rw [if_neg h1, if_pos rfl]
    rcases h with h | h
    · exact absurd h h1
    · exact h
theorem conn_touch {es : List E} {e : E} (he : e ∈ es) {x : Nat} (h : touch e x) : Conn (ends es) x (othE e x) := by
  have c := Conn.of_edge he
  unfold othE touch at *
  by_cases h1 : e.a = x
  · rw [if_pos h1, ← h1]; exact c
  · rw [if_neg h1]
    rcases h with h | h
    · exact absurd h h1
    · rw [← h]; exact c.symm
structure Tv (tr : List E) (a : Nat) (line : List Nat) (fr : Nat → Option E) : Prop where
  head : line[0]? = some a
  nodup : line.Nodup
  keys : ∀ v, (fr v).isSome = true ↔ v ∈ line ∧ v ≠ a
  edge : ∀ j v, 0 < j → line[j]? = some v → ∃ e, e ∈ tr ∧ fr v = some e ∧ touch e v ∧ ∃ j', j' < j ∧ line[j']? = some (othE e v)
def TSeen (tr : List E) (line : List Nat) (i : Nat) : Prop := ∀ i' v e, i' < i → line[i']? = some v → e ∈ tr → touch e v → othE e v ∈ line
theorem Tv.start (tr : List E) (a : Nat) : Tv tr a [a] (fun _ => none) := by
  refine ⟨rfl, by simp, fun v => by simp, fun j v h0 hj => ?_⟩
  cases j with
  | zero => omega
  | succ j => simp at hj
theorem TSeen.grow {tr : List E} {line : List Nat} {i : Nat} (h : TSeen tr line i) (hi : i ≤ line.length) (x : Nat) : TSeen tr (line ++ [x]) i := by
  intro i' v e h1 h2 h3 h4
  rw [List.getElem?_append_left (by omega)] at h2
  exact List.mem_append_left _ (h i' v e h1 h2 h3 h4)
theorem TSeen.next {tr : List E} {line : List Nat} {i x : Nat} (h : TSeen tr line i) (hx : line[i]? = some x) (ha : ∀ e, e ∈ tr → touch e x → othE e x ∈ line) : TSeen tr line (i + 1) := by
  intro i' v e h1 h2 h3 h4
  by_cases hh : i' < i
  · exact h i' v e hh h2 h3 h4
  · obtain rfl : i' = i := by omega
    rw [hx] at h2; cases h2
    exact ha e h3 h4
theorem Tv.all {tr : List E} {a b : Nat} {line : List Nat} {fr : Nat → Option E} (h : Tv tr a line fr) (hs : TSeen tr line line.length) (c : Conn (ends tr) a b) : b ∈ line := by
  have step : ∀ e, e ∈ tr → ∀ x, touch e x → x ∈ line → othE e x ∈ line := fun e he x hx hm => by
    obtain ⟨j, hj⟩ := List.mem_iff_getElem?.1 hm
    exact hs j x e (List.getElem?_eq_some_iff.1 hj).1 hj he hx
  have := c.ind (R := fun x y => (x ∈ line ↔ y ∈ line)) (fun _ => Iff.rfl) (fun _ _ h => h.symm) (fun _ _ _ h g => h.trans g) (fun p hp => by
    obtain ⟨e, he, rfl⟩ := List.mem_map.1 hp
    constructor
    · intro hm
      have := step e he e.a (.inl rfl) hm
      unfold othE at this; rwa [if_pos rfl] at this
    · intro hm
      have := step e he e.b (.inr rfl) hm
      unfold othE at this
      split at this
      · rename_i h1; rw [h1]; exact hm
      · exact this)
  exact this.1 (List.mem_of_getElem? h.head)
theorem Tv.conn {tr : List E} {a : Nat} {line : List Nat} {fr : Nat → Option E} (h : Tv tr a line fr) : ∀ (j v : Nat), line[j]? = some v → Conn (ends tr) a v := by
  intro j
  induction j using Nat.strongRecOn with
  | _ j ih =>
    intro v hj
    by_cases h0 : j = 0
    · subst h0; rw [h.head] at hj; cases hj; exact Conn.refl _ _
    · obtain ⟨e, he, _, ht, j', hj', h6⟩ := h.edge j v (by omega) hj
      exact (ih j' hj' _ h6).trans (conn_touch he ht).symm
theorem Tv.inj {tr : List E} {a : Nat} {line : List Nat} {fr : Nat → Option E} (h : Tv tr a line fr) {p q u v : Nat} (hp : line[p]? = some u) (hq : line[q]? = some v) (hlt : q < p) {e : E} (hu : fr u = some e) (hv : fr v = some e) : False := by
  have hne : u ≠ v := fun e1 => by
    subst e1
    have := (List.getElem?_inj (List.getElem?_eq_some_iff.1 hp).1 h.nodup).1 (hp.trans hq.symm)
    omega
  have hv0 : 0 < q := Nat.pos_of_ne_zero fun e1 => by
    subst e1; rw [h.head] at hq; cases hq
    exact ((h.keys _).1 (by rw [hv]; rfl)).2 rfl
  obtain ⟨e1, _, f1, t1, i1, g1, k1⟩ := h.edge p u (by omega) hp
  obtain ⟨e2, _, f2, t2, i2, g2, k2⟩ := h.edge q v hv0 hq
  rw [hu] at f1; cases f1
  rw [hv] at f2; cases f2
  have huv : othE e v = u := by
    unfold othE touch at *
    by_cases c1 : e.a = v
    · rw [if_pos c1]
      rcases t1 with t1 | t1
      · exact absurd (t1.symm.trans c1) hne
      · exact t1
    · rw [if_neg c1]
      rcases t2 with t2 | t2
      · exact absurd t2 c1
      · rcases t1 with t1 | t1
        · exact t1
        · exact absurd (t1.symm.trans t2) hne
  rw [huv] at k2
  have := (List.getElem?_inj (List.getElem?_eq_some_iff.1 hp).1 h.nodup).1 (hp.trans k2.symm)
  omega
structure Bk (tr : List E) (b : Nat) (line : List Nat) (fr : Nat → Option E) (out : List Nat) (j v : Nat) : Prop where
  at_ : line[j]? = some v
  len : out.length + j < line.length
  from_ : ∀ id, id ∈ out → ∃ p u g, j < p ∧ line[p]? = some u ∧ fr u = some g ∧ g ∈ tr ∧ g.id = id
  nodup : out.Nodup
  cut : ∀ f, f ∈ tr → (f.id ∈ out ↔ ¬ Conn (ends (sans tr [f.id])) b v)
theorem Bk.start {tr : List E} {a b : Nat} {line : List Nat} {fr : Nat → Option E} (h : Tv tr a line fr) (hb : b ∈ line) : ∃ j, Bk tr b line fr [] j b := by
  obtain ⟨j, hj⟩ := List.mem_iff_getElem?.1 hb
  exact ⟨j, hj, by have := (List.getElem?_eq_some_iff.1 hj).1; simpa using this, fun _ hh => (by cases hh), List.nodup_nil, fun f _ => by simp [Conn.refl]⟩
theorem Bk.next {es tr : List E} {a b : Nat} {line : List Nat} {fr : Nat → Option E} (S : Spans es tr) (h : Tv tr a line fr) {out : List Nat} {j v : Nat} (B : Bk tr b line fr out j v) (hva : v ≠ a) :
    ∃ e j', e ∈ tr ∧ fr v = some e ∧ j' < j ∧ Bk tr b line fr (out ++ [e.id]) j' (othE e v) := by
  have hj0 : 0 < j := Nat.pos_of_ne_zero fun e1 => by
    subst e1; have := B.at_; rw [h.head] at this; cases this; exact hva rfl
  obtain ⟨e, he, hf, ht, j', hj', h6⟩ := h.edge j v hj0 B.at_
  have hne : e.id ∉ out := fun hh => by
    obtain ⟨p, u, g, h1, h2, h3, h4, h5⟩ := B.from_ _ hh
    have : g = e := S.injT g e h4 he h5
    subst this
    exact h.inj h2 B.at_ h1 h3 hf
  refine ⟨e, j', he, hf, hj', h6, by have := B.len; simp; omega, fun id hid => ?_, ?_, fun f hff => ?_⟩
  · rcases List.mem_append.1 hid with hid | hid
    · obtain ⟨p, u, g, h1, h2⟩ := B.from_ _ hid
      exact ⟨p, u, g, by omega, h2⟩
    · rw [List.mem_singleton] at hid
      exact ⟨j, v, e, hj', B.at_, hf, he, hid.symm⟩
  · rw [List.nodup_append]
    exact ⟨B.nodup, by simp, fun a ha b hb e1 => by simp at hb; subst hb; subst e1; exact hne ha⟩
  · rw [List.mem_append, List.mem_singleton]
    by_cases hfe : f.id = e.id
    · have : f = e := S.injT f e hff he hfe
      subst this
      have c1 : Conn (ends (sans tr [f.id])) b v := Classical.byContradiction fun hh => hne ((B.cut f hff).2 hh)
      simp only [or_true, true_iff]
      intro c2
      have c3 := c1.symm.trans c2
      refine S.free f hff ?_
      unfold othE touch at *
      by_cases c4 : f.a = v
      · rw [if_pos c4] at c3; rw [c4]; exact c3
      · rw [if_neg c4] at c3
        rcases ht with ht | ht
        · exact absurd ht c4
        · rw [ht]; exact c3.symm
    · have c : Conn (ends (sans tr [f.id])) v (othE e v) := conn_touch (mem_sans1.2 ⟨he, fun hh => hfe hh.symm⟩) ht
      rw [B.cut f hff]
      have hfe2 : ¬ f.id = e.id := hfe
      simp only [hfe2, or_false]
      exact ⟨fun hh c2 => hh (c2.trans c.symm), fun hh c2 => hh (c2.trans c)⟩
structure WayIs (tr : List E) (a b : Nat) (l : List Nat) : Prop where
  nodup : l.Nodup
  mem : ∀ id, id ∈ l ↔ ∃ f, f ∈ tr ∧ f.id = id ∧ ¬ Conn (ends (sans tr [f.id])) a b
theorem Bk.done {tr : List E} {a b : Nat} {line : List Nat} {fr : Nat → Option E} {out : List Nat} {j : Nat} (B : Bk tr b line fr out j a) : WayIs tr a b out := by
  refine ⟨B.nodup, fun id => ⟨fun hid => ?_, ?_⟩⟩
  · obtain ⟨_, _, g, _, _, _, h4, h5⟩ := B.from_ _ hid
    refine ⟨g, h4, h5, fun c => ?_⟩
    rw [← h5] at hid
    exact (B.cut g h4).1 hid c.symm
  · rintro ⟨f, hf, rfl, hc⟩
    exact (B.cut f hf).2 fun c => hc c.symm
theorem WayIs.ring {es tr : List E} (S : Spans es tr) {e : E} (he : e ∈ es) (hr : e ∉ tr) {l : List Nat} (h : WayIs tr e.a e.b l) : (l ++ [e.id]).Nodup ∧ ∀ id, id ∈ l ++ [e.id] ↔ OnR tr e id := by
  have hn := S.rest_id he hr
  refine ⟨?_, fun id => ?_⟩
  · rw [List.nodup_append]
    refine ⟨h.nodup, by simp, fun a ha b hb e1 => ?_⟩
    rw [List.mem_singleton] at hb
    subst hb; subst e1
    obtain ⟨f, hf, hid, _⟩ := (h.mem _).1 ha
    exact hn f hf hid
  · rw [List.mem_append, List.mem_singleton, h.mem]
    unfold OnR
    constructor
    · rintro (⟨f, hf, rfl, hc⟩ | rfl)
      · exact .inr hc
      · exact .inl rfl
    · rintro (rfl | hc)
      · exact .inr rfl
      · by_cases hx : ∃ f, f ∈ tr ∧ f.id = id
        · obtain ⟨f, hf, rfl⟩ := hx
          exact .inl ⟨f, hf, rfl, hc⟩
        · exact absurd ((Spans.sans_none (fun g hg hh => hx ⟨g, hg, hh⟩)).2 (S.conn e he)) hc
def mskK (tr rs : List E) (id : Nat) : Nat → Nat
  | 0 => 0
  | k + 1 => if (rs[k]?).any (fun r => decide (OnR tr r id)) then mskK tr rs id k ^^^ 2 ^ k else mskK tr rs id k
def msk (tr rs : List E) (id : Nat) : Nat := mskK tr rs id rs.length
theorem mskK_lt (tr rs : List E) (id k : Nat) : mskK tr rs id k < 2 ^ k := by
  induction k with
  | zero => simp [mskK]
  | succ k ih =>
    unfold mskK
    have h2 : (2 : Nat) ^ k < 2 ^ (k + 1) := Nat.pow_lt_pow_right (by omega) (by omega)
    split
    · exact Nat.xor_lt_two_pow (Nat.lt_trans ih h2) h2
    · exact Nat.lt_trans ih h2
theorem mskK_bit (tr rs : List E) (id k j : Nat) : (mskK tr rs id k).testBit j = (decide (j < k) && (rs[j]?).any (fun r => decide (OnR tr r id))) := by
  induction k with
  | zero => simp [mskK]
  | succ k ih =>
    unfold mskK
    have hz : (mskK tr rs id k).testBit k = false := Nat.testBit_lt_two_pow (mskK_lt tr rs id k)
    by_cases hj : j = k
    · subst hj
      split
      · rename_i h; rw [Nat.testBit_xor, hz, Nat.testBit_two_pow_self, h]; simp
      · rename_i h; rw [hz]; simp at h; simp [h]
    · have hd : decide (j < k + 1) = decide (j < k) := by rw [decide_eq_decide]; omega
      rw [hd, ← ih]
      split
      · rw [Nat.testBit_xor, Nat.testBit_two_pow_of_ne (fun hh => hj hh.symm), Bool.xor_false]
      · rfl
theorem msk_bit {tr rs : List E} {id j : Nat} : (msk tr rs id).testBit j = (rs[j]?).any (fun r => decide (OnR tr r id)) := by
  unfold msk
  rw [mskK_bit]
  by_cases h : j < rs.length
  · simp [h]
  · rw [List.getElem?_eq_none (by omega)]; simp
theorem msk_eq {tr rs : List E} {id id' : Nat} : msk tr rs id = msk tr rs id' ↔ ∀ r, r ∈ rs → (OnR tr r id ↔ OnR tr r id') := by
  constructor
  · intro h r hr
    obtain ⟨j, hj⟩ := List.mem_iff_getElem?.1 hr
    have h1 := congrArg (fun m => Nat.testBit m j) h
    simp only [msk_bit, hj, Option.any_some, decide_eq_decide] at h1
    exact h1
  · intro h
    apply Nat.eq_of_testBit_eq
    intro j
    rw [msk_bit, msk_bit]
    cases hj : rs[j]? with
    | none => rfl
    | some r => simp only [Option.any_some, decide_eq_decide]; exact h r (List.mem_of_getElem? hj)
theorem msk_zero {tr rs : List E} {id : Nat} : msk tr rs id = 0 ↔ ∀ r, r ∈ rs → ¬ OnR tr r id := by
  constructor
  · intro h r hr
    obtain ⟨j, hj⟩ := List.mem_iff_getElem?.1 hr
    have h1 := congrArg (fun m => Nat.testBit m j) h
    simp only [msk_bit, hj, Option.any_some, Nat.zero_testBit, decide_eq_false_iff_not] at h1
    exact h1
  · intro h
    apply Nat.eq_of_testBit_eq
    intro j
    rw [msk_bit, Nat.zero_testBit]
    cases hj : rs[j]? with
    | none => rfl
    | some r => simp only [Option.any_some, decide_eq_false_iff_not]; exact h r (List.mem_of_getElem? hj)
end Go.Proofs.YtkpoobnldgfapabGreatDoor.Pl

