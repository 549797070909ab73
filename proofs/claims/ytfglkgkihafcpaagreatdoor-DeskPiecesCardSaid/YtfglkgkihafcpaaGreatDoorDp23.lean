/- Part 23 of the proof: E2. -/
import Derived.Test.YtfglkgkihafcpaaGreatDoorDp07
import Derived.Test.YtfglkgkihafcpaaGreatDoorDp09
import Derived.Test.YtfglkgkihafcpaaGreatDoorDp13
import Derived.Test.YtfglkgkihafcpaaGreatDoorDp20
import Derived.Test.YtfglkgkihafcpaaGreatDoorDp21
import Derived.Test.YtfglkgkihafcpaaGreatDoorDp22
import Derived.Deep.LoopGhost
import Derived.BigQuiet
import Derived.Deep.QuietTactic
set_option linter.unusedVariables false
set_option linter.unusedSimpArgs false
namespace Go.Proofs.YtfglkgkihafcpaaGreatDoor
open Go.RowKit Pl
structure DM (w : World) (base X Y ob lb gb n : Nat) (mv : Value) (tag : Nat → Nat) (s : DS) (so po co : Option Addr) (sc pc cc : Nat) (rows : List Rw) : Prop where
 tX : tag X = 0
 tY : tag Y = 1
 tO : tag ob = 2
 tL : tag lb = 3
 lt : ∀ k, tag k < 7 → base ≤ k ∧ k < w.heap.size
 head : Row w X 271 [.pointer (some ⟨gb, 0, none⟩), .int .i64 (s.cnt : Nat), .slice (some ⟨ob, 0, none⟩) n n, .slice (some ⟨lb, 0, none⟩) n n, .slice so s.st.length sc, .pointer (some ⟨Y, 0, none⟩)]
 bl : Row w Y 232 [mv, .slice po s.ps.length pc, .slice co s.cuts.length cc]
 ord : Row w ob 3 (fints n s.ord)
 low : Row w lb 3 (fints n s.low)
 st : Sl (fun k => tag k = 4) w 3 1 so s.st.length sc (ints s.st)
 ps : Mat (fun k => tag k = 6) w 63 3 po s.ps.length pc rows s.ps
 cu : Sl (fun k => tag k = 5) w 3 1 co s.cuts.length cc (ints s.cuts)
theorem keep_set (w : World) (b i : Nat) (v : Value) : Keep (fun j => j = b) w (w.setCell ⟨b, i, none⟩ v) := Keep.setCell (p := ⟨b, i, none⟩) (Keep.refl (fun j => j = b) w) (.inl rfl) v
namespace DM
variable {w w' : World} {base X Y ob lb gb n : Nat} {mv : Value} {tag : Nat → Nat} {s : DS} {so po co : Option Addr} {sc pc cc : Nat} {rows : List Rw}
theorem keep {G : Nat → Prop} (h : DM w base X Y ob lb gb n mv tag s so po co sc pc cc rows) (k : Keep G w w') (d : ∀ j, tag j < 7 → ¬ G j) : DM w' base X Y ob lb gb n mv tag s so po co sc pc cc rows :=
 ⟨h.tX, h.tY, h.tO, h.tL, fun j hj => by have := h.lt j hj; have := k.size; omega, h.head.keep k (d _ (by rw [h.tX]; omega)), h.bl.keep k (d _ (by rw [h.tY]; omega)), h.ord.keep k (d _ (by rw [h.tO]; omega)), h.low.keep k (d _ (by rw [h.tL]; omega)),
  h.st.keep k (fun j hj => d j (by omega)), h.ps.keep k (fun j hj => d j (by omega)), h.cu.keep k (fun j hj => d j (by omega))⟩
theorem keepN (h : DM w base X Y ob lb gb n mv tag s so po co sc pc cc rows) (k : Keep Nb w w') : DM w' base X Y ob lb gb n mv tag s so po co sc pc cc rows := h.keep k (fun _ _ e => e)
theorem setX (h : DM w base X Y ob lb gb n mv tag s so po co sc pc cc rows) (i : Nat) (v : Value) {s' : DS} {so' : Option Addr} {sc' : Nat}
  (hr : ([.pointer (some ⟨gb, 0, none⟩), .int .i64 (s.cnt : Nat), .slice (some ⟨ob, 0, none⟩) n n, .slice (some ⟨lb, 0, none⟩) n n, .slice so s.st.length sc, .pointer (some ⟨Y, 0, none⟩)] : List Value).set i v
   = [.pointer (some ⟨gb, 0, none⟩), .int .i64 (s'.cnt : Nat), .slice (some ⟨ob, 0, none⟩) n n, .slice (some ⟨lb, 0, none⟩) n n, .slice so' s'.st.length sc', .pointer (some ⟨Y, 0, none⟩)]) (hi : i < 6)
  (hst : Sl (fun k => tag k = 4) w 3 1 so' s'.st.length sc' (ints s'.st)) (ho : s'.ord = s.ord) (hl : s'.low = s.low) (hp : s'.ps = s.ps) (hc : s'.cuts = s.cuts) :
  DM (w.setCell ⟨X, i, none⟩ v) base X Y ob lb gb n mv tag s' so' po co sc' pc cc rows := by
 have k : Keep (fun j => j = X) w (w.setCell ⟨X, i, none⟩ v) := keep_set _ _ _ _
 have hX := h.tX
 have ne : ∀ {j t}, tag j = t → t ≠ 0 → ¬ (j = X) := fun h1 h2 e => by subst e; omega
 refine ⟨h.tX, h.tY, h.tO, h.tL, fun j hj => by have := h.lt j hj; have := k.size; omega, ?_, ?_, ?_, ?_, ?_, ?_, ?_⟩
 ·have := h.head.set (i := i) (by simpa using hi) v
  rwa [hr] at this
 ·rw [hp, hc]; exact h.bl.keep k (ne h.tY (by omega))
 ·rw [ho]; exact h.ord.keep k (ne h.tO (by omega))
 ·rw [hl]; exact h.low.keep k (ne h.tL (by omega))
 ·exact hst.keep k (fun j hj => ne hj (by omega))
 ·rw [hp]; exact h.ps.keep k (fun j hj => ne hj (by omega))
 ·rw [hc]; exact h.cu.keep k (fun j hj => ne hj (by omega))
theorem setO (h : DM w base X Y ob lb gb n mv tag s so po co sc pc cc rows) (x v : Nat) (hx : x < n) :
  DM (w.setCell ⟨ob, x, none⟩ (.int .i64 (v : Nat))) base X Y ob lb gb n mv tag { s with ord := upd s.ord x v } so po co sc pc cc rows := by
 have k : Keep (fun j => j = ob) w (w.setCell ⟨ob, x, none⟩ (.int .i64 (v : Nat))) := keep_set _ _ _ _
 have hO := h.tO
 have ne : ∀ {j t}, tag j = t → t ≠ 2 → ¬ (j = ob) := fun h1 h2 e => by subst e; omega
 refine ⟨h.tX, h.tY, h.tO, h.tL, fun j hj => by have := h.lt j hj; have := k.size; omega, h.head.keep k (ne h.tX (by omega)), h.bl.keep k (ne h.tY (by omega)), ?_, h.low.keep k (ne h.tL (by omega)), h.st.keep k (fun j hj => ne hj (by omega)), h.ps.keep k (fun j hj => ne hj (by omega)), h.cu.keep k (fun j hj => ne hj (by omega))⟩
 have := h.ord.set (i := x) (by rw [fints_length]; exact hx) (.int .i64 (v : Nat))
 rwa [fints_set] at this
theorem setL (h : DM w base X Y ob lb gb n mv tag s so po co sc pc cc rows) (x v : Nat) (hx : x < n) :
  DM (w.setCell ⟨lb, x, none⟩ (.int .i64 (v : Nat))) base X Y ob lb gb n mv tag { s with low := upd s.low x v } so po co sc pc cc rows := by
 have k : Keep (fun j => j = lb) w (w.setCell ⟨lb, x, none⟩ (.int .i64 (v : Nat))) := keep_set _ _ _ _
 have hL := h.tL
 have ne : ∀ {j t}, tag j = t → t ≠ 3 → ¬ (j = lb) := fun h1 h2 e => by subst e; omega
 refine ⟨h.tX, h.tY, h.tO, h.tL, fun j hj => by have := h.lt j hj; have := k.size; omega, h.head.keep k (ne h.tX (by omega)), h.bl.keep k (ne h.tY (by omega)), h.ord.keep k (ne h.tO (by omega)), ?_, h.st.keep k (fun j hj => ne hj (by omega)), h.ps.keep k (fun j hj => ne hj (by omega)), h.cu.keep k (fun j hj => ne hj (by omega))⟩
 have := h.low.set (i := x) (by rw [fints_length]; exact hx) (.int .i64 (v : Nat))
 rwa [fints_set] at this
theorem retag {w w' : World} {tag tag' : Nat → Nat} {G : Nat → Prop} {T : TypeId} {sz t : Nat} {o : Option Addr} {n c : Nat} {l : List Value} (h : Sl (fun k => tag k = t) w T sz o n c l) (same : ∀ k, k < w.heap.size → tag' k = tag k) (k : Keep G w w') (d : ∀ j, tag j = t → ¬ G j) :
  Sl (fun k => tag' k = t) w' T sz o n c l :=
 (h.tight.keep k (fun j hj => d j hj.1)).mono (fun j hj => by rw [same j hj.2]; exact hj.1)
theorem retagM {w w' : World} {tag tag' : Nat → Nat} {G : Nat → Prop} {T e : TypeId} {t : Nat} {o : Option Addr} {n c : Nat} {rows : List Rw} {ll : List (List Nat)} (h : Mat (fun k => tag k = t) w T e o n c rows ll) (same : ∀ k, k < w.heap.size → tag' k = tag k) (k : Keep G w w') (d : ∀ j, tag j = t → ¬ G j) :
  Mat (fun k => tag' k = t) w' T e o n c rows ll :=
 (h.tight.keep k (fun j hj => d j hj.1)).mono (fun j hj => by rw [same j hj.2]; exact hj.1)
theorem szX (h : DM w base X Y ob lb gb n mv tag s so po co sc pc cc rows) : X < w.heap.size ∧ Y < w.heap.size ∧ ob < w.heap.size ∧ lb < w.heap.size :=
 ⟨(h.lt X (by rw [h.tX]; omega)).2, (h.lt Y (by rw [h.tY]; omega)).2, (h.lt ob (by rw [h.tO]; omega)).2, (h.lt lb (by rw [h.tL]; omega)).2⟩
theorem pushS (h : DM w base X Y ob lb gb n mv tag s so po co sc pc cc rows) (hb : base ≤ w.heap.size) {g sc' id : Nat}
  (hS : Sl (fun k => tag k = 4 ∨ k = w.heap.size + 1) w' 3 1 (some ⟨g, 0, none⟩) (s.st.length + 1) sc' (ints s.st ++ [.int .i64 (id : Nat)])) (hk : Keep (Bl so) w w') :
  ∃ tag' : Nat → Nat, (∀ k, k < w.heap.size → tag' k = tag k) ∧ DM (w'.setCell ⟨X, 4, none⟩ (.slice (some ⟨g, 0, none⟩) (s.st.length + 1) sc')) base X Y ob lb gb n mv tag' (s.pushE id) (some ⟨g, 0, none⟩) po co sc' pc cc rows := by
 obtain ⟨x1, x2, x3, x4⟩ := h.szX
 have z := hk.size
 have hso : ∀ j, Bl so j → tag j = 4 := fun j ⟨a, ha, hj⟩ => by rw [← hj]; exact h.st.foot a ha
 refine ⟨fun k => if w.heap.size ≤ k then (if k = g then 4 else 7) else tag k, fun k hk => if_neg (by omega), ?_⟩
 obtain ⟨tag', ht⟩ : ∃ tag' : Nat → Nat, (fun k => if w.heap.size ≤ k then (if k = g then 4 else 7) else tag k) = tag' := ⟨_, rfl⟩
 rw [ht]
 have same : ∀ k, k < w.heap.size → tag' k = tag k := fun k hk => by rw [← ht]; exact if_neg (by omega)
 have hg : tag' g = 4 := by
  rcases hS.foot _ rfl with e | e
  ·have := h.lt g (by show tag g < 7; have e : tag g = 4 := e; omega)
   rw [same g this.2]; exact e
  ·have e : g = w.heap.size + 1 := e
   rw [← ht]; show (if w.heap.size ≤ g then (if g = g then _ else 7) else tag g) = _; rw [if_pos (by omega), if_pos rfl]
 have hgz : g < w'.heap.size := hS.lt rfl
 have hS' : Sl (fun k => tag' k = 4) w' 3 1 (some ⟨g, 0, none⟩) (s.st.length + 1) sc' (ints (s.st ++ [id])) := by
  rw [ints_append]
  exact ⟨hS.own, fun a ha => by cases ha; exact hg⟩
 have dn : ∀ t, t ≠ 4 → ∀ j, tag j = t → ¬ Bl so j := fun t h4 j hj e => by have := hso j e; omega
 have D1 : DM w' base X Y ob lb gb n mv tag' { s with st := s.st } (some ⟨g, 0, none⟩) po co sc' pc cc rows → True := fun _ => trivial
 have nX : X ≠ g := fun e => by subst e; rw [same X x1, h.tX] at hg; omega
 have kS : Keep (fun j => j = X) w' (w'.setCell ⟨X, 4, none⟩ (.slice (some ⟨g, 0, none⟩) (s.st.length + 1) sc')) := keep_set _ _ _ _
 have zs := kS.size
 have tX' : tag' X = 0 := by rw [same X x1]; exact h.tX
 have neX : ∀ {j t}, tag' j = t → t ≠ 0 → ¬ (j = X) := fun h1 h2 e => by subst e; omega
 have tY' : tag' Y = 1 := by rw [same Y x2]; exact h.tY
 have tO' : tag' ob = 2 := by rw [same ob x3]; exact h.tO
 have tL' : tag' lb = 3 := by rw [same lb x4]; exact h.tL
 refine ⟨tX', tY', tO', tL', fun j hj => ?_, ?_, ?_, ?_, ?_, ?_, ?_, ?_⟩
 ·by_cases hjz : j < w.heap.size
  ·rw [same j hjz] at hj
   have := h.lt j hj; omega
  ·rw [← ht] at hj
   simp only [] at hj
   rw [if_pos (by omega)] at hj
   split at hj
   ·subst_vars; omega
   ·omega
 ·have := (h.head.keep hk (dn 0 (by omega) _ h.tX)).set (i := 4) (by simp) (.slice (some ⟨g, 0, none⟩) (s.st.length + 1) sc')
  have hl : (s.pushE id).st.length = s.st.length + 1 := by simp [DS.pushE]
  rw [hl]
  exact this
 ·exact (h.bl.keep hk (dn 1 (by omega) _ h.tY)).keep kS (neX tY' (by omega))
 ·exact (h.ord.keep hk (dn 2 (by omega) _ h.tO)).keep kS (neX tO' (by omega))
 ·exact (h.low.keep hk (dn 3 (by omega) _ h.tL)).keep kS (neX tL' (by omega))
 ·have hl : (s.pushE id).st.length = s.st.length + 1 := by simp [DS.pushE]
  rw [hl]
  exact hS'.keep kS (fun j hj => neX hj (by omega))
 ·exact (retagM h.ps same hk (dn 6 (by omega))).keep kS (fun j hj => neX hj (by omega))
 ·exact (retag h.cu same hk (dn 5 (by omega))).keep kS (fun j hj => neX hj (by omega))
theorem pushC (h : DM w base X Y ob lb gb n mv tag s so po co sc pc cc rows) (hb : base ≤ w.heap.size) {g cc' x : Nat}
  (hS : Sl (fun k => tag k = 5 ∨ k = w.heap.size + 1) w' 3 1 (some ⟨g, 0, none⟩) (s.cuts.length + 1) cc' (ints s.cuts ++ [.int .i64 (x : Nat)])) (hk : Keep (Bl co) w w') :
  ∃ tag' : Nat → Nat, (∀ k, k < w.heap.size → tag' k = tag k) ∧ DM (w'.setCell ⟨Y, 2, none⟩ (.slice (some ⟨g, 0, none⟩) (s.cuts.length + 1) cc')) base X Y ob lb gb n mv tag' (s.cut x true) so po (some ⟨g, 0, none⟩) sc pc cc' rows := by
 obtain ⟨x1, x2, x3, x4⟩ := h.szX
 have z := hk.size
 have hso : ∀ j, Bl co j → tag j = 5 := fun j ⟨a, ha, hj⟩ => by rw [← hj]; exact h.cu.foot a ha
 refine ⟨fun k => if w.heap.size ≤ k then (if k = g then 5 else 7) else tag k, fun k hk => if_neg (by omega), ?_⟩
 obtain ⟨tag', ht⟩ : ∃ tag' : Nat → Nat, (fun k => if w.heap.size ≤ k then (if k = g then 5 else 7) else tag k) = tag' := ⟨_, rfl⟩
 rw [ht]
 have same : ∀ k, k < w.heap.size → tag' k = tag k := fun k hk => by rw [← ht]; exact if_neg (by omega)
 have hg : tag' g = 5 := by
  rcases hS.foot _ rfl with e | e
  ·have := h.lt g (by show tag g < 7; have e : tag g = 5 := e; omega)
   rw [same g this.2]; exact e
  ·have e : g = w.heap.size + 1 := e
   rw [← ht]; show (if w.heap.size ≤ g then (if g = g then _ else 7) else tag g) = _; rw [if_pos (by omega), if_pos rfl]
 have hgz : g < w'.heap.size := hS.lt rfl
 have hS' : Sl (fun k => tag' k = 5) w' 3 1 (some ⟨g, 0, none⟩) (s.cuts.length + 1) cc' (ints (s.cuts ++ [x])) := by
  rw [ints_append]
  exact ⟨hS.own, fun a ha => by cases ha; exact hg⟩
 have dn : ∀ t, t ≠ 5 → ∀ j, tag j = t → ¬ Bl co j := fun t h4 j hj e => by have := hso j e; omega
 have kS : Keep (fun j => j = Y) w' (w'.setCell ⟨Y, 2, none⟩ (.slice (some ⟨g, 0, none⟩) (s.cuts.length + 1) cc')) := keep_set _ _ _ _
 have zs := kS.size
 have tX' : tag' X = 0 := by rw [same X x1]; exact h.tX
 have tY' : tag' Y = 1 := by rw [same Y x2]; exact h.tY
 have tO' : tag' ob = 2 := by rw [same ob x3]; exact h.tO
 have tL' : tag' lb = 3 := by rw [same lb x4]; exact h.tL
 have neY : ∀ {j t}, tag' j = t → t ≠ 1 → ¬ (j = Y) := fun h1 h2 e => by subst e; omega
 have hl : (s.cut x true).cuts = s.cuts ++ [x] := by simp [DS.cut]
 have e1 : (s.cut x true).cnt = s.cnt ∧ (s.cut x true).ord = s.ord ∧ (s.cut x true).low = s.low ∧ (s.cut x true).st = s.st ∧ (s.cut x true).ps = s.ps := by simp [DS.cut]
 obtain ⟨e1, e2, e3, e4, e5⟩ := e1
 refine ⟨tX', tY', tO', tL', fun j hj => ?_, ?_, ?_, ?_, ?_, ?_, ?_, ?_⟩
 ·by_cases hjz : j < w.heap.size
  ·rw [same j hjz] at hj
   have := h.lt j hj; omega
  ·rw [← ht] at hj
   simp only [] at hj
   rw [if_pos (by omega)] at hj
   split at hj
   ·subst_vars; omega
   ·omega
 ·rw [e1, e4]; exact (h.head.keep hk (dn 0 (by omega) _ h.tX)).keep kS (neY tX' (by omega))
 ·have := (h.bl.keep hk (dn 1 (by omega) _ h.tY)).set (i := 2) (by simp) (.slice (some ⟨g, 0, none⟩) (s.cuts.length + 1) cc')
  have hl2 : (s.cut x true).cuts.length = s.cuts.length + 1 := by rw [hl]; simp
  rw [hl2, e5]
  exact this
 ·rw [e2]; exact (h.ord.keep hk (dn 2 (by omega) _ h.tO)).keep kS (neY tO' (by omega))
 ·rw [e3]; exact (h.low.keep hk (dn 3 (by omega) _ h.tL)).keep kS (neY tL' (by omega))
 ·rw [e4]; exact (retag h.st same hk (dn 4 (by omega))).keep kS (fun j hj => neY hj (by omega))
 ·rw [e5]; exact (retagM h.ps same hk (dn 6 (by omega))).keep kS (fun j hj => neY hj (by omega))
 ·rw [hl]
  have : (s.cuts ++ [x]).length = s.cuts.length + 1 := by simp
  rw [this]
  exact hS'.keep kS (fun j hj => neY hj (by omega))
theorem pushP {wc : World} (h : DM w base X Y ob lb gb n mv tag s so po co sc pc cc rows) (hb : base ≤ w.heap.size) (hkc : Keep Nb w wc) {g pc' q m cq : Nat} {l : List Nat}
  (hr : Sl (fun k => w.heap.size ≤ k) wc 3 1 (some ⟨q, 0, none⟩) m cq (ints l))
  (hS : Sl (fun k => tag k = 6 ∨ k = wc.heap.size + 1) w' 63 1 (some ⟨g, 0, none⟩) (s.ps.length + 1) pc' (rows.map Rw.val ++ [.slice (some ⟨q, 0, none⟩) m cq])) (hk : Keep (Bl po) wc w') (hg : po = some ⟨g, 0, none⟩ ∨ g = wc.heap.size + 1) :
  ∃ tag' : Nat → Nat, (∀ k, k < w.heap.size → tag' k = tag k) ∧ DM (w'.setCell ⟨Y, 1, none⟩ (.slice (some ⟨g, 0, none⟩) (s.ps.length + 1) pc')) base X Y ob lb gb n mv tag' { s with ps := s.ps ++ [l] } so (some ⟨g, 0, none⟩) co sc pc' cc (rows ++ [⟨some ⟨q, 0, none⟩, m, cq⟩]) := by
 obtain ⟨x1, x2, x3, x4⟩ := h.szX
 have z := hk.size
 have zc := hkc.size
 have hq0 : w.heap.size ≤ q := hr.foot _ rfl
 have hqz : q < wc.heap.size := hr.lt rfl
 have hgz : g < w'.heap.size := hS.lt rfl
 have hpo : ∀ j, Bl po j → tag j = 6 := fun j ⟨a, ha, hj⟩ => by rw [← hj]; exact h.ps.out.foot a ha
 refine ⟨fun k => if w.heap.size ≤ k then (if k = g ∨ k = q then 6 else 7) else tag k, fun k hk => if_neg (by omega), ?_⟩
 obtain ⟨tag', ht⟩ : ∃ tag' : Nat → Nat, (fun k => if w.heap.size ≤ k then (if k = g ∨ k = q then 6 else 7) else tag k) = tag' := ⟨_, rfl⟩
 rw [ht]
 have same : ∀ k, k < w.heap.size → tag' k = tag k := fun k hk => by rw [← ht]; exact if_neg (by omega)
 have hg6 : tag' g = 6 := by
  by_cases hgw : w.heap.size ≤ g
  ·rw [← ht]; show (if w.heap.size ≤ g then (if g = g ∨ g = q then _ else 7) else tag g) = _; rw [if_pos hgw, if_pos (.inl rfl)]
  ·rw [same g (by omega)]
   rcases hg with e | e
   ·exact hpo g ⟨_, e, rfl⟩
   ·omega
 have hq6 : tag' q = 6 := by
  rw [← ht]; show (if w.heap.size ≤ q then (if q = g ∨ q = q then _ else 7) else tag q) = _; rw [if_pos hq0, if_pos (.inr rfl)]
 have nb : ∀ {j}, ¬ Nb j := fun e => e
 have hM : Mat (fun k => tag' k = 6) wc 63 3 po s.ps.length pc rows s.ps := retagM h.ps same hkc (fun _ _ => nb)
 have hbl : ∀ j, Bl po j → j < w.heap.size := fun j hj => by have := hpo j hj; exact (h.lt j (by omega)).2
 have hM' := hM.pushNew (l := l) (q := q) (⟨hS.own, fun a ha => by cases ha; exact hg6⟩ : Sl (fun k => tag' k = 6) w' 63 1 (some ⟨g, 0, none⟩) (s.ps.length + 1) pc' (rows.map Rw.val ++ [.slice (some ⟨q, 0, none⟩) m cq])) hk hg
  ⟨hr.own, fun a ha => by cases ha; exact hq6⟩ (fun e => by have := hbl q e; omega) (fun i r a h1 ha => by have := h.ps.rowLt h1 ha; omega) (fun e => by
   rcases hg with e2 | e2
   ·have := hbl g ⟨_, e2, rfl⟩; omega
   ·omega)
 have kS : Keep (fun j => j = Y) w' (w'.setCell ⟨Y, 1, none⟩ (.slice (some ⟨g, 0, none⟩) (s.ps.length + 1) pc')) := keep_set _ _ _ _
 have zs := kS.size
 have tX' : tag' X = 0 := by rw [same X x1]; exact h.tX
 have tY' : tag' Y = 1 := by rw [same Y x2]; exact h.tY
 have tO' : tag' ob = 2 := by rw [same ob x3]; exact h.tO
 have tL' : tag' lb = 3 := by rw [same lb x4]; exact h.tL
 have neY : ∀ {j t}, tag' j = t → t ≠ 1 → ¬ (j = Y) := fun h1 h2 e => by subst e; omega
 have hkw : Keep (Bl po) w w' := hkc.trans' hk (fun _ _ e => e.elim) (fun _ _ e => e)
 have dn : ∀ t, t ≠ 6 → ∀ j, tag j = t → ¬ Bl po j := fun t h4 j hj e => by have := hpo j e; omega
 have hl2 : (s.ps ++ [l]).length = s.ps.length + 1 := by simp
 refine ⟨tX', tY', tO', tL', fun j hj => ?_, ?_, ?_, ?_, ?_, ?_, ?_, ?_⟩
 ·by_cases hjz : j < w.heap.size
  ·rw [same j hjz] at hj
   have := h.lt j hj; omega
  ·rw [← ht] at hj
   simp only [] at hj
   rw [if_pos (by omega)] at hj
   split at hj
   ·omega
   ·omega
 ·exact (h.head.keep hkw (dn 0 (by omega) _ h.tX)).keep kS (neY tX' (by omega))
 ·have := (h.bl.keep hkw (dn 1 (by omega) _ h.tY)).set (i := 1) (by simp) (.slice (some ⟨g, 0, none⟩) (s.ps.length + 1) pc')
  show Row _ Y _ [mv, .slice (some ⟨g, 0, none⟩) (s.ps ++ [l]).length pc', .slice co s.cuts.length cc]
  rw [hl2]
  exact this
 ·exact (h.ord.keep hkw (dn 2 (by omega) _ h.tO)).keep kS (neY tO' (by omega))
 ·exact (h.low.keep hkw (dn 3 (by omega) _ h.tL)).keep kS (neY tL' (by omega))
 ·exact (retag h.st same hkw (dn 4 (by omega))).keep kS (fun j hj => neY hj (by omega))
 ·show Mat _ _ _ _ _ (s.ps ++ [l]).length _ _ _
  rw [hl2]
  exact hM'.keep kS (fun j hj => neY hj (by omega))
 ·exact (retag h.cu same hkw (dn 5 (by omega))).keep kS (fun j hj => neY hj (by omega))
theorem takeS (h : DM w base X Y ob lb gb n mv tag s so po co sc pc cc rows) {k : Nat} (hk : k ≤ s.st.length) :
  DM (w.setCell ⟨X, 4, none⟩ (.slice so k sc)) base X Y ob lb gb n mv tag { s with st := s.st.take k } so po co sc pc cc rows := by
 have hl : (s.st.take k).length = k := by rw [List.length_take]; omega
 refine h.setX 4 (.slice so k sc) (s' := { s with st := s.st.take k }) (by simp [hl]) (by omega) ?_ rfl rfl rfl rfl
 show Sl _ w _ 1 so (s.st.take k).length sc (ints (s.st.take k))
 rw [hl]
 exact h.st.takeI hk
end DM
end Go.Proofs.YtfglkgkihafcpaaGreatDoor
namespace Go.Proofs.YtfglkgkihafcpaaGreatDoor
open Go.RowKit Pl Go.Maps Go.Sort Go.Shelf
theorem cloneI_any (w : World) (b off n c : Nat) (l : List Nat) (hl : l.length = n) (hn : 0 < n) (hb : n ≤ 1000000) (hc : ∀ (j : Nat) x, l[j]? = some x → w.cell? ⟨b, off + j, none⟩ = some (.int .i64 (x : Nat))) :
  Calls Tryz.prog 170 #[.slice (some ⟨b, off, none⟩) n c] w fun e w' => ∃ q c', e = .returned (.slice (some ⟨q, 0, none⟩) n c') ∧ Sl (fun k => w.heap.size ≤ k) w' 3 1 (some ⟨q, 0, none⟩) n c' (ints l) ∧ Keep Nb w w' := by
 have h := calls_of_every_depth fun D => AnyS.slices_Clone_int_in Tryz.cloneC D b off n c (l.map (fun x => ((x : Nat) : Int))) w (by rw [List.length_map]; omega) (by omega) (fun j hj => by
  rw [List.length_map] at hj
  have h1 := hc j _ (List.getElem?_eq_getElem hj)
  rw [h1, List.getD_eq_getElem?_getD, List.getElem?_map, List.getElem?_eq_getElem hj]; rfl)
 refine Calls.mono h ?_
 rintro e w' ⟨v', rfl, hrow, hnn, hbe⟩
 have e1 : ((l.map (fun x => ((x : Nat) : Int))).take n).map (Value.int .i64) = ints l := by
  rw [List.take_of_length_le (by rw [List.length_map]; omega), List.map_map]; rfl
 rw [e1] at hrow
 obtain ⟨o, c', rfl, hS⟩ := Sl.of_row hrow
 obtain ⟨q, rfl, _, _, _⟩ := hS.pos hn
 exact ⟨q, c', rfl, hS, Keep.below hbe⟩
end Go.Proofs.YtfglkgkihafcpaaGreatDoor
namespace Go.Proofs.YtfglkgkihafcpaaGreatDoor
open Go.RowKit Pl
def BkPartsPost (w : World) (ps : List (List Nat)) (e : Ending) (w' : World) : Prop :=
 ∃ o c rows, e = .returned (.slice o ps.length c) ∧ Mat (fun k => w.heap.size ≤ k) w' 63 3 o ps.length c rows ps ∧ Keep Nb w w'
set_option maxRecDepth 100000 in
set_option maxHeartbeats 2000000 in
theorem bkparts_any (F : Nat → Prop) (w : World) (Y cn cc pc : Nat) (mv : Value) (po co : Option Addr) (rows : List Rw) (ps : List (List Nat)) (hY : Row w Y 232 [mv, .slice po ps.length pc, .slice co cn cc])
  (hM : Mat F w 63 3 po ps.length pc rows ps) (hne : ∀ p, p ∈ ps → p ≠ []) (hl : ps.length ≤ 1000) (hpl : ∀ p, p ∈ ps → p.length ≤ 1000) :
  Calls Tryz.prog 136 #[.pointer (some ⟨Y, 0, none⟩)] w (BkPartsPost w ps) := by
 have y1 := hY.cell (i := 1) rfl
 have HM := Lib.hid hM
 have HNE := Lib.hid hne
 have HPL := Lib.hid hpl
 obtain ⟨m, hm⟩ : ∃ m, ps.length = m := ⟨_, rfl⟩
 rw [hm] at y1 HM hl
 have HLN := Lib.hid hm
 clear hY hM hne hpl hm
 go_enter Tryz.func136, Tryz.ntmps136
 go_wp2_with fail
 go_loopg [3, 11] m (fun kx s3 s11 wr => ∃ (i : Nat) (o : Option Addr) (c : Nat) (rows' : List Rw), s3 = .slice o i c ∧ s11 = .int .i64 i ∧ i ≤ m ∧ m - i ≤ kx ∧ Hid (Mat (fun k => w.heap.size ≤ k) wr 63 3 o i c rows' (ps.take i) ∧ Keep Nb w wr))
 case atStart => exact ⟨0, none, 0, [], rfl, rfl, Nat.zero_le _, by omega, Lib.hid ⟨Mat.nil _ _ _ _, Keep.refl _ _⟩⟩
 case round =>
  obtain ⟨i, o, c, rows', rfl, rfl, hi, hg, HR⟩ := hrel
  by_cases hlt : i < m
  ·obtain ⟨p, hp⟩ : ∃ p, ps[i]? = some p := ⟨_, List.getElem?_eq_getElem (by rw [HLN.out]; exact hlt)⟩
   have hpm := List.mem_of_getElem? hp
   have hp0 := HNE.out p hpm
   have hpl := HPL.out p hpm
   have HTK : Hid (ps.take (i + 1) = ps.take i ++ [p]) := Lib.hid (by rw [List.take_add_one, hp]; rfl)
   obtain ⟨go, r, rfl, hmc, hcell, hS⟩ := (HM.out.keep HR.out.2 (fun _ _ e => e)).lat_ hp
   have hrn : p.length = r.n := by have := hS.len; simpa using this
   have hpos : 0 < p.length := by
    cases p with
    | nil => exact absurd rfl hp0
    | cons a l => simp
   obtain ⟨g0, hg0, _, hnc, hrow⟩ := hS.pos (by omega)
   obtain ⟨n, hn⟩ : ∃ n, r.n = n := ⟨_, rfl⟩
   obtain ⟨rc, hrc⟩ : ∃ rc, r.c = rc := ⟨_, rfl⟩
   rw [hg0, hn, hrc] at hcell
   have HC := Lib.hid (cloneI_any wr g0 0 n rc p (by omega) (by omega) (by omega) (fun j x hx => by
    rw [Nat.zero_add]; exact hrow.cell (ints_get hx)))
   have hn1000 : n ≤ 1000 := by omega
   have HNP : Hid (p.length = n) := Lib.hid (by omega)
   clear hp hpm hp0 hpl hS hrn hpos hrow hnc hg0 hn hrc
   go_wp2_with fail
   refine HC.out.mono ?_
   rintro e1 w2 ⟨q, c', rfl, hS2, hk2⟩
   have hM2 := HR.out.1.keep hk2 (fun _ _ e => e)
   have z0 := HR.out.2.size
   have z2 := hk2.size
   obtain ⟨gq, cq, w4, r1, r2, r3, r4⟩ := run_app1 (P := Tryz.prog) 134 134 63 (by kernel_rfl) elem_ints (by rfl) hM2.out (.slice (some ⟨q, 0, none⟩) n c') rfl (by omega) (by omega)
   have HN : Hid (Mat (fun k => w.heap.size ≤ k) w4 63 3 (some ⟨gq, 0, none⟩) (i + 1) cq (rows' ++ [⟨some ⟨q, 0, none⟩, n, c'⟩]) (ps.take (i + 1)) ∧ Keep Nb w w4) := Lib.hid (by
    rw [HTK.out]
    have hq : wr.heap.size ≤ q := hS2.foot _ rfl
    have hqz : q < w2.heap.size := hS2.lt rfl
    have hbl : ∀ j, Bl o j → w.heap.size ≤ j ∧ j < wr.heap.size := fun j ⟨a, ha, hj⟩ => by rw [← hj]; exact ⟨HR.out.1.out.foot a ha, HR.out.1.out.lt ha⟩
    refine ⟨hM2.pushNew (r2.mono (G := fun k => w.heap.size ≤ k) (fun x hx => by rcases hx with hx | hx; exact hx; show w.heap.size ≤ x; omega)) r3 r4 (hS2.mono (G := fun k => w.heap.size ≤ k) (fun x hx => Nat.le_trans z0 hx)) (fun e => by have := hbl q e; omega)
     (fun i s a h1 ha => by have := HR.out.1.rowLt h1 ha; omega) (fun e => by
      rcases r4 with h | h
      ·have := hbl gq ⟨_, h, rfl⟩; omega
      ·omega), (HR.out.2.trans hk2).trans' r3 (fun _ _ e => e) (fun j hj e => by have := (hbl j e).1; omega)⟩)
   have R1 := Lib.hid r1
   clear hS2 hk2 hM2 r1 r2 r3 r4 hcell HR
   go_wp2_with (at_builtin; refine wpList_app rfl _ _ _ rfl rfl rfl R1.out ?_)
   go_roundg (m - (i + 1))
   case measure => omega
   case rel => exact ⟨i + 1, _, _, _, rfl, by go_num, by omega, Nat.le_refl _, HN⟩
  ·obtain rfl : i = m := by omega
   have HF : Hid (BkPartsPost w ps (.returned (.slice o i c)) wr) := Lib.hid (by
    obtain ⟨h1, h2⟩ := HR.out
    have h3 := HLN.out
    rw [List.take_of_length_le (by omega)] at h1
    subst h3
    exact ⟨o, c, rows', rfl, h1, h2⟩)
   clear HR
   go_wp2_with fail
   go_ret
   exact HF.out
end Go.Proofs.YtfglkgkihafcpaaGreatDoor
namespace Go.Proofs.YtfglkgkihafcpaaGreatDoor
open Go.RowKit Pl Go.Maps
set_option maxRecDepth 100000 in
/-- A copy of the cuts. -/
theorem bkcuts_any (F : Nat → Prop) (w : World) (Y cc : Nat) (mv vp : Value) (co : Option Addr) (cs : List Nat) (hY : Row w Y 232 [mv, vp, .slice co cs.length cc]) (hC : Sl F w 3 1 co cs.length cc (ints cs)) (hl : cs.length ≤ 1000) :
  Calls Tryz.prog 138 #[.pointer (some ⟨Y, 0, none⟩)] w fun e w' => ∃ o c, e = .returned (.slice o cs.length c) ∧ Sl (fun k => w.heap.size ≤ k) w' 3 1 o cs.length c (ints cs) ∧ Keep Nb w w' := by
 have y2 := hY.cell (i := 2) rfl
 have HC : Hid (Calls Tryz.prog 170 #[.slice co cs.length cc] w fun e w' => ∃ o c, e = .returned (.slice o cs.length c) ∧ Sl (fun k => w.heap.size ≤ k) w' 3 1 o cs.length c (ints cs) ∧ Keep Nb w w') := Lib.hid (by
  rcases hC.cases with ⟨rfl, h0, rfl, h00⟩ | ⟨g, rfl, _, hnc, hcm, hrow, _⟩
  ·have hcs : cs = [] := List.length_eq_zero_iff.1 h0
   subst hcs
   refine Calls.mono (calls_of_every_depth fun D => AnyS.slices_Clone_int_nil_in Tryz.cloneC D 0 0 w) ?_
   rintro e w' ⟨rfl, rfl⟩
   exact ⟨none, 0, rfl, Sl.nil _ _ _ _, Keep.refl _ _⟩
  ·by_cases h0 : 0 < cs.length
   ·refine (cloneI_any w g 0 cs.length cc cs rfl h0 (by omega) (fun j x hx => by rw [Nat.zero_add]; exact hrow.cell (ints_get hx))).mono ?_
    rintro e w' ⟨q, c', rfl, h1, h2⟩
    exact ⟨_, _, rfl, h1, h2⟩
   ·have hcs : cs = [] := List.length_eq_zero_iff.1 (by omega)
    subst hcs
    refine Calls.mono (calls_of_every_depth fun D => AnyS.slices_Clone_int_zero_in Tryz.cloneC D ⟨g, 0, none⟩ cc w) ?_
    rintro e w' ⟨v', rfl, hrow, _, hbe⟩
    obtain ⟨o, c', rfl, hS⟩ := Sl.of_row hrow
    exact ⟨o, c', rfl, hS, Keep.below hbe⟩)
 clear hY hC
 go_enter Tryz.func138, Tryz.ntmps138
 go_wp2_with fail
 refine HC.out.mono ?_
 rintro e w1 ⟨o, c, rfl, hS, hk⟩
 have HS := Lib.hid (And.intro hS hk)
 clear hS hk
 go_wp2_with fail
 go_ret
 exact ⟨o, c, rfl, HS.out.1, HS.out.2⟩
end Go.Proofs.YtfglkgkihafcpaaGreatDoor
namespace Go.Proofs.YtfglkgkihafcpaaGreatDoor
open Go.RowKit Pl Go.Maps Go.Sort Go.Shelf
theorem row_put {α : Type} [Inhabited α] (enc : α → Value) {F : Nat → Prop} {w : World} {T : TypeId} {blk n c m : Nat} {vs : List Value} (hS : Sl F w T 1 (some ⟨blk, 0, none⟩) n c vs) (ds : List α) (hl : ds.length = n) (os : Array Obj) :
  Sl F (grow (putRow enc (Sort.ahead w m) blk 0 ds.toArray) os) T 1 (some ⟨blk, 0, none⟩) n c (ds.map enc) ∧ Keep (fun k => k = blk) w (grow (putRow enc (Sort.ahead w m) blk 0 ds.toArray) os) := by
 rcases hS.cases with ⟨h0, _⟩ | ⟨g', e1, hF, hnc, hcm, hrow, cur, hg, hcs⟩
 ·cases h0
 ·cases e1
  have hlt : blk < w.heap.size := hrow.lt
  have hheap : (grow (putRow enc (Sort.ahead w m) blk 0 ds.toArray) os).heap = w.heap.modify blk (onCells (putCells enc 0 ds.toArray)) ++ os := rfl
  constructor
  ·refine ⟨⟨by rw [List.length_map, hl, Nat.mul_one], .inr ⟨blk, c, putCells enc 0 ds.toArray cur, rfl, Nat.zero_le _, ?_, hnc, hcm, ?_, ?_⟩⟩, hS.foot⟩
   ·rw [hheap, Array.getElem?_append_left (by simpa using hlt), Array.getElem?_modify, if_pos rfl, hg]
    rfl
   ·unfold putCells; simpa using hcs
   ·apply List.ext_getElem?
    intro t
    rw [List.getElem?_take]
    by_cases ht : t < n * 1
    ·have htl : t < ds.length := by omega
     have htc : t < cur.size := by rw [hcs]; omega
     rw [if_pos ht, Array.getElem?_toList]
     unfold putCells
     rw [Array.getElem?_mapIdx, Array.getElem?_eq_getElem htc, Option.map_some, if_pos ⟨Nat.zero_le _, by simp; omega⟩, List.getElem?_map, List.getElem?_eq_getElem htl]
     rw [Nat.sub_zero, getElem!_pos ds.toArray t (by simpa using htl)]
     simp
    ·rw [if_neg ht, List.getElem?_eq_none (by rw [List.length_map]; omega)]
  ·refine ⟨rfl, rfl, rfl, ?_, fun k hk hne => ?_⟩
   ·rw [hheap]; simp
   ·rw [hheap, Array.getElem?_append_left (by simpa using hk), Array.getElem?_modify, if_neg (fun e => hne e.symm)]
theorem row_holds {α : Type} [Inhabited α] (enc : α → Value) {w : World} {T : TypeId} {blk : Nat} (ds : List α) (h : Row w blk T (ds.map enc)) : Holds enc w blk 0 ds.toArray := fun j hj => by
 have hj' : j < ds.length := by simpa using hj
 rw [Nat.zero_add]
 refine ⟨?_, h.frozen j none⟩
 rw [getElem!_pos ds.toArray j hj]
 exact h.cell (by rw [List.getElem?_map, List.getElem?_eq_getElem hj']; simp)
theorem sortI_any (F : Nat → Prop) (w : World) (o : Option Addr) (n c : Nat) (l : List Nat) (hS : Sl F w 3 1 o n c (ints l)) (hb : n ≤ 1000000) :
  Calls Tryz.prog 199 #[.slice o n c] w fun e w' => e = .returned (.tuple #[]) ∧ ∃ l' : List Nat, l'.Perm l ∧ l'.Pairwise (· ≤ ·) ∧ Sl F w' 3 1 o n c (ints l') ∧ Keep (Bl o) w w' := by
 have hln : l.length = n := by have := hS.len; simpa using this
 rcases hS.cases with ⟨rfl, rfl, rfl, h0⟩ | ⟨g, rfl, hF, hnc, hcm, hrow, _⟩
 ·have hl0 : l = [] := List.length_eq_zero_iff.1 hln
  subst hl0
  refine Calls.mono (AnyM.slices_Sort_int_none Tryz.sortA none 0 w) ?_
  rintro e w' ⟨rfl, rfl⟩
  exact ⟨rfl, [], .nil, .nil, hS, Keep.refl _ _⟩
 ·have hz : l.map (fun x => ((x : Nat) : Int)) = (l.map (fun x => ((x : Nat) : Int))) := rfl
  have hi : ints l = (l.map (fun x => ((x : Nat) : Int))).map (Value.int .i64) := by unfold ints; rw [List.map_map]; rfl
  rw [hi] at hrow
  have h := AnyM.slices_Sort_int Tryz.sortA g 0 c (l.map (fun x => ((x : Nat) : Int))) w (row_holds (Value.int .i64) _ hrow) hrow.lt (by rw [List.length_map]; omega)
  rw [List.length_map, hln] at h
  refine Calls.mono h ?_
  rintro e w' ⟨rfl, m, os, rfl⟩
  obtain ⟨l', hl'⟩ : ∃ l' : List Nat, l' = l.mergeSort (fun x y => decide (x ≤ y)) := ⟨_, rfl⟩
  have hp : l'.Perm l := by rw [hl']; exact List.mergeSort_perm _ _
  have hsp : ((l.map (fun x => ((x : Nat) : Int))).mergeSort (fun x y => decide (x ≤ y))).Perm (l.map (fun x => ((x : Nat) : Int))) := List.mergeSort_perm _ _
  have hss : ((l.map (fun x => ((x : Nat) : Int))).mergeSort (fun x y => decide (x ≤ y))).Pairwise (fun x y => x ≤ y) :=
   (List.pairwise_mergeSort (le := fun (x y : Int) => decide (x ≤ y)) (fun a b c h1 h2 => by simp at h1 h2 ⊢; omega) (fun a b => by simp; omega) _).imp fun h => by simpa using h
  have hs : l'.Pairwise (· ≤ ·) := by
   rw [hl']
   exact (List.pairwise_mergeSort (le := fun (x y : Nat) => decide (x ≤ y)) (fun a b c h1 h2 => by simp at h1 h2 ⊢; omega) (fun a b => by simp; omega) _).imp fun h => by simpa using h
  have he : (l.map (fun x => ((x : Nat) : Int))).mergeSort (fun x y => decide (x ≤ y)) = l'.map (fun x => ((x : Nat) : Int)) :=
   List.Perm.eq_of_pairwise (fun a b _ _ h1 h2 => by omega) hss (by rw [List.pairwise_map]; exact hs.imp fun h => by omega) (hsp.trans (hp.symm.map _))
  rw [he]
  have hr := row_put (m := m) (Value.int .i64) hS (l'.map (fun x => ((x : Nat) : Int))) (by rw [List.length_map, hp.length_eq, hln]) os
  rw [List.map_map] at hr
  exact ⟨rfl, l', hp, hs, hr.1, hr.2.mono (fun k _ e => ⟨_, rfl, e.symm⟩)⟩
theorem mem_compactUpTo (d : Array Int) (m : Nat) (hm : m ≤ d.size) (x : Int) : x ∈ Lib.compactUpTo d m ↔ ∃ j, j < m ∧ d[j]! = x := by
 induction m with
 | zero => simp [Lib.compactUpTo]
 | succ m ih =>
  rw [Lib.compactUpTo_succ, List.mem_append, ih (by omega)]
  constructor
  ·rintro (⟨j, hj, rfl⟩ | h)
   ·exact ⟨j, by omega, rfl⟩
   ·split at h
    ·exact ⟨m, by omega, (List.mem_singleton.1 h).symm⟩
    ·cases h
  ·rintro ⟨j, hj, rfl⟩
   by_cases e : j = m
   ·subst e
    by_cases hk : Lib.keeps d j = true
    ·right; rw [if_pos hk]; exact List.mem_singleton.2 rfl
    ·left
     have hk' : ¬ (j = 0 ∨ d[j]! ≠ d[j - 1]!) := by unfold Lib.keeps at hk; simpa using hk
     have h0 : j ≠ 0 := fun e => hk' (.inl e)
     have h1 : d[j]! = d[j - 1]! := Classical.byContradiction fun e => hk' (.inr e)
     exact ⟨j - 1, by omega, h1.symm⟩
   ·exact .inl ⟨j, by omega, rfl⟩
theorem compact_rising {zs : List Int} (h : zs.Pairwise (· ≤ ·)) : (Lib.compact zs).Pairwise (· < ·) := by
 have hle : ∀ i j, i ≤ j → j < zs.length → zs.toArray[i]! ≤ zs.toArray[j]! := fun i j hij hj => by
  rw [getElem!_pos zs.toArray i (by simp; omega), getElem!_pos zs.toArray j (by simpa using hj)]
  simp only [List.getElem_toArray]
  rcases Nat.lt_or_eq_of_le hij with g | g
  ·exact (List.pairwise_iff_getElem.1 h) i j (by omega) hj g
  ·subst g; exact Int.le_refl _
 unfold Lib.compact Lib.compactUpTo
 rw [List.pairwise_map]
 refine (List.pairwise_lt_range.sublist List.filter_sublist : ((List.range zs.length).filter (Lib.keeps zs.toArray)).Pairwise (· < ·)).imp_of_mem fun {a b} ha hb hab => ?_
 have hb1 := List.mem_filter.1 hb
 have hbl := List.mem_range.1 hb1.1
 have hk : b = 0 ∨ zs.toArray[b]! ≠ zs.toArray[b - 1]! := by have := hb1.2; unfold Lib.keeps at this; simpa using this
 have h1 := hle a (b - 1) (by omega) (by omega)
 have h2 := hle (b - 1) b (by omega) hbl
 rcases hk with e | e
 ·omega
 ·omega
theorem mem_compact (zs : List Int) (x : Int) : x ∈ Lib.compact zs ↔ x ∈ zs := by
 unfold Lib.compact
 rw [mem_compactUpTo _ _ (by simp)]
 constructor
 ·rintro ⟨j, hj, rfl⟩
  rw [getElem!_pos zs.toArray j (by simpa using hj)]
  simp
 ·intro hx
  obtain ⟨j, hj, rfl⟩ := List.mem_iff_getElem.1 hx
  exact ⟨j, hj, by rw [getElem!_pos zs.toArray j (by simpa using hj)]; simp⟩
theorem compactI_any (F : Nat → Prop) (w : World) (o : Option Addr) (n c : Nat) (l : List Nat) (hS : Sl F w 3 1 o n c (ints l)) (hs : l.Pairwise (· ≤ ·)) (hb : n ≤ 1000000) :
  Calls Tryz.prog 202 #[.slice o n c] w fun e w' => ∃ l' : List Nat, e = .returned (.slice o l'.length c) ∧ l'.Pairwise (· < ·) ∧ (∀ x, x ∈ l' ↔ x ∈ l) ∧ Sl F w' 3 1 o l'.length c (ints l') ∧ Keep (Bl o) w w' := by
 have hln : l.length = n := by have := hS.len; simpa using this
 by_cases h0 : n = 0
 ·subst h0
  have hl0 : l = [] := List.length_eq_zero_iff.1 hln
  subst hl0
  refine Calls.mono (calls_of_every_depth fun D => AnyS.slices_Compact_int_empty_in Tryz.compactC D o c w) ?_
  rintro e w' ⟨rfl, rfl⟩
  exact ⟨[], rfl, .nil, fun _ => Iff.rfl, hS, Keep.refl _ _⟩
 ·obtain ⟨g, rfl, hF, hnc, hrow⟩ := hS.pos (by omega)
  have hi : ints l = (l.map (fun x => ((x : Nat) : Int))).map (Value.int .i64) := by unfold ints; rw [List.map_map]; rfl
  rw [hi] at hrow
  obtain ⟨zs, hzs⟩ : ∃ zs, l.map (fun x => ((x : Nat) : Int)) = zs := ⟨_, rfl⟩
  rw [hzs] at hrow
  have hzl : zs.length = n := by rw [← hzs, List.length_map, hln]
  have h := calls_of_every_depth fun D => AnyS.slices_Compact_int_in Tryz.compactC D g 0 c zs w (row_holds (Value.int .i64) _ hrow) (by omega) (by omega)
  rw [hzl] at h
  refine Calls.mono h ?_
  rintro e w' ⟨rfl, q, rfl⟩
  have hcn : (Lib.compact zs).length ≤ n := by
   unfold Lib.compact Lib.compactUpTo
   rw [List.length_map]
   refine Nat.le_trans (List.length_filter_le _ _) ?_
   rw [List.length_range, hzl]; exact Nat.le_refl _
  have hcast : ∀ x, x ∈ Lib.compact zs → ((x.toNat : Nat) : Int) = x := fun x hx => by
   have := (mem_compact zs x).1 hx
   rw [← hzs] at this
   obtain ⟨y, _, rfl⟩ := List.mem_map.1 this
   omega
  have he : Lib.compact zs = ((Lib.compact zs).map Int.toNat).map (fun x => ((x : Nat) : Int)) := by
   rw [List.map_map]
   conv => lhs; rw [← List.map_id (Lib.compact zs)]
   exact List.map_congr_left fun x hx => (hcast x hx).symm
  have hr := row_put (m := q) (Value.int .i64) hS (Lib.compact zs ++ List.replicate (n - (Lib.compact zs).length) 0) (by rw [List.length_append, List.length_replicate]; omega) #[]
  rw [grow_empty] at hr
  refine ⟨(Lib.compact zs).map Int.toNat, by rw [List.length_map], ?_, fun x => ?_, ?_, hr.2.mono (fun k _ e => ⟨_, rfl, e.symm⟩)⟩
  ·have h1 : (Lib.compact zs).Pairwise (· < ·) := compact_rising (by rw [← hzs, List.pairwise_map]; exact hs.imp fun h => by omega)
   rw [he, List.pairwise_map] at h1
   exact h1.imp fun h => by omega
  ·rw [List.mem_map]
   constructor
   ·rintro ⟨y, hy, rfl⟩
    have := (mem_compact zs y).1 hy
    rw [← hzs] at this
    obtain ⟨z, hz, rfl⟩ := List.mem_map.1 this
    simpa using hz
   ·intro hx
    exact ⟨(x : Int), (mem_compact zs _).2 (by rw [← hzs]; exact List.mem_map.2 ⟨x, hx, rfl⟩), by simp⟩
  ·have h2 := hr.1.take (m := (Lib.compact zs).length) hcn
   rw [List.map_append, List.take_append_of_le_length (by rw [List.length_map]; exact Nat.le_refl _), List.take_of_length_le (by rw [List.length_map]; exact Nat.le_refl _)] at h2
   rw [List.length_map]
   have h3 : ints ((Lib.compact zs).map Int.toNat) = (Lib.compact zs).map (Value.int .i64) := by
    unfold ints
    rw [List.map_map]
    exact List.map_congr_left fun x hx => by
     show Value.int .i64 ((x.toNat : Nat) : Int) = Value.int .i64 x
     rw [hcast x hx]
   rw [h3]; exact h2
end Go.Proofs.YtfglkgkihafcpaaGreatDoor
namespace Go.Proofs.YtfglkgkihafcpaaGreatDoor
open Go.RowKit Pl Go.Maps Go.Sort Go.Shelf
set_option maxRecDepth 100000 in
theorem bcmp_any (W : World) (a b n n' c c' x y : Nat) (hn : 0 < n) (hn' : 0 < n') (ha : W.cell? ⟨a, 0, none⟩ = some (.int .i64 (x : Nat))) (hb : W.cell? ⟨b, 0, none⟩ = some (.int .i64 (y : Nat))) (hx : x < 4611686018427387904) (hy : y < 4611686018427387904) :
  Calls Tryz.prog 201 #[.slice (some ⟨a, 0, none⟩) n c, .slice (some ⟨b, 0, none⟩) n' c'] W fun e w' => e = .returned (.int .i64 ((x : Int) - (y : Int))) ∧ ∃ q, w' = W.drewN q := by
 have wr1 : IntKind.i64.wrap ((x : Int) - (y : Int)) = (x : Int) - (y : Int) := IntWalk.i64_in _ (by omega)
 go_enter Tryz.func201, Tryz.ntmps201
 go_wp2_with fail
 go_quiet (fail)
 go_wp2_with fail
 go_ret
 exact ⟨rfl, nq, rfl⟩
theorem Mat.order {F : Nat → Prop} {w w' : World} {T e : TypeId} {blk n c : Nat} {rows rows' : List Rw} {ll ll' : List (List Nat)} (h : Mat F w T e (some ⟨blk, 0, none⟩) n c rows ll) (ds : List (Fin n)) (hnd : ds.Nodup) (hlen : ds.length = n)
  (hr : rows' = ds.map (fun i => rows.getD i.1 ⟨none, 0, 0⟩)) (hl : ll' = ds.map (fun i => ll.getD i.1 [])) (hout : Sl F w' T 1 (some ⟨blk, 0, none⟩) n c (rows'.map Rw.val)) (hk : Keep (fun k => k = blk) w w') : Mat F w' T e (some ⟨blk, 0, none⟩) n c rows' ll' := by
 have hn := h.n_eq
 have hrl := h.len
 have get : ∀ (i : Nat) r, rows'[i]? = some r → ∃ j : Fin n, ds[i]? = some j ∧ rows[j.1]? = some r := fun i r hi => by
  rw [hr, List.getElem?_map] at hi
  cases hd : ds[i]? with
  | none => rw [hd] at hi; cases hi
  | some j =>
   rw [hd] at hi
   refine ⟨j, rfl, ?_⟩
   have hj : j.1 < rows.length := by have := j.2; omega
   simp only [Option.map_some, Option.some.injEq, List.getD_eq_getElem?_getD, List.getElem?_eq_getElem hj, Option.getD_some] at hi
   rw [List.getElem?_eq_getElem hj, hi]
 have nb : ∀ (i : Nat) r a, rows[i]? = some r → r.o = some a → a.block ≠ blk := fun i r a h1 h2 e => h.ne i r a h1 h2 ⟨_, rfl, e.symm⟩
 refine ⟨hout, by rw [hr, hl, List.length_map, List.length_map], fun i r l h1 h2 => ?_, fun i r a h1 h2 => ?_, fun i j r s a b hij h1 h2 ha hb => ?_⟩
 ·obtain ⟨j, hj, hrj⟩ := get i r h1
  have hjl : j.1 < ll.length := by have := j.2; omega
  rw [hl, List.getElem?_map, hj] at h2
  simp only [Option.map_some, Option.some.injEq, List.getD_eq_getElem?_getD, List.getElem?_eq_getElem hjl, Option.getD_some] at h2
  have hs := h.row j.1 r l hrj (by rw [List.getElem?_eq_getElem hjl, h2])
  exact hs.of_block fun a ha => hk.block _ (h.rowLt hrj ha) (nb _ _ _ hrj ha)
 ·obtain ⟨j, hj, hrj⟩ := get i r h1
  exact h.ne j.1 r a hrj h2
 ·obtain ⟨i', hi', hri⟩ := get i r h1
  obtain ⟨j', hj', hrj⟩ := get j s h2
  have hne : i'.1 ≠ j'.1 := fun e => by
   have e2 : i' = j' := Fin.ext e
   subst e2
   have hil := (List.getElem?_eq_some_iff.1 hi').1
   exact hij ((List.getElem?_inj hil hnd).1 (hi'.trans hj'.symm))
  exact h.nn i'.1 j'.1 r s a b hne hri hrj ha hb
theorem sortF_any (F : Nat → Prop) (w : World) (T e : TypeId) (o : Option Addr) (m c : Nat) (rows : List Rw) (ps : List (List Nat)) (hM : Mat F w T e o m c rows ps) (hne : ∀ p, p ∈ ps → p ≠ []) (hsm : ∀ p, p ∈ ps → p.headD 0 < 4611686018427387904)
  (hdis : ps.Pairwise (fun p q => p.headD 0 ≠ q.headD 0)) (hb : m ≤ 1000000) :
  Calls Tryz.prog 200 #[.slice o m c, .func (.func 201) #[] #[]] w fun e' w' => e' = .returned (.tuple #[]) ∧ ∃ rows' ps', ps'.Perm ps ∧ ps'.Pairwise (fun p q => p.headD 0 ≤ q.headD 0) ∧ Mat F w' T e o m c rows' ps' ∧ Keep (Bl o) w w' := by
 have hn := hM.n_eq
 have hrl := hM.len
 by_cases h0 : m = 0
 ·subst h0
  have hp0 : ps = [] := List.length_eq_zero_iff.1 hn.symm
  subst hp0
  refine Calls.mono (AnyF.slices_SortFunc_none { Tryz.sortC with } o c _ w) ?_
  rintro e' w' ⟨rfl, rfl⟩
  exact ⟨rfl, rows, [], .nil, .nil, hM, Keep.refl _ _⟩
 ·obtain ⟨blk, rfl, hF, hmc, hrow⟩ := hM.out.pos (by omega)
  haveI : Inhabited (Fin m) := ⟨⟨0, by omega⟩⟩
  obtain ⟨enc, henc⟩ : ∃ enc : Fin m → Value, enc = fun i => (rows.getD i.1 ⟨none, 0, 0⟩).val := ⟨_, rfl⟩
  obtain ⟨hd, hhd⟩ : ∃ hd : Fin m → Nat, hd = fun i => (ps.getD i.1 []).headD 0 := ⟨_, rfl⟩
  obtain ⟨cf, hcf⟩ : ∃ cf : Fin m → Fin m → Int, cf = fun i j => (hd i : Int) - (hd j : Int) := ⟨_, rfl⟩
  have hget : ∀ i : Fin m, ∃ r p, rows[i.1]? = some r ∧ ps[i.1]? = some p ∧ enc i = r.val ∧ hd i = p.headD 0 := fun i => by
   have h1 : i.1 < rows.length := by have := i.2; omega
   have h2 : i.1 < ps.length := by have := i.2; omega
   refine ⟨_, _, List.getElem?_eq_getElem h1, List.getElem?_eq_getElem h2, ?_, ?_⟩
   ·rw [henc]; simp only [List.getD_eq_getElem?_getD, List.getElem?_eq_getElem h1, Option.getD_some]
   ·rw [hhd]; simp only [List.getD_eq_getElem?_getD, List.getElem?_eq_getElem h2, Option.getD_some]
  have hmap : (List.finRange m).map enc = rows.map Rw.val := by
   apply List.ext_getElem?
   intro i
   rw [List.getElem?_map, List.getElem?_map]
   by_cases hi : i < m
   ·have h1 : i < rows.length := by omega
    rw [List.getElem?_eq_getElem (by simpa using hi), List.getElem?_eq_getElem h1, henc]
    simp [List.getD_eq_getElem?_getD, List.getElem?_eq_getElem h1]
   ·rw [List.getElem?_eq_none (by simp; omega), List.getElem?_eq_none (by omega)]; rfl
  have hone : OneCell enc := fun i => by obtain ⟨r, p, _, _, h3, _⟩ := hget i; rw [h3]; rfl
  have hswo : SWO (ltOf cf) := ⟨fun x => by unfold ltOf; rw [hcf]; simp, fun x y z h1 h2 => by unfold ltOf at *; rw [hcf] at *; simp at *; omega, fun x y z h1 h2 => by unfold ltOf at *; rw [hcf] at *; simp at *; omega⟩
  have hinj : ∀ x y : Fin m, hd x = hd y → x = y := fun x y hxy => by
   obtain ⟨_, p, _, hp, _, hp2⟩ := hget x
   obtain ⟨_, q, _, hq, _, hq2⟩ := hget y
   rw [hp2, hq2] at hxy
   rcases Nat.lt_trichotomy x.1 y.1 with g | g | g
   ·have h1 := (List.getElem?_eq_some_iff.1 hp)
    have h2 := (List.getElem?_eq_some_iff.1 hq)
    exact absurd (by rw [h1.2, h2.2]; exact hxy) ((List.pairwise_iff_getElem.1 hdis) x.1 y.1 h1.1 h2.1 g)
   ·exact Fin.ext g
   ·have h1 := (List.getElem?_eq_some_iff.1 hp)
    have h2 := (List.getElem?_eq_some_iff.1 hq)
    exact absurd (by rw [h1.2, h2.2]; exact hxy.symm) ((List.pairwise_iff_getElem.1 hdis) y.1 x.1 h2.1 h1.1 g)
  have htot : ∀ x y, (ltOf cf) x y = false → (ltOf cf) y x = false → x = y := fun x y h1 h2 => hinj x y (by unfold ltOf at *; rw [hcf] at *; simp at *; omega)
  have hH : Holds enc w blk 0 (List.finRange m).toArray := row_holds enc _ (by rw [hmap]; exact hrow)
  have hlay : CmpLays1 Tryz.prog 201 #[] enc cf blk 0 (List.finRange m).toArray.size w := fun k os dk hs x y => by
   obtain ⟨r, p, hr, hp, e1, e2⟩ := hget x
   obtain ⟨r', p', hr', hp', e1', e2'⟩ := hget y
   have cellOf : ∀ (i : Nat) r p, rows[i]? = some r → ps[i]? = some p → ∃ g, r.o = some ⟨g, 0, none⟩ ∧ 0 < r.n ∧ (sortWorld enc w blk 0 k dk os).cell? ⟨g, 0, none⟩ = some (.int .i64 (p.headD 0 : Nat)) ∧ p.headD 0 < 4611686018427387904 := fun i r p hr hp => by
    have hs := hM.row i r p hr hp
    have hpn := hne p (List.mem_of_getElem? hp)
    have hlen : p.length = r.n := by have := hs.len; simpa using this
    obtain ⟨a, l, rfl⟩ : ∃ a l, p = a :: l := by
     cases p with
     | nil => exact absurd rfl hpn
     | cons a l => exact ⟨a, l, rfl⟩
    obtain ⟨g, hg, _, _, hrw⟩ := hs.pos (by rw [← hlen]; simp)
    have hgne : g ≠ blk := fun e => hM.ne i r ⟨g, 0, none⟩ hr hg ⟨_, rfl, e.symm⟩
    refine ⟨g, hg, by rw [← hlen]; simp, ?_, hsm _ (List.mem_of_getElem? hp)⟩
    unfold sortWorld
    rw [cell?_grow _ _ _ (by show g < (w.heap.modify blk _).size; rw [Array.size_modify]; exact hrw.lt), cell?_putRow_other _ _ _ 0 dk _ (.inl hgne)]
    exact hrw.cell (ints_get (show (a :: l)[0]? = some a from rfl))
   obtain ⟨g, hg, hgn, hgc, hgs⟩ := cellOf _ _ _ hr hp
   obtain ⟨g', hg', hgn', hgc', hgs'⟩ := cellOf _ _ _ hr' hp'
   have h := bcmp_any (sortWorld enc w blk 0 k dk os) g g' r.n r'.n r.c r'.c (p.headD 0) (p'.headD 0) hgn hgn' hgc hgc' hgs hgs'
   rw [← hg, ← hg'] at h
   rw [e1, e1', hcf]
   simp only [e2, e2']
   refine Calls.mono (show Calls Tryz.prog 201 (#[r.val, r'.val] ++ #[]) _ _ from h) ?_
   rintro e3 w3 ⟨rfl, q, rfl⟩
   exact ⟨rfl, q, #[], by rw [grow_empty]⟩
  have h := Any.slices_SortFunc_total Tryz.sortC enc hone cf hswo 201 #[] blk 0 c (List.finRange m).toArray w (enters_of Tryz.func201 (by kernel_rfl) rfl) hlay hH hrow.lt (by simp; omega) htot
  have hsz : (List.finRange m).toArray.size = m := by simp
  rw [hsz] at h
  refine Calls.mono h ?_
  rintro e' w' ⟨rfl, k, os, rfl⟩
  obtain ⟨ds, hds⟩ : ∃ ds, (List.finRange m).mergeSort (fun x y => !(ltOf cf) y x) = ds := ⟨_, rfl⟩
  have hperm : ds.Perm (List.finRange m) := by rw [← hds]; exact List.mergeSort_perm _ _
  have hsort : ds.Pairwise (fun x y => hd x ≤ hd y) := by
   rw [← hds]
   refine (List.pairwise_mergeSort (le := fun x y => !(ltOf cf) y x) (fun a b c h1 h2 => ?_) (fun a b => ?_) (List.finRange m)).imp fun {a b} h => ?_
   ·unfold ltOf at *; rw [hcf] at *; simp at *; omega
   ·unfold ltOf; rw [hcf]; simp; omega
   ·unfold ltOf at h; rw [hcf] at h; simp at h; omega
  have hnd : ds.Nodup := hperm.nodup_iff.2 (List.nodup_finRange m)
  have hdl : ds.length = m := by rw [hperm.length_eq]; simp
  have hr := row_put (m := k) enc hM.out ds hdl os
  show _ ∧ _
  have harr : ((List.finRange m).toArray.toList.mergeSort fun x y => !(ltOf cf) y x) = ds := by rw [← hds]
  rw [harr]
  unfold sortWorld
  refine ⟨rfl, ds.map (fun i => rows.getD i.1 ⟨none, 0, 0⟩), ds.map (fun i => ps.getD i.1 []), ?_, ?_, hM.order ds hnd hdl rfl rfl ?_ hr.2, hr.2.mono (fun k _ e => ⟨_, rfl, e.symm⟩)⟩
  ·have h1 : (List.finRange m).map (fun i => ps.getD i.1 []) = ps := by
    apply List.ext_getElem?
    intro i
    rw [List.getElem?_map]
    by_cases hi : i < m
    ·have h1 : i < ps.length := by omega
     rw [List.getElem?_eq_getElem (by simpa using hi), List.getElem?_eq_getElem h1]
     simp [List.getD_eq_getElem?_getD, List.getElem?_eq_getElem h1]
    ·rw [List.getElem?_eq_none (by simp; omega), List.getElem?_eq_none (by omega)]; rfl
   have h2 := hperm.map (fun i => ps.getD i.1 [])
   rwa [h1] at h2
  ·rw [List.pairwise_map]
   refine hsort.imp fun {x y} h => ?_
   rw [hhd] at h; exact h
  ·rw [List.map_map]
   have e9 : ds.map (Rw.val ∘ fun i => rows.getD i.1 ⟨none, 0, 0⟩) = ds.map enc := by rw [henc]; rfl
   rw [e9]
   exact hr.1
end Go.Proofs.YtfglkgkihafcpaaGreatDoor
namespace Go.Proofs.YtfglkgkihafcpaaGreatDoor
open Go.RowKit Pl Go.Maps
theorem Mat.inPlace {F : Nat → Prop} {w w' : World} {T e : TypeId} {o : Option Addr} {n c i : Nat} {rows : List Rw} {ll : List (List Nat)} {r : Rw} {l l' : List Nat} (h : Mat F w T e o n c rows ll) (hr : rows[i]? = some r) (hl : ll[i]? = some l) (hp : l'.Perm l)
  (hS : Sl F w' e 1 r.o r.n r.c (ints l')) (hk : Keep (Bl r.o) w w') : Mat F w' T e o n c rows (ll.set i l') := by
 have hil := (List.getElem?_eq_some_iff.1 hl).1
 have nb : ∀ j, Bl o j → ¬ Bl r.o j := fun j ⟨a, ha, hj⟩ ⟨b, hb, hj2⟩ => h.ne i r b hr hb ⟨a, ha, by rw [hj, hj2]⟩
 have hout : Sl F w' T 1 o n c (rows.map Rw.val) := ⟨(h.out.of_block fun a ha => hk.block _ (h.out.lt ha) (nb _ ⟨a, ha, rfl⟩)).own, h.out.foot⟩
 refine ⟨hout, by rw [List.length_set]; exact h.len, fun j s m h1 h2 => ?_, h.ne, h.nn⟩
 by_cases e1 : j = i
 ·subst e1
  rw [hr] at h1; cases h1
  rw [List.getElem?_set_self hil] at h2
  cases h2; exact hS
 ·rw [List.getElem?_set_ne (fun e => e1 e.symm)] at h2
  refine (h.row j s m h1 h2).of_block fun a ha => hk.block _ (h.rowLt h1 ha) (fun ⟨b, hb, hj⟩ => h.nn j i s r a b e1 h1 hr ha hb hj.symm)
structure OfR (w1 wr : World) (base X Y ob lb gb n mb : Nat) (es : List E) (tag : Nat → Nat) (s : DS) (tagi : Nat → Nat) (so po co : Option Addr) (sc pc cc : Nat) (rows : List Rw) : Prop where
 dm : DM wr base X Y ob lb gb n (.map (some mb)) tagi s so po co sc pc cc rows
 same : ∀ k, k < w1.heap.size → tagi k = tag k
 keep : Keep (fun k => tag k < 7) w1 wr
 bd : wt s + 400 * unv n s ≤ 20000
structure SoR (w5 wr : World) (po : Option Addr) (m pc i : Nat) (tag : Nat → Nat) (rows : List Rw) (ps0 ps : List (List Nat)) : Prop where
 mat : Mat (fun k => tag k = 6) wr 63 3 po m pc rows ps
 len : ps.length = ps0.length
 perm : ∀ (j : Nat) (p q : List Nat), ps[j]? = some p → ps0[j]? = some q → p.Perm q
 sorted : ∀ (j : Nat) (p : List Nat), j < i → ps[j]? = some p → p.Pairwise (· ≤ ·)
 keep : Keep (fun k => tag k = 6) w5 wr
theorem SoR.next {w5 wr w' : World} {po : Option Addr} {m pc i : Nat} {tag : Nat → Nat} {rows : List Rw} {ps0 ps : List (List Nat)} (h : SoR w5 wr po m pc i tag rows ps0 ps) {r : Rw} {p p' : List Nat} (hr : rows[i]? = some r) (hp : ps[i]? = some p) (hpp : p'.Perm p) (hs : p'.Pairwise (· ≤ ·))
  (hS : Sl (fun k => tag k = 6) w' 3 1 r.o r.n r.c (ints p')) (hk : Keep (Bl r.o) wr w') : SoR w5 w' po m pc (i + 1) tag rows ps0 (ps.set i p') := by
 have hil := (List.getElem?_eq_some_iff.1 hp).1
 refine ⟨h.mat.inPlace hr hp hpp hS hk, by rw [List.length_set]; exact h.len, fun j q q0 h1 h2 => ?_, fun j q hj h1 => ?_, h.keep.trans' hk (fun _ _ e => e) (fun j _ ⟨a, ha, hb⟩ => by
  have h1 := (h.mat.row i r p hr hp).foot a ha
  rw [hb] at h1; exact h1)⟩
 ·by_cases e1 : j = i
  ·subst e1
   rw [List.getElem?_set_self hil] at h1
   cases h1
   exact hpp.trans (h.perm j p q0 hp h2)
  ·rw [List.getElem?_set_ne (fun e => e1 e.symm)] at h1
   exact h.perm j q q0 h1 h2
 ·by_cases e1 : j = i
  ·subst e1
   rw [List.getElem?_set_self hil] at h1
   cases h1
   exact hs
  ·rw [List.getElem?_set_ne (fun e => e1 e.symm)] at h1
   exact h.sorted j q (by omega) h1
theorem heads_ne {s : DS} {es : List E} {n : Nat} (h : DTop es s n) {ps : List (List Nat)} (hl : ps.length = s.ps.length) (hp : ∀ (j : Nat) (p q : List Nat), ps[j]? = some p → s.ps[j]? = some q → p.Perm q) :
  (∀ p, p ∈ ps → p ≠ []) ∧ ps.Pairwise (fun p q => p.headD 0 ≠ q.headD 0) ∧ (∀ p, p ∈ ps → ∃ e, e ∈ es ∧ e.id = p.headD 0) := by
 have hmem : ∀ (j : Nat) p, ps[j]? = some p → ∃ q, s.ps[j]? = some q ∧ p.Perm q ∧ p ≠ [] ∧ p.headD 0 ∈ q := fun j p hj => by
  have hjl := (List.getElem?_eq_some_iff.1 hj).1
  obtain ⟨q, hq⟩ : ∃ q, s.ps[j]? = some q := ⟨_, List.getElem?_eq_getElem (by omega)⟩
  have hpq := hp j p q hj hq
  have hne : p ≠ [] := fun e => by
   subst e
   exact (h.cls q (List.mem_of_getElem? hq)).1 (List.nil_perm.1 hpq)
  refine ⟨q, hq, hpq, hne, hpq.mem_iff.1 ?_⟩
  cases p with
  | nil => exact absurd rfl hne
  | cons a l => exact List.mem_cons_self
 have hdis : (s.ps.Pairwise (fun p q => ∀ x, x ∈ p → x ∉ q)) := by
  have := h.nodup
  unfold List.Nodup at this
  rw [List.pairwise_flatten] at this
  exact this.2.imp fun {p q} hpq x hx hx' => hpq x hx x hx' rfl
 refine ⟨fun p hp1 => ?_, ?_, fun p hp1 => ?_⟩
 ·obtain ⟨j, hj⟩ := List.mem_iff_getElem?.1 hp1
  obtain ⟨_, _, _, h1, _⟩ := hmem j p hj
  exact h1
 ·rw [List.pairwise_iff_getElem] at hdis ⊢
  intro i j hi hj hij
  obtain ⟨q, hq, _, _, h4⟩ := hmem i _ (List.getElem?_eq_getElem hi)
  obtain ⟨q', hq', _, _, h4'⟩ := hmem j _ (List.getElem?_eq_getElem hj)
  obtain ⟨_, rfl⟩ := List.getElem?_eq_some_iff.1 hq
  obtain ⟨_, rfl⟩ := List.getElem?_eq_some_iff.1 hq'
  intro e
  rw [e] at h4
  exact hdis i j (by omega) (by omega) hij _ h4 h4'
 ·obtain ⟨j, hj⟩ := List.mem_iff_getElem?.1 hp1
  obtain ⟨q, hq, _, _, h4⟩ := hmem j p hj
  obtain ⟨e, he, hid, _⟩ := (h.ids (p.headD 0)).1 (List.mem_flatten.2 ⟨q, List.mem_of_getElem? hq, h4⟩)
  exact ⟨e, he, hid⟩
theorem row_len {s : DS} {es : List E} {n : Nat} (h : DTop es s n) {q : List Nat} (hq : q ∈ s.ps) : q.length ≤ es.length := by
 have hnd : q.Nodup := by
  have := h.nodup
  unfold List.Nodup at this
  rw [List.pairwise_flatten] at this
  exact this.1 q hq
 have := len_le_of_mem hnd (k := es.map (·.id)) (fun i hi => by
  obtain ⟨e, he, hid, _⟩ := (h.ids i).1 (List.mem_flatten.2 ⟨q, hq, hi⟩)
  exact List.mem_map.2 ⟨e, he, hid⟩)
 rwa [List.length_map] at this
def OfMap (M : List (Nat × Value)) (ps : List (List Nat)) (k j : Nat) : Prop :=
 ∀ id, mget M id = if id ∈ ((ps.getD k []).take j) then some (.int .i64 (k : Nat)) else ((ps.take k).findIdx? (fun p => decide (id ∈ p))).map (fun i => Value.int .i64 (i : Nat))
theorem OfMap.next {M : List (Nat × Value)} {ps : List (List Nat)} {k j x : Nat} {p : List Nat} (h : OfMap M ps k j) (hp : ps[k]? = some p) (hx : p[j]? = some x) : OfMap (mset M x (.int .i64 (k : Nat))) ps k (j + 1) := fun id => by
 have e1 : ps.getD k [] = p := by rw [List.getD_eq_getElem?_getD, hp]; rfl
 have e2 : p.take (j + 1) = p.take j ++ [x] := by rw [List.take_add_one, hx]; rfl
 rw [mget_mset, h id, e1, e2]
 by_cases e : id = x
 ·subst e
  simp
 ·rw [if_neg e]
  have e3 : id ∈ p.take j ++ [x] ↔ id ∈ p.take j := by rw [List.mem_append, List.mem_singleton]; exact ⟨fun h => h.resolve_right e, .inl⟩
  by_cases hm : id ∈ p.take j
  ·rw [if_pos hm, if_pos (e3.2 hm)]
  ·rw [if_neg hm, if_neg (fun h => hm (e3.1 h))]
theorem OfMap.row {M : List (Nat × Value)} {ps : List (List Nat)} {k : Nat} {p : List Nat} (h : OfMap M ps k p.length) (hp : ps[k]? = some p) (hd : ∀ (i : Nat) q x, i < k → ps[i]? = some q → x ∈ q → x ∉ p) : OfMap M ps (k + 1) 0 := fun id => by
 have e1 : ps.getD k [] = p := by rw [List.getD_eq_getElem?_getD, hp]; rfl
 have e2 : ps.take (k + 1) = ps.take k ++ [p] := by rw [List.take_add_one, hp]; rfl
 have hkl := (List.getElem?_eq_some_iff.1 hp).1
 have hlen : (ps.take k).length = k := by rw [List.length_take]; omega
 rw [List.take_zero, if_neg (List.not_mem_nil), h id, e1, List.take_length, e2]
 by_cases hi : id ∈ p
 ·rw [if_pos hi, List.findIdx?_append]
  have h0 : (ps.take k).findIdx? (fun q => decide (id ∈ q)) = none := by
   rw [List.findIdx?_eq_none_iff]
   intro q hq
   obtain ⟨i, hi2⟩ := List.mem_iff_getElem?.1 hq
   have hil := (List.getElem?_eq_some_iff.1 hi2).1
   rw [hlen] at hil
   rw [List.getElem?_take, if_pos hil] at hi2
   rw [decide_eq_false_iff_not]
   exact fun hm => hd i q id hil hi2 hm hi
  rw [h0]
  simp [hi, hlen]
 ·rw [if_neg hi, List.findIdx?_append]
  cases hf : (ps.take k).findIdx? (fun q => decide (id ∈ q)) with
  | none => simp [hi]
  | some i => simp
theorem OfMap.start (ps : List (List Nat)) : OfMap [] ps 0 0 := fun id => by simp [mget]
theorem blk_dis {es : List E} {ps : List (List Nat)} (h : BlkList es ps) {i k : Nat} {q p : List Nat} {x : Nat} (hik : i < k) (hq : ps[i]? = some q) (hp : ps[k]? = some p) (hx : x ∈ q) : x ∉ p := fun hx2 => by
 obtain ⟨e, he, rfl⟩ := (h.ids x).1 (List.mem_flatten.2 ⟨q, List.mem_of_getElem? hq, hx⟩)
 have hqp : q = p := rising_ext (h.rise q (List.mem_of_getElem? hq)) (h.rise p (List.mem_of_getElem? hp)) fun y => by
  constructor
  ·intro hy
   obtain ⟨f, hf, rfl⟩ := (h.ids y).1 (List.mem_flatten.2 ⟨q, List.mem_of_getElem? hq, hy⟩)
   exact (h.cls p (List.mem_of_getElem? hp) e f he hf hx2).2 ((h.cls q (List.mem_of_getElem? hq) e f he hf hx).1 hy)
  ·intro hy
   obtain ⟨f, hf, rfl⟩ := (h.ids y).1 (List.mem_flatten.2 ⟨p, List.mem_of_getElem? hp, hy⟩)
   exact (h.cls q (List.mem_of_getElem? hq) e f he hf hx).2 ((h.cls p (List.mem_of_getElem? hp) e f he hf hx2).1 hy)
 have h1 := List.getElem?_eq_some_iff.1 hq
 have h2 := List.getElem?_eq_some_iff.1 hp
 have := (List.pairwise_iff_getElem.1 h.heads) i k h1.1 h2.1 hik
 rw [h1.2, h2.2, hqp] at this
 omega
theorem sep_lt {es : List E} {n x : Nat} (ho : ∀ e, e ∈ es → e.a < n ∧ e.b < n) (h : Sep es x) : x < n := by
 apply Classical.byContradiction
 intro hx
 obtain ⟨a, b, _, _, hc, hs⟩ := h
 refine hs ?_
 have : less1 es x = es := List.filter_eq_self.2 fun e he => by
  have := ho e he
  simp only [decide_eq_true_eq]
  omega
 rw [this]; exact hc
theorem of_list {es : List E} {s : DS} {n m i : Nat} (ho : ∀ e, e ∈ es → e.a < n ∧ e.b < n) (h : DTop es s n) {w5 wr : World} {po : Option Addr} {pc : Nat} {tag : Nat → Nat} {rows : List Rw} {ps ps' : List (List Nat)} (hm : s.ps.length = i)
  (hS : SoR w5 wr po m pc i tag rows s.ps ps) (hp : ps'.Perm ps) (hh : ps'.Pairwise (fun p q => p.headD 0 ≤ q.headD 0)) : BlkList es ps' := by
 refine h.list ho (qs := ps) (fun p hp1 => ?_) hp hh hS.len (fun j p q h1 h2 => hS.perm j p q h1 h2)
 obtain ⟨j, hj⟩ := List.mem_iff_getElem?.1 (hp.mem_iff.1 hp1)
 have hjl := (List.getElem?_eq_some_iff.1 hj).1
 rw [hS.len, hm] at hjl
 have hs := hS.sorted j p hjl hj
 obtain ⟨q, hq⟩ : ∃ q, s.ps[j]? = some q := ⟨_, List.getElem?_eq_getElem (by omega)⟩
 have hnd : p.Nodup := by
  rw [(hS.perm j p q hj hq).nodup_iff]
  have := h.nodup
  unfold List.Nodup at this
  rw [List.pairwise_flatten] at this
  exact this.1 q (List.mem_of_getElem? hq)
 exact (hs.and hnd).imp fun ⟨a, b⟩ => Nat.lt_of_le_of_ne a b
end Go.Proofs.YtfglkgkihafcpaaGreatDoor

