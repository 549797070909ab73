/- Part 42 of the proof: B1. -/
import Derived.Test.YtfglkgkihafcpaaGreatDoorDp09
import Derived.Test.YtfglkgkihafcpaaGreatDoorDp11
import Derived.Test.YtfglkgkihafcpaaGreatDoorDp13
import Derived.Deep.DeepCutAuto
set_option linter.unusedVariables false
set_option linter.unusedSimpArgs false
namespace Go.Proofs.YtfglkgkihafcpaaGreatDoor
open Go.RowKit Pl Go.Maps
def acell (ar : List (Nat × Nat)) (u : Nat → Bool) (k : Nat) : List Value := [.int .i64 (afr (frL ar) (toL ar) k : Nat), .int .i64 (ato (frL ar) (toL ar) k : Nat), .bool (ause u k), .int .i64 (bk k : Nat)]
def acs (ar : List (Nat × Nat)) (u : Nat → Bool) : List Value := (List.range (2 * ar.length)).flatMap (acell ar u)
theorem flat4_length {α : Type} (l : List α) (f : α → List Value) (h : ∀ x, (f x).length = 4) : (l.flatMap f).length = l.length * 4 := by
 induction l with
 | nil => rfl
 | cons x l ih => rw [List.flatMap_cons, List.length_append, ih, h, List.length_cons]; omega
theorem flat4_get {α : Type} (l : List α) (f : α → List Value) (h : ∀ x, (f x).length = 4) {i j : Nat} {x : α} {v : Value} (hi : l[i]? = some x) (hj : (f x)[j]? = some v) : (l.flatMap f)[i * 4 + j]? = some v := by
 have hj4 : j < 4 := by have := (List.getElem?_eq_some_iff.1 hj).1; rw [h] at this; exact this
 induction l generalizing i with
 | nil => simp at hi
 | cons y l ih =>
  rw [List.flatMap_cons]
  cases i with
  | zero =>
   simp at hi; subst hi
   rw [List.getElem?_append_left (by rw [h]; omega)]
   rw [show 0 * 4 + j = j by omega]; exact hj
  | succ i =>
   simp at hi
   rw [List.getElem?_append_right (by rw [h]; omega), h, show (i + 1) * 4 + j - 4 = i * 4 + j by omega]
   exact ih hi
theorem acs_length (ar : List (Nat × Nat)) (u : Nat → Bool) : (acs ar u).length = (2 * ar.length) * 4 := by
 unfold acs; rw [flat4_length _ _ (fun _ => rfl), List.length_range]
theorem acs_get {ar : List (Nat × Nat)} {u : Nat → Bool} {k j : Nat} {v : Value} (hk : k < 2 * ar.length) (hj : (acell ar u k)[j]? = some v) : (acs ar u)[k * 4 + j]? = some v :=
 flat4_get _ _ (fun _ => rfl) (by rw [List.getElem?_range hk]) hj
theorem frL_snoc {ar : List (Nat × Nat)} {e : Nat × Nat} {i : Nat} (hi : i < ar.length) : frL (ar ++ [e]) i = frL ar i ∧ toL (ar ++ [e]) i = toL ar i := by
 unfold frL toL; rw [List.getElem?_append_left hi]; exact ⟨rfl, rfl⟩
theorem frL_last (ar : List (Nat × Nat)) (e : Nat × Nat) : frL (ar ++ [e]) ar.length = e.1 ∧ toL (ar ++ [e]) ar.length = e.2 := by
 simp [frL, toL]
theorem acs_snoc (ar : List (Nat × Nat)) (u : Nat → Bool) (e : Nat × Nat) (hu : u ar.length = false) :
  acs (ar ++ [e]) u = acs ar u ++ [.int .i64 (e.1 : Nat), .int .i64 (e.2 : Nat), .bool false, .int .i64 (2 * ar.length + 1 : Nat), .int .i64 (e.2 : Nat), .int .i64 (e.1 : Nat), .bool true, .int .i64 (2 * ar.length : Nat)] := by
 unfold acs
 rw [show 2 * (ar ++ [e]).length = 2 * ar.length + 1 + 1 by simp; omega, List.range_succ, List.range_succ, List.flatMap_append, List.flatMap_append]
 have old : ∀ k, k ∈ List.range (2 * ar.length) → acell (ar ++ [e]) u k = acell ar u k := fun k hk => by
  have hk' := List.mem_range.1 hk
  obtain ⟨h1, h2⟩ := frL_snoc (e := e) (show k / 2 < ar.length by omega)
  unfold acell afr ato
  rw [h1, h2]
 have e1 : (List.range (2 * ar.length)).flatMap (acell (ar ++ [e]) u) = (List.range (2 * ar.length)).flatMap (acell ar u) := by
  rw [List.flatMap_def, List.flatMap_def]; congr 1; exact List.map_congr_left old
 rw [e1, List.append_assoc]
 congr 1
 have d1 : (2 * ar.length) / 2 = ar.length := by omega
 have d2 : (2 * ar.length + 1) / 2 = ar.length := by omega
 have d3 : (2 * ar.length) % 2 = 0 := by omega
 have d4 : ¬ (2 * ar.length + 1) % 2 = 0 := by omega
 obtain ⟨l1, l2⟩ := frL_last ar e
 simp [acell, afr, ato, ause, bk, d1, d2, d3, d4, l1, l2, hu]
structure NetMem (F : Nat → Prop) (w : World) (b : Nat) (ar : List (Nat × Nat)) (u : Nat → Bool) (g : Nat → List Nat) (oa : Option Addr) (ca am : Nat) (sl : Nat → Rw) (mA : List (Nat × Value)) : Prop where
 head : Row w b 256 [.slice oa (2 * ar.length) ca, .map (some am)]
 arcs : Sl F w 280 4 oa (2 * ar.length) ca (acs ar u)
 at_ : MapAt encN DN w am mA
 look : ∀ p, (mget mA p).getD (.slice none 0 0) = .slice (sl p).o (g p).length (sl p).c
 rows : ∀ p, Sl F w 3 1 (sl p).o (g p).length (sl p).c (ints (g p))
 fb : F b ∧ F am ∧ b ≠ am
 d1 : ∀ a, oa = some a → a.block ≠ b ∧ a.block ≠ am
 d2 : ∀ p a, (sl p).o = some a → a.block ≠ b ∧ a.block ≠ am ∧ ¬ Bl oa a.block
 d3 : ∀ p q a, p ≠ q → (sl p).o = some a → ¬ Bl (sl q).o a.block
namespace NetMem
variable {F : Nat → Prop} {w : World} {b : Nat} {ar : List (Nat × Nat)} {u : Nat → Bool} {g : Nat → List Nat} {oa : Option Addr} {ca am : Nat} {sl : Nat → Rw} {mA : List (Nat × Value)}
theorem keep {G : Nat → Prop} {w' : World} (h : NetMem F w b ar u g oa ca am sl mA) (k : Keep G w w') (d : ∀ k, F k → ¬ G k) : NetMem F w' b ar u g oa ca am sl mA :=
 ⟨h.head.keep k (d b h.fb.1), h.arcs.keep k d, h.at_.keep k (d am h.fb.2.1), h.look, fun p => (h.rows p).keep k d, h.fb, h.d1, h.d2, h.d3⟩
theorem mono {G : Nat → Prop} (h : NetMem F w b ar u g oa ca am sl mA) (hG : ∀ k, F k → G k) : NetMem G w b ar u g oa ca am sl mA :=
 ⟨h.head, h.arcs.mono hG, h.at_, h.look, fun p => (h.rows p).mono hG, ⟨hG _ h.fb.1, hG _ h.fb.2.1, h.fb.2.2⟩, h.d1, h.d2, h.d3⟩
theorem tight (h : NetMem F w b ar u g oa ca am sl mA) : NetMem (fun k => F k ∧ k < w.heap.size) w b ar u g oa ca am sl mA :=
 ⟨h.head, h.arcs.tight, h.at_, h.look, fun p => (h.rows p).tight, ⟨⟨h.fb.1, h.head.lt⟩, ⟨h.fb.2.1, h.at_.lt⟩, h.fb.2.2⟩, h.d1, h.d2, h.d3⟩
theorem zero_ints (w : World) : (zeroValue 63).run Tryz.prog w = .ok (.slice none 0 0) w := by kernel_rfl
theorem get (h : NetMem F w b ar u g oa ca am sl mA) {p : Nat} (hp : DN p) :
  (Instr.lookup 253 (.map (some am)) (.int .i64 p) false).run Tryz.prog w = .ok (.slice (sl p).o (g p).length (sl p).c) w := by
 have hl := h.at_.look (encN_enc Tryz.underlying3) Tryz.underlying253 (zero_ints w) hp false
 rw [h.look p] at hl
 exact hl
theorem push (h : NetMem F w b ar u g oa ca am sl mA) {p x : Nat} (hp : DN p) (hl : (g p).length + 1 ≤ 1000000) :
  ∃ go c' w1 w2, (Builtin.append_ #[63, 63] 63 #[.slice (sl p).o (g p).length (sl p).c, .slice (some ⟨w.heap.size, 0, none⟩) 1 1]).run Tryz.prog (w.alloc (.cells #[.int .i64 x] 3)) = .ok (.slice (some ⟨go, 0, none⟩) ((g p).length + 1) c') w1 ∧
   (Instr.mapUpdate 253 (.map (some am)) (.int .i64 p) (.slice (some ⟨go, 0, none⟩) ((g p).length + 1) c')).run Tryz.prog w1 = .ok () w2 ∧ w1.cell? ⟨b, 1, none⟩ = some (.map (some am)) ∧
   (∃ sl' mA', NetMem (fun k => F k ∨ w.heap.size ≤ k) w2 b ar u (upd g p (g p ++ [x])) oa ca am sl' mA') ∧ Keep F w w2 := by
 obtain ⟨go, c', w1, h1, h2, h3, h4⟩ := run_app1 (P := Tryz.prog) 63 63 3 Tryz.underlying63 elem_int rfl (h.rows p) (.int .i64 x) rfl hl (by omega)
 have hb1 : ¬ Bl (sl p).o b := by rintro ⟨a, ha, hb⟩; exact (h.d2 p a ha).1 hb
 have hb2 : ¬ Bl (sl p).o am := by rintro ⟨a, ha, hb⟩; exact (h.d2 p a ha).2.1 hb
 have hblF : ∀ k, Bl (sl p).o k → F k := by rintro k ⟨a, ha, rfl⟩; exact (h.rows p).foot a ha
 have hat := h.at_.keep h3 hb2
 obtain ⟨w2, q1, q2, q3⟩ := hat.store (encN_enc Tryz.underlying3) Tryz.underlying253 hp (.slice (some ⟨go, 0, none⟩) ((g p).length + 1) c')
 have hlb := h.head.lt
 have hla := h.at_.lt
 have hgo : go ≠ b ∧ go ≠ am ∧ ¬ Bl oa go ∧ ∀ q, q ≠ p → ¬ Bl (sl q).o go := by
  rcases h4 with h4 | h4
  ·refine ⟨(h.d2 p _ h4).1, (h.d2 p _ h4).2.1, (h.d2 p _ h4).2.2, fun q hq => h.d3 p q _ (Ne.symm hq) h4⟩
  ·refine ⟨by omega, by omega, ?_, fun q _ => ?_⟩
   ·rintro ⟨a, ha, hb⟩; have := h.arcs.lt ha; omega
   ·rintro ⟨a, ha, hb⟩; have := (h.rows q).lt ha; omega
 have hna : ∀ a, oa = some a → ¬ Bl (sl p).o a.block := by
  rintro a ha ⟨a', ha', hb⟩
  exact (h.d2 p a' ha').2.2 ⟨a, ha, hb.symm⟩
 refine ⟨go, c', w1, w2, h1, q1, (h.head.keep h3 hb1).cell (i := 1) rfl, ⟨fun q => if q = p then ⟨some ⟨go, 0, none⟩, (g p).length + 1, c'⟩ else sl q, mset mA p (.slice (some ⟨go, 0, none⟩) ((g p).length + 1) c'), ?_⟩, (h3.mono (fun k _ hk => hblF k hk)).trans' q3 (fun _ _ e => e) (fun k _ e => by have := h.fb.2.1; rwa [e])⟩
 refine ⟨(h.head.keep h3 hb1).keep q3 h.fb.2.2, ?_, q2, fun q => ?_, fun q => ?_, ⟨.inl h.fb.1, .inl h.fb.2.1, h.fb.2.2⟩, h.d1, fun q a ha => ?_, fun q r a hqr ha => ?_⟩
 ·have a1 : Sl F w1 280 4 oa (2 * ar.length) ca (acs ar u) := h.arcs.of_block fun a ha => h3.block _ (h.arcs.lt ha) (hna a ha)
  exact (a1.of_block fun a ha => q3.block _ (a1.lt ha) (h.d1 a ha).2).mono (fun _ e => .inl e)
 ·rw [mget_mset]
  by_cases e : q = p
  ·subst e; simp [upd]
  ·simp only [if_neg e]; rw [upd_ne _ _ _ _ e]; exact h.look q
 ·by_cases e : q = p
  ·subst e
   rw [upd_same, ints_append]
   simp only [if_true, List.length_append, List.length_cons, List.length_nil]
   have a1 := h2.mono (G := fun k => F k ∨ w.heap.size ≤ k) (fun k hk => hk.imp (fun e => e) (fun e => by omega))
   exact a1.of_block fun a ha => q3.block _ (a1.lt ha) (by cases ha; exact hgo.2.1)
  ·rw [upd_ne _ _ _ _ e]
   simp only [if_neg e]
   have a0 := h.rows q
   have a1 : Sl F w1 3 1 (sl q).o (g q).length (sl q).c (ints (g q)) := a0.of_block fun a ha => h3.block _ (a0.lt ha) (h.d3 q p a e ha)
   exact (a1.of_block fun a ha => q3.block _ (a1.lt ha) (h.d2 q a ha).2.1).mono (fun _ e => .inl e)
 ·by_cases e : q = p
  ·simp only [if_pos e] at ha; cases ha; exact ⟨hgo.1, hgo.2.1, hgo.2.2.1⟩
  ·simp only [if_neg e] at ha; exact h.d2 q a ha
 ·by_cases e : q = p
  ·have er : ¬ r = p := fun h => hqr (by rw [e, h])
   simp only [if_pos e] at ha; cases ha
   simp only [if_neg er]; exact hgo.2.2.2 r er
  ·simp only [if_neg e] at ha
   by_cases er : r = p
   ·simp only [if_pos er]
    rintro ⟨a', ha', hb⟩
    cases ha'
    exact hgo.2.2.2 q e ⟨a, ha, hb.symm⟩
   ·simp only [if_neg er]; exact h.d3 q r a hqr ha
end NetMem
end Go.Proofs.YtfglkgkihafcpaaGreatDoor
namespace Go.Proofs.YtfglkgkihafcpaaGreatDoor
open Go.RowKit Pl Go.Maps
def atL (ar : List (Nat × Nat)) (p : Nat) : List Nat := (List.range (2 * ar.length)).filter (fun k => decide (afr (frL ar) (toL ar) k = p))
theorem atL_len (ar : List (Nat × Nat)) (p : Nat) : (atL ar p).length ≤ 2 * ar.length := Nat.le_trans (List.length_filter_le _ _) (by simp)
theorem atL_snoc (ar : List (Nat × Nat)) (x y : Nat) : atL (ar ++ [(x, y)]) = upd (upd (atL ar) x (atL ar x ++ [2 * ar.length])) y (upd (atL ar) x (atL ar x ++ [2 * ar.length]) y ++ [2 * ar.length + 1]) := by
 funext p
 unfold atL
 rw [show 2 * (ar ++ [(x, y)]).length = 2 * ar.length + 1 + 1 by simp; omega, List.range_succ, List.range_succ, List.filter_append, List.filter_append]
 have old : (List.range (2 * ar.length)).filter (fun k => decide (afr (frL (ar ++ [(x, y)])) (toL (ar ++ [(x, y)])) k = p)) = (List.range (2 * ar.length)).filter (fun k => decide (afr (frL ar) (toL ar) k = p)) :=
  List.filter_congr fun k hk => by
   have hk' := List.mem_range.1 hk
   obtain ⟨h1, h2⟩ := frL_snoc (e := (x, y)) (show k / 2 < ar.length by omega)
   unfold afr; rw [h1, h2]
 have d1 : (2 * ar.length) / 2 = ar.length := by omega
 have d2 : (2 * ar.length + 1) / 2 = ar.length := by omega
 have d3 : (2 * ar.length) % 2 = 0 := by omega
 have d4 : ¬ (2 * ar.length + 1) % 2 = 0 := by omega
 obtain ⟨l1, l2⟩ := frL_last ar (x, y)
 have a1 : afr (frL (ar ++ [(x, y)])) (toL (ar ++ [(x, y)])) (2 * ar.length) = x := by unfold afr; rw [if_pos d3, d1, l1]
 have a2 : afr (frL (ar ++ [(x, y)])) (toL (ar ++ [(x, y)])) (2 * ar.length + 1) = y := by unfold afr; rw [if_neg d4, d2, l2]
 rw [old]
 simp only [List.filter_cons, List.filter_nil, a1, a2]
 unfold upd
 by_cases e1 : p = x <;> by_cases e2 : p = y
 ·subst e1; subst e2; simp
 ·subst e1
  have : ¬ y = p := fun h => e2 h.symm
  simp [e2, this]
 ·subst e2
  have : ¬ x = p := fun h => e1 h.symm
  simp [e1, this]
 ·have h1 : ¬ x = p := fun h => e1 h.symm
  have h2 : ¬ y = p := fun h => e2 h.symm
  simp [e1, e2, h1, h2]
def Net (F : Nat → Prop) (w : World) (b : Nat) (ar : List (Nat × Nat)) (u : Nat → Bool) : Prop :=
 ∃ oa ca am sl mA, NetMem F w b ar u (atL ar) oa ca am sl mA
theorem Net.keep {F G : Nat → Prop} {w w' : World} {b : Nat} {ar : List (Nat × Nat)} {u : Nat → Bool} (h : Net F w b ar u) (k : Keep G w w') (d : ∀ k, F k → ¬ G k) : Net F w' b ar u := by
 obtain ⟨oa, ca, am, sl, mA, h⟩ := h; exact ⟨oa, ca, am, sl, mA, h.keep k d⟩
theorem Net.mono {F G : Nat → Prop} {w : World} {b : Nat} {ar : List (Nat × Nat)} {u : Nat → Bool} (h : Net F w b ar u) (hG : ∀ k, F k → G k) : Net G w b ar u := by
 obtain ⟨oa, ca, am, sl, mA, h⟩ := h; exact ⟨oa, ca, am, sl, mA, h.mono hG⟩
theorem Net.tight {F : Nat → Prop} {w : World} {b : Nat} {ar : List (Nat × Nat)} {u : Nat → Bool} (h : Net F w b ar u) : Net (fun k => F k ∧ k < w.heap.size) w b ar u := by
 obtain ⟨oa, ca, am, sl, mA, h⟩ := h; exact ⟨oa, ca, am, sl, mA, h.tight⟩
theorem elem_arc : ElemT Tryz.prog 280 (.agg #[.int .i64 0, .int .i64 0, .bool false, .int .i64 0]) 4 32 := by unfold ElemT; kernel_rfl
theorem NetMem.arcs2 {F : Nat → Prop} {w : World} {b : Nat} {ar : List (Nat × Nat)} {u : Nat → Bool} {g : Nat → List Nat} {oa : Option Addr} {ca am : Nat} {sl : Nat → Rw} {mA : List (Nat × Value)} (h : NetMem F w b ar u g oa ca am sl mA) (x y M : Nat) (hM : 2 * ar.length = M) (hl : M ≤ 1000) (hu : u ar.length = false) :
  ∃ q c' w1, (Builtin.append_ #[254, 254] 254 #[.slice oa M ca, .slice (some ⟨w.heap.size, 0, none⟩) 2 2]).run Tryz.prog
    (w.alloc (.cells #[.int .i64 x, .int .i64 y, .bool false, .int .i64 ((M : Nat) + 1), .int .i64 y, .int .i64 x, .bool true, .int .i64 M] 280)) = .ok (.slice (some ⟨q, 0, none⟩) (M + 2) c') w1 ∧
   NetMem (fun k => F k ∨ w.heap.size ≤ k) (w1.setCell ⟨b, 0, none⟩ (.slice (some ⟨q, 0, none⟩) (M + 2) c')) b (ar ++ [(x, y)]) u g (some ⟨q, 0, none⟩) c' am sl mA ∧
   Keep F w (w1.setCell ⟨b, 0, none⟩ (.slice (some ⟨q, 0, none⟩) (M + 2) c')) ∧ w1.cell? ⟨b, 0, none⟩ = some (.slice oa M ca) ∧ w1.frozen? ⟨b, 0, none⟩ = false := by
 subst hM
 obtain ⟨q, c', w1, h1, h2, h3, h4⟩ := run_appN (P := Tryz.prog) 254 254 280 (by kernel_rfl) elem_arc (by rfl) (by omega) h.arcs
  [.int .i64 x, .int .i64 y, .bool false, .int .i64 ((2 * ar.length : Nat) + 1), .int .i64 y, .int .i64 x, .bool true, .int .i64 (2 * ar.length : Nat)] 2 (by intro v hv; simp at hv; rcases hv with rfl | rfl | rfl | rfl | rfl | rfl | rfl | rfl <;> rfl) rfl (by omega) (by omega) (by omega)
 have hb1 : ¬ Bl oa b := by rintro ⟨a, ha, hb⟩; exact (h.d1 a ha).1 hb
 have hb2 : ¬ Bl oa am := by rintro ⟨a, ha, hb⟩; exact (h.d1 a ha).2 hb
 have hblF : ∀ k, Bl oa k → F k := by rintro k ⟨a, ha, rfl⟩; exact h.arcs.foot a ha
 have hlb := h.head.lt
 have hla := h.at_.lt
 have hq : q ≠ b ∧ q ≠ am ∧ ∀ p, ¬ Bl (sl p).o q := by
  rcases h4 with h4 | h4
  ·refine ⟨(h.d1 _ h4).1, (h.d1 _ h4).2, fun p => ?_⟩
   rintro ⟨a, ha, hb⟩
   exact (h.d2 p a ha).2.2 ⟨_, h4, hb.symm⟩
  ·refine ⟨by omega, by omega, fun p => ?_⟩
   rintro ⟨a, ha, hb⟩; have := (h.rows p).lt ha; omega
 have hhead := h.head.keep h3 hb1
 have hlen : 2 * (ar ++ [(x, y)]).length = 2 * ar.length + 2 := by simp; omega
 refine ⟨q, c', w1, h1, ⟨?_, ?_, ?_, h.look, fun p => ?_, ⟨.inl h.fb.1, .inl h.fb.2.1, h.fb.2.2⟩, fun a ha => ?_, fun p a ha => ?_, h.d3⟩, (h3.mono (fun k _ hk => hblF k hk)).setCell (.inl h.fb.1) _, hhead.cell (i := 0) rfl, hhead.frozen 0 none⟩
 ·have := hhead.set (i := 0) (by simp) (.slice (some ⟨q, 0, none⟩) (2 * ar.length + 2) c')
  rw [hlen]; exact this
 ·rw [hlen, acs_snoc _ _ _ hu]
  have a1 := h2.mono (G := fun k => F k ∨ w.heap.size ≤ k) (fun k hk => hk.imp (fun e => e) (fun e => by omega))
  exact a1.set_ne (p := ⟨b, 0, none⟩) (fun a ha => by cases ha; exact hq.1) _
 ·exact (h.at_.keep h3 hb2).setCell _ h.fb.2.2 _
 ·have a0 := h.rows p
  have a1 : Sl F w1 3 1 (sl p).o (g p).length (sl p).c (ints (g p)) := a0.of_block fun a ha => h3.block _ (a0.lt ha) (h.d2 p a ha).2.2
  exact (a1.mono (G := fun k => F k ∨ w.heap.size ≤ k) (fun _ e => .inl e)).set_ne (p := ⟨b, 0, none⟩) (fun a ha => (h.d2 p a ha).1) _
 ·cases ha; exact ⟨hq.1, hq.2.1⟩
 ·refine ⟨(h.d2 p a ha).1, (h.d2 p a ha).2.1, ?_⟩
  rintro ⟨a', ha', hb⟩
  cases ha'
  exact hq.2.2 p ⟨a, ha, hb.symm⟩
def NAddPost (F : Nat → Prop) (w : World) (b : Nat) (ar : List (Nat × Nat)) (u : Nat → Bool) (x y : Nat) (e : Ending) (w' : World) : Prop :=
 e = .returned (.tuple #[]) ∧ Net (fun k => F k ∨ w.heap.size ≤ k) w' b (ar ++ [(x, y)]) u ∧ Keep F w w'
set_option maxRecDepth 100000 in
set_option maxHeartbeats 1000000 in
theorem nadd_any (F : Nat → Prop) (w : World) (b : Nat) (ar : List (Nat × Nat)) (u : Nat → Bool) (x y : Nat) (hx : x < 1000) (hy : y < 1000) (hl : ar.length ≤ 400) (hu : u ar.length = false) (h : Net F w b ar u) :
  Calls Tryz.prog 183 #[.pointer (some ⟨b, 0, none⟩), .int .i64 x, .int .i64 y] w (NAddPost F w b ar u x y) := by
 obtain ⟨oa, ca, am, sl, mA, h⟩ := h
 obtain ⟨M, hM⟩ : ∃ M, 2 * ar.length = M := ⟨_, rfl⟩
 have c0 := h.head.cell (i := 0) rfl
 rw [hM] at c0
 obtain ⟨q, c', w1, a1, h1, k1, f1, f2⟩ := h.arcs2 x y M hM (by omega) hu
 have c1 := h1.head.cell (i := 1) rfl
 have hd1 := h1.get (p := x) (by unfold DN; omega)
 obtain ⟨w2, hw2⟩ : ∃ w2, w1.setCell ⟨b, 0, none⟩ (.slice (some ⟨q, 0, none⟩) (M + 2) c') = w2 := ⟨_, rfl⟩
 rw [hw2] at h1 k1 c1 hd1
 have hgx := atL_len ar x
 have hgy := atL_len ar y
 have h1d := h1.keep ((Keep.refl Nb w2).drew) (fun _ _ e => e)
 obtain ⟨go, cg, w3, w4, b1, b2, b3, ⟨sl2, mA2, h2⟩, k2⟩ := h1d.push (p := x) (x := M) (by unfold DN; omega) (by omega)
 have hlen2 : (upd (atL ar) x (atL ar x ++ [M]) y).length ≤ 2 * ar.length + 1 := by
  unfold upd; split
  ·simp; omega
  ·omega
 have h2d := h2.keep ((Keep.refl Nb w4).drew) (fun _ _ e => e)
 obtain ⟨go3, cg3, w5, w6, d1, d2, d3, ⟨sl3, mA3, h3⟩, k3⟩ := h2d.push (p := y) (x := M + 1) (by unfold DN; omega) (by omega)
 have HP : Hid (NAddPost F w b ar u x y (.returned (.tuple #[])) w6) := Lib.hid (by
  have z1 := k1.size
  have z2 := k2.size
  have z3 : w2.drew.heap.size = w2.heap.size := rfl
  have z4 : w4.drew.heap.size = w4.heap.size := rfl
  refine ⟨rfl, ⟨some ⟨q, 0, none⟩, c', am, sl3, mA3, ?_⟩, (k1.drew.trans' k2 (H := F) (fun _ _ e => e) (fun k hk e => e.elim (fun e => e) (fun e => by omega))).drew.trans' k3 (fun _ _ e => e) (fun k hk e => ?_)⟩
  ·rw [atL_snoc, hM]
   exact h3.mono (fun k hk => by
    rcases hk with (hk | hk) | hk
    ·exact hk
    ·exact .inr (by omega)
    ·exact .inr (by omega))
  ·rcases e with (e | e) | e
   ·exact e
   ·omega
   ·omega)
 have g2 := h1d.get (p := x) (by unfold DN; omega)
 have g3 := h2d.get (p := y) (by unfold DN; omega)
 have g2' := (h1.keep (((Keep.refl Nb w2).alloc (.cells #[.int .i64 M] 3)).drew) (fun _ _ e => e)).get (p := x) (by unfold DN; omega)
 have g3' := (h2.keep (((Keep.refl Nb w4).alloc (.cells #[.int .i64 ((M : Int) + 1)] 3)).drew) (fun _ _ e => e)).get (p := y) (by unfold DN; omega)
 have e2 := h1d.head.cell (i := 1) rfl
 have e3 := h2d.head.cell (i := 1) rfl
 have A1 := Lib.hid a1
 have B1 : Hid ((Builtin.append_ #[63, 63] 63 #[.slice (sl x).o (atL ar x).length (sl x).c, .slice (some ⟨w2.heap.size, 0, none⟩) 1 1]).run Tryz.prog ((w2.alloc (.cells #[.int .i64 M] 3)).drew) = .ok (.slice (some ⟨go, 0, none⟩) ((atL ar x).length + 1) cg) w3) := Lib.hid b1
 have D1 : Hid ((Builtin.append_ #[63, 63] 63 #[.slice (sl2 y).o (upd (atL ar) x (atL ar x ++ [M]) y).length (sl2 y).c, .slice (some ⟨w4.heap.size, 0, none⟩) 1 1]).run Tryz.prog ((w4.alloc (.cells #[.int .i64 ((M : Int) + 1)] 3)).drew) = .ok (.slice (some ⟨go3, 0, none⟩) ((upd (atL ar) x (atL ar x ++ [M]) y).length + 1) cg3) w5) := Lib.hid d1
 clear h1 h1d h2 h2d h3 k1 k2 k3 a1 b1 d1 hd1 hlen2 hgx hgy h
 go_enter Tryz.func183, Tryz.ntmps183
 go_wp2_with (first | (at_builtin; refine wpList_app rfl _ _ _ rfl rfl rfl A1.out ?_))
 obtain ⟨nx, hnx⟩ : ∃ nx, (atL ar x).length = nx := ⟨_, rfl⟩
 obtain ⟨ny, hny⟩ : ∃ ny, (upd (atL ar) x (atL ar x ++ [M]) y).length = ny := ⟨_, rfl⟩
 rw [hnx] at B1 b2 g2 g2'
 rw [hny] at D1 d2 g3 g3'
 have mixed : (Tryz.prog).follows Departure.mixedOrders = true := by kernel_rfl
 have lb2 := World.block_lt_of_cell? w2 _ c1
 clear hnx hny
 go_cut [] (fun wc => wc = w4)
 case first =>
  go_region_law_o (refine step_app_run rfl _ _ 63 63 rfl (.slice (sl x).o nx (sl x).c) (.slice (some ⟨w2.heap.size, 0, none⟩) 1 1) (by simp [Act.eval, Act.put]) (by simp [Act.eval, Act.put]) B1.out ?_)
  all_goals (go_wp2_with fail; go_meet; rfl)
 case rest =>
  clear g2 g2' b2 B1
  obtain rfl := hcut
  go_wp2_with fail
  have e3' : wc.cell? ⟨b, 1, none⟩ = some (.map (some am)) := e3
  have lb4 : b < wc.heap.size := World.block_lt_of_cell? wc.drew _ e3
  have wr1 : IntKind.i64.wrap ((M : Int) + 1) = (M : Int) + 1 := IntWalk.i64_in _ (by omega)
  go_region_law_o (refine step_app_run rfl _ _ 63 63 rfl (.slice (sl2 y).o ny (sl2 y).c) (.slice (some ⟨wc.heap.size, 0, none⟩) 1 1) (by simp [Act.eval, Act.put]) (by simp [Act.eval, Act.put]) D1.out ?_)
  all_goals (go_wp2_with fail; go_end0; exact HP.out)
end Go.Proofs.YtfglkgkihafcpaaGreatDoor
namespace Go.Proofs.YtfglkgkihafcpaaGreatDoor
open Go.RowKit Pl Go.Maps
theorem acs_at {ar : List (Nat × Nat)} {u : Nat → Bool} {i : Nat} (hi : i < 2 * ar.length * 4) : (acs ar u)[i]? = (acell ar u (i / 4))[i % 4]? := by
 have h4 : i % 4 < (acell ar u (i / 4)).length := by show i % 4 < 4; omega
 rw [List.getElem?_eq_getElem h4]
 have := acs_get (ar := ar) (u := u) (k := i / 4) (j := i % 4) (by omega) (List.getElem?_eq_getElem h4)
 rwa [show i / 4 * 4 + i % 4 = i by omega] at this
theorem acs_take {ar : List (Nat × Nat)} {u : Nat → Bool} {k : Nat} (hk : k < 2 * ar.length) :
  acs ar (take_ u k) = ((acs ar u).set (k * 4 + 2) (.bool true)).set (bk k * 4 + 2) (.bool false) := by
 apply List.ext_getElem?
 intro i
 have hb := bk_lt hk
 have hne := bk_ne k
 by_cases hi : i < 2 * ar.length * 4
 ·rw [acs_at hi, List.getElem?_set, List.getElem?_set, acs_at hi, List.length_set, acs_length]
  by_cases e2 : i % 4 = 2
  ·obtain ⟨q, hq⟩ : ∃ q, i / 4 = q := ⟨_, rfl⟩
   rw [hq, e2]
   show some (Value.bool (ause (take_ u k) q)) = _
   rw [ause_take]
   by_cases h1 : q = k
   ·subst h1
    rw [if_pos rfl, if_neg (by omega), if_pos (by omega), if_pos (by omega)]
   ·rw [if_neg h1]
    by_cases h2 : q = bk k
    ·rw [if_pos h2, if_pos (by omega), if_pos (by omega)]
    ·rw [if_neg h2, if_neg (by omega), if_neg (by omega)]; rfl
  ·rw [if_neg (by omega), if_neg (by omega)]
   have : i % 4 = 0 ∨ i % 4 = 1 ∨ i % 4 = 3 := by omega
   rcases this with e | e | e <;> rw [e] <;> rfl
 ·rw [List.getElem?_eq_none (by rw [acs_length]; omega), List.getElem?_eq_none (by rw [List.length_set, List.length_set, acs_length]; omega)]
section
variable {F : Nat → Prop} {w : World} {b : Nat} {ar : List (Nat × Nat)} {u : Nat → Bool} {g : Nat → List Nat} {oa : Option Addr} {ca am : Nat} {sl : Nat → Rw} {mA : List (Nat × Value)}
theorem NetMem.row (h : NetMem F w b ar u g oa ca am sl mA) {k : Nat} (hk : k < 2 * ar.length) : ∃ go, oa = some ⟨go, 0, none⟩ ∧ F go ∧ 2 * ar.length ≤ ca ∧ go ≠ b ∧ Row w go 280 (acs ar u) := by
 obtain ⟨go, h1, h2, h3, h4⟩ := h.arcs.pos (by omega)
 exact ⟨go, h1, h2, h3, (h.d1 _ h1).1, h4⟩
theorem arc_cells {w : World} {go : Nat} {T : TypeId} {ar : List (Nat × Nat)} {u : Nat → Bool} (h : Row w go T (acs ar u)) {k : Nat} (hk : k < 2 * ar.length) :
  w.cell? ⟨go, k * 4, none⟩ = some (.int .i64 (afr (frL ar) (toL ar) k : Nat)) ∧ w.cell? ⟨go, k * 4 + 1, none⟩ = some (.int .i64 (ato (frL ar) (toL ar) k : Nat)) ∧
   w.cell? ⟨go, k * 4 + 2, none⟩ = some (.bool (ause u k)) ∧ w.cell? ⟨go, k * 4 + 3, none⟩ = some (.int .i64 (bk k : Nat)) :=
 ⟨h.cell (acs_get (j := 0) hk rfl), h.cell (acs_get (j := 1) hk rfl), h.cell (acs_get (j := 2) hk rfl), h.cell (acs_get (j := 3) hk rfl)⟩
theorem NetMem.take (h : NetMem F w b ar u g oa ca am sl mA) {k go : Nat} (hk : k < 2 * ar.length) (ho : oa = some ⟨go, 0, none⟩) :
  NetMem F ((w.setCell ⟨go, k * 4 + 2, none⟩ (.bool true)).setCell ⟨go, bk k * 4 + 2, none⟩ (.bool false)) b ar (take_ u k) g oa ca am sl mA ∧
   Keep F w ((w.setCell ⟨go, k * 4 + 2, none⟩ (.bool true)).setCell ⟨go, bk k * 4 + 2, none⟩ (.bool false)) := by
 have hF : F go := h.arcs.foot _ ho
 have hd := h.d1 _ ho
 have kk : Keep (fun j => j = go) w ((w.setCell ⟨go, k * 4 + 2, none⟩ (.bool true)).setCell ⟨go, bk k * 4 + 2, none⟩ (.bool false)) := ((Keep.refl (fun j => j = go) w).setCell (.inl rfl) _).setCell (.inl rfl) _
 refine ⟨⟨h.head.keep kk (fun e => hd.1 e.symm), ?_, h.at_.keep kk (fun e => hd.2 e.symm), h.look, fun p => ?_, h.fb, h.d1, h.d2, h.d3⟩, kk.mono (fun j _ e => by rw [e]; exact hF)⟩
 ·rw [acs_take hk]
  exact (h.arcs.setN (k * 4 + 2) ho _).setN (bk k * 4 + 2) ho _
 ·exact (h.rows p).of_block fun a ha => kk.block _ ((h.rows p).lt ha) (fun e => (h.d2 p a ha).2.2 ⟨_, ho, e.symm⟩)
end
def ByMap (wr : World) (bm : Nat) (by_ : Nat → Option Int) : Prop := ∃ mB, MapAt encN DN wr bm mB ∧ ∀ v, mget mB v = (by_ v).map (fun z => Value.int .i64 z)
theorem ByMap.keep {G : Nat → Prop} {w w' : World} {bm : Nat} {by_ : Nat → Option Int} (h : ByMap w bm by_) (k : Keep G w w') (hn : ¬ G bm) : ByMap w' bm by_ := by
 obtain ⟨mB, h1, h2⟩ := h; exact ⟨mB, h1.keep k hn, h2⟩
theorem ByMap.look {wr : World} {bm : Nat} {by_ : Nat → Option Int} (h : ByMap wr bm by_) {p : Nat} (hp : DN p) :
  (Instr.lookup 230 (.map (some bm)) (.int .i64 p) true).run Tryz.prog wr = .ok (.tuple #[.int .i64 ((by_ p).getD 0), .bool (by_ p).isSome]) wr ∧
   (Instr.lookup 230 (.map (some bm)) (.int .i64 p) false).run Tryz.prog wr = .ok (.int .i64 ((by_ p).getD 0)) wr := by
 obtain ⟨mB, h1, h2⟩ := h
 have e : ∀ q, (mget mB q).getD (.int .i64 0) = .int .i64 ((by_ q).getD 0) := fun q => by
  rw [h2]; cases by_ q <;> rfl
 constructor
 ·have hl := h1.look (encN_enc Tryz.underlying3) Tryz.underlying230 (zero_int wr) hp true
  rw [if_pos rfl, e, h2 p, Option.isSome_map] at hl
  exact hl
 ·have hl := h1.look (encN_enc Tryz.underlying3) Tryz.underlying230 (zero_int wr) hp false
  rw [if_neg (by simp), e] at hl
  exact hl
structure WayRel (w0 wr : World) (ar : List (Nat × Nat)) (u : Nat → Bool) (s : Nat) (line : List Nat) (by_ : Nat → Option Int) (bm : Nat) (ol : Option Addr) (cl : Nat) : Prop where
 mem : ByMap wr bm by_
 row : Sl (fun k => w0.heap.size ≤ k ∧ k ≠ bm) wr 3 1 ol line.length cl (ints line)
 bfs : Bfs ar.length (frL ar) (toL ar) u s line by_
 keep : Keep Nb w0 wr
 new : w0.heap.size ≤ bm
 lt : ∀ v, v ∈ line → v < 1000
theorem nodup_lt_len' {l : List Nat} {n : Nat} (h : l.Nodup) (hl : ∀ x, x ∈ l → x < n) : l.length ≤ n := by
 have := len_le_of_mem h (k := List.range n) (fun i hi => List.mem_range.2 (hl i hi))
 simpa using this
theorem WayRel.len {w0 wr : World} {ar : List (Nat × Nat)} {u : Nat → Bool} {s : Nat} {line : List Nat} {by_ : Nat → Option Int} {bm : Nat} {ol : Option Addr} {cl : Nat} (h : WayRel w0 wr ar u s line by_ bm ol cl) : line.length ≤ 1000 := nodup_lt_len' h.bfs.nodup h.lt
theorem WayRel.go {w0 wr w' : World} {ar : List (Nat × Nat)} {u : Nat → Bool} {s : Nat} {line : List Nat} {by_ : Nat → Option Int} {bm : Nat} {ol : Option Addr} {cl : Nat} (h : WayRel w0 wr ar u s line by_ bm ol cl) (k : Keep Nb wr w') : WayRel w0 w' ar u s line by_ bm ol cl := by
 exact ⟨h.mem.keep k (fun e => e), h.row.keep k (fun _ _ e => e), h.bfs, h.keep.trans k, h.new, h.lt⟩
theorem WayRel.meet {w0 wr : World} {ar : List (Nat × Nat)} {u : Nat → Bool} {s : Nat} {line : List Nat} {by_ : Nat → Option Int} {bm : Nat} {ol : Option Addr} {cl : Nat} (h : WayRel w0 wr ar u s line by_ bm ol cl)
  {i k p : Nat} (hi : line[i]? = some (afr (frL ar) (toL ar) k)) (hk : k < 2 * ar.length) (hu : ause u k = false) (hp : ato (frL ar) (toL ar) k = p) (hn : by_ p = none) (hlt : p < 1000) :
  ∃ go c' w1 w2, (Instr.mapUpdate 230 (.map (some bm)) (.int .i64 p) (.int .i64 k)).run Tryz.prog wr = .ok () w1 ∧ Keep (fun j => j = bm) wr w1 ∧
   (Builtin.append_ #[63, 63] 63 #[.slice ol line.length cl, .slice (some ⟨w1.heap.size, 0, none⟩) 1 1]).run Tryz.prog (w1.alloc (.cells #[.int .i64 p] 3)) = .ok (.slice (some ⟨go, 0, none⟩) (line.length + 1) c') w2 ∧
   WayRel w0 w2 ar u s (line ++ [p]) (fun v => if v = p then some (k : Int) else by_ v) bm (some ⟨go, 0, none⟩) c' := by
 have hlen := h.len
 obtain ⟨mB, h1, h2⟩ := h.mem
 obtain ⟨w1, q1, q2, q3⟩ := h1.store (encN_enc Tryz.underlying3) Tryz.underlying230 (a := p) (by unfold DN; omega) (.int .i64 k)
 have hrow := h.row.keep q3 (fun j hj e => hj.2 e)
 obtain ⟨go, c', w2, r1, r2, r3, r4⟩ := run_app1 (P := Tryz.prog) 63 63 3 Tryz.underlying63 elem_int rfl hrow (.int .i64 p) rfl (by omega) (by omega)
 have hbm := h1.lt
 have hz1 := q3.size
 have hz0 := h.keep.size
 have hbl : ∀ j, Bl ol j → w0.heap.size ≤ j ∧ j ≠ bm := by rintro j ⟨a, ha, rfl⟩; exact h.row.foot a ha
 refine ⟨go, c', w1, w2, q1, q3, r1, ⟨⟨mset mB p (.int .i64 k), q2.keep r3 (fun hb => (hbl _ hb).2 rfl), fun v => ?_⟩, ?_, ?_, ?_, h.new, ?_⟩⟩
 ·rw [mget_mset]
  by_cases e : v = p
  ·simp [e]
  ·simp [e, h2]
 ·rw [ints_append, List.length_append]
  exact r2.mono (fun j hj => by
   rcases hj with hj | hj
   ·exact hj
   ·exact ⟨by omega, by omega⟩)
 ·subst hp; exact h.bfs.meet hi hk hu hn
 ·exact (h.keep.trans' q3 (H := Nb) (fun _ _ e => e) (fun j hj e => by show False; have := h.new; omega)).trans' r3 (fun _ _ e => e) (fun j hj e => by show False; have := (hbl j e).1; omega)
 ·intro v hv
  rcases List.mem_append.1 hv with hv | hv
  ·exact h.lt v hv
  ·rw [List.mem_singleton] at hv; omega
theorem WayRel.start (w : World) (ar : List (Nat × Nat)) (u : Nat → Bool) (s : Nat) (hs : s < 1000) :
  ∃ w1, (Instr.mapUpdate 230 (.map (some w.heap.size)) (.int .i64 s) (.int .i64 (-1))).run Tryz.prog (w.alloc (.map #[] 0)) = .ok () w1 ∧
   WayRel w (w1.alloc (.cells #[.int .i64 s] 3)) ar u s [s] (fun v => if v = s then some (-1) else none) w.heap.size (some ⟨w1.heap.size, 0, none⟩) 1 := by
 obtain ⟨w1, q1, q2, q3⟩ := (MapAt.made encN DN w).store (encN_enc Tryz.underlying3) Tryz.underlying230 (a := s) (by unfold DN; omega) (.int .i64 (-1))
 have hz := q3.size
 rw [World.size_alloc] at hz
 refine ⟨w1, q1, ⟨⟨_, q2.alloc _, fun v => ?_⟩, ?_, Bfs.start _ _ _ _ _, ?_, Nat.le_refl _, fun v hv => by rw [List.mem_singleton] at hv; omega⟩⟩
 ·rw [mget_mset]
  by_cases e : v = s
  ·simp [e]
  ·simp [e, mget_nil]
 ·exact (Sl.built w1 3 1 1 [.int .i64 s] rfl (by simp only [maxLen]; omega)).mono (fun k hk => by omega)
 ·exact (((Keep.refl Nb w).alloc _).trans' q3 (fun _ _ e => e) (fun k hk e => by show False; omega)).alloc _
theorem seen_next {ar : List (Nat × Nat)} {u : Nat → Bool} {line : List Nat} {i v : Nat} (h : Seen ar.length (frL ar) (toL ar) u line i) (hv : line[i]? = some v)
  (ha : ∀ k, k < 2 * ar.length → afr (frL ar) (toL ar) k = v → ause u k = false → ato (frL ar) (toL ar) k ∈ line) : Seen ar.length (frL ar) (toL ar) u line (i + 1) := by
 intro i' v' k h1 h2 h3 h4 h5
 by_cases e : i' < i
 ·exact h i' v' k e h2 h3 h4 h5
 ·obtain rfl : i' = i := by omega
  rw [hv] at h2; cases h2
  exact ha k h3 h4 h5
theorem wpList_mapins {P : Program} {w w' : World} {ops : Array Oper} {rest : List Oper} {o : Oper} {a : Act} {Q : Exit → Act → World → Prop} (hg : o.guard = none) (m x v : Operand) (t : TypeId)
  (hop : o.op = Op.insert t m x v) {vm vx vv : Value} (hm : a.eval m = vm) (hx : a.eval x = vx) (hv : a.eval v = vv)
  (hrun : (Instr.mapUpdate t vm vx vv).run P w = .ok () w') (h : wpList P ops Q rest (a.put o.dst undef) w') : wpList P ops Q (o :: rest) a w := by
 refine wpList_plain hg fun K' hK' => ?_
 unfold Oper.wp
 simp [execOp, hop, hm, hx, hv, hrun, Result.andThen]
 exact hK' _ _ h
end Go.Proofs.YtfglkgkihafcpaaGreatDoor

