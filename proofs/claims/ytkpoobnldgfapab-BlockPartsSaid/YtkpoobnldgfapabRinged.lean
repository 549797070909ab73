/- isthmuskeep: ringed: a fact: two rings at one node are two blocks. -/
import Derived.Test.YtkpoobnldgfapabRings
import Derived.Test.YtkpoobnldgfapabBkOf1
import Derived.Test.YtkpoobnldgfapabDeep2
import Derived.Test.YtkpoobnldgfapabE2
import Derived.Test.YtkpoobnldgfapabPlBp
import Derived.Test.YtkpoobnldgfapabB5
set_option linter.unusedVariables false
set_option linter.unusedSimpArgs false
namespace Go.Proofs.Ytkpoobnldgfapab
open Go.RowKit Pl Go.Maps

def e60 : E := ⟨0, 0, 1⟩
def e61 : E := ⟨1, 1, 2⟩
def e62 : E := ⟨2, 0, 2⟩
def e63 : E := ⟨3, 2, 3⟩
def e64 : E := ⟨4, 3, 4⟩
def e65 : E := ⟨5, 2, 4⟩

theorem es6_mem {e : E} (h : e ∈ es6) : e = e60 ∨ e = e61 ∨ e = e62 ∨ e = e63 ∨ e = e64 ∨ e = e65 := by
  unfold es6 at h
  simpa [e60, e61, e62, e63, e64, e65] using h

theorem es6_m (i : Nat) (e : E) (h : es6[i]? = some e) : e ∈ es6 := List.mem_of_getElem? h

theorem es6_blk1 (e f : E) (he : e ∈ es6) (hf : f ∈ es6) (w : Nat) (h1 : touch e w) (h2 : touch f w) (h3 : labs (ends (less1 es6 w)) (othE e w) = labs (ends (less1 es6 w)) (othE f w)) : Blk es6 e f := Blk.one he hf ⟨w, h1, h2, h3⟩

theorem es6_low : ∀ e, e ∈ es6 → e.id < 3 → Blk es6 e60 e := by
  have h01 : Blk es6 e60 e61 := es6_blk1 e60 e61 (es6_m 0 _ rfl) (es6_m 1 _ rfl) 1 (.inr rfl) (.inl rfl) (by decide +kernel)
  have h02 : Blk es6 e60 e62 := es6_blk1 e60 e62 (es6_m 0 _ rfl) (es6_m 2 _ rfl) 0 (.inl rfl) (.inl rfl) (by decide +kernel)
  intro e he hlt
  rcases es6_mem he with rfl | rfl | rfl | rfl | rfl | rfl
  · exact .refl _
  · exact h01
  · exact h02
  all_goals (exact absurd hlt (by decide))

theorem es6_high : ∀ e, e ∈ es6 → ¬ e.id < 3 → Blk es6 e63 e := by
  have h34 : Blk es6 e63 e64 := es6_blk1 e63 e64 (es6_m 3 _ rfl) (es6_m 4 _ rfl) 3 (.inr rfl) (.inl rfl) (by decide +kernel)
  have h35 : Blk es6 e63 e65 := es6_blk1 e63 e65 (es6_m 3 _ rfl) (es6_m 5 _ rfl) 2 (.inl rfl) (.inl rfl) (by decide +kernel)
  intro e he hlt
  rcases es6_mem he with rfl | rfl | rfl | rfl | rfl | rfl
  · exact absurd (by decide) hlt
  · exact absurd (by decide) hlt
  · exact absurd (by decide) hlt
  · exact .refl _
  · exact h34
  · exact h35

theorem es6_apart : ¬ Blk es6 e60 e63 := fun h => by
  have := h.hang es6_ok.ne (es6_m 0 _ rfl) 2 0 3 (.inl rfl) (by decide) (.inr rfl) (by decide)
  have h2 : labs (ends (less1 es6 2)) 0 = labs (ends (less1 es6 2)) 3 := this
  exact absurd h2 (by decide +kernel)

theorem es6_ids (x : Nat) : (∃ e, e ∈ es6 ∧ e.id = x) ↔ x < 6 := by
  constructor
  · rintro ⟨e, he, rfl⟩
    rcases es6_mem he with rfl | rfl | rfl | rfl | rfl | rfl <;> decide
  · intro h
    have : x = 0 ∨ x = 1 ∨ x = 2 ∨ x = 3 ∨ x = 4 ∨ x = 5 := by omega
    rcases this with rfl | rfl | rfl | rfl | rfl | rfl
    · exact ⟨e60, es6_m 0 _ rfl, rfl⟩
    · exact ⟨e61, es6_m 1 _ rfl, rfl⟩
    · exact ⟨e62, es6_m 2 _ rfl, rfl⟩
    · exact ⟨e63, es6_m 3 _ rfl, rfl⟩
    · exact ⟨e64, es6_m 4 _ rfl, rfl⟩
    · exact ⟨e65, es6_m 5 _ rfl, rfl⟩

theorem es6_blk : BlkList es6 [[0, 1, 2], [3, 4, 5]] := by
  have hlow : ∀ e f, e ∈ es6 → f ∈ es6 → e.id < 3 → (f.id < 3 ↔ Blk es6 e f) := fun e f he hf h => by
    constructor
    · intro g; exact (es6_low e he h).symm.trans (es6_low f hf g)
    · intro hB
      apply Classical.byContradiction
      intro g
      exact es6_apart ((es6_low e he h).trans (hB.trans (es6_high f hf g).symm))
  have hhigh : ∀ e f, e ∈ es6 → f ∈ es6 → ¬ e.id < 3 → (¬ f.id < 3 ↔ Blk es6 e f) := fun e f he hf h => by
    constructor
    · intro g; exact (es6_high e he h).symm.trans (es6_high f hf g)
    · intro hB g
      exact es6_apart ((es6_low f hf g).trans (hB.symm.trans (es6_high e he h).symm))
  have h6 : ∀ e, e ∈ es6 → e.id < 6 := fun e he => (es6_ids e.id).1 ⟨e, he, rfl⟩
  refine ⟨fun p hp => ?_, fun p hp => ?_, by simp, fun id => ?_, fun p hp => ?_⟩
  · simp at hp; rcases hp with rfl | rfl <;> simp
  · simp at hp; rcases hp with rfl | rfl <;> simp
  · rw [es6_ids]
    simp; omega
  · simp at hp
    rcases hp with rfl | rfl
    · intro e f he hf hi
      have hi : e.id < 3 := by simp at hi; omega
      rw [← hlow e f he hf hi]
      simp; omega
    · intro e f he hf hi
      have hi : ¬ e.id < 3 := by simp at hi; omega
      rw [← hhigh e f he hf hi]
      have := h6 f hf
      simp; omega

theorem es6_sep (x : Nat) : Pl.Sep es6 x ↔ x = 2 := by
  have t0 : ∀ x, TouchL es6 [0, 1, 2] x ↔ x < 3 := fun x => by
    constructor
    · rintro ⟨e, he, hm, ht⟩
      rcases es6_mem he with rfl | rfl | rfl | rfl | rfl | rfl
      all_goals (simp [e60, e61, e62, e63, e64, e65] at hm)
      all_goals (unfold touch at ht; simp [e60, e61, e62] at ht; omega)
    · intro h
      have : x = 0 ∨ x = 1 ∨ x = 2 := by omega
      rcases this with rfl | rfl | rfl
      · exact ⟨e60, es6_m 0 _ rfl, by decide, .inl rfl⟩
      · exact ⟨e60, es6_m 0 _ rfl, by decide, .inr rfl⟩
      · exact ⟨e61, es6_m 1 _ rfl, by decide, .inr rfl⟩
  have t1 : ∀ x, TouchL es6 [3, 4, 5] x ↔ (2 ≤ x ∧ x < 5) := fun x => by
    constructor
    · rintro ⟨e, he, hm, ht⟩
      rcases es6_mem he with rfl | rfl | rfl | rfl | rfl | rfl
      all_goals (simp [e60, e61, e62, e63, e64, e65] at hm)
      all_goals (unfold touch at ht; simp [e63, e64, e65] at ht; omega)
    · intro h
      have : x = 2 ∨ x = 3 ∨ x = 4 := by omega
      rcases this with rfl | rfl | rfl
      · exact ⟨e63, es6_m 3 _ rfl, by decide, .inl rfl⟩
      · exact ⟨e63, es6_m 3 _ rfl, by decide, .inr rfl⟩
      · exact ⟨e64, es6_m 4 _ rfl, by decide, .inr rfl⟩
  rw [es6_blk.sep es6_ok.ne]
  constructor
  · rintro ⟨c, d, p, q, hcd, hc, hd, h1, h2⟩
    have hc2 := (List.getElem?_eq_some_iff.1 hc).1
    have hd2 := (List.getElem?_eq_some_iff.1 hd).1
    simp at hc2 hd2
    have : (c = 0 ∧ d = 1) ∨ (c = 1 ∧ d = 0) := by omega
    rcases this with ⟨rfl, rfl⟩ | ⟨rfl, rfl⟩
    · simp at hc hd
      subst hc; subst hd
      have a1 := (t0 x).1 h1
      have a2 := (t1 x).1 h2
      omega
    · simp at hc hd
      subst hc; subst hd
      have a1 := (t1 x).1 h1
      have a2 := (t0 x).1 h2
      omega
  · rintro rfl
    exact ⟨0, 1, [0, 1, 2], [3, 4, 5], by omega, rfl, rfl, (t0 2).2 (by omega), (t1 2).2 (by omega)⟩

set_option maxRecDepth 100000 in
set_option maxHeartbeats 4000000 in
theorem ringed_any (w : World) : Calls Try.prog 4 #[] w fun e w' => e = .returned (.bool true) ∧ Keep Nb w w' := by
  go_enter Try.func4, Try.ntmps4
  go_wp2_with fail
  refine (rings_any w).mono ?_
  rintro e w1 ⟨rfl, hG, hk1⟩
  obtain ⟨gb, hgb⟩ : ∃ gb, w.heap.size = gb := ⟨_, rfl⟩
  rw [hgb] at hG ⊢
  have HK1 := Lib.hid hk1
  have HCF := Lib.hid (bkof_any (fun k => gb ≤ k ∧ k < w1.heap.size) w1 gb 5 es6 hG (fun k h => h.2) (by omega) (by decide) es6_ok
    (fun X Y ob lb mb => deep_any w1.heap.size X Y ob lb gb 5 (.map (some mb)) es6 _ (fun k h => h.2) (by omega) (by decide) es6_ok.over es6_ok.ne 5))
  clear hG hk1 hgb
  go_wp2_with fail
  refine HCF.out.mono ?_
  rintro e w2 ⟨Y, mb, pc, cc, po, co, rows, ps, cs, M, G, rfl, hBL, hcs, hrise, hYr, hMat, hCut, hMap, hOf, hGlo, hYlo, hmblo, hk2⟩
  obtain rfl : ps = [[0, 1, 2], [3, 4, 5]] := hBL.unique es6_blk
  obtain rfl : cs = [2] := rising_ext hrise (List.pairwise_singleton _ _) fun x => by
    rw [hcs x, es6_sep]
    simp; omega
  have HY := Lib.hid hYr
  have HMT := Lib.hid hMat
  have HCU := Lib.hid hCut
  have HK2 := Lib.hid (HK1.out.trans hk2)
  clear hBL hcs hrise hMat hCut hMap hOf hGlo hYlo hmblo hk2 HCF
  have HCC := Lib.hid (bkcuts_any G w2 Y cc (.map (some mb)) (.slice po 2 pc) co [2] HY.out HCU.out (by decide))
  clear hYr
  go_wp2_with fail
  refine HCC.out.mono ?_
  rintro e w3 ⟨o3, c3, rfl, hS3, hk3⟩
  have HS3 := Lib.hid hS3
  have HK3 := Lib.hid hk3
  clear hS3 hk3 HCC
  have HSA : Hid (Calls Try.prog 12 #[.slice o3 1 c3, .slice (some ⟨w3.heap.size, 0, none⟩) 1 1] (w3.alloc (.cells #[.int .i64 2] 3)) fun e w' => e = .returned (.bool true) ∧ Keep Nb w3 w') := Lib.hid (by
    have kA : Keep Nb w3 (w3.alloc (.cells #[.int .i64 2] 3)) := (Keep.refl Nb w3).alloc _
    have hS : Sl (fun k => k = w3.heap.size) (w3.alloc (.cells #[.int .i64 2] 3)) 3 1 (some ⟨w3.heap.size, 0, none⟩) 1 1 (ints [2]) := Sl.built w3 3 1 1 [.int .i64 2] rfl (by simp only [maxLen]; omega)
    refine (same_q _ _ _ o3 (some ⟨w3.heap.size, 0, none⟩) 1 1 c3 1 [2] (HS3.out.keep kA (fun _ _ e => e)) hS (by decide)).mono ?_
    rintro e w' ⟨h1, m, rfl⟩
    exact ⟨h1, kA.drewN m⟩)
  go_wp2_with fail
  refine HSA.out.mono ?_
  rintro e w4 ⟨rfl, hk4⟩
  have HK4 := Lib.hid (HK3.out.trans hk4)
  clear hk4 HSA HS3
  have HPA := Lib.hid (bkparts_any G w4 Y 1 cc pc (.map (some mb)) po co rows [[0, 1, 2], [3, 4, 5]] (HY.out.keep HK4.out (fun e => e)) (HMT.out.keep HK4.out (fun _ _ e => e)) (by simp) (by decide) (by simp))
  go_wp2_with fail
  refine HPA.out.mono ?_
  rintro e w5 ⟨o5, c5, rows5, rfl, hM5, hk5⟩
  have HM5 := Lib.hid hM5
  have HK5 := Lib.hid ((HK2.out.trans HK4.out).trans hk5)
  clear hM5 hk5 HPA HY HMT HCU HK1 HK2 HK3 HK4
  obtain ⟨wA, hwA⟩ : ∃ wA, w5.alloc (.cells #[.int .i64 0, .int .i64 1, .int .i64 2] 3) = wA := ⟨_, rfl⟩
  obtain ⟨wB, hwB⟩ : ∃ wB, wA.alloc (.cells #[.int .i64 3, .int .i64 4, .int .i64 5] 3) = wB := ⟨_, rfl⟩
  obtain ⟨wC, hwC⟩ : ∃ wC, wB.alloc (.cells #[.slice (some ⟨w5.heap.size, 0, none⟩) 3 3, .slice (some ⟨wA.heap.size, 0, none⟩) 3 3] 35) = wC := ⟨_, rfl⟩
  have kA : Keep Nb w5 wA := by rw [← hwA]; exact (Keep.refl Nb w5).alloc _
  have kB : Keep Nb wA wB := by rw [← hwB]; exact (Keep.refl Nb wA).alloc _
  have kC : Keep Nb wB wC := by rw [← hwC]; exact (Keep.refl Nb wB).alloc _
  have hzA : wA.heap.size = w5.heap.size + 1 := by rw [← hwA]; simp
  have hzB : wB.heap.size = wA.heap.size + 1 := by rw [← hwB]; simp
  have hSA : Sl (fun k => k = w5.heap.size) wA 3 1 (some ⟨w5.heap.size, 0, none⟩) 3 3 (ints [0, 1, 2]) := by rw [← hwA]; exact Sl.built w5 3 1 3 [.int .i64 0, .int .i64 1, .int .i64 2] rfl (by simp only [maxLen]; omega)
  have hSB : Sl (fun k => k = wA.heap.size) wB 3 1 (some ⟨wA.heap.size, 0, none⟩) 3 3 (ints [3, 4, 5]) := by rw [← hwB]; exact Sl.built wA 3 1 3 [.int .i64 3, .int .i64 4, .int .i64 5] rfl (by simp only [maxLen]; omega)
  have hSC : Sl (fun k => k = wB.heap.size) wC 35 1 (some ⟨wB.heap.size, 0, none⟩) 2 2 [.slice (some ⟨w5.heap.size, 0, none⟩) 3 3, .slice (some ⟨wA.heap.size, 0, none⟩) 3 3] := by rw [← hwC]; exact Sl.built wB 35 1 2 [.slice (some ⟨w5.heap.size, 0, none⟩) 3 3, .slice (some ⟨wA.heap.size, 0, none⟩) 3 3] rfl (by simp only [maxLen]; omega)
  have hSA' := (hSA.keep kB (fun _ _ e => e)).keep kC (fun _ _ e => e)
  have hSB' := hSB.keep kC (fun _ _ e => e)
  have hMM : Mat (fun k => w5.heap.size ≤ k) wC 35 3 (some ⟨wB.heap.size, 0, none⟩) 2 2 [⟨some ⟨w5.heap.size, 0, none⟩, 3, 3⟩, ⟨some ⟨wA.heap.size, 0, none⟩, 3, 3⟩] [[0, 1, 2], [3, 4, 5]] := by
    refine ⟨hSC.mono (fun k e => by have e : k = wB.heap.size := e; omega), rfl, fun j r l h1 h2 => ?_, fun j r a h1 h2 => ?_, fun i j r s a b hij h1 h2 h3 h4 => ?_⟩
    · match j with
      | 0 => simp at h1 h2; subst h1; subst h2; exact hSA'.mono (fun k e => by have e : k = w5.heap.size := e; omega)
      | 1 => simp at h1 h2; subst h1; subst h2; exact hSB'.mono (fun k e => by have e : k = wA.heap.size := e; omega)
      | j + 2 => simp at h1
    · match j with
      | 0 => simp at h1; subst h1; cases h2; rintro ⟨c, hc, hcb⟩; cases hc; have hcb : wB.heap.size = w5.heap.size := hcb; omega
      | 1 => simp at h1; subst h1; cases h2; rintro ⟨c, hc, hcb⟩; cases hc; have hcb : wB.heap.size = wA.heap.size := hcb; omega
      | j + 2 => simp at h1
    · match i, j with
      | 0, 0 => exact absurd rfl hij
      | 1, 1 => exact absurd rfl hij
      | 0, 1 => simp at h1 h2; subst h1; subst h2; cases h3; cases h4; show w5.heap.size ≠ wA.heap.size; omega
      | 1, 0 => simp at h1 h2; subst h1; subst h2; cases h3; cases h4; show wA.heap.size ≠ w5.heap.size; omega
      | i + 2, _ => simp at h1
      | _, j + 2 => simp at h2
  have HSS := Lib.hid (sames_q _ _ wC o5 (some ⟨wB.heap.size, 0, none⟩) 2 2 c5 2 rows5 _ [[0, 1, 2], [3, 4, 5]] (HM5.out.keep ((kA.trans kB).trans kC) (fun _ _ e => e)) hMM (by decide) (by simp))
  have HKC := Lib.hid (HK5.out.trans ((kA.trans kB).trans kC))
  have hxA : w5.heap.size + 1 = wA.heap.size := hzA.symm
  have hxB : wA.heap.size + 1 = wB.heap.size := hzB.symm
  clear kA kB kC hzA hzB hSA hSB hSC hSA' hSB' hMM
  go_wp2_with fail
  try rw [hwA]
  try rw [hwB]
  try rw [hwC]
  refine HSS.out.mono ?_
  rintro e w6 ⟨rfl, m, rfl⟩
  go_wp2_with fail
  go_ret
  exact ⟨rfl, HKC.out.drewN m⟩

end Go.Proofs.Ytkpoobnldgfapab
