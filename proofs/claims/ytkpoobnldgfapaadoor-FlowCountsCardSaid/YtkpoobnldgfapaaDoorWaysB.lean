/- flow.Ways: the walk. -/
import Derived.Test.YtkpoobnldgfapaaDoorWaysA
import Derived.Test.YtkpoobnldgfapaaDoorB3
import Derived.Test.YtkpoobnldgfapaaDoorA1
import Derived.Test.YtkpoobnldgfapaaDoorRParts
import Derived.Test.YtkpoobnldgfapaaDoorBKit
import Derived.Deep.DeepCutAuto
set_option linter.unusedVariables false
set_option linter.unusedSimpArgs false
namespace Go.Proofs.YtkpoobnldgfapaaDoor
open Go.RowKit Pl Go.Maps

/-- As many ways as there are, told by their edges. -/
def FWaysPost (w : World) (es : List E) (s t most : Nat) (e : Ending) (w' : World) : Prop :=
  ∃ (v : Nat) (ws : List (List E)) (o : Option Addr) (c : Nat) (rows : List Rw), e = .returned (.tuple #[.slice o v c, .nilIface]) ∧ v ≤ most ∧ MinCap (cutE es) s t most v ∧ ws.length = v ∧ WaysOk es s t ws ∧
    Mat (fun k => w.heap.size ≤ k) w' 30 3 o v c rows (ws.map (fun l => l.map (·.id))) ∧ Keep Nb w w'

theorem nodup_len {es l : List E} (hn : l.Nodup) (hs : ∀ e, e ∈ l → e ∈ es) : l.length ≤ es.length := by
  induction l generalizing es with
  | nil => simp
  | cons a l ih =>
    rw [List.nodup_cons] at hn
    have ha := hs a (by simp)
    have := ih (es := es.erase a) hn.2 (fun e he => (List.mem_erase_of_ne (fun h => hn.1 (by rw [← h]; exact he))).2 (hs e (by simp [he])))
    rw [List.length_erase_of_mem ha] at this
    have h0 := List.length_pos_of_mem ha
    rw [List.length_cons]; omega

/-- Between two ways. -/
def WayR (w7 : World) (lm : Nat) (es : List E) (s t : Nat) (x L0 : Nat → Bool) (v i : Nat) (ws : List (List E)) (L : Nat → Bool) (o : Option Addr) (m c : Nat) (rows : List Rw) (wr : World) : Prop :=
  ws.length = i ∧ WaysOk es s t ws ∧ (i < v → Peel es x s t (v - i - 1) L ws s []) ∧ (∀ j, L j = true → L0 j = true) ∧ LMap wr lm es L ∧ Mat (fun k => w7.heap.size ≤ k) wr 30 3 o m c rows (ws.map (fun l => l.map (·.id))) ∧ Keep (fun k => k = lm) w7 wr

/-- On the way: at y, behind the edges l. -/
structure InW (wu : World) (lm : Nat) (es : List E) (s t : Nat) (x L0 : Nat → Bool) (n r : Nat) (ws : List (List E)) (y : Nat) (l : List E) (L : Nat → Bool) (o : Option Addr) (m c xb : Nat) (wr : World) : Prop where
  peel : Peel es x s t r L ws y l
  yn : y < n
  sub : ∀ j, L j = true → L0 j = true
  left : LMap wr lm es L
  box : Row wr xb 3 [.int .i64 y]
  xlo : wu.heap.size ≤ xb
  sl : Sl (fun k => wu.heap.size ≤ k ∧ k ≠ xb) wr 3 1 o m c (ints (l.map (·.id)))
  len : l.length = m
  keep : Keep (fun k => k = lm) wu wr

set_option maxRecDepth 100000 in
set_option maxHeartbeats 4000000 in
theorem fways_any (F : Nat → Prop) (w : World) (b n : Nat) (es : List E) (s t most : Nat) (hG : Gr F w b n es) (hn : n ≤ 40) (hl : es.length ≤ 120) (ho : ∀ e, e ∈ es → e.a < n ∧ e.b < n) (hs : s < n) (ht : t < n) (hst : s ≠ t) (hm : most ≤ 120) (hso : Sorted es) (hne : ∀ e, e ∈ es → e.a ≠ e.b) (hsm : ∀ e, e ∈ es → DN e.id) :
    Calls Tryd.prog 22 #[.pointer (some ⟨b, 0, none⟩), .int .i64 s, .int .i64 t, .int .i64 most] w (FWaysPost w es s t most) := by
  have HG := Lib.hid hG
  have HO := Lib.hid ho
  have HST := Lib.hid hst
  have HSO := Lib.hid hso
  have HNE := Lib.hid hne
  have HSM := Lib.hid hsm
  have HE0 : Hid (askErr n s t most = 0) := Lib.hid (by unfold askErr; rw [if_neg (by omega), if_neg (by omega)])
  have hmm := @run_makeMap Tryd.prog
  clear hG ho hst hso hne hsm
  go_enter Tryd.func22, Tryd.ntmps22
  go_wp2_with fail
  refine (right_any F _ b n es s t most HG.out).mono ?_
  rintro e1 w0 ⟨rfl, rfl⟩
  rw [HE0.out, if_pos rfl]
  go_wp2_with fail
  have HN0 := Lib.hid (Net.start w (fun _ => false))
  have kk : Keep Nb w ((w.alloc (.map #[] 0)).alloc (.cells #[.slice none 0 0, .map (some w.heap.size)] 96)) := ((Keep.refl Nb w).alloc _).alloc _
  have HK0 := Lib.hid kk
  refine (edges_any F _ b n es (HG.out.keep kk (fun _ _ h => h)) (by omega)).mono ?_
  clear kk
  rintro e1 w2 ⟨o2, c2, rfl, hS2, hk2⟩
  have HS2 := Lib.hid hS2.tight
  have HK2 := Lib.hid hk2
  obtain ⟨w1, hw1⟩ : ∃ w1, (w.alloc (.map #[] 0)).alloc (.cells #[.slice none 0 0, .map (some w.heap.size)] 96) = w1 := ⟨_, rfl⟩
  have hz1 : w1.heap.size = w.heap.size + 1 + 1 := by rw [← hw1]; simp
  rw [hw1] at HN0 HK0 HS2 HK2
  have hz2 := HK2.out.size
  have HN2 : Hid (Net (fun k => w.heap.size ≤ k ∧ ¬ (w1.heap.size ≤ k ∧ k < w2.heap.size)) w2 (w.heap.size + 1) [] (fun _ => false)) := Lib.hid
    ((HN0.out.tight.mono (fun k hk => ⟨hk.1, fun h => by have := hk.2; omega⟩)).keep HK2.out (fun _ _ e => e))
  clear hS2 hk2 HN0 hw1
  go_wp2_with fail
  go_loopg [42] es.length (fun kx s42 wr => ∃ i : Nat, s42 = .int .i64 i ∧ i ≤ es.length ∧ es.length - i ≤ kx ∧ Hid (Net (fun k => w.heap.size ≤ k ∧ ¬ (w1.heap.size ≤ k ∧ k < w2.heap.size)) wr (w.heap.size + 1) (arcsE (es.take i)) (fun _ => false) ∧ Keep (fun k => w.heap.size ≤ k ∧ ¬ (w1.heap.size ≤ k ∧ k < w2.heap.size)) w2 wr))
  case atStart => exact ⟨0, rfl, Nat.zero_le _, by omega, Lib.hid ⟨HN2.out, Keep.refl _ w2⟩⟩
  case round =>
    clear HN2
    obtain ⟨i, rfl, hi, hg, HR⟩ := hrel
    have hzr := HR.out.2.size
    by_cases hlt : i < es.length
    · obtain ⟨g, rfl, hFg, hnc, hrow⟩ := HS2.out.pos (by omega)
      have hy := List.getElem?_eq_getElem hlt
      generalize es[i]'hlt = e at hy
      have hEr := hrow.edges.keep HR.out.2 (fun h => h.2 hFg)
      have d1 := hEr.id _ _ hy
      have d2 := hEr.a _ _ hy
      have d3 := hEr.b _ _ hy
      have HY := Lib.hid hy
      have hea := (HO.out e (List.mem_of_getElem? hy)).1
      have heb := (HO.out e (List.mem_of_getElem? hy)).2
      have hal : (arcsE (es.take i)).length = 2 * i := by rw [arcsE_len, List.length_take]; omega
      have HAL := Lib.hid hal
      clear hy hrow hEr hal
      go_wp2_with fail
      refine (nadd_any (fun k => (w.heap.size ≤ k ∧ ¬ (w1.heap.size ≤ k ∧ k < w2.heap.size)) ∧ k < wr.heap.size) _ (w.heap.size + 1) (arcsE (es.take i)) (fun _ => false) e.a e.b (by omega) (by omega) (by have := HAL.out; omega) rfl (HR.out.1.tight.keep ((Keep.refl Nb wr).alloc _) (fun _ _ h => h))).mono ?_
      rintro e1 w3 ⟨rfl, hj, hk3⟩
      have HN3 := Lib.hid (hj.mono (G := fun k => w.heap.size ≤ k ∧ ¬ (w1.heap.size ≤ k ∧ k < w2.heap.size)) (fun k hk => by simp only [World.size_alloc] at hk; omega))
      have HK3 := Lib.hid ((HR.out.2.alloc (.cells #[.int .i64 e.id, .int .i64 e.a, .int .i64 e.b] 55)).trans' hk3 (fun _ _ h => h) (fun _ _ h => h.1))
      have hz3 := HK3.out.size
      have f1 := hk3.cell (p := ⟨wr.heap.size, 1, none⟩) (v := .int .i64 e.a) (by rw [World.cell?_alloc_at _ _ _ _ rfl]; rfl) (fun h => by have := h.2; simp at this)
      have f2 := hk3.cell (p := ⟨wr.heap.size, 2, none⟩) (v := .int .i64 e.b) (by rw [World.cell?_alloc_at _ _ _ _ rfl]; rfl) (fun h => by have := h.2; simp at this)
      clear hj hk3
      go_wp2_with fail
      refine (nadd_any (fun k => w.heap.size ≤ k ∧ ¬ (w1.heap.size ≤ k ∧ k < w2.heap.size)) _ (w.heap.size + 1) (arcsE (es.take i) ++ [(e.a, e.b)]) (fun _ => false) e.b e.a (by omega) (by omega) (by have := HAL.out; simp; omega) rfl HN3.out).mono ?_
      rintro e1 w4 ⟨rfl, hj, hk4⟩
      have HN : Hid (Net (fun k => w.heap.size ≤ k ∧ ¬ (w1.heap.size ≤ k ∧ k < w2.heap.size)) w4 (w.heap.size + 1) (arcsE (es.take (i + 1))) (fun _ => false) ∧ Keep (fun k => w.heap.size ≤ k ∧ ¬ (w1.heap.size ≤ k ∧ k < w2.heap.size)) w2 w4) := Lib.hid ⟨by
        rw [take_snoc' HY.out, arcsE_snoc]
        have := hj.mono (G := fun k => w.heap.size ≤ k ∧ ¬ (w1.heap.size ≤ k ∧ k < w2.heap.size)) (fun k hk => by omega)
        rw [List.append_assoc] at this
        exact this, HK3.out.trans hk4⟩
      clear hj hk4
      go_wp2_with fail
      go_roundg (es.length - (i + 1))
      case measure => omega
      case rel => exact ⟨i + 1, rfl, by omega, Nat.le_refl _, HN⟩
    · obtain rfl : i = es.length := by omega
      have hfull : arcsE (es.take es.length) = arcsE es := by rw [List.take_length]
      have HN : Hid (Net (fun k => (w.heap.size ≤ k ∧ ¬ (w1.heap.size ≤ k ∧ k < w2.heap.size)) ∧ k < wr.heap.size) wr (w.heap.size + 1) (arcsE es) (fun _ => false) ∧ Keep Nb w wr) := Lib.hid (by
        obtain ⟨h1, h2⟩ := HR.out
        rw [hfull] at h1
        exact ⟨h1.tight, (HK0.out.trans HK2.out).trans' h2 (fun _ _ h => h) (fun k hk h => by show False; omega)⟩)
      have HSE := Lib.hid (HS2.out.keep HR.out.2 (fun k h1 h2 => h2.2 h1))
      have hzr2 : w2.heap.size ≤ wr.heap.size := HR.out.2.size
      clear hfull HR
      go_wp2_with fail
      refine (most_any _ _ (w.heap.size + 1) (arcsE es) s t most (by omega) (by omega) HST.out (by omega) (by rw [arcsE_len]; omega) (arcsE_lt (fun e he => by have := HO.out e he; omega)) HN.out.1 (fun k hk => hk.2)).mono ?_
      rintro e1 w5 ⟨v, u', rfl, hv, hmc, hfk, hnet, h5⟩
      have HV := Lib.hid (And.intro hv (minCap_cutE hmc))
      have HFK := Lib.hid hfk
      have HNET := Lib.hid hnet
      have HK5 : Hid (Keep Nb w w5) := Lib.hid (HN.out.2.trans' h5 (fun _ _ h => h) (fun k hk h => by show False; omega))
      have HSE5 := Lib.hid (HSE.out.keep h5 (fun k h1 h2 => h2.1.2 h1))
      have hz5 := h5.size
      clear hmc hfk hnet h5 HSE HN HS2 HK0 HK2 HG
      go_wp2_with fail
      obtain ⟨lm, hlm⟩ : ∃ lm, w5.heap.size = lm := ⟨_, rfl⟩
      obtain ⟨w6, hw6⟩ : ∃ w6, (((w5.alloc (Obj.map #[] 0)).alloc (.cells #[.map (some w5.heap.size)] 98)).alloc (Obj.map #[] 0)).alloc (.cells #[.map (some (w5.heap.size + 1 + 1))] 53) = w6 := ⟨_, rfl⟩
      obtain ⟨el, hel⟩ : ∃ el, es.length = el := ⟨_, rfl⟩
      obtain ⟨nb, hnb⟩ : ∃ nb, w.heap.size + 1 = nb := ⟨_, rfl⟩
      obtain ⟨x, hx⟩ : ∃ x : Nat → Bool, (fun i => u' (2 * i)) = x := ⟨_, rfl⟩
      obtain ⟨L0, hL0⟩ : ∃ L0 : Nat → Bool, (fun i => u' (2 * i) != u' (2 * i + 1)) = L0 := ⟨_, rfl⟩
      have HK6 : Hid (Keep Nb w5 w6) := Lib.hid (by rw [← hw6]; exact ((((Keep.refl Nb w5).alloc _).alloc _).alloc _).alloc _)
      have HZ6 : Hid (w6.heap.size = lm + 4) := Lib.hid (by rw [← hw6, ← hlm]; simp)
      have HC6 : Hid (w6.cell? ⟨lm + 1, 0, none⟩ = some (.map (some lm)) ∧ w6.cell? ⟨lm + 1 + 1 + 1, 0, none⟩ = some (.map (some (lm + 1 + 1)))) := Lib.hid (by
        rw [← hw6, ← hlm]
        constructor
        · rw [World.cell?_alloc_past _ _ _ (by simp), World.cell?_alloc_past _ _ _ (by simp), World.cell?_alloc_at _ _ _ _ (by simp)]; rfl
        · rw [World.cell?_alloc_at _ _ _ _ (by simp)]; rfl)
      have HLM0 : Hid (LMap w6 lm es (fun j => decide (j < 0) && L0 j) ∧ AMap w6 (lm + 1 + 1) es (fun j => decide (j < 0) && L0 j) x) := Lib.hid (by
        rw [← hw6, ← hlm]
        refine ⟨⟨[], (((MapAt.made encN DN w5).alloc _).alloc _).alloc _, fun i e _ => by simp [mget_nil]⟩, ⟨[], ?_, fun i e _ => by simp [mget_nil]⟩⟩
        have := MapAt.made encN DN ((w5.alloc (Obj.map #[] 0)).alloc (.cells #[.map (some w5.heap.size)] 98))
        simp only [World.size_alloc] at this
        exact this.alloc _)
      have HNE6 := Lib.hid (HNET.out.keep HK6.out (fun _ _ e => e))
      have HSE6 := Lib.hid (HSE5.out.keep HK6.out (fun _ _ e => e))
      have HXL : Hid ((fun i => u' (2 * i)) = x ∧ (fun i => u' (2 * i) != u' (2 * i + 1)) = L0 ∧ es.length = el) := Lib.hid ⟨hx, hL0, hel⟩
      have HZ5 : Hid (w2.heap.size ≤ lm ∧ wr.heap.size ≤ lm ∧ w.heap.size < lm ∧ nb < lm) := Lib.hid (by omega)
      have hel120 : el ≤ 120 := by omega
      have HELX := Lib.hid hel
      rw [hw6, hlm, hnb, hel]
      rw [hnb] at HNE6
      rw [hel] at HSE6
      clear hw6 hx hL0 HNET HSE5 hz5 hzr2
      go_loopg [68] el (fun kx s68 wr2 => ∃ (i : Nat), s68 = .int .i64 i ∧ i ≤ el ∧ el - i ≤ kx ∧ Hid (LMap wr2 lm es (fun j => decide (j < i) && L0 j) ∧ AMap wr2 (lm + 1 + 1) es (fun j => decide (j < i) && L0 j) x ∧ Keep (fun k => k = lm ∨ k = lm + 1 + 1) w6 wr2))
      case atStart => exact ⟨0, rfl, Nat.zero_le _, by omega, Lib.hid ⟨HLM0.out.1, HLM0.out.2, Keep.refl _ _⟩⟩
      case round =>
        clear HLM0
        obtain ⟨i, rfl, hi2, hg2, HR⟩ := hrel
        obtain ⟨wq, rfl⟩ : ∃ w' : World, w' = wr := ⟨_, rfl⟩
        by_cases hlt2 : i < el
        · as_aux_lemma =>
          have hS := HSE6.out.keep HR.out.2.2 (fun k h1 h2 => by have := HZ5.out; omega)
          have hN := HNE6.out.keep HR.out.2.2 (fun k h1 h2 => by have := HZ5.out; have := h1.2; omega)
          obtain ⟨e, hy⟩ : ∃ e, es[i]? = some e := ⟨_, List.getElem?_eq_getElem (by rw [HXL.out.2.2]; exact hlt2)⟩
          obtain ⟨ge, rfl, _, hnc, hrow⟩ := hS.pos (by omega)
          have d1 := hrow.edges.id _ _ hy
          have d2 := hrow.edges.a _ _ hy
          have d3 := hrow.edges.b _ _ hy
          obtain ⟨M, hM⟩ : ∃ M, 2 * (arcsE es).length = M := ⟨_, rfl⟩
          have hM4 : M = 4 * el := by rw [← hM, arcsE_len, HXL.out.2.2]; omega
          obtain ⟨oa, ca, am, sl, mA, hN⟩ := hN
          have n0 := hN.head.cell (i := 0) rfl
          obtain ⟨k1, hk1⟩ : ∃ k1, 4 * i = k1 := ⟨_, rfl⟩
          have hk1i : (4 : Int) * (i : Int) = (k1 : Int) := by omega
          obtain ⟨go, rfl, _, hca, _, hrowA⟩ := hN.row (k := k1) (by omega)
          have a1 := hrowA.cell (acs_get (k := k1) (j := 2) (by omega) rfl)
          have a2 := hrowA.cell (acs_get (k := k1 + 2) (j := 2) (by omega) rfl)
          rw [hM] at n0
          obtain ⟨p, hp⟩ : ∃ p, u' (2 * i) = p := ⟨_, rfl⟩
          obtain ⟨q, hq⟩ : ∃ q, u' (2 * i + 1) = q := ⟨_, rfl⟩
          have hau1 : ause u' k1 = p := by unfold ause; rw [if_pos (by omega), show k1 / 2 = 2 * i by omega, hp]
          have hau2 : ause u' (k1 + 2) = q := by unfold ause; rw [if_pos (by omega), show (k1 + 2) / 2 = 2 * i + 1 by omega, hq]
          rw [hau1] at a1
          rw [hau2] at a2
          have hk1M : k1 < M ∧ k1 + 2 < M ∧ M ≤ ca := by omega
          obtain ⟨bb, hbb⟩ : ∃ bb, (p != q) = bb := ⟨_, rfl⟩
          have HPQ : Hid (x i = p ∧ L0 i = bb) := Lib.hid ⟨by rw [← HXL.out.1]; exact hp, by rw [← HXL.out.2.1, ← hbb, ← hp, ← hq]⟩
          have HY := Lib.hid hy
          obtain ⟨wx, hwx⟩ : ∃ wx, wq.alloc (.cells #[.int .i64 e.id, .int .i64 e.a, .int .i64 e.b] 55) = wx := ⟨_, rfl⟩
          obtain ⟨X, hX⟩ : ∃ X, wq.heap.size = X := ⟨_, rfl⟩
          have kx1 : Keep Nb wq wx := by rw [← hwx]; exact (Keep.refl Nb wq).alloc _
          have HKX := Lib.hid kx1
          have P3 : Hid (wx.cell? ⟨X, 0, none⟩ = some (.int .i64 e.id) ∧ wx.cell? ⟨X, 1, none⟩ = some (.int .i64 e.a) ∧ wx.cell? ⟨X, 2, none⟩ = some (.int .i64 e.b)) := Lib.hid (by
            rw [← hwx, ← hX]
            refine ⟨?_, ?_, ?_⟩ <;> rw [World.cell?_alloc_at _ _ _ _ rfl] <;> rfl)
          have n0x := kx1.cell n0 (fun e => e)
          have a1x := kx1.cell a1 (fun e => e)
          have a2x := kx1.cell a2 (fun e => e)
          have HWX := Lib.hid hwx
          have HX := Lib.hid hX
          have HXX : Hid (w6.heap.size ≤ X) := Lib.hid (by rw [← hX]; exact HR.out.2.2.size)
          clear hS hrow hy hN n0 hrowA a1 a2 hp hq hau1 hau2 hwx hX kx1 hM hk1
          go_upto_region 18 with (fail)
          rw [HWX.out, HX.out]
          clear d1 d2 d3
          go_quiet (fail)
          have hkn : Keep Nb wx (wx.drewN nq) := (Keep.refl Nb wx).drewN nq
          obtain ⟨wy, hwy⟩ : ∃ wy, wx.drewN nq = wy := ⟨_, rfl⟩
          rw [hwy] at hkn ⊢
          have HKY := Lib.hid (HKX.out.trans hkn)
          have HRY : Hid (LMap wy lm es (fun j => decide (j < i) && L0 j) ∧ AMap wy (lm + 1 + 1) es (fun j => decide (j < i) && L0 j) x ∧ Keep (fun k => k = lm ∨ k = lm + 1 + 1) w6 wy) := Lib.hid
            ⟨HR.out.1.keep HKY.out (fun e => e), HR.out.2.1.keep HKY.out (fun e => e), HR.out.2.2.trans HKY.out.of_nb⟩
          have P3Y : Hid (wy.cell? ⟨X, 0, none⟩ = some (.int .i64 e.id) ∧ wy.cell? ⟨X, 1, none⟩ = some (.int .i64 e.a) ∧ wy.cell? ⟨X, 2, none⟩ = some (.int .i64 e.b)) := Lib.hid
            ⟨hkn.cell P3.out.1 (fun e => e), hkn.cell P3.out.2.1 (fun e => e), hkn.cell P3.out.2.2 (fun e => e)⟩
          clear n0x a1x a2x hwy hkn P3 HKY HKX HWX HR
          cases bb with
          | false =>
            have HN : Hid (LMap wy lm es (fun j => decide (j < i + 1) && L0 j) ∧ AMap wy (lm + 1 + 1) es (fun j => decide (j < i + 1) && L0 j) x ∧ Keep (fun k => k = lm ∨ k = lm + 1 + 1) w6 wy) := Lib.hid (by
              have hc : ∀ j, j < es.length → (decide (j < i) && L0 j) = (decide (j < i + 1) && L0 j) := fun j _ => by
                by_cases e1 : j = i
                · subst e1; rw [HPQ.out.2]; simp
                · have : (j < i) = (j < i + 1) := by rw [eq_iff_iff]; omega
                  simp only [this]
              exact ⟨HRY.out.1.congr hc, HRY.out.2.1.congr hc, HRY.out.2.2⟩)
            obtain rfl : p = q := by simpa using hbb
            clear HRY P3Y HPQ hbb
            go_wp2_with fail
            go_roundg (el - (i + 1))
            case measure => omega
            case rel => exact ⟨i + 1, rfl, by omega, Nat.le_refl _, HN⟩
          | true =>
            obtain rfl : q = !p := by revert hbb; cases p <;> cases q <;> simp
            have hcc : ∀ j, j < es.length → (decide (j < i + 1) && L0 j) = if j = i then true else (decide (j < i) && L0 j) := fun j _ => by
              by_cases e1 : j = i
              · subst e1; rw [if_pos rfl, HPQ.out.2]; simp
              · have : (j < i + 1) = (j < i) := by rw [eq_iff_iff]; omega
                rw [if_neg e1]; simp only [this]
            have hd : DN e.id := HSM.out e (List.mem_of_getElem? HY.out)
            have hkd : Keep Nb wy wy.drew := (Keep.refl Nb wy).drew
            obtain ⟨wA, r1, r2, r3⟩ := (HRY.out.1.keep hkd (fun e => e)).store HSO.out HY.out hd hcc
            obtain ⟨wB, s1, s2, s3⟩ := ((HRY.out.2.1.keep hkd (fun e => e)).keep r3 (by omega)).store HSO.out HY.out hd hcc HPQ.out.1
            have HN : Hid (LMap wB lm es (fun j => decide (j < i + 1) && L0 j) ∧ AMap wB (lm + 1 + 1) es (fun j => decide (j < i + 1) && L0 j) x ∧ Keep (fun k => k = lm ∨ k = lm + 1 + 1) w6 wB) := Lib.hid
              ⟨r2.keep s3 (by omega), s2, ((HRY.out.2.2.drew).trans (r3.mono (fun _ _ e => .inl e))).trans (s3.mono (fun _ _ e => .inr e))⟩
            have b1 := HRY.out.2.2.cell HC6.out.1 (by show ¬ (lm + 1 = lm ∨ lm + 1 = lm + 1 + 1); omega)
            have b2 := HRY.out.2.2.cell HC6.out.2 (by show ¬ (lm + 1 + 1 + 1 = lm ∨ lm + 1 + 1 + 1 = lm + 1 + 1); omega)
            have x0 := P3Y.out.1
            have x1 := P3Y.out.2.1
            have x2 := P3Y.out.2.2
            have hXl : lm + 4 ≤ X := by have h1 := HRY.out.2.2.size; have h2 := HZ6.out; have := HXX.out; omega
            have b2A := r3.cell (hkd.cell b2 (fun e => e)) (by show ¬ (lm + 1 + 1 + 1 = lm); omega)
            have x0A := r3.cell (hkd.cell x0 (fun e => e)) (by show ¬ (X = lm); omega)
            have x1A := r3.cell (hkd.cell x1 (fun e => e)) (by show ¬ (X = lm); omega)
            have x2A := r3.cell (hkd.cell x2 (fun e => e)) (by show ¬ (X = lm); omega)
            clear HRY P3Y HPQ hcc hd r2 s2 hkd hbb
            go_upto_region 20 with (fail)
            go_region
            go_wp2_with fail
            go_roundg (el - (i + 1))
            case measure => omega
            case rel => exact ⟨i + 1, rfl, by omega, Nat.le_refl _, HN⟩
        · as_aux_lemma =>
          obtain rfl : i = el := by omega
          obtain ⟨el, rfl⟩ : ∃ el', el' = i := ⟨_, rfl⟩
          have HW7 : Hid (LMap wq lm es L0 ∧ AMap wq (lm + 1 + 1) es L0 x ∧ Keep (fun k => k = lm ∨ k = lm + 1 + 1) w6 wq) := Lib.hid (by
            have hc : ∀ j, j < es.length → (decide (j < el) && L0 j) = L0 j := fun j hj => by
              have : j < el := by rw [← HXL.out.2.2]; exact hj
              simp [this]
            exact ⟨HR.out.1.congr hc, HR.out.2.1.congr hc, HR.out.2.2⟩)
          have b1 := HR.out.2.2.cell HC6.out.1 (by show ¬ (lm + 1 = lm ∨ lm + 1 = lm + 1 + 1); omega)
          have b2 := HR.out.2.2.cell HC6.out.2 (by show ¬ (lm + 1 + 1 + 1 = lm ∨ lm + 1 + 1 + 1 = lm + 1 + 1); omega)
          have HC7 := Lib.hid (And.intro b1 b2)
          have HS7 : Hid (Sl (fun k => k < lm) wq 55 3 o2 el c2 (ecs es)) := Lib.hid ((HSE6.out.keep HR.out.2.2 (fun k h1 h2 => by have := HZ5.out; omega)).mono (fun k hk => by have := HZ5.out; omega))
          have HZ7 : Hid (lm + 4 ≤ wq.heap.size ∧ w.heap.size < lm) := Lib.hid ⟨by have h1 := HR.out.2.2.size; have h2 := HZ6.out; omega, HZ5.out.2.2.1⟩
          have HK7 : Hid (Keep Nb w wq) := Lib.hid ((HK5.out.trans HK6.out).trans' HR.out.2.2 (fun _ _ e => e) (fun k hk e => by
            have := HZ5.out
            have h2 : k = lm ∨ k = lm + 1 + 1 := e
            show False; omega))
          have HP0 : Hid (0 < v → Peel es x s t (v - 1) L0 [] s []) := Lib.hid (fun hv0 => by
            have := Peel.start (es := es) (u := u') (a := s) (b := t) (k := v - 1) (by rw [show v - 1 + 1 = v by omega]; exact HFK.out) (arcsE_len es) (by omega)
            rw [HXL.out.1, HXL.out.2.1] at this
            exact this)
          obtain ⟨w7, rfl⟩ : ∃ w' : World, w' = wq := ⟨_, rfl⟩
          have HW0 : Hid (WayR w7 lm es s t x L0 v 0 [] L0 none 0 0 [] w7) := Lib.hid
            ⟨rfl, WaysOk.nil es s t, fun h => HP0.out (by omega), fun _ h => h, HW7.out.1, Mat.nil _ _ _ _, Keep.refl _ _⟩
          have HAM := Lib.hid HW7.out.2.1
          have hv120 : v ≤ 120 := by omega
          clear HR b1 b2 HC6 HSE6 HNE6 HK6 HK5 HFK HZ6 HP0 HW7
          go_wp2_with fail
          go_loopg [22, 105] v (fun kx s22 s105 wr3 => ∃ (i : Nat) (ws : List (List E)) (L : Nat → Bool) (o : Option Addr) (m c : Nat) (rows : List Rw), s22 = .slice o m c ∧ s105 = .int .i64 i ∧ i ≤ v ∧ v - i ≤ kx ∧ Hid (WayR w7 lm es s t x L0 v i ws L o m c rows wr3))
          case atStart => exact ⟨0, [], L0, none, 0, 0, [], rfl, rfl, Nat.zero_le _, by omega, HW0⟩
          case round =>
            clear HW0
            obtain ⟨i, ws, L, o, m, c, rows, rfl, rfl, hiv, hgv, HR⟩ := hrel
            obtain ⟨wu, rfl⟩ : ∃ w' : World, w' = wr := ⟨_, rfl⟩
            by_cases hlt3 : i < v
            · as_aux_lemma =>
              obtain ⟨q1, q2, q3, q4, q5, q6, q7⟩ := HR.out
              have hmi : i = m := by rw [q6.n_eq, List.length_map, q1]
              subst hmi
              have HI0 : Hid (InW wu lm es s t x L0 n (v - i - 1) ws s [] L none 0 0 wu.heap.size (wu.alloc (.cells #[.int .i64 s] 3))) := Lib.hid
                ⟨q3 hlt3, hs, q4, q5.keep ((Keep.refl Nb wu).alloc _) (fun e => e), Row.new wu #[.int .i64 s] 3, Nat.le_refl _, Sl.nil _ _ _ _, rfl, (Keep.refl _ wu).alloc _⟩
              have HQ := Lib.hid (show ws.length = i ∧ Mat (fun k => w7.heap.size ≤ k) wu 30 3 o i c rows (ws.map (fun l => l.map (·.id))) ∧ Keep (fun k => k = lm) w7 wu from ⟨q1, q6, q7⟩)
              have HSU := Lib.hid (HS7.out.keep q7 (fun k h1 h2 => by have h3 : k = lm := h2; have h4 : k < lm := h1; omega))
              have HAU := Lib.hid (HAM.out.keep q7 (by show ¬ lm + 1 + 1 = lm; omega))
              have hzu := q7.size
              have b1u := q7.cell HC7.out.1 (by show ¬ (lm + 1 = lm); omega)
              have b2u := q7.cell HC7.out.2 (by show ¬ (lm + 1 + 1 + 1 = lm); omega)
              have HCU := Lib.hid (And.intro b1u b2u)
              have hzu2 : lm + 4 ≤ wu.heap.size := by have := HZ7.out; omega
              clear q1 q2 q3 q4 q5 q6 q7 HR b1u b2u
              go_wp2_with fail
              go_loopg [23, 24] (leftN es L) (fun ky s23 s24 wr4 => ∃ (y : Nat) (l : List E) (L' : Nat → Bool) (o' : Option Addr) (m' c' xb : Nat), s23 = .slice o' m' c' ∧ s24 = .pointer (some ⟨xb, 0, none⟩) ∧ leftN es L' ≤ ky ∧ Hid (InW wu lm es s t x L0 n (v - i - 1) ws y l L' o' m' c' xb wr4))
              case atStart => exact ⟨s, [], L, none, 0, 0, wu.heap.size, rfl, rfl, Nat.le_refl _, HI0⟩
              case round =>
                clear HI0
                obtain ⟨y, l, L', o', m', c', xb, rfl, rfl, hgl, HIN⟩ := hrel
                obtain ⟨wv, rfl⟩ : ∃ w' : World, w' = wr := ⟨_, rfl⟩
                have cx := HIN.out.box.cell (i := 0) rfl
                by_cases hyt : y = t
                · as_aux_lemma =>
                  subst hyt
                  have hlpos : 0 < m' := by
                    cases hl : l with
                    | nil =>
                      have := HIN.out.peel.part
                      rw [hl] at this
                      exact absurd this HST.out
                    | cons a l' => have := HIN.out.len; rw [hl] at this; simp at this; omega
                  have hM := HQ.out.2.1.keep HIN.out.keep (fun k h1 h2 => by have h3 : k = lm := h2; have h4 : w7.heap.size ≤ k := h1; have := HZ7.out; omega)
                  obtain ⟨q, rfl, hqF, hqc, hqr⟩ := HIN.out.sl.pos hlpos
                  have hbl : ∀ k, Bl o k → w7.heap.size ≤ k ∧ k < wu.heap.size := fun k hk => by
                    obtain ⟨a, ha, hb⟩ := hk
                    rw [← hb]; exact ⟨HQ.out.2.1.out.foot a ha, HQ.out.2.1.out.lt ha⟩
                  obtain ⟨g, c1, wE, s1, s2, s3, s4⟩ := run_app1 (P := Tryd.prog) 39 39 30 Tryd.underlying39 elem_ints rfl hM.out (.slice (some ⟨q, 0, none⟩) m' c') rfl (by omega) (by omega)
                  have hzv := HIN.out.keep.size
                  have hM2 := Mat.pushNew (l := l.map (·.id)) hM (s2.mono (G := fun k => w7.heap.size ≤ k) (fun k hk => by have := HZ7.out; have := HQ.out.2.2.size; rcases hk with hk | hk; exact hk; omega)) s3 s4 (HIN.out.sl.mono (G := fun k => w7.heap.size ≤ k) (fun k hk => by have := HQ.out.2.2.size; omega))
                    (fun h => by have := (hbl _ h).2; omega) (fun i1 s1 a h1 h2 => by have := HQ.out.2.1.rowLt h1 h2; omega) (fun e => by
                      rcases s4 with h | h
                      · have := (hbl g ⟨_, h, rfl⟩).2; omega
                      · have h5 := HIN.out.sl.lt rfl
                        have h6 : q < wv.heap.size := h5
                        omega)
                  have HN : Hid (WayR w7 lm es s y x L0 v (i + 1) (ws ++ [l]) L' (some ⟨g, 0, none⟩) (i + 1) c1 (rows ++ [⟨some ⟨q, 0, none⟩, m', c'⟩]) wE) := Lib.hid (by
                    refine ⟨by rw [List.length_append, HQ.out.1]; rfl, HIN.out.peel.ok, fun h => ?_, HIN.out.sub, HIN.out.left.keep s3 (fun h => by have := (hbl _ h).1; have := HZ7.out; omega), by rw [List.map_append]; exact hM2, ?_⟩
                    · have hp := HIN.out.peel
                      rw [show v - i - 1 = (v - (i + 1) - 1) + 1 by omega] at hp
                      exact hp.next
                    · exact (HQ.out.2.2.trans HIN.out.keep).trans' s3 (fun _ _ e => e) (fun k hk e => by have := (hbl k e).1; omega))
                  have b1 : ((y : Int) != (y : Int)) = false := by simp
                  have S1 := Lib.hid s1
                  clear s1 s2 s3 s4 hM hM2 hbl hqr HIN HQ
                  go_wp2_with (at_builtin; refine wpList_app rfl _ _ _ rfl rfl rfl S1.out ?_)
                  go_roundg (v - (i + 1))
                  case measure => omega
                  case rel => exact ⟨i + 1, ws ++ [l], L', _, _, _, _, rfl, rfl, by omega, Nat.le_refl _, HN⟩
                · have b1 : ((y : Int) != (t : Int)) = true := by simp; omega
                  have HYT := Lib.hid hyt
                  have hSv := HSU.out.keep HIN.out.keep (fun k h1 h2 => by have h3 : k = lm := h2; have h4 : k < lm := h1; omega)
                  have b1v := HIN.out.keep.cell HCU.out.1 (by show ¬ (lm + 1 = lm); omega)
                  have b2v := HIN.out.keep.cell HCU.out.2 (by show ¬ (lm + 1 + 1 + 1 = lm); omega)
                  have hAv := HAU.out.keep HIN.out.keep (by show ¬ lm + 1 + 1 = lm; omega)
                  have hex : ∃ i, i < el ∧ nextP es x L' y i = true := by
                    obtain ⟨i, h1, h2⟩ := HIN.out.peel.exists_next (by have := HIN.out.yn; omega) HYT.out
                    exact ⟨i, by rw [← HXL.out.2.2]; exact h1, h2⟩
                  have HIX := Lib.hid (indexf_any _ wv (lm + 1) xb (lm + 1 + 1 + 1) el c2 o2 es HXL.out.2.2 (by omega) (nextP es x L' y) hSv hex (fun W' k i e he => ways1_any W' (lm + 1) lm xb (lm + 1 + 1 + 1) (lm + 1 + 1) es L' L0 x y i e he (HSM.out e (List.mem_of_getElem? he)) (HIN.out.sub i)
                    (k.cell b1v (fun e => e)) (k.cell cx (fun e => e)) (k.cell b2v (fun e => e)) (HIN.out.left.keep k (fun e => e)) (hAv.keep k (fun e => e))))
                  clear hyt hSv hAv hex
                  go_wp2_with fail
                  refine HIX.out.mono ?_
                  rintro e1 wa ⟨ie, hie, hnx, rfl, hka⟩
                  obtain ⟨e, hy⟩ : ∃ e, es[ie]? = some e := ⟨_, List.getElem?_eq_getElem (by rw [HXL.out.2.2]; exact hie)⟩
                  have HNX := Lib.hid (And.intro hnx hy)
                  obtain ⟨ge, rfl, _, hnc, hrow⟩ := ((HSU.out.keep HIN.out.keep (fun k h1 h2 => by have h3 : k = lm := h2; have h4 : k < lm := h1; omega)).keep hka (fun _ _ e => e)).pos (by omega)
                  have d1 := hrow.edges.id _ _ hy
                  have d2 := hrow.edges.a _ _ hy
                  have d3 := hrow.edges.b _ _ hy
                  obtain ⟨wb, hwb⟩ : ∃ wb, wa.alloc (.cells #[.int .i64 e.id, .int .i64 e.a, .int .i64 e.b] 55) = wb := ⟨_, rfl⟩
                  obtain ⟨X, hX⟩ : ∃ X, wa.heap.size = X := ⟨_, rfl⟩
                  have kab : Keep Nb wa wb := by rw [← hwb]; exact (Keep.refl Nb wa).alloc _
                  have kvb : Keep Nb wv wb := hka.trans kab
                  have hXX : wv.heap.size ≤ X := by rw [← hX]; exact hka.size
                  have hXb : wb.heap.size = X + 1 := by rw [← hwb, ← hX]; simp
                  have hrX : Row wb X 55 (ecells e) := by rw [← hwb, ← hX]; exact Row.new wa #[.int .i64 e.id, .int .i64 e.a, .int .i64 e.b] 55
                  have hde := HSM.out e (List.mem_of_getElem? hy)
                  obtain ⟨wc, r1, r2, r3⟩ := (HIN.out.left.keep kvb (fun e => e)).del HSO.out hy hde 0
                  have hlv : lm < wv.heap.size := HIN.out.left.keep (Keep.refl Nb wv) (fun e => e) |>.lt'
                  have x0 := hrX.cell (i := 0) rfl
                  have x0c := (hrX.keep r3 (by omega)).cell (i := 0) rfl
                  have hSlc := (HIN.out.sl.keep kvb (fun _ _ e => e)).keep r3 (fun k h1 h2 => by have h3 : k = lm := h2; have := h1.1; omega)
                  have hmle : m' ≤ 120 := by
                    have h1 := nodup_len (List.nodup_append.1 HIN.out.peel.nodup).2.1 (fun e he => HIN.out.peel.sub e (List.mem_append_right _ he))
                    have := HIN.out.len
                    have := HXL.out.2.2
                    omega
                  obtain ⟨gq, cq, wd, s1, s2, s3, s4⟩ := run_app1 (P := Tryd.prog) 30 30 3 Tryd.underlying30 elem_int rfl hSlc (.int .i64 e.id) rfl (by omega) (by omega)
                  have b1b := kvb.cell b1v (fun e => e)
                  have hbo : ∀ k, Bl o' k → wu.heap.size ≤ k ∧ k ≠ xb ∧ k < wv.heap.size := fun k hk => by
                    obtain ⟨a, ha, hb⟩ := hk
                    rw [← hb]
                    exact ⟨(HIN.out.sl.foot a ha).1, (HIN.out.sl.foot a ha).2, HIN.out.sl.lt ha⟩
                  have hXd := (hrX.keep r3 (by omega)).keep s3 (fun h => by have := hbo _ h; omega)
                  have xd0 := hXd.cell (i := 0) rfl
                  have xd1 := hXd.cell (i := 1) rfl
                  have xd2 := hXd.cell (i := 2) rfl
                  have hxlo := HIN.out.xlo
                  have hzw := HIN.out.keep.size
                  have hbd := ((HIN.out.box.keep kvb (fun e => e)).keep r3 (by omega)).keep s3 (fun h => (hbo _ h).2.1 rfl)
                  have cxd := hbd.cell (i := 0) rfl
                  obtain ⟨y', hy'⟩ : ∃ y', (if e.a = y then e.b else e.a) = y' := ⟨_, rfl⟩
                  have hO := other_any wd e.id e.a e.b y
                  rw [hy'] at hO
                  have HO2 := Lib.hid hO
                  have HFIN : Hid (∀ wf, Keep Nb wd wf → wf.cell? ⟨xb, 0, none⟩ = some (.int .i64 y) ∧ wf.frozen? ⟨xb, 0, none⟩ = false ∧ wf.heap.size = (wf.setCell ⟨xb, 0, none⟩ (.int .i64 y')).heap.size ∧
                      InW wu lm es s t x L0 n (v - i - 1) ws y' (l ++ [e]) (upd L' ie false) (some ⟨gq, 0, none⟩) (m' + 1) cq (wf.setCell ⟨xb, 0, none⟩ (.int .i64 y')).heap.size ((wf.setCell ⟨xb, 0, none⟩ (.int .i64 y')).alloc (.cells #[.int .i64 y'] 3))) := Lib.hid (fun wf hkf => by
                    have hbf := hbd.keep hkf (fun e => e)
                    have hsz : (wf.setCell ⟨xb, 0, none⟩ (.int .i64 y')).heap.size = wf.heap.size := by simp [World.setCell]
                    have kcg : Keep (fun k => wu.heap.size ≤ k) wc ((wf.setCell ⟨xb, 0, none⟩ (.int .i64 y')).alloc (.cells #[.int .i64 y'] 3)) :=
                      (((s3.mono (fun k _ h => (hbo k h).1)).trans hkf.of_nb).setCell (.inl hxlo) _).alloc _
                    have z1 := r3.size
                    have z2 := s3.size
                    have z3 := hkf.size
                    have hedge := HO.out e (List.mem_of_getElem? hy)
                    refine ⟨hbf.cell (i := 0) rfl, hbf.frozen 0 none, hsz.symm, ?_, ?_, fun j hj => ?_, r2.keep kcg (by omega), Row.new _ #[.int .i64 y'] 3, by rw [hsz]; omega, ?_, by rw [List.length_append, HIN.out.len]; rfl, ?_⟩
                    · have := HIN.out.peel.go (List.Pairwise.imp (fun hlt e => by rw [e] at hlt; omega) HSO.out) hy (HNE.out e (List.mem_of_getElem? hy)) hnx
                      rw [hy'] at this
                      exact this
                    · rw [← hy']; split <;> omega
                    · by_cases e1 : j = ie
                      · rw [e1, upd_same] at hj; cases hj
                      · rw [upd_ne _ _ _ _ e1] at hj; exact HIN.out.sub j hj
                    · have hi : ints ((l ++ [e]).map (·.id)) = ints (l.map (·.id)) ++ [.int .i64 e.id] := by simp [ints]
                      rw [hi, hsz]
                      have h1 := (s2.tight.keep hkf (fun _ _ e => e)).set_ne (p := ⟨xb, 0, none⟩) (fun a ha e1 => by
                        have h2 := s2.foot a ha
                        rcases h2 with h2 | h2
                        · exact h2.2 e1
                        · have h3 : a.block = xb := e1
                          have h4 := hbd.lt
                          have h5 := HIN.out.box.lt
                          have h6 := kvb.size
                          omega) (.int .i64 y')
                      refine (h1.alloc _).mono (fun k hk => ?_)
                      obtain ⟨hk1, hk2⟩ := hk
                      rcases hk1 with hk1 | hk1
                      · exact ⟨hk1.1, by omega⟩
                      · have h6 := kvb.size
                        exact ⟨by omega, by omega⟩
                    · exact ((HIN.out.keep.trans kvb.of_nb).trans r3).trans' kcg (fun _ _ e => e) (fun k hk e => by have e' : wu.heap.size ≤ k := e; omega))
                  have hms := leftN_less (List.getElem?_eq_some_iff.1 hy).1 (show L' ie = true by
                    unfold nextP at hnx
                    rw [Bool.and_eq_true] at hnx
                    exact hnx.1)
                  subst hwb
                  subst hX
                  have R1 := Lib.hid r1
                  have S1 := Lib.hid s1
                  clear r1 r2 r3 s1 s2 s3 s4 hO hbd hXd hSlc hrX kab kvb hka HIX hrow hnx hy hbo hy' HNX
                  go_wp2_with (first | (at_builtin; refine wpList_app rfl _ _ _ rfl rfl rfl S1.out ?_) | (refine wpList_mapdel rfl _ _ _ _ rfl rfl rfl R1.out ?_))
                  refine HO2.out.mono ?_
                  rintro e1 wf ⟨rfl, hkf⟩
                  obtain ⟨f0, f1, f2, f3⟩ := HFIN.out wf hkf
                  rw [← f2] at f3
                  have HN := Lib.hid f3
                  clear f2 f3 hkf HFIN HO2 HIN x0 x0c xd0 xd1 xd2 cxd b1b b1v b2v d1 d2 d3 cx
                  go_wp2_with fail
                  go_roundg (leftN es (upd L' ie false))
                  case measure => omega
                  case rel => exact ⟨y', l ++ [e], upd L' ie false, _, _, _, _, rfl, rfl, Nat.le_refl _, HN⟩
            · as_aux_lemma =>
              obtain rfl : i = v := by omega
              obtain ⟨q1, q2, q3, q4, q5, q6, q7⟩ := HR.out
              have hmi : m = i := by rw [q6.n_eq, List.length_map, q1]
              have HF : Hid (FWaysPost w es s t most (.returned (.tuple #[.slice o i c, .nilIface])) wu) := Lib.hid
                ⟨i, ws, o, c, rows, rfl, HV.out.1, HV.out.2, q1, q2, by rw [hmi] at q6; exact q6.mono (fun k hk => by have hk' : w7.heap.size ≤ k := hk; have := HZ7.out; omega),
                  HK7.out.trans' q7 (fun _ _ e => e) (fun k hk e => by have e' : k = lm := e; have := HZ7.out; show False; omega)⟩
              clear q1 q2 q3 q4 q5 q6 q7 HR
              subst hmi
              go_wp2_with fail
              go_ret2
              exact HF.out

end Go.Proofs.YtkpoobnldgfapaaDoor
