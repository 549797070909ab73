/- Part 44 of the proof: B3 FErr IKn4 DkCmd6 IBk. -/
import Derived.Test.YtfglkgkihafcpaaGreatDoorDp01
import Derived.Test.YtfglkgkihafcpaaGreatDoorDp08
import Derived.Test.YtfglkgkihafcpaaGreatDoorDp12
import Derived.Test.YtfglkgkihafcpaaGreatDoorDp13
import Derived.Test.YtfglkgkihafcpaaGreatDoorDp22
import Derived.Test.YtfglkgkihafcpaaGreatDoorDp30
import Derived.Test.YtfglkgkihafcpaaGreatDoorDp31
import Derived.Test.YtfglkgkihafcpaaGreatDoorDp33
import Derived.Test.YtfglkgkihafcpaaGreatDoorDp35
import Derived.Test.YtfglkgkihafcpaaGreatDoorDp38
import Derived.Test.YtfglkgkihafcpaaGreatDoorDp40
import Derived.Test.YtfglkgkihafcpaaGreatDoorDp41
import Derived.Test.YtfglkgkihafcpaaGreatDoorDp43
import Derived.StillTailTactics
set_option linter.unusedVariables false
set_option linter.unusedSimpArgs false
namespace Go.Proofs.YtfglkgkihafcpaaGreatDoor
open Go.RowKit Pl Go.Maps
set_option maxRecDepth 100000 in
theorem fout_any (w : World) (q b x : Nat) (hb : b ≤ 1000) (hx : x ≤ 1000) (hc : w.cell? ⟨q, 0, none⟩ = some (.int .i64 b)) :
  Calls Tryz.prog 185 #[.int .i64 x, .pointer (some ⟨q, 0, none⟩)] w fun e w'' => e = .returned (.int .i64 (outP b x : Nat)) ∧ w'' = w := by
 by_cases e : x = b
 ·have ho : outP b x = 2 * b := by unfold outP; rw [if_pos e]
  rw [ho]
  subst e
  go_enter Tryz.func185, Tryz.ntmps185
  go_wp2_with fail
  go_ret
  exact ⟨by simp, rfl⟩
 ·have ho : outP b x = 2 * x + 1 := by unfold outP; rw [if_neg e]
  rw [ho]
  have hb : ((x : Int) == (b : Int)) = false := by simp; omega
  go_enter Tryz.func185, Tryz.ntmps185
  go_wp2_with fail
  go_ret
  exact ⟨by simp, rfl⟩
set_option maxRecDepth 100000 in
theorem finto_any (w : World) (q a x : Nat) (ha : a ≤ 1000) (hx : x ≤ 1000) (hc : w.cell? ⟨q, 0, none⟩ = some (.int .i64 a)) :
  Calls Tryz.prog 186 #[.int .i64 x, .pointer (some ⟨q, 0, none⟩)] w fun e w'' => e = .returned (.int .i64 (intoP a x : Nat)) ∧ w'' = w := by
 by_cases e : x = a
 ·have ho : intoP a x = 2 * a + 1 := by unfold intoP; rw [if_pos e]
  rw [ho]
  subst e
  go_enter Tryz.func186, Tryz.ntmps186
  go_wp2_with fail
  go_ret
  exact ⟨by simp, rfl⟩
 ·have ho : intoP a x = 2 * x := by unfold intoP; rw [if_neg e]
  rw [ho]
  have hb : ((x : Int) == (a : Int)) = false := by simp; omega
  go_enter Tryz.func186, Tryz.ntmps186
  go_wp2_with fail
  go_ret
  exact ⟨by simp, rfl⟩
theorem arcsN_succ (i a b : Nat) : arcsN (i + 1) a b = arcsN i a b ++ if i ≠ a ∧ i ≠ b then [(2 * i, 2 * i + 1)] else [] := by
 unfold arcsN
 rw [List.range_succ, List.filter_append, List.map_append]
 congr 1
 by_cases h : i ≠ a ∧ i ≠ b
 ·rw [if_pos h, List.filter_cons, if_pos (by simpa using h)]; rfl
 ·rw [if_neg h, List.filter_cons, if_neg (by simpa using h)]; rfl
theorem arcsN_len (n a b : Nat) : (arcsN n a b).length ≤ n := by
 unfold arcsN; rw [List.length_map]; exact Nat.le_trans (List.length_filter_le _ _) (by simp)
theorem arcsNE_len (a b : Nat) (es : List E) : (arcsNE a b es).length = 2 * es.length := by
 induction es with
 | nil => rfl
 | cons e es ih => unfold arcsNE at ih ⊢; rw [List.flatMap_cons, List.length_append, ih]; simp; omega
theorem arcsNE_snoc (a b : Nat) (es : List E) (e : E) : arcsNE a b (es ++ [e]) = arcsNE a b es ++ [(outP b e.a, intoP a e.b), (outP b e.b, intoP a e.a)] := by simp [arcsNE]
theorem outP_le (b x : Nat) : outP b x ≤ 2 * x + 1 := by unfold outP; split <;> omega
theorem intoP_le (a x : Nat) : intoP a x ≤ 2 * x + 1 := by unfold intoP; split <;> omega
theorem arcsAll_lt {n a b : Nat} {es : List E} (hn : n ≤ 40) (h : ∀ e, e ∈ es → e.a < n ∧ e.b < n) : ∀ p, p ∈ arcsN n a b ++ arcsNE a b es → p.1 < 1000 ∧ p.2 < 1000 := by
 intro p hp
 rcases List.mem_append.1 hp with hp | hp
 ·unfold arcsN at hp
  obtain ⟨x, hx, rfl⟩ := List.mem_map.1 hp
  have := List.mem_range.1 (List.mem_filter.1 hx).1
  exact ⟨by show 2 * x < 1000; omega, by show 2 * x + 1 < 1000; omega⟩
 ·unfold arcsNE at hp
  obtain ⟨e, he, hp⟩ := List.mem_flatMap.1 hp
  have := h e he
  have o1 := outP_le b e.a
  have o2 := outP_le b e.b
  have i1 := intoP_le a e.a
  have i2 := intoP_le a e.b
  simp at hp
  rcases hp with rfl | rfl
  ·exact ⟨by show outP b e.a < 1000; omega, by show intoP a e.b < 1000; omega⟩
  ·exact ⟨by show outP b e.b < 1000; omega, by show intoP a e.a < 1000; omega⟩
set_option maxRecDepth 100000 in
set_option maxHeartbeats 2000000 in
theorem fnodes_any (F : Nat → Prop) (w : World) (b n : Nat) (es : List E) (s t most : Nat) (hG : Gr F w b n es) (hn : n ≤ 40) (hl : es.length ≤ 120) (ho : ∀ e, e ∈ es → e.a < n ∧ e.b < n) (hs : s < n) (ht : t < n) (hst : s ≠ t) (hm : most ≤ 120) :
  Calls Tryz.prog 147 #[.pointer (some ⟨b, 0, none⟩), .int .i64 s, .int .i64 t, .int .i64 most] w (FlowPost w (capL (arcsN n s t ++ arcsNE s t es)) (2 * s + 1) (2 * t) most) := by
 have HG := Lib.hid hG
 have HO := Lib.hid ho
 have HST := Lib.hid hst
 have HE0 : Hid (askErr n s t most = 0) := Lib.hid (by unfold askErr; rw [if_neg (by omega), if_neg (by omega)])
 have hmm := @run_makeMap Tryz.prog
 clear hG ho hst
 go_enter Tryz.func147, Tryz.ntmps147
 go_wp2_with fail
 refine (right_any F _ b n es s t most (HG.out.keep (((Keep.refl Nb w).alloc _).alloc _) (fun _ _ h => h))).mono ?_
 rintro e1 w0 ⟨rfl, rfl⟩
 rw [HE0.out, if_pos rfl]
 obtain ⟨w0, hw0⟩ : ∃ w0, (w.alloc (.cells #[.int .i64 s] 3)).alloc (.cells #[.int .i64 t] 3) = w0 := ⟨_, rfl⟩
 have hz0 : w0.heap.size = w.heap.size + 1 + 1 := by rw [← hw0]; simp
 have kB : Keep Nb w w0 := by rw [← hw0]; exact ((Keep.refl Nb w).alloc _).alloc _
 have x1 : w0.cell? ⟨w.heap.size, 0, none⟩ = some (.int .i64 s) := by
  rw [← hw0, World.cell?_alloc_past _ _ _ (by simp), World.cell?_alloc_at _ _ _ _ rfl]; rfl
 have x2 : w0.cell? ⟨w.heap.size + 1, 0, none⟩ = some (.int .i64 t) := by
  rw [← hw0, World.cell?_alloc_at _ _ _ _ (by simp)]; rfl
 rw [hw0]
 have KB := Lib.hid kB
 have HZ0 := Lib.hid hz0
 clear hw0 kB hz0
 go_wp2_with fail
 have hkk : Keep Nb w0 ((w0.alloc (.map #[] 0)).alloc (.cells #[.slice none 0 0, .map (some w0.heap.size)] 256)) := ((Keep.refl Nb w0).alloc _).alloc _
 have HN0 := Lib.hid (Net.start w0 (fun _ => false))
 obtain ⟨w1, hw1⟩ : ∃ w1, (w0.alloc (.map #[] 0)).alloc (.cells #[.slice none 0 0, .map (some w0.heap.size)] 256) = w1 := ⟨_, rfl⟩
 rw [hw1] at HN0 hkk ⊢
 have K1 := Lib.hid hkk
 clear hw1 hkk
 refine (nodes_any F _ b n es ((HG.out.keep KB.out (fun _ _ h => h)).keep K1.out (fun _ _ h => h))).mono ?_
 rintro e1 w1 ⟨rfl, rfl⟩
 go_wp2_with fail
 go_loopg [30] n (fun kx s30 wr => ∃ i : Nat, s30 = .int .i64 i ∧ i ≤ n ∧ n - i ≤ kx ∧ Hid (Net (fun k => w0.heap.size ≤ k) wr (w0.heap.size + 1) (arcsN i s t) (fun _ => false) ∧ Keep Nb w0 wr))
 case atStart => exact ⟨0, rfl, Nat.zero_le _, by omega, Lib.hid ⟨HN0.out, K1.out⟩⟩
 case round =>
  clear HN0 K1
  obtain ⟨i, rfl, hi, hg, HR⟩ := hrel
  have y1 := HR.out.2.cell x1 (fun e => e)
  have y2 := HR.out.2.cell x2 (fun e => e)
  by_cases hlt : i < n
  ·have hal := arcsN_len i s t
   by_cases h1 : i = s
   ·have HN : Hid (Net (fun k => w0.heap.size ≤ k) wr (w0.heap.size + 1) (arcsN (i + 1) s t) (fun _ => false) ∧ Keep Nb w0 wr) := Lib.hid (by
     rw [arcsN_succ, if_neg (by omega), List.append_nil]; exact HR.out)
    have b1 : ((i : Int) != (s : Int)) = false := by simp; omega
    clear h1
    go_wp2_with fail
    go_roundg (n - (i + 1))
    case measure => omega
    case rel => exact ⟨i + 1, rfl, by omega, Nat.le_refl _, HN⟩
   ·have b1 : ((i : Int) != (s : Int)) = true := by simp; omega
    by_cases h2 : i = t
    ·have HN : Hid (Net (fun k => w0.heap.size ≤ k) wr (w0.heap.size + 1) (arcsN (i + 1) s t) (fun _ => false) ∧ Keep Nb w0 wr) := Lib.hid (by
      rw [arcsN_succ, if_neg (by omega), List.append_nil]; exact HR.out)
     have b2 : ((i : Int) != (t : Int)) = false := by simp; omega
     clear h2
     go_wp2_with fail
     go_roundg (n - (i + 1))
     case measure => omega
     case rel => exact ⟨i + 1, rfl, by omega, Nat.le_refl _, HN⟩
    ·have b2 : ((i : Int) != (t : Int)) = true := by simp; omega
     go_wp2_with fail
     refine (nadd_any (fun k => w0.heap.size ≤ k) _ (w0.heap.size + 1) (arcsN i s t) (fun _ => false) (2 * i) (2 * i + 1) (by omega) (by omega) (by omega) rfl HR.out.1).mono ?_
     rintro e1 w4 ⟨rfl, hj, hk4⟩
     have HN : Hid (Net (fun k => w0.heap.size ≤ k) w4 (w0.heap.size + 1) (arcsN (i + 1) s t) (fun _ => false) ∧ Keep Nb w0 w4) := Lib.hid (by
      rw [arcsN_succ, if_pos ⟨h1, h2⟩]
      have z := HR.out.2.size
      exact ⟨hj.mono (fun k hk => by omega), HR.out.2.trans' hk4 (fun _ _ h => h) (fun k hk h => by show False; omega)⟩)
     clear hj hk4
     go_wp2_with fail
     go_roundg (n - (i + 1))
     case measure => omega
     case rel => exact ⟨i + 1, rfl, by omega, Nat.le_refl _, HN⟩
  ·obtain rfl : i = n := by omega
   have HN2 := Lib.hid HR.out.1.tight
   have K2 := Lib.hid HR.out.2
   obtain ⟨w2, hw2⟩ : ∃ w2, wr = w2 := ⟨_, rfl⟩
   rw [hw2] at HN2 K2 y1 y2 ⊢
   clear HR hw2
   go_wp2_with fail
   refine (edges_any F _ b i es ((HG.out.keep KB.out (fun _ _ h => h)).keep K2.out (fun _ _ h => h)) (by omega)).mono ?_
   rintro e1 w3 ⟨o3, c3, rfl, hS3, hk3⟩
   have HS3 := Lib.hid hS3.tight
   have K3 := Lib.hid hk3
   have hz2 := K2.out.size
   have hz3 := K3.out.size
   have HN3 : Hid (Net (fun k => w0.heap.size ≤ k ∧ ¬ (w2.heap.size ≤ k ∧ k < w3.heap.size)) w3 (w0.heap.size + 1) (arcsN i s t) (fun _ => false)) := Lib.hid
    ((HN2.out.mono (fun k hk => ⟨hk.1, fun h => by have := hk.2; omega⟩)).keep hk3 (fun _ _ e => e))
   have v1 := hk3.cell y1 (fun e => e)
   have v2 := hk3.cell y2 (fun e => e)
   have mixed : (Tryz.prog).follows Departure.mixedOrders = true := by kernel_rfl
   clear hS3 hk3 y1 y2 HN2
   go_wp2_with fail
   go_loopg [54] es.length (fun kx s54 wr => ∃ j : Nat, s54 = .int .i64 j ∧ j ≤ es.length ∧ es.length - j ≤ kx ∧ Hid (Net (fun k => w0.heap.size ≤ k ∧ ¬ (w2.heap.size ≤ k ∧ k < w3.heap.size)) wr (w0.heap.size + 1) (arcsN i s t ++ arcsNE s t (es.take j)) (fun _ => false) ∧ Keep (fun k => w0.heap.size ≤ k ∧ ¬ (w2.heap.size ≤ k ∧ k < w3.heap.size)) w3 wr))
   case atStart => exact ⟨0, rfl, Nat.zero_le _, by omega, Lib.hid ⟨by simpa [arcsNE] using HN3.out, Keep.refl _ w3⟩⟩
   case round =>
    clear HN3
    obtain ⟨j, rfl, hj, hgj, HR⟩ := hrel
    have hzr := HR.out.2.size
    have hbx : ∀ k, k ≤ w.heap.size + 1 → ¬ (w0.heap.size ≤ k ∧ ¬ (w2.heap.size ≤ k ∧ k < w3.heap.size)) := fun k hk h => by have := HZ0.out; omega
    have u1 := HR.out.2.cell v1 (hbx _ (by show w.heap.size ≤ _; omega))
    have u2 := HR.out.2.cell v2 (hbx _ (by show w.heap.size + 1 ≤ _; omega))
    clear hbx
    by_cases hlt : j < es.length
    ·obtain ⟨g, rfl, hFg, hnc, hrow⟩ := HS3.out.pos (by omega)
     have hy := List.getElem?_eq_getElem hlt
     generalize es[j]'hlt = e at hy
     have hEr := hrow.edges.keep HR.out.2 (fun h => h.2 hFg)
     have d1 := hEr.id _ _ hy
     have d2 := hEr.a _ _ hy
     have d3 := hEr.b _ _ hy
     have HY := Lib.hid hy
     have hea := (HO.out e (List.mem_of_getElem? hy)).1
     have heb := (HO.out e (List.mem_of_getElem? hy)).2
     have hal : (arcsN i s t ++ arcsNE s t (es.take j)).length ≤ i + 2 * j := by rw [List.length_append, arcsNE_len, List.length_take]; have := arcsN_len i s t; omega
     have HAL := Lib.hid hal
     obtain ⟨wx, hwx⟩ : ∃ wx, wr.alloc (.cells #[.int .i64 e.id, .int .i64 e.a, .int .i64 e.b] 125) = wx := ⟨_, rfl⟩
     have hzx : wx.heap.size = wr.heap.size + 1 := by rw [← hwx]; simp
     have kx1 : Keep Nb wr wx := by rw [← hwx]; exact (Keep.refl Nb wr).alloc _
     have p1 := kx1.cell u1 (fun e => e)
     have p2 := kx1.cell u2 (fun e => e)
     have p3 : wx.cell? ⟨wr.heap.size, 1, none⟩ = some (.int .i64 e.a) := by rw [← hwx, World.cell?_alloc_at _ _ _ _ rfl]; rfl
     have p4 : wx.cell? ⟨wr.heap.size, 2, none⟩ = some (.int .i64 e.b) := by rw [← hwx, World.cell?_alloc_at _ _ _ _ rfl]; rfl
     have HWX := Lib.hid hwx
     have HZX := Lib.hid hzx
     have KX1 := Lib.hid kx1
     clear hy hrow hEr hal hwx hzx kx1
     go_wp2_with fail
     rw [HWX.out]
     go_still_tail 9, mixed
     still_call (fout_any _ _ t e.a (by omega) (by omega) p2)
     repeat still_step
     still_call (finto_any _ _ s e.b (by omega) (by omega) p1)
     refine wpStill_nil ?_
     change wpList _ _ _ _ _ wx.drew
     go_wp2_with fail
     have o1 := outP_le t e.a
     have o2 := outP_le t e.b
     have i1 := intoP_le s e.a
     have i2 := intoP_le s e.b
     refine (nadd_any (fun k => (w0.heap.size ≤ k ∧ ¬ (w2.heap.size ≤ k ∧ k < w3.heap.size)) ∧ k < wr.heap.size) _ (w0.heap.size + 1) (arcsN i s t ++ arcsNE s t (es.take j)) (fun _ => false) (outP t e.a) (intoP s e.b) (by omega) (by omega) (by have := HAL.out; omega) rfl (HR.out.1.tight.keep KX1.out.drew (fun _ _ h => h))).mono ?_
     rintro e1 w4 ⟨rfl, hq, hk4⟩
     have hz0 := HZ0.out
     have hzx := HZX.out
     have hzd : wx.drew.heap.size = wx.heap.size := rfl
     have HN3 := Lib.hid (hq.mono (G := fun k => w0.heap.size ≤ k ∧ ¬ (w2.heap.size ≤ k ∧ k < w3.heap.size)) (fun k hk => by omega))
     have HK3 := Lib.hid ((HR.out.2.trans' KX1.out.drew (H := fun k => w0.heap.size ≤ k ∧ ¬ (w2.heap.size ≤ k ∧ k < w3.heap.size)) (fun _ _ h => h) (fun _ _ h => h.elim)).trans' hk4 (fun _ _ h => h) (fun _ _ h => h.1))
     have hk4' : Keep (fun k => (w0.heap.size ≤ k ∧ ¬ (w2.heap.size ≤ k ∧ k < w3.heap.size)) ∧ k < wr.heap.size) wx w4 := ((Keep.refl Nb wx).drew).trans' hk4 (fun _ _ h => h.elim) (fun _ _ h => h)
     have t1 := hk4'.cell p1 (fun h => by have := h.1.1; simp only at this; omega)
     have t2 := hk4'.cell p2 (fun h => by have := h.1.1; simp only at this; omega)
     have t3 := hk4'.cell p3 (fun h => by have := h.2; simp only at this; omega)
     have t4 := hk4'.cell p4 (fun h => by have := h.2; simp only at this; omega)
     have hz4 := HK3.out.size
     clear hq hk4 hk4' p1 p2 p3 p4 hz0 hzx hzd u1 u2 v1 v2
     go_wp2_with fail
     go_still_tail 9, mixed
     still_call (fout_any _ _ t e.b (by omega) (by omega) t2)
     repeat still_step
     still_call (finto_any _ _ s e.a (by omega) (by omega) t1)
     refine wpStill_nil ?_
     change wpList _ _ _ _ _ w4.drew
     go_wp2_with fail
     refine (nadd_any (fun k => w0.heap.size ≤ k ∧ ¬ (w2.heap.size ≤ k ∧ k < w3.heap.size)) _ (w0.heap.size + 1) ((arcsN i s t ++ arcsNE s t (es.take j)) ++ [(outP t e.a, intoP s e.b)]) (fun _ => false) (outP t e.b) (intoP s e.a) (by omega) (by omega) (by have := HAL.out; rw [List.length_append, List.length_singleton]; omega) rfl (HN3.out.keep ((Keep.refl Nb w4).drew) (fun _ _ h => h))).mono ?_
     rintro e1 w5 ⟨rfl, hq, hk5⟩
     have HN : Hid (Net (fun k => w0.heap.size ≤ k ∧ ¬ (w2.heap.size ≤ k ∧ k < w3.heap.size)) w5 (w0.heap.size + 1) (arcsN i s t ++ arcsNE s t (es.take (j + 1))) (fun _ => false) ∧ Keep (fun k => w0.heap.size ≤ k ∧ ¬ (w2.heap.size ≤ k ∧ k < w3.heap.size)) w3 w5) := Lib.hid ⟨by
      rw [take_snoc' HY.out, arcsNE_snoc]
      have hzd : w4.drew.heap.size = w4.heap.size := rfl
      have := hq.mono (G := fun k => w0.heap.size ≤ k ∧ ¬ (w2.heap.size ≤ k ∧ k < w3.heap.size)) (fun k hk => by omega)
      simp only [List.append_assoc] at this ⊢
      exact this, HK3.out.trans (((Keep.refl Nb w4).drew).trans' hk5 (fun _ _ h => h.elim) (fun _ _ h => h))⟩
     clear hq hk5 t1 t2 t3 t4
     go_wp2_with fail
     go_roundg (es.length - (j + 1))
     case measure => omega
     case rel => exact ⟨j + 1, rfl, by omega, Nat.le_refl _, HN⟩
    ·obtain rfl : j = es.length := by omega
     have hfull : arcsN i s t ++ arcsNE s t (es.take es.length) = arcsN i s t ++ arcsNE s t es := by rw [List.take_length]
     have HN : Hid (Net (fun k => (w0.heap.size ≤ k ∧ ¬ (w2.heap.size ≤ k ∧ k < w3.heap.size)) ∧ k < wr.heap.size) wr (w0.heap.size + 1) (arcsN i s t ++ arcsNE s t es) (fun _ => false) ∧ Keep Nb w wr) := Lib.hid (by
      obtain ⟨h1, h2⟩ := HR.out
      rw [hfull] at h1
      have := HZ0.out
      exact ⟨h1.tight, ((KB.out.trans K2.out).trans K3.out).trans' h2 (fun _ _ h => h) (fun k hk h => by show False; omega)⟩)
     clear hfull HR
     go_wp2_with fail
     refine (most_any _ _ (w0.heap.size + 1) (arcsN i s t ++ arcsNE s t es) (2 * s + 1) (2 * t) most (by omega) (by omega) (by omega) (by omega) (by rw [List.length_append, arcsNE_len]; have := arcsN_len i s t; omega) (arcsAll_lt hn HO.out) HN.out.1 (fun k hk => hk.2)).mono ?_
     rintro e1 w5 ⟨v, u', rfl, h1, h2, _, _, h5⟩
     have HP : Hid (FlowPost w (capL (arcsN i s t ++ arcsNE s t es)) (2 * s + 1) (2 * t) most (.returned (.tuple #[.int .i64 v, .nilIface])) w5) := Lib.hid
      ⟨v, rfl, h1, h2, HN.out.2.trans' h5 (fun _ _ h => h) (fun k hk h => by show False; have := HZ0.out; omega)⟩
     clear h1 h2 h5
     go_wp2_with fail
     go_ret2
     exact HP.out
end Go.Proofs.YtfglkgkihafcpaaGreatDoor
namespace Go.Proofs.YtfglkgkihafcpaaGreatDoor
open Go.RowKit Pl
end Go.Proofs.YtfglkgkihafcpaaGreatDoor

namespace Go.Proofs.YtfglkgkihafcpaaGreatDoor
open Go.RowKit Pl
set_option maxRecDepth 100000 in
theorem fedges_err (F : Nat → Prop) (w : World) (b n : Nat) (es : List E) (s t most r : Int) (hG : Gr F w b n es) (hr : askErr n s t most = r) (h0 : r ≠ 0) :
  Calls Tryz.prog 146 #[.pointer (some ⟨b, 0, none⟩), .int .i64 s, .int .i64 t, .int .i64 most] w fun e w' => e = .returned (.tuple #[.int .i64 0, .iface 47 (.int .i64 r)]) ∧ Keep Nb w w' := by
 have HC : Hid (Calls Tryz.prog 182 #[.pointer (some ⟨b, 0, none⟩), .int .i64 s, .int .i64 t, .int .i64 most] w fun e w' => e = .returned (.iface 47 (.int .i64 r)) ∧ w = w') := Lib.hid ((right_any F w b n es s t most hG).mono (fun e w' h => by
  obtain ⟨h1, h2⟩ := h
  rw [hr, if_neg h0] at h1
  exact ⟨h1, h2⟩))
 clear hG hr h0
 go_enter Tryz.func146, Tryz.ntmps146
 go_wp2_with fail
 refine HC.out.mono ?_
 rintro e w1 ⟨rfl, rfl⟩
 go_wp2_with fail
 go_ret2
 exact ⟨rfl, Keep.refl _ _⟩
set_option maxRecDepth 100000 in
theorem fnodes_err (F : Nat → Prop) (w : World) (b n : Nat) (es : List E) (s t most r : Int) (hG : Gr F w b n es) (hr : askErr n s t most = r) (h0 : r ≠ 0) :
  Calls Tryz.prog 147 #[.pointer (some ⟨b, 0, none⟩), .int .i64 s, .int .i64 t, .int .i64 most] w fun e w' => e = .returned (.tuple #[.int .i64 0, .iface 47 (.int .i64 r)]) ∧ Keep Nb w w' := by
 have HC : Hid (∀ wx, Keep Nb w wx → Calls Tryz.prog 182 #[.pointer (some ⟨b, 0, none⟩), .int .i64 s, .int .i64 t, .int .i64 most] wx fun e w' => e = .returned (.iface 47 (.int .i64 r)) ∧ wx = w') := Lib.hid (fun wx k => (right_any F wx b n es s t most (hG.keep k (fun _ _ e => e))).mono (fun e w' h => by
  obtain ⟨h1, h2⟩ := h
  rw [hr, if_neg h0] at h1
  exact ⟨h1, h2⟩))
 clear hG hr h0
 go_enter Tryz.func147, Tryz.ntmps147
 go_wp2_with fail
 have k2 : Keep Nb w ((w.alloc (.cells #[.int .i64 s] 3)).alloc (.cells #[.int .i64 t] 3)) := ((Keep.refl Nb w).alloc _).alloc _
 refine (HC.out _ k2).mono ?_
 rintro e w1 ⟨rfl, rfl⟩
 go_wp2_with fail
 go_ret2
 exact ⟨rfl, k2⟩
end Go.Proofs.YtfglkgkihafcpaaGreatDoor

namespace Go.Proofs.YtfglkgkihafcpaaGreatDoor
open Go.RowKit Pl Go.Maps
set_option maxRecDepth 100000 in
theorem iByEdges_any (F : Nat → Prop) (w : World) (xb n : Nat) (es : List E) (s t : Nat) (hX : IxK F w xb n es) (hI : IOk n es) (hs : s < n) (ht : t < n) (hst : s ≠ t) :
  Calls Tryz.prog 102 #[.pointer (some ⟨xb, 0, none⟩), .int .i64 s, .int .i64 t] w (FlowPost w (cutE es) s t 120) := by
 obtain ⟨Fg, Fb, Fc, gb, bb, fs, r2, r3, r4, hM, -⟩ := hX
 have c0 := hM.row.cell (i := 0) rfl
 have HC := Lib.hid (fedges_any Fg w gb n es s t 120 hM.gr hI.n40 hI.le hI.ok.over hs ht hst (by omega))
 clear hM hI
 go_enter Tryz.func102, Tryz.ntmps102
 go_wp2_with fail
 refine HC.out.mono ?_
 rintro e w1 h
 obtain ⟨v, rfl, h1, h2, h3⟩ := h
 have HP : Hid (FlowPost w (cutE es) s t 120 (.returned (.tuple #[.int .i64 v, .nilIface])) w1) := Lib.hid ⟨v, rfl, h1, h2, h3⟩
 clear h1 h2 h3
 go_wp2_with fail
 go_ret2
 exact HP.out
set_option maxRecDepth 100000 in
theorem iByEdges_err (F : Nat → Prop) (w : World) (xb n : Nat) (es : List E) (s t r : Int) (hX : IxK F w xb n es) (hr : askErr n s t 120 = r) (h0 : r ≠ 0) :
  Calls Tryz.prog 102 #[.pointer (some ⟨xb, 0, none⟩), .int .i64 s, .int .i64 t] w fun e w' => e = .returned (.tuple #[.int .i64 0, .iface 47 (.int .i64 r)]) ∧ Keep Nb w w' := by
 obtain ⟨Fg, Fb, Fc, gb, bb, fs, r2, r3, r4, hM, -⟩ := hX
 have c0 := hM.row.cell (i := 0) rfl
 have HC := Lib.hid (fedges_err Fg w gb n es s t 120 r hM.gr hr h0)
 clear hM hr h0
 go_enter Tryz.func102, Tryz.ntmps102
 go_wp2_with fail
 refine HC.out.mono ?_
 rintro e w1 ⟨rfl, h3⟩
 have HP := Lib.hid h3
 clear h3
 go_wp2_with fail
 go_ret2
 exact ⟨rfl, HP.out⟩
set_option maxRecDepth 100000 in
theorem iByNodes_any (F : Nat → Prop) (w : World) (xb n : Nat) (es : List E) (s t : Nat) (hX : IxK F w xb n es) (hI : IOk n es) (hs : s < n) (ht : t < n) (hst : s ≠ t) :
  Calls Tryz.prog 103 #[.pointer (some ⟨xb, 0, none⟩), .int .i64 s, .int .i64 t] w (FlowPost w (capL (arcsN n s t ++ arcsNE s t es)) (2 * s + 1) (2 * t) 120) := by
 obtain ⟨Fg, Fb, Fc, gb, bb, fs, r2, r3, r4, hM, -⟩ := hX
 have c0 := hM.row.cell (i := 0) rfl
 have HC := Lib.hid (fnodes_any Fg w gb n es s t 120 hM.gr hI.n40 hI.le hI.ok.over hs ht hst (by omega))
 clear hM hI
 go_enter Tryz.func103, Tryz.ntmps103
 go_wp2_with fail
 refine HC.out.mono ?_
 rintro e w1 h
 obtain ⟨v, rfl, h1, h2, h3⟩ := h
 have HP : Hid (FlowPost w (capL (arcsN n s t ++ arcsNE s t es)) (2 * s + 1) (2 * t) 120 (.returned (.tuple #[.int .i64 v, .nilIface])) w1) := Lib.hid ⟨v, rfl, h1, h2, h3⟩
 clear h1 h2 h3
 go_wp2_with fail
 go_ret2
 exact HP.out
set_option maxRecDepth 100000 in
theorem iByNodes_err (F : Nat → Prop) (w : World) (xb n : Nat) (es : List E) (s t r : Int) (hX : IxK F w xb n es) (hr : askErr n s t 120 = r) (h0 : r ≠ 0) :
  Calls Tryz.prog 103 #[.pointer (some ⟨xb, 0, none⟩), .int .i64 s, .int .i64 t] w fun e w' => e = .returned (.tuple #[.int .i64 0, .iface 47 (.int .i64 r)]) ∧ Keep Nb w w' := by
 obtain ⟨Fg, Fb, Fc, gb, bb, fs, r2, r3, r4, hM, -⟩ := hX
 have c0 := hM.row.cell (i := 0) rfl
 have HC := Lib.hid (fnodes_err Fg w gb n es s t 120 r hM.gr hr h0)
 clear hM hr h0
 go_enter Tryz.func103, Tryz.ntmps103
 go_wp2_with fail
 refine HC.out.mono ?_
 rintro e w1 ⟨rfl, h3⟩
 have HP := Lib.hid h3
 clear h3
 go_wp2_with fail
 go_ret2
 exact ⟨rfl, HP.out⟩
end Go.Proofs.YtfglkgkihafcpaaGreatDoor

namespace Go.Proofs.YtfglkgkihafcpaaGreatDoor
open Go.RowKit Pl Go.Maps
noncomputable def theE (es : List E) (s t : Nat) : Nat := pickL (fun v : Nat => MinCap (cutE es) s t 120 v ∧ v < 9223372036854775808) 0
noncomputable def theN (n : Nat) (es : List E) (s t : Nat) : Nat := pickL (fun v : Nat => MinCap (capL (arcsN n s t ++ arcsNE s t es)) (2 * s + 1) (2 * t) 120 v ∧ v < 9223372036854775808) 0
theorem theE_eq {es : List E} {s t v : Nat} (h : MinCap (cutE es) s t 120 v) (hv : v < 9223372036854775808) : v = theE es s t := by
 have g := (pickL_at (p := fun v : Nat => MinCap (cutE es) s t 120 v ∧ v < 9223372036854775808) 0 ⟨h, hv⟩).1
 have := h.unique g
 exact Int.ofNat.inj this
theorem theN_eq {n : Nat} {es : List E} {s t v : Nat} (h : MinCap (capL (arcsN n s t ++ arcsNE s t es)) (2 * s + 1) (2 * t) 120 v) (hv : v < 9223372036854775808) : v = theN n es s t := by
 have g := (pickL_at (p := fun v : Nat => MinCap (capL (arcsN n s t ++ arcsNE s t es)) (2 * s + 1) (2 * t) 120 v ∧ v < 9223372036854775808) 0 ⟨h, hv⟩).1
 have := h.unique g
 exact Int.ofNat.inj this
theorem theE_sm (es : List E) (s t : Nat) : theE es s t < 9223372036854775808 := by
 rcases pickL_or (fun v : Nat => MinCap (cutE es) s t 120 v ∧ v < 9223372036854775808) 0 with h | h
 ·exact h.2
 ·unfold theE; rw [h]; decide
theorem theN_sm (n : Nat) (es : List E) (s t : Nat) : theN n es s t < 9223372036854775808 := by
 rcases pickL_or (fun v : Nat => MinCap (capL (arcsN n s t ++ arcsNE s t es)) (2 * s + 1) (2 * t) 120 v ∧ v < 9223372036854775808) 0 with h | h
 ·exact h.2
 ·unfold theN; rw [h]; decide
def wyErr (n : Nat) (s t : Int) : Value := if askErr n s t 120 = 0 then .nilIface else .iface 47 (.int .i64 (askErr n s t 120))
theorem ask_zero {n : Nat} {s t : Int} (h : askErr n s t 120 = 0) : 0 ≤ s ∧ s < n ∧ 0 ≤ t ∧ t < n ∧ s ≠ t := by
 unfold askErr at h
 split at h
 ·cases h
 ·split at h
  ·cases h
  ·rename_i h1 h2; omega
theorem iByEdgesZ (F : Nat → Prop) (w : World) (xb n : Nat) (es : List E) (s t : Int) (hX : IxK F w xb n es) (hI : IOk n es) :
  Calls Tryz.prog 102 #[.pointer (some ⟨xb, 0, none⟩), .int .i64 s, .int .i64 t] w fun e w' => e = .returned (.tuple #[.int .i64 (if askErr n s t 120 = 0 then (theE es s.toNat t.toNat : Nat) else 0), wyErr n s t]) ∧ Keep Nb w w' ∧ (askErr n s t 120 = 0 → theE es s.toNat t.toNat < 9223372036854775808) := by
 unfold wyErr
 by_cases h : askErr n s t 120 = 0
 ·obtain ⟨h1, h2, h3, h4, h5⟩ := ask_zero h
  rw [if_pos h, if_pos h]
  obtain ⟨s, rfl⟩ : ∃ k : Nat, s = k := ⟨s.toNat, by omega⟩
  obtain ⟨t, rfl⟩ : ∃ k : Nat, t = k := ⟨t.toNat, by omega⟩
  refine (iByEdges_any F w xb n es s t hX hI (by omega) (by omega) (by omega)).mono ?_
  rintro e w' ⟨v, rfl, hv, hm, hk⟩
  have hv2 : v < 9223372036854775808 := by omega
  rw [theE_eq hm hv2] at hv ⊢
  exact ⟨rfl, hk, fun _ => by simp only [Int.toNat_natCast]; omega⟩
 ·rw [if_neg h, if_neg h]
  exact (iByEdges_err F w xb n es s t _ hX rfl h).mono (fun e w' g => ⟨g.1, g.2, fun e => absurd e h⟩)
theorem iByNodesZ (F : Nat → Prop) (w : World) (xb n : Nat) (es : List E) (s t : Int) (hX : IxK F w xb n es) (hI : IOk n es) :
  Calls Tryz.prog 103 #[.pointer (some ⟨xb, 0, none⟩), .int .i64 s, .int .i64 t] w fun e w' => e = .returned (.tuple #[.int .i64 (if askErr n s t 120 = 0 then (theN n es s.toNat t.toNat : Nat) else 0), wyErr n s t]) ∧ Keep Nb w w' ∧ (askErr n s t 120 = 0 → theN n es s.toNat t.toNat < 9223372036854775808) := by
 unfold wyErr
 by_cases h : askErr n s t 120 = 0
 ·obtain ⟨h1, h2, h3, h4, h5⟩ := ask_zero h
  rw [if_pos h, if_pos h]
  obtain ⟨s, rfl⟩ : ∃ k : Nat, s = k := ⟨s.toNat, by omega⟩
  obtain ⟨t, rfl⟩ : ∃ k : Nat, t = k := ⟨t.toNat, by omega⟩
  refine (iByNodes_any F w xb n es s t hX hI (by omega) (by omega) (by omega)).mono ?_
  rintro e w' ⟨v, rfl, hv, hm, hk⟩
  have hv2 : v < 9223372036854775808 := by omega
  rw [theN_eq hm hv2] at hv ⊢
  exact ⟨rfl, hk, fun _ => by simp only [Int.toNat_natCast]; omega⟩
 ·rw [if_neg h, if_neg h]
  exact (iByNodes_err F w xb n es s t _ hX rfl h).mono (fun e w' g => ⟨g.1, g.2, fun e => absurd e h⟩)
noncomputable def aWays (l : List (List UInt8)) (n : Nat) (es : List E) : Ans :=
 if l.length ≠ 2 then ⟨.error 3, n, es⟩ else match numsD l with
 | some [x, y] => if askErr n x y 120 = 0 then ⟨.ok (wordsT [theE es x.toNat y.toNat, theN n es x.toNat y.toNat]), n, es⟩ else ⟨.error (askErr n x y 120), n, es⟩
 | _ => ⟨.error 3, n, es⟩
set_option maxRecDepth 100000 in
set_option maxHeartbeats 4000000 in
theorem dways_any (Z : Nat) (F : Nat → Prop) (w : World) (db xb n : Nat) (es : List E) (hD : DkM Z F w db xb n es) (o : Option Addr) (m c : Nat) (l : List (List UInt8)) (hW : Wds w o m c l) :
  Calls Tryz.prog 69 #[.pointer (some ⟨db, 0, none⟩), .slice o m c] w (DkPost Z F w db (aWays l n es)) := by
 have HN := Lib.hid (wds_nums hD.lib.lib hD.lib.err hW 2 (by omega))
 have HD := Lib.hid hD
 clear hW hD
 go_enter Tryz.func69, Tryz.ntmps69
 go_wp2_with fail
 refine HN.out.mono ?_
 rintro e w1 ⟨hk1, ⟨vs, o', c', h0, hvs, hvl, rfl, hS⟩ | ⟨hbad, rfl⟩⟩
 ·obtain ⟨x, y, rfl⟩ : ∃ x y, vs = [x, y] := by
   match vs, hvl with
   | [x, y], _ => exact ⟨x, y, rfl⟩
  obtain ⟨g, rfl, hFg, hgc, hrow⟩ := hS.pos (by omega)
  have dv0 : w1.cell? ⟨g, 0, none⟩ = some (.int .i64 x) := hrow.cell rfl
  have dv1 : w1.cell? ⟨g, 1, none⟩ = some (.int .i64 y) := hrow.cell rfl
  have hD1 := HD.out.still hk1
  have d0 := hD1.row.cell (i := 0) rfl
  have HK1 := Lib.hid hk1
  have HV := Lib.hid (And.intro h0 hvs)
  obtain ⟨v1, hv1⟩ : ∃ v : Int, (if askErr n x y 120 = 0 then ((theE es x.toNat y.toNat : Nat) : Int) else 0) = v := ⟨_, rfl⟩
  obtain ⟨v2, hv2⟩ : ∃ v : Int, (if askErr n x y 120 = 0 then ((theN n es x.toNat y.toNat : Nat) : Int) else 0) = v := ⟨_, rfl⟩
  obtain ⟨ev, hev⟩ : ∃ ev, wyErr n x y = ev := ⟨_, rfl⟩
  have HB := Lib.hid (And.intro hv1 (And.intro hv2 hev))
  have HQ1 : Hid (∀ wx, Keep Nb w1 wx → Calls Tryz.prog 102 #[.pointer (some ⟨xb, 0, none⟩), .int .i64 x, .int .i64 y] wx fun e w' => e = .returned (.tuple #[.int .i64 v1, ev]) ∧ Keep Nb wx w' ∧ (askErr n x y 120 = 0 → theE es x.toNat y.toNat < 9223372036854775808)) := Lib.hid (fun wx hkx => by
   rw [← hv1, ← hev]
   exact iByEdgesZ F wx xb n es x y (hD1.ix.keep hkx (fun _ _ e => e)) hD1.ok)
  have HQ2 : Hid (∀ wx, Keep Nb w1 wx → Calls Tryz.prog 103 #[.pointer (some ⟨xb, 0, none⟩), .int .i64 x, .int .i64 y] wx fun e w' => e = .returned (.tuple #[.int .i64 v2, ev]) ∧ Keep Nb wx w' ∧ (askErr n x y 120 = 0 → theN n es x.toNat y.toNat < 9223372036854775808)) := Lib.hid (fun wx hkx => by
   rw [← hv2, ← hev]
   exact iByNodesZ F wx xb n es x y (hD1.ix.keep hkx (fun _ _ e => e)) hD1.ok)
  have DV := Lib.hid (And.intro d0 (And.intro dv0 dv1))
  clear hk1 h0 hvs hvl hrow hS HN hFg hD1 hv1 hv2 hev
  go_wp2_with fail
  go_region_held3 (fun w' => w'.cell? ⟨db, 0, none⟩ = some (.pointer (some ⟨xb, 0, none⟩)) ∧ w'.cell? ⟨g, 0, none⟩ = some (.int .i64 x) ∧ w'.cell? ⟨g, 1, none⟩ = some (.int .i64 y)) (go_keep) ((first
   | (go_at_call 102; refine (HQ1.out _ (show Keep Nb w1 _ from (by (repeat (first | exact Keep.refl _ _ | refine Keep.alloc ?_ _ | refine Keep.drew ?_))))).mono ?_; rintro e1 wA ⟨rfl, kA, bA⟩; have BA := Lib.hid bA; clear bA; have a0 := kA.cell (p := ⟨db, 0, none⟩) DV.out.1 (fun e => e); have a1 := kA.cell (p := ⟨g, 0, none⟩) DV.out.2.1 (fun e => e); have a2 := kA.cell (p := ⟨g, 1, none⟩) DV.out.2.2 (fun e => e); have KA := Lib.hid kA; clear kA)))
  have HKA : Hid (Keep Nb w1 wA) := Lib.hid (((Keep.refl Nb w1).drew).trans KA.out)
  have DA := Lib.hid (And.intro a0 (And.intro a1 a2))
  clear KA
  by_cases hr : askErr n x y 120 = 0
  ·have hev : ev = .nilIface := by rw [← HB.out.2.2]; exact if_pos hr
   have e1 : v1 = (theE es x.toNat y.toNat : Nat) := by rw [← HB.out.1, if_pos hr]
   have e2 : v2 = (theN n es x.toNat y.toNat : Nat) := by rw [← HB.out.2.1, if_pos hr]
   obtain ⟨u1, hu1⟩ : ∃ u, theE es x.toNat y.toNat = u := ⟨_, rfl⟩
   obtain ⟨u2, hu2⟩ : ∃ u, theN n es x.toNat y.toNat = u := ⟨_, rfl⟩
   rw [hu1] at e1
   rw [hu2] at e2
   have HU := Lib.hid (And.intro hu1 hu2)
   have HR := Lib.hid hr
   subst hev e1 e2
   clear hr hu1 hu2 HQ1 HB
   go_wp2_with fail
   refine (must_nil wA).mono ?_
   rintro e w4 ⟨rfl, rfl⟩
   go_wp2_with fail
   go_region_held3 (fun w' => w'.cell? ⟨db, 0, none⟩ = some (.pointer (some ⟨xb, 0, none⟩)) ∧ w'.cell? ⟨g, 0, none⟩ = some (.int .i64 x) ∧ w'.cell? ⟨g, 1, none⟩ = some (.int .i64 y)) (go_keep) ((first
    | (go_at_call 103; refine (HQ2.out _ (HKA.out.trans (show Keep Nb w4 _ from (by (repeat (first | exact Keep.refl _ _ | refine Keep.alloc ?_ _ | refine Keep.drew ?_)))))).mono ?_; rintro e1 wB ⟨rfl, kB, bB⟩; have BB := Lib.hid bB; clear bB; have b0 := kB.cell (p := ⟨db, 0, none⟩) DA.out.1 (fun e => e); have b1 := kB.cell (p := ⟨g, 0, none⟩) DA.out.2.1 (fun e => e); have b2 := kB.cell (p := ⟨g, 1, none⟩) DA.out.2.2 (fun e => e); have KB := Lib.hid kB; clear kB)))
   have HKB : Hid (Keep Nb w1 wB) := Lib.hid ((HKA.out.trans ((Keep.refl Nb w4).drew)).trans KB.out)
   clear b0 b1 b2 KB a0 a1 a2 DA
   go_wp2_with fail
   refine (must_nil wB).mono ?_
   rintro e w5 ⟨rfl, rfl⟩
   obtain ⟨w6, hw6⟩ : ∃ w6, w5.alloc (.cells #[.int .i64 u1, .int .i64 u2] 3) = w6 := ⟨_, rfl⟩
   obtain ⟨X, hX⟩ : ∃ X, w5.heap.size = X := ⟨_, rfl⟩
   have hS0 := Sl.built w5 3 1 2 (ints [u1, u2]) rfl (by decide)
   have e2 : (ints [u1, u2]).toArray = #[.int .i64 u1, .int .i64 u2] := rfl
   rw [e2, hX, hw6] at hS0
   have k6 : Keep Nb w5 w6 := by rw [← hw6]; exact (Keep.refl Nb w5).alloc _
   have hbd : ∀ x, x ∈ [u1, u2] → x < 9223372036854775808 := by
    have h1 := BA.out HR.out
    have h2 := BB.out HR.out
    rw [HU.out.1] at h1
    rw [HU.out.2] at h2
    intro x hx
    simp at hx
    rcases hx with rfl | rfl
    ·exact h1
    ·exact h2
   have HK6 := Lib.hid ((HK1.out.trans HKB.out).trans k6)
   have HJ := Lib.hid (djoin_any _ w6 (HD.out.lib.lib.keep HK6.out) (some ⟨X, 0, none⟩) 2 2 [u1, u2] hS0 (by omega) hbd)
   clear hS0 e2 k6 hbd BA BB
   go_wp2_with fail
   refine HJ.out.mono ?_
   rintro e w7 ⟨rfl, hk7⟩
   have HK7 := Lib.hid (HK6.out.trans hk7)
   clear hk7 HJ
   go_wp2_with fail
   go_ret
   refine dk_ok (t := wordsT [u1, u2]) (HD.out.same HK7.out) ?_ rfl
   unfold aWays
   rw [if_neg (by rw [HV.out.1]; simp), HV.out.2]
   simp only
   rw [if_pos HR.out, HU.out.1, HU.out.2]
  ·obtain ⟨rr, hrr⟩ : ∃ rr, askErr n x y 120 = rr := ⟨_, rfl⟩
   have hev : ev = .iface 47 (.int .i64 rr) := by rw [← HB.out.2.2]; unfold wyErr; rw [if_neg hr, hrr]
   subst hev
   have HR := Lib.hid hr
   have HRR := Lib.hid hrr
   clear hr hrr HQ1 HQ2
   go_wp2_with fail
   refine (must_err rr wA (HD.out.lib.err.keep (HK1.out.trans HKA.out) (fun e => e))).mono ?_
   rintro e w4 ⟨rfl, hk4⟩
   refine ⟨rfl, dk_bad HD.out ((HK1.out.trans HKA.out).trans hk4) ?_⟩
   unfold aWays
   rw [if_neg (by rw [HV.out.1]; simp), HV.out.2]
   simp only
   rw [if_neg HR.out, HRR.out]
 ·refine ⟨rfl, dk_bad HD.out hk1 ?_⟩
  unfold aWays
  rcases hbad with h | h
  ·rw [if_pos h]
  ·rw [h]; split <;> rfl
end Go.Proofs.YtfglkgkihafcpaaGreatDoor

namespace Go.Proofs.YtfglkgkihafcpaaGreatDoor
open Go.RowKit Pl Go.Maps
theorem LOk.cut {n : Nat} {es : List E} (h : LOk n es) (t : Int) : LOk n (cutEs es t) := by
 unfold cutEs
 split
 ·exact h.sub (delAt_sublist _ _)
 ·exact h
end Go.Proofs.YtfglkgkihafcpaaGreatDoor

