/- Joined: Net7 Parted. -/
import Derived.Test.YtkpoobnldgfapaaB2
import Derived.Test.YtkpoobnldgfapaaA9
import Derived.Test.YtkpoobnldgfapaaA6
import Derived.StillTailTactics
set_option linter.unusedVariables false
set_option linter.unusedSimpArgs false
/- flow: Nodes. -/
namespace Go.Proofs.Ytkpoobnldgfapaa
open Go.RowKit Pl Go.Maps

set_option maxRecDepth 100000 in
theorem fout_any (w : World) (q b x : Nat) (hb : b ≤ 1000) (hx : x ≤ 1000) (hc : w.cell? ⟨q, 0, none⟩ = some (.int .i64 b)) :
    Calls Try.prog 63 #[.int .i64 x, .pointer (some ⟨q, 0, none⟩)] w fun e w'' => e = .returned (.int .i64 (outP b x : Nat)) ∧ w'' = w := by
  by_cases e : x = b
  · have ho : outP b x = 2 * b := by unfold outP; rw [if_pos e]
    rw [ho]
    subst e
    go_enter Try.func63, Try.ntmps63
    go_wp2_with fail
    go_ret
    exact ⟨by simp, rfl⟩
  · have ho : outP b x = 2 * x + 1 := by unfold outP; rw [if_neg e]
    rw [ho]
    have hb : ((x : Int) == (b : Int)) = false := by simp; omega
    go_enter Try.func63, Try.ntmps63
    go_wp2_with fail
    go_ret
    exact ⟨by simp, rfl⟩

set_option maxRecDepth 100000 in
theorem finto_any (w : World) (q a x : Nat) (ha : a ≤ 1000) (hx : x ≤ 1000) (hc : w.cell? ⟨q, 0, none⟩ = some (.int .i64 a)) :
    Calls Try.prog 64 #[.int .i64 x, .pointer (some ⟨q, 0, none⟩)] w fun e w'' => e = .returned (.int .i64 (intoP a x : Nat)) ∧ w'' = w := by
  by_cases e : x = a
  · have ho : intoP a x = 2 * a + 1 := by unfold intoP; rw [if_pos e]
    rw [ho]
    subst e
    go_enter Try.func64, Try.ntmps64
    go_wp2_with fail
    go_ret
    exact ⟨by simp, rfl⟩
  · have ho : intoP a x = 2 * x := by unfold intoP; rw [if_neg e]
    rw [ho]
    have hb : ((x : Int) == (a : Int)) = false := by simp; omega
    go_enter Try.func64, Try.ntmps64
    go_wp2_with fail
    go_ret
    exact ⟨by simp, rfl⟩

theorem arcsN_succ (i a b : Nat) : arcsN (i + 1) a b = arcsN i a b ++ if i ≠ a ∧ i ≠ b then [(2 * i, 2 * i + 1)] else [] := by
  unfold arcsN
  rw [List.range_succ, List.filter_append, List.map_append]
  congr 1
  by_cases h : i ≠ a ∧ i ≠ b
  · rw [if_pos h, List.filter_cons, if_pos (by simpa using h)]; rfl
  · rw [if_neg h, List.filter_cons, if_neg (by simpa using h)]; rfl

theorem arcsN_len (n a b : Nat) : (arcsN n a b).length ≤ n := by
  unfold arcsN; rw [List.length_map]; exact Nat.le_trans (List.length_filter_le _ _) (by simp)

theorem arcsNE_len (a b : Nat) (es : List E) : (arcsNE a b es).length = 2 * es.length := by
  induction es with
  | nil => rfl
  | cons e es ih => unfold arcsNE at ih ⊢; rw [List.flatMap_cons, List.length_append, ih]; simp; omega

theorem arcsNE_snoc (a b : Nat) (es : List E) (e : E) : arcsNE a b (es ++ [e]) = arcsNE a b es ++ [(outP b e.a, intoP a e.b), (outP b e.b, intoP a e.a)] := by simp [arcsNE]

theorem outP_le (b x : Nat) : outP b x ≤ 2 * x + 1 := by unfold outP; split <;> omega
theorem intoP_le (a x : Nat) : intoP a x ≤ 2 * x + 1 := by unfold intoP; split <;> omega

theorem arcsAll_lt {n a b : Nat} {es : List E} (hn : n ≤ 40) (h : ∀ e, e ∈ es → e.a < n ∧ e.b < n) : ∀ p, p ∈ arcsN n a b ++ arcsNE a b es → p.1 < 1000 ∧ p.2 < 1000 := by
  intro p hp
  rcases List.mem_append.1 hp with hp | hp
  · unfold arcsN at hp
    obtain ⟨x, hx, rfl⟩ := List.mem_map.1 hp
    have := List.mem_range.1 (List.mem_filter.1 hx).1
    exact ⟨by show 2 * x < 1000; omega, by show 2 * x + 1 < 1000; omega⟩
  · unfold arcsNE at hp
    obtain ⟨e, he, hp⟩ := List.mem_flatMap.1 hp
    have := h e he
    have o1 := outP_le b e.a
    have o2 := outP_le b e.b
    have i1 := intoP_le a e.a
    have i2 := intoP_le a e.b
    simp at hp
    rcases hp with rfl | rfl
    · exact ⟨by show outP b e.a < 1000; omega, by show intoP a e.b < 1000; omega⟩
    · exact ⟨by show outP b e.b < 1000; omega, by show intoP a e.a < 1000; omega⟩

set_option maxRecDepth 100000 in
set_option maxHeartbeats 2000000 in
theorem fnodes_any (F : Nat → Prop) (w : World) (b n : Nat) (es : List E) (s t most : Nat) (hG : Gr F w b n es) (hn : n ≤ 40) (hl : es.length ≤ 120) (ho : ∀ e, e ∈ es → e.a < n ∧ e.b < n) (hs : s < n) (ht : t < n) (hst : s ≠ t) (hm : most ≤ 120) :
    Calls Try.prog 26 #[.pointer (some ⟨b, 0, none⟩), .int .i64 s, .int .i64 t, .int .i64 most] w (FlowPost w (capL (arcsN n s t ++ arcsNE s t es)) (2 * s + 1) (2 * t) most) := by
  have HG := Lib.hid hG
  have HO := Lib.hid ho
  have HST := Lib.hid hst
  have HE0 : Hid (askErr n s t most = 0) := Lib.hid (by unfold askErr; rw [if_neg (by omega), if_neg (by omega)])
  have hmm := @run_makeMap Try.prog
  clear hG ho hst
  go_enter Try.func26, Try.ntmps26
  go_wp2_with fail
  refine (right_any F _ b n es s t most (HG.out.keep (((Keep.refl Nb w).alloc _).alloc _) (fun _ _ h => h))).mono ?_
  rintro e1 w0 ⟨rfl, rfl⟩
  rw [HE0.out, if_pos rfl]
  obtain ⟨w0, hw0⟩ : ∃ w0, (w.alloc (.cells #[.int .i64 s] 3)).alloc (.cells #[.int .i64 t] 3) = w0 := ⟨_, rfl⟩
  have hz0 : w0.heap.size = w.heap.size + 1 + 1 := by rw [← hw0]; simp
  have kB : Keep Nb w w0 := by rw [← hw0]; exact ((Keep.refl Nb w).alloc _).alloc _
  have x1 : w0.cell? ⟨w.heap.size, 0, none⟩ = some (.int .i64 s) := by
    rw [← hw0, World.cell?_alloc_past _ _ _ (by simp), World.cell?_alloc_at _ _ _ _ rfl]; rfl
  have x2 : w0.cell? ⟨w.heap.size + 1, 0, none⟩ = some (.int .i64 t) := by
    rw [← hw0, World.cell?_alloc_at _ _ _ _ (by simp)]; rfl
  rw [hw0]
  have KB := Lib.hid kB
  have HZ0 := Lib.hid hz0
  clear hw0 kB hz0
  go_wp2_with fail
  have hkk : Keep Nb w0 ((w0.alloc (.map #[] 0)).alloc (.cells #[.slice none 0 0, .map (some w0.heap.size)] 98)) := ((Keep.refl Nb w0).alloc _).alloc _
  have HN0 := Lib.hid (Net.start w0 (fun _ => false))
  obtain ⟨w1, hw1⟩ : ∃ w1, (w0.alloc (.map #[] 0)).alloc (.cells #[.slice none 0 0, .map (some w0.heap.size)] 98) = w1 := ⟨_, rfl⟩
  rw [hw1] at HN0 hkk ⊢
  have K1 := Lib.hid hkk
  clear hw1 hkk
  refine (nodes_any F _ b n es ((HG.out.keep KB.out (fun _ _ h => h)).keep K1.out (fun _ _ h => h))).mono ?_
  rintro e1 w1 ⟨rfl, rfl⟩
  go_wp2_with fail
  go_loopg [30] n (fun kx s30 wr => ∃ i : Nat, s30 = .int .i64 i ∧ i ≤ n ∧ n - i ≤ kx ∧ Hid (Net (fun k => w0.heap.size ≤ k) wr (w0.heap.size + 1) (arcsN i s t) (fun _ => false) ∧ Keep Nb w0 wr))
  case atStart => exact ⟨0, rfl, Nat.zero_le _, by omega, Lib.hid ⟨HN0.out, K1.out⟩⟩
  case round =>
    clear HN0 K1
    obtain ⟨i, rfl, hi, hg, HR⟩ := hrel
    have y1 := HR.out.2.cell x1 (fun e => e)
    have y2 := HR.out.2.cell x2 (fun e => e)
    by_cases hlt : i < n
    · have hal := arcsN_len i s t
      by_cases h1 : i = s
      · have HN : Hid (Net (fun k => w0.heap.size ≤ k) wr (w0.heap.size + 1) (arcsN (i + 1) s t) (fun _ => false) ∧ Keep Nb w0 wr) := Lib.hid (by
          rw [arcsN_succ, if_neg (by omega), List.append_nil]; exact HR.out)
        have b1 : ((i : Int) != (s : Int)) = false := by simp; omega
        clear h1
        go_wp2_with fail
        go_roundg (n - (i + 1))
        case measure => omega
        case rel => exact ⟨i + 1, rfl, by omega, Nat.le_refl _, HN⟩
      · have b1 : ((i : Int) != (s : Int)) = true := by simp; omega
        by_cases h2 : i = t
        · have HN : Hid (Net (fun k => w0.heap.size ≤ k) wr (w0.heap.size + 1) (arcsN (i + 1) s t) (fun _ => false) ∧ Keep Nb w0 wr) := Lib.hid (by
            rw [arcsN_succ, if_neg (by omega), List.append_nil]; exact HR.out)
          have b2 : ((i : Int) != (t : Int)) = false := by simp; omega
          clear h2
          go_wp2_with fail
          go_roundg (n - (i + 1))
          case measure => omega
          case rel => exact ⟨i + 1, rfl, by omega, Nat.le_refl _, HN⟩
        · have b2 : ((i : Int) != (t : Int)) = true := by simp; omega
          go_wp2_with fail
          refine (nadd_any (fun k => w0.heap.size ≤ k) _ (w0.heap.size + 1) (arcsN i s t) (fun _ => false) (2 * i) (2 * i + 1) (by omega) (by omega) (by omega) rfl HR.out.1).mono ?_
          rintro e1 w4 ⟨rfl, hj, hk4⟩
          have HN : Hid (Net (fun k => w0.heap.size ≤ k) w4 (w0.heap.size + 1) (arcsN (i + 1) s t) (fun _ => false) ∧ Keep Nb w0 w4) := Lib.hid (by
            rw [arcsN_succ, if_pos ⟨h1, h2⟩]
            have z := HR.out.2.size
            exact ⟨hj.mono (fun k hk => by omega), HR.out.2.trans' hk4 (fun _ _ h => h) (fun k hk h => by show False; omega)⟩)
          clear hj hk4
          go_wp2_with fail
          go_roundg (n - (i + 1))
          case measure => omega
          case rel => exact ⟨i + 1, rfl, by omega, Nat.le_refl _, HN⟩
    · obtain rfl : i = n := by omega
      have HN2 := Lib.hid HR.out.1.tight
      have K2 := Lib.hid HR.out.2
      obtain ⟨w2, hw2⟩ : ∃ w2, wr = w2 := ⟨_, rfl⟩
      rw [hw2] at HN2 K2 y1 y2 ⊢
      clear HR hw2
      go_wp2_with fail
      refine (edges_any F _ b i es ((HG.out.keep KB.out (fun _ _ h => h)).keep K2.out (fun _ _ h => h)) (by omega)).mono ?_
      rintro e1 w3 ⟨o3, c3, rfl, hS3, hk3⟩
      have HS3 := Lib.hid hS3.tight
      have K3 := Lib.hid hk3
      have hz2 := K2.out.size
      have hz3 := K3.out.size
      have HN3 : Hid (Net (fun k => w0.heap.size ≤ k ∧ ¬ (w2.heap.size ≤ k ∧ k < w3.heap.size)) w3 (w0.heap.size + 1) (arcsN i s t) (fun _ => false)) := Lib.hid
        ((HN2.out.mono (fun k hk => ⟨hk.1, fun h => by have := hk.2; omega⟩)).keep hk3 (fun _ _ e => e))
      have v1 := hk3.cell y1 (fun e => e)
      have v2 := hk3.cell y2 (fun e => e)
      have mixed : (Try.prog).follows Departure.mixedOrders = true := by kernel_rfl
      clear hS3 hk3 y1 y2 HN2
      go_wp2_with fail
      go_loopg [54] es.length (fun kx s54 wr => ∃ j : Nat, s54 = .int .i64 j ∧ j ≤ es.length ∧ es.length - j ≤ kx ∧ Hid (Net (fun k => w0.heap.size ≤ k ∧ ¬ (w2.heap.size ≤ k ∧ k < w3.heap.size)) wr (w0.heap.size + 1) (arcsN i s t ++ arcsNE s t (es.take j)) (fun _ => false) ∧ Keep (fun k => w0.heap.size ≤ k ∧ ¬ (w2.heap.size ≤ k ∧ k < w3.heap.size)) w3 wr))
      case atStart => exact ⟨0, rfl, Nat.zero_le _, by omega, Lib.hid ⟨by simpa [arcsNE] using HN3.out, Keep.refl _ w3⟩⟩
      case round =>
        clear HN3
        obtain ⟨j, rfl, hj, hgj, HR⟩ := hrel
        have hzr := HR.out.2.size
        have hbx : ∀ k, k ≤ w.heap.size + 1 → ¬ (w0.heap.size ≤ k ∧ ¬ (w2.heap.size ≤ k ∧ k < w3.heap.size)) := fun k hk h => by have := HZ0.out; omega
        have u1 := HR.out.2.cell v1 (hbx _ (by show w.heap.size ≤ _; omega))
        have u2 := HR.out.2.cell v2 (hbx _ (by show w.heap.size + 1 ≤ _; omega))
        clear hbx
        by_cases hlt : j < es.length
        · obtain ⟨g, rfl, hFg, hnc, hrow⟩ := HS3.out.pos (by omega)
          have hy := List.getElem?_eq_getElem hlt
          generalize es[j]'hlt = e at hy
          have hEr := hrow.edges.keep HR.out.2 (fun h => h.2 hFg)
          have d1 := hEr.id _ _ hy
          have d2 := hEr.a _ _ hy
          have d3 := hEr.b _ _ hy
          have HY := Lib.hid hy
          have hea := (HO.out e (List.mem_of_getElem? hy)).1
          have heb := (HO.out e (List.mem_of_getElem? hy)).2
          have hal : (arcsN i s t ++ arcsNE s t (es.take j)).length ≤ i + 2 * j := by rw [List.length_append, arcsNE_len, List.length_take]; have := arcsN_len i s t; omega
          have HAL := Lib.hid hal
          obtain ⟨wx, hwx⟩ : ∃ wx, wr.alloc (.cells #[.int .i64 e.id, .int .i64 e.a, .int .i64 e.b] 54) = wx := ⟨_, rfl⟩
          have hzx : wx.heap.size = wr.heap.size + 1 := by rw [← hwx]; simp
          have kx1 : Keep Nb wr wx := by rw [← hwx]; exact (Keep.refl Nb wr).alloc _
          have p1 := kx1.cell u1 (fun e => e)
          have p2 := kx1.cell u2 (fun e => e)
          have p3 : wx.cell? ⟨wr.heap.size, 1, none⟩ = some (.int .i64 e.a) := by rw [← hwx, World.cell?_alloc_at _ _ _ _ rfl]; rfl
          have p4 : wx.cell? ⟨wr.heap.size, 2, none⟩ = some (.int .i64 e.b) := by rw [← hwx, World.cell?_alloc_at _ _ _ _ rfl]; rfl
          have HWX := Lib.hid hwx
          have HZX := Lib.hid hzx
          have KX1 := Lib.hid kx1
          clear hy hrow hEr hal hwx hzx kx1
          go_wp2_with fail
          rw [HWX.out]
          go_still_tail 9, mixed
          still_call (fout_any _ _ t e.a (by omega) (by omega) p2)
          repeat still_step
          still_call (finto_any _ _ s e.b (by omega) (by omega) p1)
          refine wpStill_nil ?_
          change wpList _ _ _ _ _ wx.drew
          go_wp2_with fail
          have o1 := outP_le t e.a
          have o2 := outP_le t e.b
          have i1 := intoP_le s e.a
          have i2 := intoP_le s e.b
          refine (nadd_any (fun k => (w0.heap.size ≤ k ∧ ¬ (w2.heap.size ≤ k ∧ k < w3.heap.size)) ∧ k < wr.heap.size) _ (w0.heap.size + 1) (arcsN i s t ++ arcsNE s t (es.take j)) (fun _ => false) (outP t e.a) (intoP s e.b) (by omega) (by omega) (by have := HAL.out; omega) rfl (HR.out.1.tight.keep KX1.out.drew (fun _ _ h => h))).mono ?_
          rintro e1 w4 ⟨rfl, hq, hk4⟩
          have hz0 := HZ0.out
          have hzx := HZX.out
          have hzd : wx.drew.heap.size = wx.heap.size := rfl
          have HN3 := Lib.hid (hq.mono (G := fun k => w0.heap.size ≤ k ∧ ¬ (w2.heap.size ≤ k ∧ k < w3.heap.size)) (fun k hk => by omega))
          have HK3 := Lib.hid ((HR.out.2.trans' KX1.out.drew (H := fun k => w0.heap.size ≤ k ∧ ¬ (w2.heap.size ≤ k ∧ k < w3.heap.size)) (fun _ _ h => h) (fun _ _ h => h.elim)).trans' hk4 (fun _ _ h => h) (fun _ _ h => h.1))
          have hk4' : Keep (fun k => (w0.heap.size ≤ k ∧ ¬ (w2.heap.size ≤ k ∧ k < w3.heap.size)) ∧ k < wr.heap.size) wx w4 := ((Keep.refl Nb wx).drew).trans' hk4 (fun _ _ h => h.elim) (fun _ _ h => h)
          have t1 := hk4'.cell p1 (fun h => by have := h.1.1; simp only at this; omega)
          have t2 := hk4'.cell p2 (fun h => by have := h.1.1; simp only at this; omega)
          have t3 := hk4'.cell p3 (fun h => by have := h.2; simp only at this; omega)
          have t4 := hk4'.cell p4 (fun h => by have := h.2; simp only at this; omega)
          have hz4 := HK3.out.size
          clear hq hk4 hk4' p1 p2 p3 p4 hz0 hzx hzd u1 u2 v1 v2
          go_wp2_with fail
          go_still_tail 9, mixed
          still_call (fout_any _ _ t e.b (by omega) (by omega) t2)
          repeat still_step
          still_call (finto_any _ _ s e.a (by omega) (by omega) t1)
          refine wpStill_nil ?_
          change wpList _ _ _ _ _ w4.drew
          go_wp2_with fail
          refine (nadd_any (fun k => w0.heap.size ≤ k ∧ ¬ (w2.heap.size ≤ k ∧ k < w3.heap.size)) _ (w0.heap.size + 1) ((arcsN i s t ++ arcsNE s t (es.take j)) ++ [(outP t e.a, intoP s e.b)]) (fun _ => false) (outP t e.b) (intoP s e.a) (by omega) (by omega) (by have := HAL.out; rw [List.length_append, List.length_singleton]; omega) rfl (HN3.out.keep ((Keep.refl Nb w4).drew) (fun _ _ h => h))).mono ?_
          rintro e1 w5 ⟨rfl, hq, hk5⟩
          have HN : Hid (Net (fun k => w0.heap.size ≤ k ∧ ¬ (w2.heap.size ≤ k ∧ k < w3.heap.size)) w5 (w0.heap.size + 1) (arcsN i s t ++ arcsNE s t (es.take (j + 1))) (fun _ => false) ∧ Keep (fun k => w0.heap.size ≤ k ∧ ¬ (w2.heap.size ≤ k ∧ k < w3.heap.size)) w3 w5) := Lib.hid ⟨by
            rw [take_snoc' HY.out, arcsNE_snoc]
            have hzd : w4.drew.heap.size = w4.heap.size := rfl
            have := hq.mono (G := fun k => w0.heap.size ≤ k ∧ ¬ (w2.heap.size ≤ k ∧ k < w3.heap.size)) (fun k hk => by omega)
            simp only [List.append_assoc] at this ⊢
            exact this, HK3.out.trans (((Keep.refl Nb w4).drew).trans' hk5 (fun _ _ h => h.elim) (fun _ _ h => h))⟩
          clear hq hk5 t1 t2 t3 t4
          go_wp2_with fail
          go_roundg (es.length - (j + 1))
          case measure => omega
          case rel => exact ⟨j + 1, rfl, by omega, Nat.le_refl _, HN⟩
        · obtain rfl : j = es.length := by omega
          have hfull : arcsN i s t ++ arcsNE s t (es.take es.length) = arcsN i s t ++ arcsNE s t es := by rw [List.take_length]
          have HN : Hid (Net (fun k => (w0.heap.size ≤ k ∧ ¬ (w2.heap.size ≤ k ∧ k < w3.heap.size)) ∧ k < wr.heap.size) wr (w0.heap.size + 1) (arcsN i s t ++ arcsNE s t es) (fun _ => false) ∧ Keep Nb w wr) := Lib.hid (by
            obtain ⟨h1, h2⟩ := HR.out
            rw [hfull] at h1
            have := HZ0.out
            exact ⟨h1.tight, ((KB.out.trans K2.out).trans K3.out).trans' h2 (fun _ _ h => h) (fun k hk h => by show False; omega)⟩)
          clear hfull HR
          go_wp2_with fail
          refine (most_any _ _ (w0.heap.size + 1) (arcsN i s t ++ arcsNE s t es) (2 * s + 1) (2 * t) most (by omega) (by omega) (by omega) (by omega) (by rw [List.length_append, arcsNE_len]; have := arcsN_len i s t; omega) (arcsAll_lt hn HO.out) HN.out.1 (fun k hk => hk.2)).mono ?_
          rintro e1 w5 ⟨v, u', rfl, h1, h2, _, _, h5⟩
          have HP : Hid (FlowPost w (capL (arcsN i s t ++ arcsNE s t es)) (2 * s + 1) (2 * t) most (.returned (.tuple #[.int .i64 v, .nilIface])) w5) := Lib.hid
            ⟨v, rfl, h1, h2, HN.out.2.trans' h5 (fun _ _ h => h) (fun k hk h => by show False; have := HZ0.out; omega)⟩
          clear h1 h2 h5
          go_wp2_with fail
          go_ret2
          exact HP.out

end Go.Proofs.Ytkpoobnldgfapaa

/- isthmuskeep: parted, a fact. -/
namespace Go.Proofs.Ytkpoobnldgfapaa
open Go.RowKit Pl

def es4 : List E := [⟨0, 0, 1⟩, ⟨1, 1, 2⟩, ⟨2, 2, 3⟩, ⟨3, 0, 3⟩]

theorem es4_step {i j : Nat} (hi : i < 4) (hj : j = (i + 1) % 4) : addEs 4 (es4.take i) i i j = es4.take (i + 1) ∧ addErr 4 (es4.take i) i i j = 0 := by
  have : i = 0 ∨ i = 1 ∨ i = 2 ∨ i = 3 := by omega
  rcases this with rfl | rfl | rfl | rfl <;> subst hj <;> decide +kernel

theorem es4_sorted (i : Nat) : Sorted (es4.take i) := by
  have h : Sorted es4 := by unfold Sorted es4; simp
  exact h.sublist (List.take_sublist _ _)

theorem es4_splits : allS (splitsB 4 es4) 4 4 = [(0, 2), (1, 3)] := by decide +kernel

theorem es4_edges {v : Nat} (h : MinCap (cutE es4) 0 2 9 v) : v = 2 := by
  have h2 : MinCap (cutE es4) 0 2 9 ((2 : Nat) : Int) := by
    refine ⟨fun R h1 h2 => ?_, by omega, by omega, .inr ⟨fun x => decide (x = 0), rfl, rfl, by decide⟩⟩
    unfold cutE es4
    simp only [List.countP_cons, List.countP_nil, h1, h2]
    cases R 1 <;> cases R 3 <;> decide
  have := h.unique h2
  omega

theorem es4_nodes {v : Nat} (h : MinCap (capL (arcsN 4 0 2 ++ arcsNE 0 2 es4)) (2 * 0 + 1) (2 * 2) ((1 : Nat) : Int) v) : v = 1 := by
  have h2 : MinCap (capL (arcsN 4 0 2 ++ arcsNE 0 2 es4)) (2 * 0 + 1) (2 * 2) ((1 : Nat) : Int) ((1 : Nat) : Int) := by
    refine ⟨fun R h1 h2 => ?_, by omega, by omega, .inl rfl⟩
    have e : arcsN 4 0 2 ++ arcsNE 0 2 es4 = [(2, 3), (6, 7), (1, 2), (3, 1), (3, 4), (4, 2), (4, 6), (7, 4), (1, 6), (7, 1)] := by decide
    rw [e]
    have h1' : R 1 = true := h1
    have h2' : R 4 = false := h2
    unfold capL
    simp only [List.countP_cons, List.countP_nil, h1', h2']
    cases R 2 <;> cases R 3 <;> cases R 6 <;> cases R 7 <;> decide
  have := h.unique h2
  omega

set_option maxRecDepth 100000 in
set_option maxHeartbeats 2000000 in
theorem parted_any (w : World) : Calls Try.prog 22 #[] w fun e w' => e = .returned (.bool true) ∧ Keep Nb w w' := by
  go_enter Try.func22, Try.ntmps22
  go_wp2_with fail
  refine (gnew_any _ 4 (by omega)).mono ?_
  rintro e1 w1 ⟨rfl, hG1, hk1, hz1⟩
  have H0 : Hid (Gr (fun k => w.heap.size ≤ k ∧ k < w1.heap.size) w1 w.heap.size 4 (es4.take 0) ∧ Keep Nb w w1) := Lib.hid ⟨hG1.mono (fun k hk => by omega), hk1⟩
  clear hG1 hk1 hz1
  go_wp2_with fail
  go_loopg [3] 4 (fun kx s wr => ∃ i : Nat, s = .int .i64 i ∧ i ≤ 4 ∧ 4 - i ≤ kx ∧ Hid (Gr (fun k => w.heap.size ≤ k ∧ k < wr.heap.size) wr w.heap.size 4 (es4.take i) ∧ Keep Nb w wr))
  case atStart => exact ⟨0, rfl, Nat.zero_le _, by omega, H0⟩
  case round =>
    clear H0
    obtain ⟨i, rfl, hi, hg, HR⟩ := hrel
    by_cases hlt : i < 4
    · obtain ⟨j, hj⟩ : ∃ j, j = (i + 1) % 4 := ⟨_, rfl⟩
      have hj2 : ((i : Int) + 1) % 4 = (j : Nat) := by rw [hj]; omega
      have HST := Lib.hid (es4_step hlt hj)
      clear hj
      go_wp2_with fail
      refine (add_any (fun k => w.heap.size ≤ k ∧ k < wr.heap.size) _ _ 4 (es4.take i) i i j HR.out.1 (fun k hk => hk.2) (es4_sorted i) (by omega) (by rw [List.length_take]; omega)).mono ?_
      rintro e1 w2 ⟨he, hg2, hk2⟩
      rw [HST.out.2, if_pos rfl] at he
      rw [HST.out.1] at hg2
      subst he
      have HN : Hid (Gr (fun k => w.heap.size ≤ k ∧ k < w2.heap.size) w2 w.heap.size 4 (es4.take (i + 1)) ∧ Keep Nb w w2) := Lib.hid (by
        have z := HR.out.2.size
        have z2 := hk2.size
        exact ⟨hg2.tight.mono (fun k hk => by omega), HR.out.2.trans' hk2 (fun _ _ e => e) (fun k hk e => by show False; omega)⟩)
      clear hg2 hk2 hj2
      go_wp2_with fail
      go_roundg (4 - (i + 1))
      case measure => omega
      case rel => exact ⟨i + 1, rfl, by omega, Nat.le_refl _, HN⟩
    · obtain rfl : i = 4 := by omega
      have HG : Hid (Gr (fun k => w.heap.size ≤ k ∧ k < wr.heap.size) wr w.heap.size 4 es4 ∧ Keep Nb w wr) := Lib.hid HR.out
      have HO : Hid (∀ e, e ∈ es4 → e.a < 4 ∧ e.b < 4) := Lib.hid (by decide)
      clear HR
      go_wp2_with fail
      refine (pairs_any _ _ _ 4 es4 HG.out.1 (fun k hk => hk.2) (by omega) (by decide) HO.out).mono ?_
      rintro e1 w2 ⟨o2, c2, rfl, hS2, hk2⟩
      rw [es4_splits] at hS2 ⊢
      simp only [List.length_cons, List.length_nil] at hS2 ⊢
      have HS2 := Lib.hid hS2
      have HK2 := Lib.hid hk2
      clear hS2 hk2
      go_wp2_with fail
      refine (fedges_any _ _ _ 4 es4 0 2 9 (HG.out.1.keep HK2.out (fun _ _ e => e)) (by omega) (by decide) HO.out (by omega) (by omega) (by omega) (by omega)).mono ?_
      rintro e1 w3 ⟨v, rfl, hv1, hv2, hk3⟩
      obtain rfl := es4_edges hv2
      have HK3 := Lib.hid (HK2.out.trans hk3)
      have HS3 := Lib.hid (HS2.out.keep hk3 (fun _ _ e => e))
      clear hv1 hv2 hk3 HS2
      go_wp2_with fail
      refine (fnodes_any _ _ _ 4 es4 0 2 1 (HG.out.1.keep HK3.out (fun _ _ e => e)) (by omega) (by decide) HO.out (by omega) (by omega) (by omega) (by omega)).mono ?_
      rintro e1 w4 ⟨v, rfl, hv1, hv2, hk4⟩
      obtain rfl := es4_nodes hv2
      have HK4 := Lib.hid ((HG.out.2.trans HK3.out).trans hk4)
      have hS4 := HS3.out.keep hk4 (fun _ _ e => e)
      obtain ⟨g, rfl, _, hc, _⟩ := hS4.pos (by omega)
      obtain ⟨a1, a2⟩ := hS4.pairs (i := 0) rfl
      obtain ⟨b1, b2⟩ := hS4.pairs (i := 1) rfl
      clear hv1 hv2 hk4 HS3 hS4
      simp only [Nat.zero_mul, Nat.zero_add, Nat.one_mul] at a1 a2 b1 b2
      go_wp2_with fail
      go_ret
      exact ⟨by simp, HK4.out⟩

end Go.Proofs.Ytkpoobnldgfapaa
