/- isthmuskeep.SetsOrder: the walk. -/
import Derived.Test.YtkpoobnldgfapaaKeep1
import Derived.Test.YtkpoobnldgfapaaPlParts
import Derived.Deep.DeepCutAuto
import Derived.Deep.RegionHeld3
namespace Go.Proofs.Ytkpoobnldgfapaa
open Go.RowKit Pl

/-- A slice of pairs of numbers, as it came. -/
structure Prs (w : World) (b off len : Nat) (A B : Nat → Int) : Prop where
  a : ∀ i, i < len → w.cell? ⟨b, off + i * 2, none⟩ = some (.int .i64 (A i))
  b : ∀ i, i < len → w.cell? ⟨b, off + i * 2 + 1, none⟩ = some (.int .i64 (B i))

theorem Prs.keep {F : Nat → Prop} {w w' : World} {b off len : Nat} {A B : Nat → Int} (h : Prs w b off len A B) (k : Keep F w w') (hb : ¬ F b) : Prs w' b off len A B :=
  ⟨fun i hi => k.cell (h.a i hi) hb, fun i hi => k.cell (h.b i hi) hb⟩

set_option maxRecDepth 100000 in
theorem order_long (n turn : Int) (oa : Option Addr) (len cap : Nat) (h : 100 < len) (w : World) :
    Calls Try.prog 3 #[.int .i64 n, .slice oa len cap, .int .i64 turn] w fun e w' => e = .returned (.bool true) ∧ Keep Nb w w' := by
  have h' : (100 : Int) < (len : Int) := by omega
  go_enter Try.func3, Try.ntmps3
  go_wp2_with fail
  go_ret
  exact ⟨rfl, Keep.refl _ _⟩

/-- The pairs that are joined: of the one, of the other. -/
def esA (N : Nat) (A B : Nat → Int) (i : Nat) : Nat × Nat := (pickN (A i) N, pickN (B i) N)
def esB (N len t : Nat) (A B : Nat → Int) (i : Nat) : Nat × Nat := ((esA N A B ((i + t) % len)).2, (esA N A B ((i + t) % len)).1)

theorem pick_t (a : Int) (n t : Nat) (ht : t = pickN a n) (hn : 0 < n) (hn2 : n ≤ 1000000) : ∀ w, Calls Try.prog 11 #[.int .i64 a, .int .i64 n] w fun e w' => e = .returned (.int .i64 t) ∧ w = w' := by
  subst ht; exact pick_any a n hn hn2

/-- The relation of the first loop. -/
def ORel (w w1 w2 w3 : World) (ba bb N len t : Nat) (A B : Nat → Int) (k c : Nat) (wr : World) : Prop :=
  Sets (Iv w1.heap.size w2.heap.size) wr ba N (labs ((List.range k).map (esA N A B))) ∧ Sets (Iv w2.heap.size w3.heap.size) wr bb N (labs ((List.range k).map (esB N len t A B))) ∧
    cnt N (isRoot (labs ((List.range k).map (esA N A B)))) + c = N ∧ Keep Nb w wr ∧ w3.heap.size ≤ wr.heap.size

/-- The two pairs lie in boxes of their own. -/
def OBox (w : World) (A0 B0 A1 B1 : Int) (wr : World) (p q : Value) (wx : World) : Prop :=
  ∃ bp bq : Nat, p = .pointer (some ⟨bp, 0, none⟩) ∧ q = .pointer (some ⟨bq, 0, none⟩) ∧ wx.cell? ⟨bp, 0, none⟩ = some (.int .i64 A0) ∧ wx.cell? ⟨bp, 1, none⟩ = some (.int .i64 B0) ∧
    wx.cell? ⟨bq, 0, none⟩ = some (.int .i64 A1) ∧ wx.cell? ⟨bq, 1, none⟩ = some (.int .i64 B1) ∧ wr.heap.size ≤ bp ∧ wr.heap.size ≤ bq ∧ Keep Nb wr wx

theorem box_cells (w : World) (x0 x1 y0 y1 : Value) (T : TypeId) :
    (((w.alloc (.cells #[x0, x1] T)).alloc (.cells #[y0, y1] T)).drew).cell? ⟨w.heap.size, 0, none⟩ = some x0 ∧ (((w.alloc (.cells #[x0, x1] T)).alloc (.cells #[y0, y1] T)).drew).cell? ⟨w.heap.size, 1, none⟩ = some x1 ∧
    (((w.alloc (.cells #[x0, x1] T)).alloc (.cells #[y0, y1] T)).drew).cell? ⟨w.heap.size + 1, 0, none⟩ = some y0 ∧ (((w.alloc (.cells #[x0, x1] T)).alloc (.cells #[y0, y1] T)).drew).cell? ⟨w.heap.size + 1, 1, none⟩ = some y1 := by
  have h1 : Row (((w.alloc (.cells #[x0, x1] T)).alloc (.cells #[y0, y1] T)).drew) w.heap.size T [x0, x1] := ((Row.new w #[x0, x1] T).alloc _).drew
  have h2 : Row (((w.alloc (.cells #[x0, x1] T)).alloc (.cells #[y0, y1] T)).drew) (w.heap.size + 1) T [y0, y1] := by
    have := (Row.new (w.alloc (.cells #[x0, x1] T)) #[y0, y1] T).drew
    rwa [World.size_alloc] at this
  exact ⟨h1.cell rfl, h1.cell rfl, h2.cell rfl, h2.cell rfl⟩

theorem obox1 (w wr : World) (A0 B0 A1 B1 : Int) : OBox w A0 B0 A1 B1 wr (.pointer (some ⟨wr.heap.size, 0, none⟩)) (.pointer (some ⟨wr.heap.size + 1, 0, none⟩))
    ((wr.alloc (.cells #[.int .i64 A0, .int .i64 B0] 31)).alloc (.cells #[.int .i64 A1, .int .i64 B1] 31)).drew := by
  obtain ⟨h1, h2, h3, h4⟩ := box_cells wr (.int .i64 A0) (.int .i64 B0) (.int .i64 A1) (.int .i64 B1) 31
  exact ⟨_, _, rfl, rfl, h1, h2, h3, h4, Nat.le_refl _, Nat.le_succ _, (((Keep.refl Nb wr).alloc _).alloc _).drew⟩

theorem obox2 (w wr : World) (A0 B0 A1 B1 : Int) : OBox w A0 B0 A1 B1 wr (.pointer (some ⟨wr.heap.size + 1, 0, none⟩)) (.pointer (some ⟨wr.heap.size, 0, none⟩))
    ((wr.alloc (.cells #[.int .i64 A1, .int .i64 B1] 31)).alloc (.cells #[.int .i64 A0, .int .i64 B0] 31)).drew := by
  obtain ⟨h1, h2, h3, h4⟩ := box_cells wr (.int .i64 A1) (.int .i64 B1) (.int .i64 A0) (.int .i64 B0) 31
  exact ⟨_, _, rfl, rfl, h3, h4, h1, h2, Nat.le_succ _, Nat.le_refl _, (((Keep.refl Nb wr).alloc _).alloc _).drew⟩

theorem Sets.keep {F G : Nat → Prop} {w w' : World} {b n : Nat} {L : Nat → Nat} (h : Sets F w b n L) (k : Keep G w w') (d : ∀ k, F k → ¬ G k) : Sets F w' b n L := by
  obtain ⟨up, size, low, many, ou, os, ol, cu, cs, cl, hM, hI, hn⟩ := h
  exact ⟨up, size, low, many, ou, os, ol, cu, cs, cl, hM.keep k d, hI, hn⟩

theorem Sets.drew {F : Nat → Prop} {w : World} {b n : Nat} {L : Nat → Nat} (h : Sets F w b n L) : Sets F w.drew b n L := h.keep ((Keep.refl Nb w).drew) (fun _ _ e => e)

/-- What a Join leaves in its two slots. -/
def OJoin (F : Nat → Prop) (wc : World) (ba N : Nat) (L : Nat → Nat) (x y : Nat) (p q : Value) (wx : World) : Prop :=
  ∃ ok : Bool, p = .bool ok ∧ ok = decide (L x ≠ L y) ∧ q = .nilIface ∧ Sets F wx ba N (joinL L x y) ∧ Keep F wc wx

theorem orel_next {w w1 w2 w3 wr wp wd we : World} {ba bb N len t k m j : Nat} {A B : Nat → Int} (hN0 : 0 < N) (h1 : Keep Nb w w1) (h2 : Keep Nb w1 w2) (h3 : Keep Nb w2 w3) (hj : j = (k + t) % len)
    (hcnt : cnt N (isRoot (labs ((List.range k).map (esA N A B)))) + m = N) (hkw : Keep Nb w wr) (hsz : w3.heap.size ≤ wr.heap.size) (hkc : Keep Nb wr wp)
    (hSa : Sets (Iv w1.heap.size w2.heap.size) wd ba N (joinL (labs ((List.range k).map (esA N A B))) (pickN (A k) N) (pickN (B k) N))) (hk2 : Keep (Iv w1.heap.size w2.heap.size) wp wd)
    (hSb : Sets (Iv w2.heap.size w3.heap.size) we bb N (joinL (labs ((List.range k).map (esB N len t A B))) (pickN (B j) N) (pickN (A j) N))) (hk3 : Keep (Iv w2.heap.size w3.heap.size) wd we) :
    ORel w w1 w2 w3 ba bb N len t A B (k + 1) (if labs ((List.range k).map (esA N A B)) (pickN (A k) N) = labs ((List.range k).map (esA N A B)) (pickN (B k) N) then m else m + 1) we := by
  have s1 := h1.size
  have s2 := h2.size
  have s3 := h3.size
  have eA : labs ((List.range (k + 1)).map (esA N A B)) = joinL (labs ((List.range k).map (esA N A B))) (pickN (A k) N) (pickN (B k) N) := labs_map_succ _ _
  have eB : labs ((List.range (k + 1)).map (esB N len t A B)) = joinL (labs ((List.range k).map (esB N len t A B))) (pickN (B j) N) (pickN (A j) N) := by
    rw [labs_map_succ]; simp only [esB, esA, ← hj]
  refine ⟨?_, ?_, ?_, ?_, ?_⟩
  · rw [eA]; exact hSa.keep hk3 (fun i e e2 => by unfold Iv at e e2; omega)
  · rw [eB]; exact hSb
  · rw [eA]
    split
    · rename_i h; rw [joinL_same h]; exact hcnt
    · rename_i h
      have := roots_join (labs_canon ((List.range k).map (esA N A B)) N) (pickN_lt (A k) hN0) (pickN_lt (B k) hN0) h
      omega
  · exact ((hkw.trans hkc).trans' hk2 (H := Nb) (fun _ _ e => e) (fun i hi e => by unfold Iv at e; omega)).trans' hk3 (fun _ _ e => e) (fun i hi e => by unfold Iv at e; omega)
  · have := hkc.size; have := hk2.size; have := hk3.size; omega

/-- A row of a matrix, read. -/
structure RowAt (w : World) (go i : Nat) (r : Rw) (g : Nat) (l : List Nat) : Prop where
  out : w.cell? ⟨go, i, none⟩ = some (.slice (some ⟨g, 0, none⟩) l.length r.c)
  row : ∀ (k x : Nat), l[k]? = some x → w.cell? ⟨g, k, none⟩ = some (.int .i64 x)
  cap : l.length ≤ r.c

theorem mat_row {F : Nat → Prop} {w : World} {T e : TypeId} {o : Option Addr} {n c : Nat} {rows : List Rw} {ll : List (List Nat)} (h : Mat F w T e o n c rows ll) {i : Nat} {l : List Nat} (hl : ll[i]? = some l) (hpos : 0 < l.length) :
    ∃ go r g, o = some ⟨go, 0, none⟩ ∧ i < n ∧ n ≤ c ∧ RowAt w go i r g l ∧ F go ∧ F g := by
  obtain ⟨go, r, h1, h2, h3, h4, h5, _, hS, hn, _⟩ := mat_at h hl
  obtain ⟨g, e1, e2, e3, e4⟩ := hS.pos (by omega)
  refine ⟨go, r, g, h1, h3, h4, ⟨by rw [h5, e1, hn], fun k x hx => e4.cell (ints_get hx), by omega⟩, ?_, e2⟩
  exact h.out.foot _ h1

theorem RowAt.keep {F : Nat → Prop} {w w' : World} {go i : Nat} {r : Rw} {g : Nat} {l : List Nat} (h : RowAt w go i r g l) (k : Keep F w w') (h1 : ¬ F go) (h2 : ¬ F g) : RowAt w' go i r g l :=
  ⟨k.cell h.out h1, fun j x hx => k.cell (h.row j x hx) h2, h.cap⟩

set_option maxHeartbeats 4000000 in
set_option maxRecDepth 100000 in
theorem order_short (n turn : Int) (b off len cap : Nat) (oa : Option Addr) (hoa : 0 < len → oa = some ⟨b, off, none⟩) (A B : Nat → Int) (hlen : len ≤ 100) (hcap : len ≤ cap) (w : World) (hb : 0 < len → b < w.heap.size) (hP : Prs w b off len A B) :
    Calls Try.prog 3 #[.int .i64 n, .slice oa len cap, .int .i64 turn] w fun e w' => e = .returned (.bool true) ∧ Keep Nb w w' := by
  have hlen' : ¬ (100 : Int) < (len : Int) := by omega
  have HOA := Lib.hid hoa
  clear hoa
  have hN : 1 + pickN n 40 ≤ 40 := by have := pickN_lt n (n := 40) (by omega); omega
  go_enter Try.func3, Try.ntmps3
  go_wp2_with fail
  refine (joined_any _).mono ?_
  rintro e w1 ⟨rfl, hk1⟩
  have HK1 := Lib.hid hk1
  clear hk1
  go_wp2_with fail
  refine (pick_int n 40 40 rfl (by omega) (by omega) _).mono ?_
  rintro e w2 ⟨rfl, rfl⟩
  obtain ⟨N, hNe⟩ : ∃ N, N = 1 + pickN n 40 := ⟨_, rfl⟩
  have eN : (1 : Int) + (pickN n 40 : Nat) = (N : Nat) := by omega
  rw [← hNe] at hN
  have hN0 : 0 < N := by omega
  clear hNe
  go_wp2_with fail
  refine (new_any N hN _).mono ?_
  rintro e w2 ⟨ba, rfl, hSa, hk2⟩
  have HK2 := Lib.hid hk2
  clear hk2
  go_wp2_with fail
  refine (new_any N hN _).mono ?_
  rintro e w3 ⟨bb, rfl, hSb, hk3⟩
  have HK3 := Lib.hid hk3
  clear hk3
  obtain ⟨t, htt⟩ : ∃ t, t = pickN turn len := ⟨_, rfl⟩
  have HT := Lib.hid htt
  have hstart : ORel w w1 w2 w3 ba bb N len t A B 0 0 w3 :=
    ⟨hSa.keep HK3.out (fun _ _ e => e), hSb, by rw [cnt_congr (q := fun _ => true) (fun x _ => by simp [isRoot, labs])]; simp [cnt], (HK1.out.trans HK2.out).trans HK3.out, Nat.le_refl _⟩
  have HS := Lib.hid hstart
  clear hstart htt hSa hSb
  go_wp2_with fail
  go_loopg [11, 12] len (fun g c i wr => ∃ k m : Nat, k ≤ len ∧ g = len - k ∧ i = .int .i64 k ∧ c = .int .i64 m ∧ ORel w w1 w2 w3 ba bb N len t A B k m wr)
  case atStart => exact ⟨0, 0, Nat.zero_le _, rfl, rfl, rfl, HS.out⟩
  case round =>
    obtain ⟨k, m, hk, hg, rfl, rfl, hrel⟩ := hrel
    have HR := Lib.hid hrel
    have HG := Lib.hid hg
    clear hrel hg
    by_cases hlt : k < len
    · have ht : t < len := by rw [HT.out]; exact pickN_lt _ (by omega)
      obtain ⟨j, hj⟩ : ∃ j, j = (k + t) % len := ⟨_, rfl⟩
      have hjl : j < len := by rw [hj]; exact Nat.mod_lt _ (by omega)
      have hje : ((k : Int) + (t : Int)) % (len : Int) = (j : Nat) := by rw [hj, Int.natCast_emod, Int.natCast_add]
      have HPK := Lib.hid (pick_t turn len t HT.out (by omega) (by omega))
      have hw3 : IntKind.i64.wrap (j : Int) = (j : Int) := IntWalk.i64_in _ (by omega)
      have hw1 : IntKind.i64.wrap ((k : Int) + (t : Int)) = (k : Int) + (t : Int) := IntWalk.i64_in _ (by omega)
      have hw2 : ((k : Int) + (t : Int)).tmod (len : Int) = (j : Nat) := by rw [← hje]; exact Int.tmod_eq_emod_of_nonneg (Int.add_nonneg (Int.natCast_nonneg k) (Int.natCast_nonneg t))
      have HJ := Lib.hid hj
      clear hj
      have ho := HOA.out (by omega)
      subst ho
      have hP' := hP.keep HR.out.2.2.2.1 (fun e => e)
      have a0 := hP'.a k hlt
      have b0 := hP'.b k hlt
      have a1 := hP'.a j hjl
      have b1 := hP'.b j hjl
      clear hP'
      go_upto_region 14 with fail
      go_cut [13, 14] (fun p q wx => OBox w (A k) (B k) (A j) (B j) wr p q wx)
      case first =>
        have hlen0 : ¬ len = 0 := by omega
        have hbw : b < wr.heap.size := World.block_lt_of_cell? wr _ a0
        have hbw2 : wr.heap.size ≠ b := by omega
        have hbw3 : wr.heap.size + 1 ≠ b := by omega
        go_region_held3 (fun w' => w'.cell? ⟨b, off + k * 2, none⟩ = some (.int .i64 (A k)) ∧ w'.cell? ⟨b, off + k * 2 + 1, none⟩ = some (.int .i64 (B k)) ∧ w'.cell? ⟨b, off + j * 2, none⟩ = some (.int .i64 (A j)) ∧ w'.cell? ⟨b, off + j * 2 + 1, none⟩ = some (.int .i64 (B j))) (go_keep) ((go_at_call 11; refine (HPK.out _).mono ?_; rintro e w' ⟨rfl, rfl⟩))
        all_goals (go_wp2_with fail; go_meet)
        all_goals (first | exact obox1 w wr _ _ _ _ | exact obox2 w wr _ _ _ _)
      case rest =>
        obtain ⟨bp, bq, rfl, rfl, c1, c2, c3, c4, hbp, hbq, hkc⟩ := hcut
        obtain ⟨wp, rfl⟩ : ∃ wp : World, wp = wc := ⟨_, rfl⟩
        clear a0 b0 a1 b1 hje hw1 hw2 hw3
        obtain ⟨hSa, hSb, hcnt, hkw, hsz3⟩ := HR.out
        have HSa := Lib.hid ((hSa.keep hkc (fun _ _ e => e)).drew)
        have HSb := Lib.hid (hSb.keep hkc (fun _ _ e => e))
        have HKC := Lib.hid hkc
        have HCNT := Lib.hid hcnt
        have HKW := Lib.hid hkw
        clear hSa hSb hcnt hkw hkc
        have HX := Lib.hid (pick_t (A k) N _ rfl hN0 (by omega))
        have HY := Lib.hid (pick_t (B k) N _ rfl hN0 (by omega))
        have hxl := Lib.hid (pickN_lt (A k) hN0)
        have hyl := Lib.hid (pickN_lt (B k) hN0)
        go_upto_region 15 with fail
        go_cut [15, 16] (fun p q wx => OJoin (Iv w1.heap.size w2.heap.size) wp ba N (labs ((List.range k).map (esA N A B))) (pickN (A k) N) (pickN (B k) N) p q wx)
        case first =>
          go_region_with (first | (go_at_call_of 11 (Value.int IntKind.i64 (A k)); refine (HX.out _).mono ?_; rintro e w' ⟨rfl, rfl⟩) | (go_at_call_of 11 (Value.int IntKind.i64 (B k)); refine (HY.out _).mono ?_; rintro e w' ⟨rfl, rfl⟩) | (go_at_call 13; refine (join_any _ _ ba N _ _ _ hxl.out hyl.out HSa.out).mono ?_; rintro e w' ⟨rfl, hs, hk⟩; have HH := Lib.hid (show _ ∧ _ from ⟨hs, hk⟩); clear hs hk))
          all_goals (go_wp2_with fail; go_meet)
          all_goals exact ⟨_, rfl, by simp, rfl, HH.out.1, ((Keep.refl _ _).drew).trans HH.out.2⟩
        case rest =>
          obtain ⟨ok, rfl, hok, rfl, hs2, hk2⟩ := hcut
          have HOK := Lib.hid hok
          clear hok
          obtain ⟨wd, rfl⟩ : ∃ wd : World, wd = wc := ⟨_, rfl⟩
          have hs23 := HK3.out.size
          have d3 := hk2.cell c3 (fun e => by unfold Iv at e; simp only at e; omega)
          have d4 := hk2.cell c4 (fun e => by unfold Iv at e; simp only at e; omega)
          have HSa2 := Lib.hid hs2
          have HSb2 := Lib.hid ((HSb.out.keep hk2 (fun j e e2 => by unfold Iv at e e2; omega)).drew)
          have HK2' := Lib.hid hk2
          clear hs2 hk2 c1 c2 c3 c4 HSa HSb HX HY
          have HX := Lib.hid (pick_t (A j) N _ rfl hN0 (by omega))
          have HY := Lib.hid (pick_t (B j) N _ rfl hN0 (by omega))
          have hxl2 := Lib.hid (pickN_lt (A j) hN0)
          have hyl2 := Lib.hid (pickN_lt (B j) hN0)
          go_upto_region 16 with fail
          go_cut [17, 18] (fun p q wx => OJoin (Iv w2.heap.size w3.heap.size) wd bb N (labs ((List.range k).map (esB N len t A B))) (pickN (B j) N) (pickN (A j) N) p q wx)
          case first =>
            go_region_with (first | (go_at_call_of 11 (Value.int IntKind.i64 (A j)); refine (HX.out _).mono ?_; rintro e w' ⟨rfl, rfl⟩) | (go_at_call_of 11 (Value.int IntKind.i64 (B j)); refine (HY.out _).mono ?_; rintro e w' ⟨rfl, rfl⟩) | (go_at_call 13; refine (join_any _ _ bb N _ _ _ hyl2.out hxl2.out HSb2.out).mono ?_; rintro e w' ⟨rfl, hs, hk⟩; have HH := Lib.hid (show _ ∧ _ from ⟨hs, hk⟩); clear hs hk))
            all_goals (go_wp2_with fail; go_meet)
            all_goals exact ⟨_, rfl, by simp, rfl, HH.out.1, ((Keep.refl _ _).drew).trans HH.out.2⟩
          case rest =>
            obtain ⟨ok2, rfl, hok2, rfl, hs3, hk3⟩ := hcut
            clear hok2
            obtain ⟨we, rfl⟩ : ∃ we : World, we = wc := ⟨_, rfl⟩
            have hnext := orel_next hN0 HK1.out HK2.out HK3.out HJ.out HCNT.out HKW.out hsz3 HKC.out HSa2.out HK2'.out hs3 hk3
            clear hs3 hk3 d3 d4 HSb2 HX HY
            cases ok
            · have hd : labs ((List.range k).map (esA N A B)) (pickN (A k) N) = labs ((List.range k).map (esA N A B)) (pickN (B k) N) := by have := HOK.out; simpa using this
              rw [if_pos hd] at hnext
              have HN := Lib.hid hnext
              clear hnext hd
              go_wp2_with fail
              go_roundg (len - (k + 1))
              case measure => have := HG.out; omega
              case rel => exact ⟨k + 1, m, by omega, rfl, by go_num, rfl, HN.out⟩
            · have hd : ¬ labs ((List.range k).map (esA N A B)) (pickN (A k) N) = labs ((List.range k).map (esA N A B)) (pickN (B k) N) := by have := HOK.out; simpa using this
              rw [if_neg hd] at hnext
              have HN := Lib.hid hnext
              have hm40 : m ≤ 40 := by have := HCNT.out; omega
              clear hnext hd
              go_wp2_with fail
              go_roundg (len - (k + 1))
              case measure => have := HG.out; omega
              case rel => exact ⟨k + 1, m + 1, by omega, rfl, by go_num, by go_num, HN.out⟩
    · have hkl : k = len := by omega
      subst hkl
      obtain ⟨hSa, hSb, hcnt, hkw, hsz3⟩ := HR.out
      have htl : labs ((List.range k).map (esB N k t A B)) = labs ((List.range k).map (esA N A B)) := by
        by_cases h0 : 0 < k
        · funext x
          exact (labs_turn (t := t) (by rw [HT.out]; exact pickN_lt _ h0) (esA N A B) x).symm
        · have : k = 0 := by omega
          subst this; rfl
      rw [htl] at hSb
      obtain ⟨L, hL⟩ : ∃ L, L = labs ((List.range k).map (esA N A B)) := ⟨_, rfl⟩
      have hC : Canon N L := by rw [hL]; exact labs_canon _ _
      rw [← hL] at hSa hSb hcnt
      obtain ⟨R, hRe⟩ : ∃ R, R = cnt N (isRoot L) := ⟨_, rfl⟩
      rw [← hRe] at hcnt
      have hNm : (N : Int) - (m : Int) = (R : Nat) := by omega
      have HMA := Lib.hid (many_any _ wr ba N L hSa)
      have HMB := Lib.hid (many_any _ wr bb N L hSb)
      rw [← hRe] at HMA HMB
      have HSa := Lib.hid hSa
      have HSb := Lib.hid hSb
      have HKW := Lib.hid hkw
      have HRE := Lib.hid hRe
      have HCC := Lib.hid hC
      clear hSa hSb hkw htl hL hRe hcnt hC HR HG HS HOA
      go_wp2_with (first | (go_at_call_of 14 (Value.pointer (some ⟨ba, 0, none⟩)); refine HMA.out.mono ?_; rintro e w' ⟨rfl, rfl⟩) | (go_at_call_of 14 (Value.pointer (some ⟨bb, 0, none⟩)); refine HMB.out.mono ?_; rintro e w' ⟨rfl, rfl⟩))
      refine (all_any _ wr ba N L HSa.out).mono ?_
      rintro e w4 ⟨o1, m1, c1, rows1, rfl, hMx, hSa4, hk4⟩
      have hSb4 := HSb.out.keep hk4 (fun j e e2 => by unfold Iv at e e2; omega)
      have HK4 := Lib.hid hk4
      have HSa4 := Lib.hid hSa4
      have HSb4 := Lib.hid hSb4
      have HMX := Lib.hid hMx
      clear hk4 hMx hSa4 hSb4
      go_wp2_with fail
      refine (all_any _ w4 bb N L HSb4.out).mono ?_
      rintro e w5 ⟨o2, m2, c2, rows2, rfl, hMy, hSb5, hk5⟩
      have hs23 := HK3.out.size
      have hs4 := HK4.out.size
      have hs5 := hk5.size
      have hm1 := HMX.out.n_eq
      have hm2 := hMy.n_eq
      have HMY := Lib.hid hMy
      have HMX5 := Lib.hid (HMX.out.keep hk5 (fun j e e2 => by unfold Iv at e e2; omega))
      have HSa5 := Lib.hid (HSa4.out.keep hk5 (fun j e e2 => by unfold Iv at e e2; omega))
      have HK5 := Lib.hid hk5
      clear hk5 hMy hSb5 HMX HSa4 HSb4 HSa HSb
      have hlp : (parts N L).length = R := by rw [parts_length]; exact HRE.out.symm
      rw [hlp] at hm1 hm2
      have e1 := hm1.symm
      subst e1
      have e2 := hm2.symm
      subst e2
      clear hm1 hm2
      have HLP := Lib.hid hlp
      clear hlp
      have HMA5 := Lib.hid (many_any _ w5 ba N L HSa5.out)
      rw [← HRE.out] at HMA5
      have hR40 : R ≤ 40 := by have := cnt_le N (isRoot L); have := HRE.out; omega
      clear HMA HMB hNm
      go_wp2_with (go_at_call 14; refine HMA5.out.mono ?_; rintro e w' ⟨rfl, rfl⟩)
      go_loopg [21, 22] R (fun g s i wx => ∃ (p : Nat), p ≤ R ∧ g = R - p ∧ i = .int .i64 p ∧ s = .int .i64 (((parts N L).take p).map List.length).sum ∧ Sets (Iv w1.heap.size w2.heap.size) wx ba N L ∧ Keep (Iv w1.heap.size w2.heap.size) w5 wx)
      case atStart => exact ⟨0, Nat.zero_le _, rfl, rfl, rfl, HSa5.out, Keep.refl _ _⟩
      case round =>
        obtain ⟨p, hp, hg, rfl, rfl, hsx, hkx⟩ := hrel
        have HSX := Lib.hid hsx
        have HKX := Lib.hid hkx
        have HG := Lib.hid hg
        clear hsx hkx hg
        by_cases hlt : p < R
        · obtain ⟨l, hl⟩ : ∃ l, (parts N L)[p]? = some l := ⟨_, List.getElem?_eq_getElem (by rw [HLP.out]; exact hlt)⟩
          obtain ⟨r, hrn, hLr, hmem, hlen2, h0⟩ := parts_part HCC.out hl
          have hpos : 0 < l.length := (List.getElem?_eq_some_iff.1 h0).1
          have hlN : l.length ≤ 40 := by have := parts_part_le hl; omega
          obtain ⟨gx, rx, g1, ex, hpx, hcx, RX, fgx, fg1⟩ := mat_row HMX5.out hl hpos
          obtain ⟨gy, ry, g2, ey, hpy, hcy, RY, fgy, fg2⟩ := mat_row HMY.out hl hpos
          subst ex
          subst ey
          have dgx : ¬ Iv w1.heap.size w2.heap.size gx := fun e => by unfold Iv at e fgx; omega
          have dg1 : ¬ Iv w1.heap.size w2.heap.size g1 := fun e => by unfold Iv at e fg1; omega
          have dgy : ¬ Iv w1.heap.size w2.heap.size gy := fun e => by unfold Iv at e fgy; omega
          have dg2 : ¬ Iv w1.heap.size w2.heap.size g2 := fun e => by unfold Iv at e fg2; omega
          have HRX := Lib.hid RX
          have HRY := Lib.hid RY
          have hcx := (RX.keep HKX.out dgx dg1).out
          have hcy := (RY.keep HKX.out dgy dg2).out
          have hsum : (((parts N L).take (p + 1)).map List.length).sum = (((parts N L).take p).map List.length).sum + l.length := by
            rw [List.take_add_one, hl]; simp
          obtain ⟨S, hS⟩ : ∃ S, S = (((parts N L).take p).map List.length).sum := ⟨_, rfl⟩
          have hS40 : S ≤ 40 := by
            have h1 := sum_parts HCC.out
            have h2 : (((parts N L).take p).map List.length).sum + (((parts N L).drop p).map List.length).sum = ((parts N L).map List.length).sum := by
              rw [← List.sum_append_nat, ← List.map_append, List.take_append_drop]
            omega
          rw [← hS] at hsum ⊢
          have HSUM := Lib.hid hsum
          have HMEM := Lib.hid hmem
          have HLR := Lib.hid hLr
          have HLEN := Lib.hid hlen2
          have H0 := Lib.hid h0
          clear hsum hmem hLr hlen2 h0 hl RX RY hS
          go_wp2_with fail
          go_quiet (fail)
          go_wp2_with fail
          clear hcx hcy
          obtain ⟨wo, rfl⟩ : ∃ wo : World, wo = wr := ⟨_, rfl⟩
          go_loopg [21, 23] l.length (fun g s i wx => ∃ (q : Nat), q ≤ l.length ∧ g = l.length - q ∧ i = .int .i64 q ∧ s = .int .i64 (S + q : Nat) ∧ Sets (Iv w1.heap.size w2.heap.size) wx ba N L ∧ Keep (Iv w1.heap.size w2.heap.size) w5 wx)
          case atStart => exact ⟨0, Nat.zero_le _, rfl, rfl, rfl, HSX.out.keep (Keep.refl Nb _ |>.drewN _) (fun _ _ e => e), HKX.out.drewN _⟩
          case round =>
            obtain ⟨q, hq, hg2, rfl, rfl, hsx2, hkx2⟩ := hrel
            have RX := HRX.out.keep hkx2 dgx dg1
            have RY := HRY.out.keep hkx2 dgy dg2
            have hcx := RX.out
            have HSX2 := Lib.hid hsx2
            have HKX2 := Lib.hid hkx2
            have HG2 := Lib.hid hg2
            clear hsx2 hkx2 hg2
            by_cases hql : q < l.length
            · have hxq : l[q]? = some l[q] := List.getElem?_eq_getElem hql
              obtain ⟨x, hx⟩ : ∃ x, x = l[q] := ⟨_, rfl⟩
              rw [← hx] at hxq
              have hxN : x < N ∧ L x = r := (HMEM.out x).1 (List.mem_of_getElem? hxq)
              have hc1 := RX.row q x hxq
              have HXQ := Lib.hid hxq
              have hxn := hxN.1
              have HLX := Lib.hid hxN.2
              clear hx hxq hxN RX RY
              go_wp2_with fail
              refine (least_any _ _ ba N L x hxn HSX2.out).mono ?_
              rintro e w6 ⟨he, hs6, hk6⟩
              rw [HLX.out] at he
              subst he
              have hk6' := HKX2.out.trans hk6
              have RX := HRX.out.keep hk6' dgx dg1
              have hcx6 := RX.out
              have hc16 := RX.row q x HXQ.out
              have HS6 := Lib.hid hs6
              have HK6 := Lib.hid hk6'
              clear hs6 hk6 hk6' RX
              go_wp2_with fail
              refine (size_any _ _ ba N L x hxn HS6.out).mono ?_
              rintro e w7 ⟨he, hs7, hk7⟩
              rw [HLX.out, ← HLEN.out] at he
              subst he
              have hk7' := HK6.out.trans hk7
              have RX := HRX.out.keep hk7' dgx dg1
              have RY := HRY.out.keep hk7' dgy dg2
              have hcx7 := RX.out
              have hcy7 := RY.out
              have hc17 := RX.row q x HXQ.out
              have hc27 := RY.row q x HXQ.out
              have hc07 := RX.row 0 r H0.out
              have HS7 := Lib.hid hs7
              have HK7 := Lib.hid hk7'
              clear hs7 hk7 hk7' RX RY hcx hc1 hcx6 hc16
              go_wp2_with fail
              go_quiet (fail)
              go_wp2_with fail
              go_roundg (l.length - (q + 1))
              case measure => have := HG2.out; omega
              case rel => exact ⟨q + 1, by omega, rfl, by go_num, by go_num, HS7.out.keep (Keep.refl Nb _ |>.drewN _) (fun _ _ e => e), HK7.out.drewN _⟩
            · have hql' : q = l.length := by omega
              have HSN := Lib.hid (show S + q = (((parts N L).take (p + 1)).map List.length).sum by rw [hql']; exact HSUM.out.symm)
              clear hql' RX RY
              go_wp2_with fail
              go_roundg (R - (p + 1))
              case measure => have := HG.out; omega
              case rel => exact ⟨p + 1, by omega, rfl, by go_num, by rw [HSN.out], HSX2.out, HKX2.out⟩
        · have hpR : p = R := by omega
          have hs1 := HK1.out.size
          have hs2 := HK2.out.size
          have hsum : (((parts N L).take p).map List.length).sum = N := by
            rw [List.take_of_length_le (by rw [HLP.out]; omega)]; exact sum_parts HCC.out
          rw [hsum]
          have hfin := Lib.hid ((((HKW.out.trans' HK4.out (H := Nb) (fun _ _ e => e) (fun j hj e => by unfold Iv at e; omega)).trans' HK5.out (fun _ _ e => e) (fun j hj e => by unfold Iv at e; omega)).trans' HKX.out (fun _ _ e => e) (fun j hj e => by unfold Iv at e; omega)))
          clear hsum hpR
          go_wp2_with fail
          go_ret
          exact ⟨rfl, hfin.out⟩

end Go.Proofs.Ytkpoobnldgfapaa
