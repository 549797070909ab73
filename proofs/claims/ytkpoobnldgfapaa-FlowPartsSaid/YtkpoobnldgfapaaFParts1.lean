/- isthmuskeep.FlowParts: the walk. -/
import Derived.Test.YtkpoobnldgfapaaC2
import Derived.Test.YtkpoobnldgfapaaB3
import Derived.Test.YtkpoobnldgfapaaMake
import Derived.Test.YtkpoobnldgfapaaPlFlow3
import Derived.Deep.DeepCutAuto
import Derived.BigQuiet
import Derived.Deep.QuietTactic
set_option linter.unusedVariables false
set_option linter.unusedSimpArgs false
namespace Go.Proofs.Ytkpoobnldgfapaa
open Go.RowKit Pl Go.Maps

theorem withoutN_eq4 (nd : List Nat) (es : List E) : withoutEs [] nd es = sansN es nd := by
  unfold withoutEs sansN keeps
  exact List.filter_congr fun e _ => by simp

theorem EOk.filter4 {n : Nat} {es : List E} (h : EOk n es) (nd : List Nat) : EOk n (sansN es nd) :=
  ⟨fun e he => h.over e (List.mem_filter.1 he).1, fun e he => h.ne e (List.mem_filter.1 he).1, fun e he => h.small e (List.mem_filter.1 he).1, h.sorted.sublist List.filter_sublist⟩

/-- A set of twos in memory. -/
def JSet (w : World) (mb : Nat) (ps : List (Nat × Nat)) : Prop := ∃ mB, MapAt encP DP w mb mB ∧ ∀ p, mget mB p = if p ∈ ps then some (.bool true) else none

theorem JSet.keep {G : Nat → Prop} {w w' : World} {mb : Nat} {ps : List (Nat × Nat)} (h : JSet w mb ps) (k : Keep G w w') (hn : ¬ G mb) : JSet w' mb ps := by
  obtain ⟨mB, h1, h2⟩ := h; exact ⟨mB, h1.keep k hn, h2⟩
theorem JSet.lt {w : World} {mb : Nat} {ps : List (Nat × Nat)} (h : JSet w mb ps) : mb < w.heap.size := by obtain ⟨mB, h1, h2⟩ := h; exact h1.lt
theorem JSet.made (w : World) : JSet (w.alloc (.map #[] 0)) w.heap.size [] := ⟨[], MapAt.made encP DP w, fun p => rfl⟩

theorem JSet.look {wr : World} {mb : Nat} {ps : List (Nat × Nat)} (h : JSet wr mb ps) {a b : Nat} (ha : DN a) (hb : DN b) :
    (Instr.lookup 64 (.map (some mb)) (.agg #[.int .i64 a, .int .i64 b]) false).run Try.prog wr = .ok (.bool (decide ((a, b) ∈ ps))) wr := by
  obtain ⟨mB, h1, h2⟩ := h
  have hl := h1.look encP_enc Try.underlying64 (zero_bool wr) (a := (a, b)) ⟨ha, hb⟩ false
  rw [if_neg (by simp), h2] at hl
  by_cases e : (a, b) ∈ ps
  · rw [if_pos e] at hl; rw [decide_eq_true e]; exact hl
  · rw [if_neg e] at hl; rw [decide_eq_false e]; exact hl

theorem JSet.store {wr : World} {mb : Nat} {ps : List (Nat × Nat)} (h : JSet wr mb ps) {a b : Nat} (ha : DN a) (hb : DN b) :
    ∃ w', (Instr.mapUpdate 64 (.map (some mb)) (.agg #[.int .i64 a, .int .i64 b]) (.bool true)).run Try.prog wr = .ok () w' ∧ JSet w' mb (ps ++ [(a, b)]) ∧ Keep (fun j => j = mb) wr w' := by
  obtain ⟨mB, h1, h2⟩ := h
  obtain ⟨w', q1, q2, q3⟩ := h1.store encP_enc Try.underlying64 (a := (a, b)) ⟨ha, hb⟩ (.bool true)
  refine ⟨w', q1, ⟨_, q2, fun p => ?_⟩, q3⟩
  rw [mget_mset, h2]
  by_cases e : p = (a, b)
  · simp [e]
  · simp [e]

theorem fints_zero (n : Nat) : fints n (fun _ => 0) = List.replicate n (.int .i64 0) := by
  rw [List.eq_replicate_iff]
  refine ⟨fints_length _ _, fun v hv => ?_⟩
  obtain ⟨x, hx, rfl⟩ := List.mem_map.1 hv
  obtain ⟨_, _, rfl⟩ := List.mem_map.1 hx
  rfl

/-- The numbers of the parts, in memory. -/
def PaRel (ll : List (List Nat)) (N q : Nat) (w6 wr : World) (i k : Nat) : Prop :=
  ∃ f, Sl (fun j => j = q) wr 3 1 (some ⟨q, 0, none⟩) N N (fints N f) ∧ PartF ll f i k ∧ Keep (fun j => j = q) w6 wr

/-- Whether one of the first z nodes parts x and y. -/
def ApZ (es : List E) (x y z : Nat) (ap : Bool) : Prop := ap = true ↔ ∃ z', z' < z ∧ z' ≠ x ∧ z' ≠ y ∧ ¬ Conn (ends (sansN es [z'])) x y

theorem ApZ.start (es : List E) (x y : Nat) : ApZ es x y 0 false := ⟨(fun h => by cases h), (fun ⟨_, h, _⟩ => by omega)⟩
theorem ApZ.on {es : List E} {x y z : Nat} (h : ApZ es x y z true) : ApZ es x y (z + 1) true := ⟨(fun _ => by
  obtain ⟨z', h1, h2⟩ := h.1 rfl
  exact ⟨z', by omega, h2⟩), fun _ => rfl⟩
theorem ApZ.skip {es : List E} {x y z : Nat} (h : ApZ es x y z false) (hz : z = x ∨ z = y) : ApZ es x y (z + 1) false := ⟨(fun h => by cases h), (fun ⟨z', h1, h2, h3, h4⟩ => by
  by_cases e : z' < z
  · exact h.2 ⟨z', e, h2, h3, h4⟩
  · omega)⟩
theorem ApZ.test {es : List E} {x y z : Nat} (h : ApZ es x y z false) (hx : z ≠ x) (hy : z ≠ y) : ApZ es x y (z + 1) (!decide (Conn (ends (sansN es [z])) x y)) := by
  unfold ApZ
  rw [Bool.not_eq_true', decide_eq_false_iff_not]
  constructor
  · intro hc; exact ⟨z, by omega, hx, hy, hc⟩
  · rintro ⟨z', h1, h2, h3, h4⟩
    by_cases e : z' < z
    · have := h.2 ⟨z', e, h2, h3, h4⟩
      cases this
    · obtain rfl : z' = z := by omega
      exact h4

set_option maxRecDepth 100000 in
theorem flowParts_long (n : Int) (oa : Option Addr) (len cap : Nat) (h : 40 < len) (w : World) :
    Calls Try.prog 7 #[.int .i64 n, .slice oa len cap] w fun e w' => e = .returned (.bool true) ∧ Keep Nb w w' := by
  go_enter Try.func7, Try.ntmps7
  go_wp2_with fail
  go_ret
  exact ⟨rfl, Keep.refl _ _⟩

set_option maxRecDepth 100000 in
set_option maxHeartbeats 40000000 in
theorem flowParts_short (n0 : Int) (b off len cap : Nat) (oa : Option Addr) (hoa : 0 < len → oa = some ⟨b, off, none⟩) (A B : Nat → Int) (hlen : len ≤ 40) (hcap : len ≤ cap) (w : World) (hb : 0 < len → b < w.heap.size) (hP : Prs w b off len A B) :
    Calls Try.prog 7 #[.int .i64 n0, .slice oa len cap] w fun e w' => e = .returned (.bool true) ∧ Keep Nb w w' := by
  have HOA := Lib.hid hoa
  have HP := Lib.hid hP
  have HB := Lib.hid hb
  have hlen' : ¬ (40 : Int) < (len : Int) := by omega
  clear hoa hP hb
  go_enter Try.func7, Try.ntmps7
  go_wp2_with fail
  refine (parted_any _).mono ?_
  rintro e w1 ⟨rfl, hk1⟩
  have HK1 := Lib.hid hk1
  clear hk1
  go_wp2_with fail
  refine (pick_int n0 9 9 rfl (by omega) (by omega) _).mono ?_
  rintro e w2 ⟨rfl, rfl⟩
  obtain ⟨p, hp⟩ : ∃ p, pickN n0 9 = p := ⟨_, rfl⟩
  rw [hp]
  clear hp
  obtain ⟨N, hN⟩ : ∃ N, N = 2 + pickN (p : Int) 13 := ⟨_, rfl⟩
  have hN14 : N ≤ 14 := by have := pickN_lt (p : Int) (n := 13) (by omega); omega
  have hN2 : 2 ≤ N := by omega
  have HNN := Lib.hid hN
  clear hN
  go_wp2_with fail
  refine (kmade_any (p : Int) b off len cap oa HOA.out A B N len HNN.out (by omega) (by omega) hcap _ (fun h => Nat.lt_of_lt_of_le (HB.out h) HK1.out.size) (HP.out.keep HK1.out (fun e => e))).mono ?_
  rintro e w2 ⟨gb, rfl, hG, hk2⟩
  obtain ⟨es, hes⟩ : ∃ es, madeK N A B len = es := ⟨_, rfl⟩
  have hok : EOk N es := by rw [← hes]; exact madeK_ok (by omega) (by omega)
  have hlt : ∀ e, e ∈ es → e.a < e.b := fun e he => (madeK_mem (n := N) (A := A) (B := B) (i := len) (by omega) (by rw [hes]; exact he)).2.2.2
  have hel : es.length ≤ 40 := by rw [← hes]; exact Nat.le_trans (madeK_len N A B len) hlen
  rw [hes] at hG
  have HG := Lib.hid hG
  have HK2 := Lib.hid (HK1.out.trans hk2)
  have HOK := Lib.hid hok
  have HLT := Lib.hid hlt
  clear hG hk2 hes hok hlt
  go_wp2_with fail
  refine (bof_any _ _ gb N es HG.out (by omega) (by omega) HOK.out).mono ?_
  rintro e1 w3 ⟨br, rfl, hB, hk3⟩
  have HBR := Lib.hid hB
  have HK3 := Lib.hid hk3
  have hz3 := hk3.size
  clear hB hk3
  go_wp2_with fail
  refine (cof_any _ _ gb N es (HG.out.keep HK3.out (fun _ _ e => e)) (fun k hk => by omega) (by omega) (by omega) HOK.out).mono ?_
  rintro e1 w4 ⟨c, rfl, hC, hk4⟩
  have HC := Lib.hid hC
  have HK4 := Lib.hid hk4
  have hz4 := hk4.size
  clear hC hk4
  go_wp2_with fail
  refine (cthrice_any _ _ w4 c gb N es HC.out ((HG.out.keep HK3.out (fun _ _ e => e)).keep HK4.out (fun _ _ e => e)) (by omega) (by omega) HOK.out).mono ?_
  rintro e1 w5 ⟨L, oT, mT, cT, rowsT, hCa, hLT, rfl, hMT, hk5⟩
  have HMT := Lib.hid hMT
  have HK5 := Lib.hid hk5
  have HLT2 := Lib.hid hLT
  have HCA := Lib.hid hCa
  have hmT : mT = (parts N L).length := hMT.n_eq
  have hmTN : (parts N L).length ≤ N := by rw [parts_length]; exact cnt_le _ _
  have hz5 := hk5.size
  clear hMT hk5 hLT hCa
  subst hmT
  have HK35 := Lib.hid ((HK3.out.trans HK4.out).trans HK5.out)
  have HG5 := Lib.hid (HG.out.keep HK35.out (fun _ _ e => e))
  have HB5 := Lib.hid (HBR.out.keep (HK4.out.trans HK5.out) (fun _ _ e => e))
  clear HBR HG HC
  go_wp2_with fail
  refine (nodes_any _ w5 gb N es HG5.out).mono ?_
  rintro e1 w5 ⟨rfl, rfl⟩
  obtain ⟨w6, q1, q2, q3⟩ := run_make1 (P := Try.prog) w5 37 3 Try.underlying37 elem_int rfl N (by omega) (by omega)
  go_wp2_with fail
  obtain ⟨q6, hq6⟩ : ∃ q6, w5.heap.size = q6 := ⟨_, rfl⟩
  have hq6l : q6 < w6.heap.size := by rw [← hq6]; exact q2.lt rfl
  have H0 : Hid (PaRel (parts N L) N q6 w6 w6 0 0) := Lib.hid (by
    refine ⟨fun _ => 0, ⟨?_, fun a ha => by cases ha; rfl⟩, PartF.start _ _, Keep.refl _ _⟩
    rw [fints_zero, ← hq6]
    exact q2.own)
  have HK6 := Lib.hid q3
  have hz6 : w5.heap.size ≤ w6.heap.size := q3.size
  have HM6 := Lib.hid (HMT.out.keep q3 (fun _ _ e => e))
  rw [hq6] at HM6 ⊢
  clear q1 q2 q3
  go_loopg [10] (parts N L).length (fun kx s10 wr => ∃ (i : Nat), s10 = .int .i64 i ∧ i ≤ (parts N L).length ∧ (parts N L).length - i ≤ kx ∧ Hid (PaRel (parts N L) N q6 w6 wr i 0))
  case atStart => exact ⟨0, rfl, Nat.zero_le _, by omega, H0⟩
  case round =>
    clear H0
    obtain ⟨i, rfl, hi, hg, HR⟩ := hrel
    by_cases hlt : i < (parts N L).length
    · obtain ⟨l, hl⟩ : ∃ l, (parts N L)[i]? = some l := ⟨_, List.getElem?_eq_getElem hlt⟩
      obtain ⟨r0, hr0, hLr, hmem, hll, hl0⟩ := parts_part HCA.out hl
      have hlN : l.length ≤ N := by rw [hll]; exact cnt_le _ _
      have HMB : Hid (∀ x, x ∈ l → x < N) := Lib.hid (fun x hx => ((hmem x).1 hx).1)
      have HLL := Lib.hid hl
      have hlpos : 0 < l.length := (List.getElem?_eq_some_iff.1 hl0).1
      clear hl hmem hll hl0 hLr
      go_wp2_with fail
      go_loopg [11] l.length (fun ky s11 wr2 => ∃ (k : Nat), s11 = .int .i64 k ∧ k ≤ l.length ∧ l.length - k ≤ ky ∧ Hid (PaRel (parts N L) N q6 w6 wr2 i k))
      case atStart => exact ⟨0, rfl, Nat.zero_le _, by omega, HR⟩
      case round =>
        clear HR
        obtain ⟨k, rfl, hk, hgk, HR2⟩ := hrel
        obtain ⟨f, hf1, hf2, hf3⟩ := HR2.out
        have hM2 := HM6.out.keep hf3 (fun j h h' => by have := h.2; omega)
        obtain ⟨go, rw0, rfl, hnc, d1, hrow⟩ := hM2.at_ HLL.out
        have hrn : rw0.n = l.length := by have := hrow.len; simpa using this.symm
        rw [hrn] at d1 hrow
        obtain ⟨g1, hg1, _, hnc1, hrow1⟩ := hrow.pos (by omega)
        rw [hg1] at d1
        obtain ⟨rc, hrc⟩ : ∃ rc, rw0.c = rc := ⟨_, rfl⟩
        rw [hrc] at d1 hnc1
        by_cases hkl : k < l.length
        · obtain ⟨x, hx⟩ : ∃ x, l[k]? = some x := ⟨_, List.getElem?_eq_getElem hkl⟩
          have d2 := hrow1.cell (ints_get hx)
          have hxN := HMB.out x (List.mem_of_getElem? hx)
          obtain ⟨q', hq', _, _, hrowq⟩ := hf1.pos (by omega)
          cases hq'
          have e0 := hrowq.cell (fints_get f hxN)
          have ef := hrowq.frozen x none
          have HN : Hid (PaRel (parts N L) N q6 w6 (wr.setCell ⟨q6, x, none⟩ (.int .i64 i)) i (k + 1)) := Lib.hid
            ⟨upd f x i, by rw [← fints_set]; exact hf1.set rfl hxN _, hf2.store HCA.out HLL.out hx, hf3.setCell (p := ⟨q6, x, none⟩) (.inl rfl) _⟩
          clear hf1 hf2 hf3 hM2 hrow hrn hg1 hrc hrow1 hx hrowq HR2
          go_wp2_with fail
          go_roundg (l.length - (k + 1))
          case measure => omega
          case rel => exact ⟨k + 1, rfl, by omega, Nat.le_refl _, HN⟩
        · obtain rfl : k = l.length := by omega
          have HN : Hid (PaRel (parts N L) N q6 w6 wr (i + 1) 0) := Lib.hid ⟨f, hf1, hf2.row HLL.out, hf3⟩
          clear hf1 hf2 hf3 hM2 hrow hrn hg1 hrc hrow1 HR2
          go_wp2_with fail
          go_roundg ((parts N L).length - (i + 1))
          case measure => omega
          case rel => exact ⟨i + 1, rfl, by omega, Nat.le_refl _, HN⟩
    · obtain rfl : i = (parts N L).length := by omega
      obtain ⟨f, hf1, hf2, hf3⟩ := HR.out
      have hfN : ∀ x, x < N → f x < N := fun x hx => hf2.lt HCA.out hx
      have hfT : ∀ x y, x < N → y < N → (f x = f y ↔ Thr es x y) := fun x y hx hy => (hf2.done HCA.out hx hy).trans (HLT2.out x y hx hy)
      have HFN := Lib.hid hfN
      have HFT := Lib.hid hfT
      obtain ⟨w7, rfl⟩ : ∃ w7 : World, w7 = wr := ⟨_, rfl⟩
      have HPA := Lib.hid hf1
      have HK7 := Lib.hid (HK6.out.of_nb.trans hf3)
      have hq6w7 : q6 < w7.heap.size := hf1.lt rfl
      clear hf1 hf2 hf3 hfN hfT HR HM6 HMT HLT2
      obtain ⟨w8, hw8⟩ : ∃ w8, w7.alloc (.map #[] 0) = w8 := ⟨_, rfl⟩
      have hmm := @run_makeMap Try.prog
      have HJ0 : Hid (JSet w8 w7.heap.size [] ∧ Keep Nb w7 w8 ∧ w8.heap.size = w7.heap.size + 1) := Lib.hid (by rw [← hw8]; exact ⟨JSet.made w7, (Keep.refl Nb w7).alloc _, by simp⟩)
      have hz8 : w7.heap.size < w8.heap.size := by have := HJ0.out.2.2; omega
      go_wp2_with fail
      clear hw8
      obtain ⟨mb, hmb⟩ : ∃ mb, w7.heap.size = mb := ⟨_, rfl⟩
      rw [hmb] at HJ0 ⊢
      have HG8 := Lib.hid ((HG5.out.tight.keep HK7.out (fun k h h' => by have := h.2; omega)).keep HJ0.out.2.1 (fun _ _ e => e) |>.mono (fun _ h => h.1))
      refine (edges_any _ _ gb N es HG8.out (by omega)).mono ?_
      rintro e1 w9 ⟨oE, cE, rfl, hSE, hk9⟩
      have HSE := Lib.hid hSE
      have HK9 := Lib.hid hk9
      have hz9 := hk9.size
      clear hSE hk9
      go_wp2_with fail
      obtain ⟨el, hel2⟩ : ∃ el, es.length = el := ⟨_, rfl⟩
      rw [hel2] at HSE ⊢
      have HEL := Lib.hid hel2
      have hel40 : el ≤ 40 := by omega
      clear hel2
      go_loopg [81] el (fun kx s81 wr => ∃ (i : Nat), s81 = .int .i64 i ∧ i ≤ el ∧ el - i ≤ kx ∧ Hid (JSet wr mb ((es.take i).map (fun e => (e.a, e.b))) ∧ Keep (fun k => k = mb) w9 wr))
      case atStart => exact ⟨0, rfl, Nat.zero_le _, by omega, Lib.hid ⟨HJ0.out.1.keep HK9.out (fun e => e), Keep.refl _ _⟩⟩
      case round =>
        obtain ⟨i, rfl, hi, hg, HR⟩ := hrel
        by_cases hlt : i < el
        · obtain ⟨e, hy⟩ : ∃ e, es[i]? = some e := ⟨_, List.getElem?_eq_getElem (by rw [HEL.out]; exact hlt)⟩
          have hS := HSE.out.keep HR.out.2 (fun k h h' => by have h1 : k = mb := h'; have h2 : w8.heap.size ≤ k := h; omega)
          obtain ⟨g, rfl, _, hnc, hrow⟩ := hS.pos (by omega)
          have d1 := hrow.edges.id _ _ hy
          have d2 := hrow.edges.a _ _ hy
          have d3 := hrow.edges.b _ _ hy
          have hem := List.mem_of_getElem? hy
          have hov := HOK.out.over e hem
          obtain ⟨wJ, r1, r2, r3⟩ := (HR.out.1.keep ((Keep.refl Nb wr).alloc (.cells #[.int .i64 e.id, .int .i64 e.a, .int .i64 e.b] 54)) (fun e => e)).store (a := e.a) (b := e.b) (by unfold DN; omega) (by unfold DN; omega)
          have HN : Hid (JSet wJ mb ((es.take (i + 1)).map (fun e => (e.a, e.b))) ∧ Keep (fun k => k = mb) w9 wJ) := Lib.hid ⟨by
            rw [take_snoc' hy, List.map_append]; exact r2, (HR.out.2.alloc _).trans r3⟩
          have R1 := Lib.hid r1
          clear hS hrow hy hem r1 r2 r3 HR
          go_wp2_with (first | (at_mapUpdate; refine wpList_mapset rfl _ _ _ _ rfl rfl rfl rfl R1.out ?_))
          go_roundg (el - (i + 1))
          case measure => omega
          case rel => exact ⟨i + 1, rfl, by omega, Nat.le_refl _, HN⟩
        · obtain rfl : i = el := by omega
          obtain ⟨pl, hpl⟩ : ∃ pl, es.map (fun e => (e.a, e.b)) = pl := ⟨_, rfl⟩
          have HJ : Hid (JSet wr mb pl) := Lib.hid (by
            have := HR.out.1
            rw [← HEL.out, List.take_length, hpl] at this
            exact this)
          have HPL := Lib.hid hpl
          have HKA : Hid (Keep (fun k => k = mb) w9 wr) := Lib.hid HR.out.2
          obtain ⟨wA, rfl⟩ : ∃ wA : World, wA = wr := ⟨_, rfl⟩
          have hk59 : Keep Nb w5 w9 := Keep.trans (HK7.out.mono (fun k hk e => by have e' : k = q6 := e; show False; omega)) (HJ0.out.2.1.trans HK9.out)
          have HK5A : Hid (Keep (fun k => k = mb) w5 wA) := Lib.hid (hk59.of_nb.trans HKA.out)
          have HGA : Hid (Gr (fun k => w1.heap.size ≤ k ∧ k < w2.heap.size) wA gb N es) := Lib.hid (HG5.out.keep HK5A.out (fun k h h' => by have h1 : k = mb := h'; omega))
          have HBA : Hid (Brs (fun k => w2.heap.size ≤ k ∧ k < w3.heap.size) wA br N es) := Lib.hid (HB5.out.keep HK5A.out (fun k h h' => by have h1 : k = mb := h'; omega))
          have HPAA : Hid (Sl (fun j => j = q6) wA 3 1 (some ⟨q6, 0, none⟩) N N (fints N f)) := Lib.hid (((HPA.out.keep HJ0.out.2.1 (fun _ _ e => e)).keep HK9.out (fun _ _ e => e)).keep HKA.out (fun k h h' => by have h1 : k = mb := h'; have h2 : k = q6 := h; omega))
          have HALL : Hid (∀ W', Keep (fun k => w2.heap.size ≤ k ∧ k < w3.heap.size) wA W' → Gr (fun k => w1.heap.size ≤ k ∧ k < w2.heap.size) W' gb N es ∧ Sl (fun j => j = q6) W' 3 1 (some ⟨q6, 0, none⟩) N N (fints N f) ∧ JSet W' mb pl) := Lib.hid (fun W' k =>
            ⟨HGA.out.keep k (fun j h h' => by omega), HPAA.out.keep k (fun j h h' => by have h2 : j = q6 := h; omega), HJ.out.keep k (fun h => by omega)⟩)
          have HKW : Hid (Keep Nb w wA) := Lib.hid ((HK2.out.trans HK35.out).trans' HK5A.out (fun _ _ e => e) (fun k hk e => by
            have e' : k = mb := e
            have := HK2.out.size
            show False; omega))
          have hzA : w3.heap.size ≤ wA.heap.size := by have := HK5A.out.size; omega
          clear HR hpl HSE HKA hk59 HK5A HG8 HJ0 HPA HGA HPAA HJ HK9 HEL hi hg hlt
          go_wp2_with fail
          go_loopg [15] N (fun kx s15 wr => ∃ (x : Nat), s15 = .int .i64 x ∧ x ≤ N ∧ N - x ≤ kx ∧ Hid (Brs (fun k => w2.heap.size ≤ k ∧ k < w3.heap.size) wr br N es ∧ Keep (fun k => w2.heap.size ≤ k ∧ k < w3.heap.size) wA wr))
          case atStart => exact ⟨0, rfl, Nat.zero_le _, by omega, Lib.hid ⟨HBA.out, Keep.refl _ _⟩⟩
          case round =>
            obtain ⟨x, rfl, hx, hgx, HR⟩ := hrel
            by_cases hxN : x < N
            · go_wp2_with (go_at_call 24; refine (nodes_any _ _ gb N es (HALL.out _ HR.out.2).1).mono ?_; rintro e1 w' ⟨rfl, rfl⟩)
              go_loopg [16] N (fun ky s16 wr2 => ∃ (y : Nat), s16 = .int .i64 y ∧ x < y ∧ y ≤ N ∧ N - y ≤ ky ∧ Hid (Brs (fun k => w2.heap.size ≤ k ∧ k < w3.heap.size) wr2 br N es ∧ Keep (fun k => w2.heap.size ≤ k ∧ k < w3.heap.size) wA wr2))
              case atStart => exact ⟨x + 1, by go_num, by omega, by omega, by omega, HR⟩
              case round =>
                clear HR
                obtain ⟨y, rfl, hxy, hy, hgy, HR⟩ := hrel
                by_cases hyN : y < N
                · go_wp2_with (go_at_call 24; refine (nodes_any _ _ gb N es (HALL.out _ HR.out.2).1).mono ?_; rintro e1 w' ⟨rfl, rfl⟩)
                  refine (fedges_any _ _ gb N es x y 3 (HALL.out _ HR.out.2).1 (by omega) (by omega) HOK.out.over hxN hyN (by omega) (by omega)).mono ?_
                  rintro e1 wb ⟨k, rfl, hk3, hmc, hkb⟩
                  have HMC := Lib.hid hmc
                  have HKb : Hid (Keep (fun k => w2.heap.size ≤ k ∧ k < w3.heap.size) wA wb) := Lib.hid (HR.out.2.trans hkb.of_nb)
                  have HBb := Lib.hid (HR.out.1.keep hkb (fun _ _ e => e))
                  clear hmc hkb HR
                  go_wp2_with fail
                  refine (bwhole_any _ _ br N es x y hxN hyN HBb.out).mono ?_
                  rintro e1 wc ⟨rfl, hBc, hkc⟩
                  have HBc := Lib.hid hBc
                  have HKc := Lib.hid (HKb.out.trans hkc)
                  obtain ⟨o, ho⟩ : ∃ o, decide (Conn (ends es) x y) = o := ⟨_, rfl⟩
                  rw [ho]
                  have HO := Lib.hid ho
                  clear hBc hkc ho HBb HKb
                  go_wp2_with fail
                  refine (btwice_any _ _ br N es x y hxN hyN HBc.out).mono ?_
                  rintro e1 wd ⟨r, hr, rfl, hBd, hkd⟩
                  have HBd := Lib.hid hBd
                  have HKd := Lib.hid (HKc.out.trans hkd)
                  have HRR := Lib.hid hr
                  clear hBd hkd hr HBc HKc
                  go_wp2_with fail
                  have hp0 := (HALL.out _ HKd.out).2.1
                  obtain ⟨q', hq', _, _, hrowq⟩ := hp0.pos (by omega)
                  cases hq'
                  have e0 := hrowq.cell (fints_get f hxN)
                  have e1 := hrowq.cell (fints_get f hyN)
                  obtain ⟨fx, hfx⟩ : ∃ fx, f x = fx := ⟨_, rfl⟩
                  obtain ⟨fy, hfy⟩ : ∃ fy, f y = fy := ⟨_, rfl⟩
                  have t1 : o = decide (1 ≤ k) := by rw [← HO.out, decide_eq_decide]; exact (ways_one HOK.out.sorted HMC.out).symm
                  have t2 : r = decide (2 ≤ k) := by rw [Bool.eq_iff_iff, decide_eq_true_eq]; exact HRR.out.trans (ways_two HOK.out.sorted HMC.out).symm
                  have t3 : ((fx : Int) == (fy : Int)) = decide (3 ≤ k) := by
                    rw [Bool.eq_iff_iff, beq_iff_eq, decide_eq_true_eq, ways_three HOK.out.sorted HMC.out, ← HFT.out x y hxN hyN, hfx, hfy]; omega
                  rw [hfx] at e0
                  rw [hfy] at e1
                  have T1 := Lib.hid t1
                  clear hp0 hrowq hfx hfy
                  have hxn : x < N := hxN
                  go_cut [162] (fun v wc => v = .bool false ∧ ∃ m, wc = wd.drewN m)
                  case first => as_aux_lemma =>
                    rcases (by omega : k = 0 ∨ k = 1 ∨ k = 2 ∨ k = 3) with rfl | rfl | rfl | rfl
                    · obtain rfl : o = false := t1.trans (by decide)
                      obtain rfl : r = false := t2.trans (by decide)
                      have t4 : ((fx : Int) == (fy : Int)) = false := t3.trans (by decide)
                      clear t1 t2 t3
                      go_quiet (fail)
                      go_wp2_with fail
                      go_meet
                      exact ⟨rfl, nq, rfl⟩
                    · obtain rfl : o = true := t1.trans (by decide)
                      obtain rfl : r = false := t2.trans (by decide)
                      have t4 : ((fx : Int) == (fy : Int)) = false := t3.trans (by decide)
                      clear t1 t2 t3
                      go_quiet (fail)
                      go_wp2_with fail
                      go_meet
                      exact ⟨rfl, nq, rfl⟩
                    · obtain rfl : o = true := t1.trans (by decide)
                      obtain rfl : r = true := t2.trans (by decide)
                      have t4 : ((fx : Int) == (fy : Int)) = false := t3.trans (by decide)
                      clear t1 t2 t3
                      go_quiet (fail)
                      go_wp2_with fail
                      go_meet
                      exact ⟨rfl, nq, rfl⟩
                    · obtain rfl : o = true := t1.trans (by decide)
                      obtain rfl : r = true := t2.trans (by decide)
                      have t4 : ((fx : Int) == (fy : Int)) = true := t3.trans (by decide)
                      clear t1 t2 t3
                      go_quiet (fail)
                      go_wp2_with fail
                      go_meet
                      exact ⟨rfl, nq, rfl⟩
                  case rest =>
                    obtain ⟨rfl, nq, rfl⟩ := hcut
                    have HKe : Hid (Keep (fun k => w2.heap.size ≤ k ∧ k < w3.heap.size) wA (wd.drewN nq)) := Lib.hid (HKd.out.drewN nq)
                    have HBe := Lib.hid (HBd.out.keep ((Keep.refl Nb wd).drewN nq) (fun _ _ e => e))
                    clear e0 e1 t2 t3 HKd HBd HRR HO
                    go_wp2_with fail
                    refine (fnodes_any _ _ gb N es x y 2 (HALL.out _ HKe.out).1 (by omega) (by omega) HOK.out.over hxN hyN (by omega) (by omega)).mono ?_
                    rintro e1 we ⟨m, rfl, hm2, hmn, hke⟩
                    have HMN := Lib.hid hmn
                    have HKf : Hid (Keep (fun k => w2.heap.size ≤ k ∧ k < w3.heap.size) wA we) := Lib.hid (HKe.out.trans hke.of_nb)
                    have HBf := Lib.hid (HBe.out.keep hke (fun _ _ e => e))
                    clear hmn hke HKe HBe
                    have hlook := (HALL.out _ HKf.out).2.2.look (a := x) (b := y) (by unfold DN; omega) (by unfold DN; omega)
                    have HNN2 : Hid (Brs (fun k => w2.heap.size ≤ k ∧ k < w3.heap.size) we br N es ∧ Keep (fun k => w2.heap.size ≤ k ∧ k < w3.heap.size) wA we) := Lib.hid ⟨HBf.out, HKf.out⟩
                    by_cases hj : (x, y) ∈ pl
                    · rw [decide_eq_true hj] at hlook
                      clear hj
                      go_wp2_with fail
                      go_roundg (N - (y + 1))
                      case measure => omega
                      case rel => exact ⟨y + 1, rfl, by omega, by omega, by omega, HNN2⟩
                    · rw [decide_eq_false hj] at hlook
                      by_cases hk0 : k = 0
                      · subst hk0
                        clear hj
                        go_wp2_with fail
                        go_roundg (N - (y + 1))
                        case measure => omega
                        case rel => exact ⟨y + 1, rfl, by omega, by omega, by omega, HNN2⟩
                      · have hkb : ((k : Int) == 0) = false := by simp; omega
                        have HCX : Hid (Conn (ends es) x y) := Lib.hid ((ways_one HOK.out.sorted HMC.out).1 (by omega))
                        have HDI : Hid (∀ e, e ∈ es → ¬ (e.a = x ∧ e.b = y) ∧ ¬ (e.a = y ∧ e.b = x)) := Lib.hid (fun e he => ⟨fun h => hj (by
                          rw [← HPL.out]
                          exact List.mem_map.2 ⟨e, he, by rw [h.1, h.2]⟩), fun h => by have := HLT.out e he; omega⟩)
                        clear hj hk0
                        go_wp2_with fail
                        have HA0 : Hid (ApZ es x y 0 false ∧ Keep Nb we we) := Lib.hid ⟨ApZ.start es x y, Keep.refl _ _⟩
                        clear hlook hkb
                        go_loopg [24, 25] N (fun kz s24 s25 wr3 => ∃ (ap : Bool) (z : Nat), s24 = .bool ap ∧ s25 = .int .i64 z ∧ z ≤ N ∧ N - z ≤ kz ∧ Hid (ApZ es x y z ap ∧ Keep Nb we wr3))
                        case atStart => exact ⟨false, 0, rfl, rfl, Nat.zero_le _, by omega, HA0⟩
                        case round =>
                          clear HA0
                          clear hlen hcap HOA HP HB hlen' HK1 HNN HK3 HK4 HCA HK5 HK35 HG5 HB5 HK6 HFN HFT HK7 hmm HLT
                          obtain ⟨ap, z, rfl, rfl, hz, hgz, HR3⟩ := hrel
                          have HGz := Lib.hid (HALL.out _ (HKf.out.trans HR3.out.2.of_nb)).1
                          by_cases hzN : z < N
                          · cases ap with
                            | true =>
                              have HN : Hid (ApZ es x y (z + 1) true ∧ Keep Nb we wr) := Lib.hid ⟨HR3.out.1.on, HR3.out.2⟩
                              clear HR3
                              go_wp2_with (go_at_call 24; refine (nodes_any _ _ gb N es HGz.out).mono ?_; rintro e1 w' ⟨rfl, rfl⟩)
                              go_roundg (N - (z + 1))
                              case measure => omega
                              case rel => exact ⟨true, z + 1, rfl, rfl, by omega, Nat.le_refl _, HN⟩
                            | false =>
                              by_cases hzx : z = x
                              · have b1 : ((z : Int) != (x : Int)) = false := by simp; omega
                                have HN : Hid (ApZ es x y (z + 1) false ∧ Keep Nb we wr) := Lib.hid ⟨HR3.out.1.skip (.inl hzx), HR3.out.2⟩
                                clear HR3 hzx
                                go_wp2_with (go_at_call 24; refine (nodes_any _ _ gb N es HGz.out).mono ?_; rintro e1 w' ⟨rfl, rfl⟩)
                                go_roundg (N - (z + 1))
                                case measure => omega
                                case rel => exact ⟨false, z + 1, rfl, rfl, by omega, Nat.le_refl _, HN⟩
                              · have b1 : ((z : Int) != (x : Int)) = true := by rw [bne_iff_ne]; omega
                                by_cases hzy : z = y
                                · have b2 : ((z : Int) != (y : Int)) = false := by simp; omega
                                  have HN : Hid (ApZ es x y (z + 1) false ∧ Keep Nb we wr) := Lib.hid ⟨HR3.out.1.skip (.inr hzy), HR3.out.2⟩
                                  clear HR3 hzx hzy
                                  go_wp2_with (go_at_call 24; refine (nodes_any _ _ gb N es HGz.out).mono ?_; rintro e1 w' ⟨rfl, rfl⟩)
                                  go_roundg (N - (z + 1))
                                  case measure => omega
                                  case rel => exact ⟨false, z + 1, rfl, rfl, by omega, Nat.le_refl _, HN⟩
                                · have b2 : ((z : Int) != (y : Int)) = true := by rw [bne_iff_ne]; omega
                                  have HZZ := Lib.hid (And.intro hzx hzy)
                                  clear hzx hzy
                                  go_wp2_with (go_at_call 24; refine (nodes_any _ _ gb N es HGz.out).mono ?_; rintro e1 w' ⟨rfl, rfl⟩)
                                  refine (without_any _ Nb _ _ gb N es none _ 0 _ [] [z] (HGz.out.alloc _) (by omega) (Sl.nil _ _ _ _) (Sl.built _ 3 1 1 [.int .i64 z] rfl (by simp only [maxLen]; omega)) (by simp) (by simp)).mono ?_
                                  rintro e1 wf ⟨rfl, hgL, hkf⟩
                                  rw [withoutN_eq4] at hgL
                                  rw [World.size_alloc] at hgL ⊢
                                  obtain ⟨lb, hlb⟩ : ∃ lb, w'.heap.size + 1 = lb := ⟨_, rfl⟩
                                  rw [hlb] at hgL ⊢
                                  have HGL := Lib.hid (hgL.mono (G := fun _ => True) (fun _ _ => trivial))
                                  clear hlb
                                  have hsn : (sansN es [z]).length ≤ 40 := Nat.le_trans (List.length_filter_le _ _) hel
                                  have HKf2 := Lib.hid ((HR3.out.2.alloc _).trans hkf)
                                  clear hgL hkf b1 b2
                                  have hT := together_any _ wf _ N (sansN es [z]) x y HGL.out (by omega) (by omega) (HOK.out.filter4 [z]) hxN hyN
                                  obtain ⟨rz, hrz⟩ : ∃ rz, decide (Conn (ends (sansN es [z])) x y) = rz := ⟨_, rfl⟩
                                  rw [hrz] at hT
                                  have HT := Lib.hid hT
                                  have HRZ := Lib.hid hrz
                                  clear hT hrz
                                  go_wp2_with fail
                                  refine HT.out.mono ?_
                                  rintro e1 wg ⟨rfl, hkg⟩
                                  have HN : Hid (ApZ es x y (z + 1) (!rz) ∧ Keep Nb we wg) := Lib.hid ⟨by rw [← HRZ.out]; exact HR3.out.1.test HZZ.out.1 HZZ.out.2, HKf2.out.trans hkg⟩
                                  clear hkg HRZ HT HR3 HGL HKf2
                                  cases rz with
                                  | true =>
                                    have HN2 : Hid (ApZ es x y (z + 1) false ∧ Keep Nb we wg) := HN
                                    clear HN
                                    go_wp2_with fail
                                    go_roundg (N - (z + 1))
                                    case measure => omega
                                    case rel => exact ⟨false, z + 1, rfl, rfl, by omega, Nat.le_refl _, HN2⟩
                                  | false =>
                                    have HN2 : Hid (ApZ es x y (z + 1) true ∧ Keep Nb we wg) := HN
                                    clear HN
                                    go_wp2_with fail
                                    go_roundg (N - (z + 1))
                                    case measure => omega
                                    case rel => exact ⟨true, z + 1, rfl, rfl, by omega, Nat.le_refl _, HN2⟩
                          · obtain rfl : z = N := by omega
                            have HN : Hid (Brs (fun k => w2.heap.size ≤ k ∧ k < w3.heap.size) wr br z es ∧ Keep (fun k => w2.heap.size ≤ k ∧ k < w3.heap.size) wA wr) := Lib.hid ⟨HBf.out.keep HR3.out.2 (fun _ _ e => e), HKf.out.trans HR3.out.2.of_nb⟩
                            have hap : ap = !decide (2 ≤ m) := by
                              rw [Bool.eq_iff_iff, Bool.not_eq_true', decide_eq_false_iff_not, apart_iff (by omega) HOK.out.over HDI.out HCX.out HMN.out, Classical.not_not]
                              exact HR3.out.1
                            clear HR3
                            rcases (by omega : m = 0 ∨ m = 1 ∨ m = 2) with rfl | rfl | rfl
                            · obtain rfl : ap = true := hap.trans (by decide)
                              clear hap
                              go_wp2_with (go_at_call 24; refine (nodes_any _ _ gb z es HGz.out).mono ?_; rintro e1 w' ⟨rfl, rfl⟩)
                              go_roundg (z - (y + 1))
                              case measure => omega
                              case rel => exact ⟨y + 1, rfl, by omega, by omega, by omega, HN⟩
                            · obtain rfl : ap = true := hap.trans (by decide)
                              clear hap
                              go_wp2_with (go_at_call 24; refine (nodes_any _ _ gb z es HGz.out).mono ?_; rintro e1 w' ⟨rfl, rfl⟩)
                              go_roundg (z - (y + 1))
                              case measure => omega
                              case rel => exact ⟨y + 1, rfl, by omega, by omega, by omega, HN⟩
                            · obtain rfl : ap = false := hap.trans (by decide)
                              clear hap
                              go_wp2_with (go_at_call 24; refine (nodes_any _ _ gb z es HGz.out).mono ?_; rintro e1 w' ⟨rfl, rfl⟩)
                              go_roundg (z - (y + 1))
                              case measure => omega
                              case rel => exact ⟨y + 1, rfl, by omega, by omega, by omega, HN⟩
                · obtain rfl : y = N := by omega
                  have HGz := Lib.hid (HALL.out _ HR.out.2).1
                  have HN := HR
                  clear HR
                  go_wp2_with (go_at_call 24; refine (nodes_any _ _ gb y es HGz.out).mono ?_; rintro e1 w' ⟨rfl, rfl⟩)
                  go_roundg (y - (x + 1))
                  case measure => omega
                  case rel => exact ⟨x + 1, rfl, by omega, Nat.le_refl _, HN⟩
            · obtain rfl : x = N := by omega
              have HGz := Lib.hid (HALL.out _ HR.out.2).1
              have HF : Hid (Keep Nb w wr) := Lib.hid (HKW.out.trans' HR.out.2 (fun _ _ e => e) (fun k hk e => by
                have e' : w2.heap.size ≤ k ∧ k < w3.heap.size := e
                have := HK2.out.size
                show False; omega))
              clear HR
              go_wp2_with (go_at_call 24; refine (nodes_any _ _ gb x es HGz.out).mono ?_; rintro e1 w' ⟨rfl, rfl⟩)
              go_ret
              exact ⟨rfl, HF.out⟩

end Go.Proofs.Ytkpoobnldgfapaa
