/- Part 13 of the proof: A8. -/
import Derived.Test.YtfglkgkihafcpaaGreatDoorDp09
import Derived.Test.YtfglkgkihafcpaaGreatDoorDp10
import Derived.Test.YtfglkgkihafcpaaGreatDoorDp12
import Derived.Deep.RegionHeld3
import Derived.Lib.AppendZeros
import Derived.Deep.QuietTactic
import Derived.BigQuiet
set_option linter.unusedVariables false
set_option linter.unusedSimpArgs false
namespace Go.Proofs.YtfglkgkihafcpaaGreatDoor
open Go.RowKit
def GrowPost (w : World) (e : Ending) (w' : World) : Prop :=
 ∃ o c, e = .returned (.slice o 0 c) ∧ Sl (fun k => w.heap.size ≤ k) w' 3 1 o 0 c [] ∧ Keep Nb w w'
set_option maxRecDepth 100000 in
theorem grow_nil (w : World) (n : Nat) (hn : n ≤ 1000) : Calls Tryz.prog 152 #[.slice none 0 0, .int .i64 n] w (GrowPost w) := by
 by_cases h0 : n = 0
 ·subst h0
  have HP : Hid (GrowPost w (.returned (.slice none 0 0)) w) := Lib.hid ⟨none, 0, rfl, Sl.nil _ _ _ _, Keep.refl _ _⟩
  simp only [Int.natCast_zero]
  go_enter Tryz.func152, Tryz.ntmps152
  go_wp2_with fail
  go_ret
  exact HP.out
 ·obtain ⟨i, hi, hz, hs, hb⟩ := info_parts (elem_int)
  have hr := fun ty => Lib.run_append_nil_zeros (P := Tryz.prog) w 63 3 ty 3 i (.int .i64 0) .i64 .i64 Tryz.underlying63 Tryz.underlying3 hi hz n (by omega) (by omega) (by omega) (by rw [hb]; omega)
  have hge : n ≤ grownCap w n 0 3 := by have := grownCap_ge w n 0 3; omega
  have hle : grownCap w n 0 3 ≤ maxLen := grownCap_le_maxLen w n 0 3 (by simp only [maxLen]; omega)
  obtain ⟨G, hG⟩ : ∃ G, grownCap w n 0 3 = G := ⟨_, rfl⟩
  rw [hG] at hge hle
  simp only [hG] at hr
  have HP : Hid (GrowPost w (.returned (.slice (some ⟨w.heap.size, 0, none⟩) 0 G)) (w.drew.alloc (.cells (Builtin.zeroCells (Value.int .i64 0).cells n ++ Builtin.zeroCells (Value.int .i64 0).cells (G - n)) 3))) := Lib.hid (by
   refine ⟨_, G, rfl, ⟨⟨rfl, .inr ⟨w.heap.size, G, _, rfl, Nat.zero_le _, heap_alloc_new w.drew _, Nat.zero_le _, hle, ?_, by simp⟩⟩, fun a ha => by simp at ha; rw [← ha]; exact Nat.le_refl _⟩, ((Keep.refl Nb w).drew).alloc _⟩
   rw [Array.size_append, size_zeroCells, size_zeroCells]
   have : (Value.int IntKind.i64 0).cells.size = 1 := rfl
   rw [this]; omega)
  have HR := Lib.hid hr
  clear hr hi hz hs hb hle hG
  generalize w.drew.alloc (.cells (Builtin.zeroCells (Value.int .i64 0).cells n ++ Builtin.zeroCells (Value.int .i64 0).cells (G - n)) 3) = w2 at *
  have hG0 : ¬ G < 0 := by omega
  have hx : n ≤ G := hge
  go_enter Tryz.func152, Tryz.ntmps152
  go_wp2_with ((at_builtin; refine Lib.wpList_append_run _ rfl _ _ 63 3 rfl _ _ rfl rfl _ _ (HR.out _) ?_))
  go_ret
  exact HP.out
def rowTot (f : Nat → List Nat) : Nat → Nat
 | 0 => 0
 | i + 1 => rowTot f i + (f i).length
def rowCat (f : Nat → List Nat) : Nat → List Nat
 | 0 => []
 | i + 1 => rowCat f i ++ f i
theorem rowCat_len (f : Nat → List Nat) (i : Nat) : (rowCat f i).length = rowTot f i := by
 induction i with
 | zero => rfl
 | succ i ih => simp only [rowCat, rowTot, List.length_append, ih]
theorem rowTot_mono (f : Nat → List Nat) {i j : Nat} (h : i ≤ j) : rowTot f i ≤ rowTot f j := by
 induction j with
 | zero => obtain rfl : i = 0 := by omega
           exact Nat.le_refl _
 | succ j ih =>
  by_cases e : i = j + 1
  ·rw [e]; exact Nat.le_refl _
  ·have := ih (by omega)
   simp only [rowTot]; omega
def CatPost (w : World) (l : List Nat) (e : Ending) (w' : World) : Prop :=
 ∃ o c, e = .returned (.slice o l.length c) ∧ Sl (fun k => w.heap.size ≤ k) w' 3 1 o l.length c (ints l) ∧ Keep Nb w w'
theorem run_app_ints {w : World} {F G : Nat → Prop} (ty : TypeId) {o o2 : Option Addr} {n c m c2 : Nat} {xs ys : List Value} (hS : Sl F w 3 1 o n c xs) (hT : Sl G w 3 1 o2 m c2 ys) (h1 : ∀ u ∈ ys, u.oneCell' = true) (h63 : n + m ≤ 1000000) :
  ∃ o' c' w', (Builtin.append_ #[63, 63] ty #[.slice o n c, .slice o2 m c2]).run Tryz.prog w = .ok (.slice o' (n + m) c') w' ∧ Sl (fun k => F k ∨ w.heap.size ≤ k) w' 3 1 o' (n + m) c' (xs ++ ys) ∧ Keep (Bl o) w w' := by
 by_cases h0 : m = 0
 ·subst h0
  have hy : ys = [] := List.eq_nil_of_length_eq_zero (by simpa using hT.len)
  subst hy
  refine ⟨o, c, w, ?_, ?_, Keep.refl _ _⟩
  ·obtain ⟨i, hi, hz, hs, hb⟩ := info_parts elem_int
   rcases hS.cases with ⟨rfl, rfl, rfl, rfl⟩ | ⟨g, rfl, _, hnc, hcm, _⟩
   ·cases o2 <;> simp [Builtin.append_, run_underlying Tryz.underlying63, sizeOf, typeInfo, hi, Builtin.lenOf, Builtin.firstCells, loadCells, loadCellsFrom, storeCells]
   ·have hn : ¬ c < n := by omega
    have hw : IntKind.i64.wrap (n : Int) = n := by rw [IntKind.wrap_i64]; omega
    cases o2 <;> simp [Builtin.append_, run_underlying Tryz.underlying63, sizeOf, typeInfo, hi, Builtin.lenOf, Builtin.firstCells, loadCells, loadCellsFrom, storeCells, hn, hw]
  ·rw [List.append_nil]; exact hS.mono (fun _ h => .inl h)
 ·obtain ⟨g, rfl, _, hmc, hrow⟩ := hT.pos (by omega)
  obtain ⟨q, c', w', r1, r2, r3, r4⟩ := run_app (P := Tryz.prog) 63 ty 3 Tryz.underlying63 elem_int rfl (by omega) hS ⟨g, 0, none⟩ m c2 ys hT.len
   (fun j u hj => by
    rw [show (⟨g, 0, none⟩ : Addr).add j = ⟨g, j, none⟩ from by unfold Addr.add; split <;> simp_all]
    exact hrow.cell hj) h1 (by simp only [maxLen]; omega) (by omega) (by omega)
  exact ⟨_, c', w', r1, r2.mono (fun k hk => hk.imp (fun h => h) (fun h => by omega)), r3⟩
set_option maxRecDepth 100000 in
set_option maxHeartbeats 1000000 in
theorem concat_any (F : Nat → Prop) (w : World) (o : Option Addr) (n c : Nat) (rw_ : Nat → Rw) (f : Nat → List Nat) (hM : MatR F w 63 3 o n c rw_ f) (hF : ∀ k, F k → k < w.heap.size) (hn : n ≤ 1000) (ht : rowTot f n ≤ 1000) :
  Calls Tryz.prog 113 #[.slice o n c] w (CatPost w (rowCat f n)) := by
 have HM := Lib.hid hM
 have HF := Lib.hid hF
 clear hM hF
 go_enter Tryz.func113, Tryz.ntmps113
 go_wp2_with fail
 go_loopg [3, 11] n (fun kx s3 s11 wr => ∃ i : Nat, s3 = .int .i64 (rowTot f i : Nat) ∧ s11 = .int .i64 i ∧ i ≤ n ∧ n - i ≤ kx ∧ w = wr)
 case atStart => exact ⟨0, rfl, rfl, Nat.zero_le _, by omega, rfl⟩
 case round =>
  obtain ⟨i, rfl, rfl, hi, hg, rfl⟩ := hrel
  have hti : rowTot f i ≤ 1000 := Nat.le_trans (rowTot_mono f hi) ht
  by_cases hlt : i < n
  ·obtain ⟨go, rfl, hnc, _, hc⟩ := HM.out.cell hlt
   have hts : rowTot f (i + 1) ≤ 1000 := Nat.le_trans (rowTot_mono f (by omega)) ht
   have hsum : rowTot f (i + 1) = rowTot f i + (f i).length := rfl
   have hfl : (f i).length ≤ 1000 := by omega
   have HSum := Lib.hid hsum
   have hnn : (0 : Int) ≤ (rowTot f i : Nat) + ((f i).length : Nat) := by omega
   clear hsum
   go_wp2_with fail
   go_roundg (n - (i + 1))
   case measure => omega
   case rel => exact ⟨i + 1, by rw [HSum.out]; go_num, rfl, by omega, Nat.le_refl _, rfl⟩
  ·obtain rfl : i = n := by omega
   go_wp2_with fail
   refine (grow_nil _ _ hti).mono ?_
   rintro e w1 ⟨o1, c1, rfl, h1, k1⟩
   have HS : Hid (Sl (fun k => w.heap.size ≤ k) w1 3 1 o1 (rowTot f 0) c1 (ints (rowCat f 0)) ∧ Keep Nb w w1) := Lib.hid ⟨h1, k1⟩
   clear h1 k1
   go_wp2_with fail
   go_loopg [6, 27] i (fun kx s6 s27 wr => ∃ (j : Nat) (o : Option Addr) (c : Nat), s6 = .slice o (rowTot f j) c ∧ s27 = .int .i64 j ∧ j ≤ i ∧ i - j ≤ kx ∧ Hid (Sl (fun k => w.heap.size ≤ k) wr 3 1 o (rowTot f j) c (ints (rowCat f j)) ∧ Keep Nb w wr))
   case atStart => exact ⟨0, o1, c1, rfl, rfl, Nat.zero_le _, by omega, HS⟩
   case round =>
    clear HS
    obtain ⟨j, o2, c2, rfl, rfl, hj, hgj, HR⟩ := hrel
    by_cases hlt2 : j < i
    ·have hMr := HM.out.keep HR.out.2 (fun _ _ e => e)
     obtain ⟨go, rfl, hnc, _, hc⟩ := hMr.cell hlt2
     have hts : rowTot f (j + 1) ≤ 1000 := Nat.le_trans (rowTot_mono f (by omega)) ht
     have hsum : rowTot f (j + 1) = rowTot f j + (f j).length := rfl
     obtain ⟨o3, c3, w3, r1, r2, r3⟩ := run_app_ints 63 HR.out.1 (hMr.row j hlt2) (ints_one _) (by omega)
     have HN : Hid (Sl (fun k => w.heap.size ≤ k) w3 3 1 o3 (rowTot f (j + 1)) c3 (ints (rowCat f (j + 1))) ∧ Keep Nb w w3) := Lib.hid (by
      have z := HR.out.2.size
      refine ⟨?_, HR.out.2.trans' r3 (fun _ _ e => e) (fun k hk e => ?_)⟩
      ·show Sl _ w3 3 1 o3 (rowTot f j + (f j).length) c3 (ints (rowCat f j ++ f j))
       rw [ints_append]
       exact r2.mono (fun k hk => by
        rcases hk with h | h
        ·exact h
        ·show w.heap.size ≤ k; omega)
      ·obtain ⟨a, ha, rfl⟩ := e
       have : w.heap.size ≤ a.block := HR.out.1.foot a ha
       omega)
     have R1 := Lib.hid r1
     have HSum := Lib.hid hsum
     clear r1 r2 r3 hMr hsum
     go_wp2_with ((at_builtin; refine wpList_app rfl _ _ _ rfl rfl rfl R1.out ?_))
     go_roundg (i - (j + 1))
     case measure => omega
     case rel => exact ⟨j + 1, o3, c3, rfl, rfl, by omega, Nat.le_refl _, HN⟩
    ·obtain rfl : j = i := by omega
     have HP : Hid (CatPost w (rowCat f j) (.returned (.slice o2 (rowTot f j) c2)) wr) := Lib.hid (by
      rw [← rowCat_len] at HR ⊢
      exact ⟨o2, c2, rfl, HR.out.1, HR.out.2⟩)
     clear HR
     go_wp2_with fail
     go_ret
     exact HP.out
end Go.Proofs.YtfglkgkihafcpaaGreatDoor
namespace Go.Proofs.YtfglkgkihafcpaaGreatDoor
open Go.RowKit Pl Go.Maps
theorem Sl.take {F : Nat → Prop} {w : World} {T : TypeId} {o : Option Addr} {n c : Nat} {l : List Value} (h : Sl F w T 1 o n c l) {m : Nat} (hm : m ≤ n) : Sl F w T 1 o m c (l.take m) := by
 have hlen := h.len
 rcases h.own.2 with ⟨e, hn⟩ | ⟨g, cap, cur, e, hb, hg, h1, h2, h3, h4⟩
 ·simp only [Value.slice.injEq] at e
  obtain ⟨rfl, rfl, rfl⟩ := e
  obtain rfl : m = 0 := by omega
  simp only [List.take_zero]
  exact Sl.nil F w T 1
 ·simp only [Value.slice.injEq, true_and] at e
  obtain ⟨rfl, rfl⟩ := e
  refine ⟨⟨by rw [List.length_take]; omega, .inr ⟨g, c, cur, rfl, hb, hg, by omega, h2, h3, ?_⟩⟩, h.foot⟩
  rw [← h4, List.take_take]
  congr 1; omega
theorem Sl.takeI {F : Nat → Prop} {w : World} {T : TypeId} {o : Option Addr} {n c : Nat} {l : List Nat} (h : Sl F w T 1 o n c (ints l)) {m : Nat} (hm : m ≤ n) : Sl F w T 1 o m c (ints (l.take m)) := by
 have := h.take hm
 unfold ints at this ⊢
 rwa [← List.map_take] at this
theorem matr_two {F : Nat → Prop} {w : World} {o1 o2 : Option Addr} {n1 n2 c1 c2 : Nat} {l1 l2 : List Nat} (h1 : Sl F w 3 1 o1 n1 c1 (ints l1)) (h2 : Sl F w 3 1 o2 n2 c2 (ints l2)) :
  MatR (fun k => F k ∨ k = w.heap.size) (w.alloc (.cells #[.slice o1 n1 c1, .slice o2 n2 c2] 63)) 63 3 (some ⟨w.heap.size, 0, none⟩) 2 2 (fun i => if i = 0 then ⟨o1, n1, c1⟩ else ⟨o2, n2, c2⟩) (fun i => if i = 0 then l1 else l2) := by
 have e1 : n1 = l1.length := by have := h1.len; simp at this; exact this.symm
 have e2 : n2 = l2.length := by have := h2.len; simp at this; exact this.symm
 subst e1
 subst e2
 refine ⟨?_, fun i hi => ?_, fun i hi => ?_, fun i a hi ha => ?_⟩
 ·have := (Sl.built w 63 1 2 [.slice o1 l1.length c1, .slice o2 l2.length c2] rfl (by simp only [maxLen]; omega)).mono (G := fun k => F k ∨ k = w.heap.size) (fun k hk => .inr hk)
  exact this
 ·by_cases h0 : i = 0
  ·simp only [if_pos h0]; exact (h1.alloc _).mono (fun _ h => .inl h)
  ·simp only [if_neg h0]; exact (h2.alloc _).mono (fun _ h => .inl h)
 ·by_cases h0 : i = 0
  ·simp only [if_pos h0]
  ·simp only [if_neg h0]
 ·rintro ⟨x, hx, hb⟩
  simp at hx; subst hx
  simp only at hb
  by_cases h0 : i = 0
  ·simp only [if_pos h0] at ha; have := h1.lt ha; omega
  ·simp only [if_neg h0] at ha; have := h2.lt ha; omega
def RiRel (F : Nat → Prop) (w : World) (b n ws ts um im : Nat) (Fw Ft : Nat → Prop) (Lw T : Nat → Nat) (up : Nat → Option (Nat × Nat)) (top : Nat) (R : List Nat) (j : Nat) (wr : World) : Prop :=
 ∃ mU mI, BrMem F wr b n ws ts um im Fw Ft Lw (joins T top (R.take j)) mU mI ∧ UpIs mU (rids up (R.take j)) ∧ ((∀ id, (mget mI id).isSome = true ↔ Ids up id ∧ ∀ p s, p ∈ R.take j → up p = some s → s.1 ≠ id) ∧ ∀ q, q ∈ mI → q.2 = .bool true) ∧ Keep F w wr
theorem RiRel.start {F : Nat → Prop} {w wr : World} {b n ws ts um im : Nat} {Fw Ft : Nat → Prop} {Lw T : Nat → Nat} {mU mI : List (Nat × Value)} {up : Nat → Option (Nat × Nat)} {top : Nat} {R : List Nat} (h : BrMem F wr b n ws ts um im Fw Ft Lw T mU mI) (hU : UpIs mU up) (hI : IdIs mI up) (hk : Keep F w wr) :
  RiRel F w b n ws ts um im Fw Ft Lw T up top R 0 wr := by
 refine ⟨mU, mI, h, ?_, ⟨fun id => ?_, hI.2⟩, hk⟩
 ·have : rids up (R.take 0) = up := by funext p; simp [rids]
  rw [this]; exact hU
 ·rw [hI.1]; simp
theorem rids_snoc (up : Nat → Option (Nat × Nat)) (l : List Nat) (p : Nat) : rids up (l ++ [p]) = upd (rids up l) p none := by
 funext q
 unfold rids upd
 by_cases e : q = p
 ·simp [e]
 ·simp [e]
theorem RiRel.next {F : Nat → Prop} {w w' : World} {b n ws ts um im : Nat} {Fw Ft : Nat → Prop} {Lw T : Nat → Nat} {up : Nat → Option (Nat × Nat)} {top : Nat} {R : List Nat} {j p : Nat} {s : Nat × Nat} {mU mI : List (Nat × Value)}
  (hp : R[j]? = some p) (hup : up p = some s) (huniq : ∀ q s', up q = some s' → s'.1 = s.1 → q = p)
  (hU : UpIs mU (rids up (R.take j))) (hI : (∀ id, (mget mI id).isSome = true ↔ Ids up id ∧ ∀ p s, p ∈ R.take j → up p = some s → s.1 ≠ id) ∧ ∀ q, q ∈ mI → q.2 = .bool true)
  (h : BrMem F w' b n ws ts um im Fw Ft Lw (joinL (joins T top (R.take j)) p top) (mdel mU p) (mdel mI s.1)) (hk : Keep F w w') : RiRel F w b n ws ts um im Fw Ft Lw T up top R (j + 1) w' := by
 have e : R.take (j + 1) = R.take j ++ [p] := take_snoc' hp
 refine ⟨mdel mU p, mdel mI s.1, by rw [e, joins_snoc]; exact h, by rw [e, rids_snoc]; exact hU.del p, ⟨fun id => ?_, fun q hq => ?_⟩, hk⟩
 ·rw [mget_mdel, e]
  by_cases he : id = s.1
  ·rw [if_pos he]
   simp only [Option.isSome_none, Bool.false_eq_true, false_iff]
   rintro ⟨_, h2⟩
   exact h2 p s (by simp) hup he.symm
  ·rw [if_neg he, hI.1]
   constructor
   ·rintro ⟨h1, h2⟩
    refine ⟨h1, fun q s' hq hs' => ?_⟩
    rcases List.mem_append.1 hq with hq | hq
    ·exact h2 q s' hq hs'
    ·simp at hq; subst hq; rw [hup] at hs'; cases hs'; exact fun e => he e.symm
   ·rintro ⟨h1, h2⟩
    exact ⟨h1, fun q s' hq hs' => h2 q s' (List.mem_append_left _ hq) hs'⟩
 ·unfold mdel at hq; exact hI.2 q (List.mem_filter.1 hq).1
theorem BrMem.look1 {F : Nat → Prop} {w : World} {b n ws ts um im : Nat} {Fw Ft : Nat → Prop} {Lw T : Nat → Nat} {mU mI : List (Nat × Value)} {up : Nat → Option (Nat × Nat)} (h : BrMem F w b n ws ts um im Fw Ft Lw T mU mI) (hU : UpIs mU up) {p : Nat} (hp : p < 40) :
  (Instr.lookup 148 (.map (some um)) (.int .i64 p) false).run Tryz.prog w = .ok (.agg #[.int .i64 ((stepD (up p)).1 : Nat), .int .i64 ((stepD (up p)).2 : Nat)]) w := by
 have hl := h.mu.look (encN_enc Tryz.underlying3) Tryz.underlying148 (zero_step w) (nat40 hp) false
 rw [hU p] at hl
 cases hup : up p with
 | none => rw [hup] at hl; exact hl
 | some s => rw [hup] at hl; exact hl
theorem rids_top (up : Nat → Option (Nat × Nat)) (top : Nat) (R : List Nat) : upd (rids up R) top none = rids up (top :: R) := by
 funext p
 unfold rids upd
 by_cases e : p = top
 ·simp [e]
 ·simp [e]
theorem rids_none {up : Nat → Option (Nat × Nat)} {top t' : Nat} {R : List Nat} (ht : t' = top ∨ t' ∈ R) : upd (rids up (top :: R)) t' none = rids up (top :: R) := by
 funext p
 by_cases e : p = t'
 ·subst e; rw [upd_same]; unfold rids; rw [if_pos (List.mem_cons.2 ht)]
 ·rw [upd_ne _ _ _ _ e]
theorem ring_name {n : Nat} {T : Nat → Nat} {es : List E} {up : Nat → Option (Nat × Nat)} {x y top i k : Nat} {L M R : List Nat} (hx : x < n) (hy : y < n) (hInv : BInv n es T up)
  (hL : Path T up (T x) L) (hM : Path T up (T y) M) (ht : L[i]? = some top) (hk : M[k]? = some top) (m : BInv.Top T up x y top) (hR : L.take i ++ M.take k = R) : joins T top R top = top ∨ joins T top R top ∈ R := by
 have hri := fun p => hInv.ring_iff hL hM ht hk (p := p)
 rw [hR] at hri
 have htn := hInv.anc_key m.tx (hInv.tlt hx) (hInv.tt hx)
 have hkey : ∀ p, p ∈ R → p < n ∧ T p = p := fun p hp => by
  have := ((hri p).2 hp).1.1
  exact this.elim (fun g => hInv.anc_key g (hInv.tlt hx) (hInv.tt hx)) (fun g => hInv.anc_key g (hInv.tlt hy) (hInv.tt hy))
 have C' := joins_canon hInv.canon htn.1 (l := R) (fun p hp => (hkey p hp).1)
 have b1 := C'.idem top htn.1
 have ht1 := C'.lt htn.1
 have b2 : joins T top R (T (joins T top R top)) = joins T top R (joins T top R top) := (joins_iff htn.2 (fun p hp => (hkey p hp).2)).2 (.inl (hInv.tt ht1))
 have l1 := hInv.canon.le _ ht1
 have l2 := C'.le _ (hInv.tlt ht1)
 rw [b2, b1] at l2
 have e1 : T (joins T top R top) = joins T top R top := by omega
 rcases (joins_iff htn.2 (fun p hp => (hkey p hp).2)).1 b1 with g | ⟨g, _⟩
 ·rw [e1, htn.2] at g; exact .inl g
 ·rwa [e1] at g
theorem ring_fin {F : Nat → Prop} {w w' : World} {b n ws ts um im : Nat} {Fw Ft : Nat → Prop} {T : Nat → Nat} {mU mI : List (Nat × Value)} {es : List E} {up : Nat → Option (Nat × Nat)} {id x y top i k : Nat} {L M R : List Nat}
  (hx : x < n) (hy : y < n) (hid : ∀ f, f ∈ es → f.id ≠ id) (hid2 : id < 4611686018427387904) (hsm : ∀ e, e ∈ es → e.id < 4611686018427387904) (hc : Conn (ends es) x y) (hInv : BInv n es T up)
  (hL : Path T up (T x) L) (hM : Path T up (T y) M) (ht : L[i]? = some top) (hk : M[k]? = some top) (m : BInv.Top T up x y top) (hR : L.take i ++ M.take k = R)
  (hU : UpIs mU (upd (rids up (top :: R)) (joins T top R top) (up top))) (hI : (∀ id, (mget mI id).isSome = true ↔ Ids up id ∧ ∀ p s, p ∈ R → up p = some s → s.1 ≠ id) ∧ ∀ q, q ∈ mI → q.2 = .bool true)
  (h : BrMem F w' b n ws ts um im Fw Ft (labs (ends es)) (joins T top R) mU mI) (hkp : Keep F w w') :
  BAddPost F w b n es id x y (.returned (.tuple #[.bool false, .nilIface])) w' := by
 have hLab : labs (ends es) = labs (ends (es ++ [⟨id, x, y⟩])) := by
  rw [ends_snoc, labs_snoc]; exact (joinL_same hc).symm
 have hcl := hInv.closed (e := ⟨id, x, y⟩) hx hy ⟨rfl, rfl⟩ hid hL hM ht hk m
 rw [hR] at hcl
 rw [hLab] at h
 have hri := fun p => hInv.ring_iff hL hM ht hk (p := p)
 rw [hR] at hri
 have htR : top ∉ R := fun hh => ((hri top).2 hh).2 rfl
 have htn := hInv.anc_key m.tx (hInv.tlt hx) (hInv.tt hx)
 refine ⟨by rw [decide_eq_true hc]; rfl, ⟨ws, ts, um, im, Fw, Ft, _, mU, mI, _, h, hU, ⟨fun j => ?_, hI.2⟩, hcl, fun e he => ?_⟩, hkp⟩
 ·rw [hI.1, ids_closed hInv htR (ring_name hx hy hInv hL hM ht hk m hR)]
 ·rcases List.mem_append.1 he with he | he
  ·exact hsm e he
  ·rw [List.mem_singleton] at he; subst he; exact hid2
theorem run_step_field (a b : Int) (w : World) : (Instr.field 155 (.agg #[.int .i64 a, .int .i64 b]) 0).run Tryz.prog w = .ok (.int .i64 a) w := by kernel_rfl
end Go.Proofs.YtfglkgkihafcpaaGreatDoor
namespace Go.Proofs.YtfglkgkihafcpaaGreatDoor
open Go.RowKit Pl Go.Maps
theorem way_cell {F : Nat → Prop} {w : World} {o : Option Addr} {c : Nat} {l : List Nat} (h : Sl F w 3 1 o l.length c (ints l)) (hp : 0 < l.length) :
  ∃ g, o = some ⟨g, 0, none⟩ ∧ F g ∧ l.length ≤ c ∧ (∀ (j x : Nat), l[j]? = some x → w.cell? ⟨g, j, none⟩ = some (.int .i64 x)) := by
 obtain ⟨g, h1, h2, h3, h4⟩ := h.pos hp
 exact ⟨g, h1, h2, h3, fun j x hj => h4.cell (ints_get hj)⟩
set_option maxRecDepth 100000 in
set_option maxHeartbeats 1000000 in
theorem badd_ring (F : Nat → Prop) (w : World) (b n : Nat) (es : List E) (id x y : Nat) (hx : x < n) (hy : y < n) (hxy : x ≠ y) (hid : ∀ f, f ∈ es → f.id ≠ id) (hid2 : id < 4611686018427387904)
  (hB : Brs F w b n es) (hF : ∀ k, F k → k < w.heap.size) (hc : Conn (ends es) x y) :
  Calls Tryz.prog 79 #[.pointer (some ⟨b, 0, none⟩), .int .i64 id, .int .i64 x, .int .i64 y] w (BAddPost F w b n es id x y) := by
 obtain ⟨ws, ts, um, im, Fw, Ft, T, mU, mI, up, h, hU, hI, hInv, hsm⟩ := hB
 have hn := h.n40
 have hxy2 : ((x : Int) == (y : Int)) = false := by simp; omega
 have c0 := h.head.cell (i := 0) rfl
 obtain ⟨L, hL⟩ := hInv.path (T x)
 obtain ⟨M, hM⟩ := hInv.path (T y)
 have hLn := hInv.path_len hx hL
 have hMn := hInv.path_len hy hM
 have hmeet := hInv.meet_start hx hy hc hL hM
 have H := Lib.hid h
 have HU := Lib.hid hU
 have HI := Lib.hid hI
 have HInv := Lib.hid hInv
 have HF := Lib.hid hF
 have HSM := Lib.hid hsm
 have HID := Lib.hid hid
 have HC := Lib.hid hc
 have HXY := Lib.hid hxy
 have HLP := Lib.hid hL
 have HMP := Lib.hid hM
 have HME := Lib.hid hmeet
 have HLN := Lib.hid hLn
 have HMN := Lib.hid hMn
 clear h hU hI hInv hsm hF hid hc hxy hL hM hmeet hLn hMn
 go_enter Tryz.func79, Tryz.ntmps79
 go_wp2_with fail
 refine (same_any Fw _ ws n _ x y hx hy H.out.sw).mono ?_
 rintro e w1 ⟨rfl, s1, k1⟩
 rw [decide_eq_true (show labs (ends es) x = labs (ends es) y from HC.out)]
 have H1 := Lib.hid (H.out.setW s1 k1)
 have K1 := Lib.hid k1
 clear s1 k1 c0
 go_wp2_with fail
 refine (above_any F _ b n ws ts um im Fw Ft _ T mU mI up x L hx H1.out (fun k hk => Nat.lt_of_lt_of_le (HF.out k hk) K1.out.size) HU.out (fun p s hp => (HInv.out.key p s hp).2.2) HLP.out HLN.out (fun p hp => (HInv.out.path_lt hx HLP.out p hp).1)).mono ?_
 rintro e w2 ⟨o2, c2, rfl, h2, k2, s2⟩
 have H2 := Lib.hid h2
 have K2 := Lib.hid ((K1.out.mono (fun _ _ h => .inl h)).trans' k2 (H := fun k => Fw k ∨ Ft k) (fun _ _ h => h) (fun _ _ h => .inr h))
 have S2 := Lib.hid (s2.tight.mono (G := fun k => w.heap.size ≤ k ∧ k < w2.heap.size) (fun k hk => ⟨Nat.le_trans K1.out.size hk.1, hk.2⟩))
 clear h2 k2 s2
 go_wp2_with fail
 refine (above_any F _ b n ws ts um im Fw Ft _ T mU mI up y M hy H2.out (fun k hk => Nat.lt_of_lt_of_le (HF.out k hk) K2.out.size) HU.out (fun p s hp => (HInv.out.key p s hp).2.2) HMP.out HMN.out (fun p hp => (HInv.out.path_lt hy HMP.out p hp).1)).mono ?_
 rintro e w3 ⟨o3, c3, rfl, h3, k3, s3⟩
 have H3 := Lib.hid h3
 have K3 := Lib.hid (K2.out.trans' k3 (H := fun k => Fw k ∨ Ft k) (fun _ _ h => h) (fun _ _ h => .inr h))
 have S3 := Lib.hid s3
 have S2' := Lib.hid (S2.out.keep k3 (fun k hk ht => by have := HF.out k (H2.out.sub k (.inr (.inr (.inr (.inr ht))))); omega))
 have l2 := HME.out.li
 have l3 := HME.out.lk
 obtain ⟨gL, rfl, hgL, hcL, hwL⟩ := way_cell S2'.out (by omega)
 obtain ⟨gM, rfl, hgM, hcM, hwM⟩ := way_cell S3.out (by omega)
 have HWL := Lib.hid hwL
 have HWM := Lib.hid hwM
 have hM0 := HME.out
 have hL40 : L.length ≤ 40 := by have := HLN.out; omega
 have hM40 : M.length ≤ 40 := by have := HMN.out; omega
 clear h3 k3 s3 hwL hwM
 go_wp2_with fail
 go_loopg [16, 17] L.length (fun kx s16 s17 wr => ∃ a c : Nat, s16 = .slice (some ⟨gL, 0, none⟩) a c2 ∧ s17 = .slice (some ⟨gM, 0, none⟩) c c3 ∧ 0 < a ∧ 0 < c ∧ a ≤ kx ∧ a ≤ L.length ∧ c ≤ M.length ∧ Hid (BInv.Meet L M (a - 1) (c - 1) ∧ Keep Nb w3 wr))
 case atStart => exact ⟨L.length, M.length, rfl, rfl, by omega, by omega, Nat.le_refl _, Nat.le_refl _, Nat.le_refl _, Lib.hid ⟨hM0, Keep.refl _ _⟩⟩
 case round =>
  clear hM0
  obtain ⟨a, c, rfl, rfl, ha, hc0, hg, haL, hcM0, HR⟩ := hrel
  go_upto_if 124 with (fail)
  go_cut [124] (fun v wc => ∃ r : Bool, v = .bool r ∧ Hid (r = decide (1 < a ∧ 1 < c ∧ L[a - 2]? = M[c - 2]?)) ∧ Keep Nb wr wc)
  case first =>
   by_cases ha1 : a = 1
   ·subst ha1
    go_quiet (fail)
    go_wp2_with fail
    go_meet
    exact ⟨false, rfl, Lib.hid (by simp), (Keep.refl Nb wr).drewN _⟩
   ·have t1 : decide ((1 : Int) < (a : Int)) = true := by simp; omega
    by_cases hc1 : c = 1
    ·subst hc1
     go_quiet (fail)
     go_wp2_with fail
     go_meet
     exact ⟨false, rfl, Lib.hid (by simp), (Keep.refl Nb wr).drewN _⟩
    ·have t2 : decide ((1 : Int) < (c : Int)) = true := by simp; omega
     obtain ⟨p, hp⟩ : ∃ p, L[a - 2]? = some p := ⟨_, List.getElem?_eq_getElem (by omega)⟩
     obtain ⟨q, hq⟩ : ∃ q, M[c - 2]? = some q := ⟨_, List.getElem?_eq_getElem (by omega)⟩
     have f1 := HR.out.2.cell (HWL.out (a - 2) p hp) (fun e => e)
     have f2 := HR.out.2.cell (HWM.out (c - 2) q hq) (fun e => e)
     have b1 : IntKind.i64.wrap ((a : Int) - 2) = (a : Int) - 2 := IntWalk.i64_in _ (by omega)
     have b2 : IntKind.i64.wrap ((c : Int) - 2) = (c : Int) - 2 := IntWalk.i64_in _ (by omega)
     have b3 : ((a : Int) - 2).toNat = a - 2 := by omega
     have b4 : ((c : Int) - 2).toNat = c - 2 := by omega
     have b5 : 2 ≤ a := by omega
     have b6 : 2 ≤ c := by omega
     have HPQ : Hid (decide (p = q) = decide (1 < a ∧ 1 < c ∧ L[a - 2]? = M[c - 2]?)) := Lib.hid (by
      rw [decide_eq_decide, hp, hq]; simp; omega)
     clear hp hq
     by_cases hpq : p = q
     ·have hb : ((p : Int) == (q : Int)) = true := by simp; omega
      rw [decide_eq_true hpq] at HPQ
      clear hpq
      go_quiet (fail)
      go_wp2_with fail
      go_meet
      exact ⟨true, rfl, HPQ, (Keep.refl Nb wr).drewN _⟩
     ·have hb : ((p : Int) == (q : Int)) = false := by simp; omega
      rw [decide_eq_false hpq] at HPQ
      clear hpq
      go_quiet (fail)
      go_wp2_with fail
      go_meet
      exact ⟨false, rfl, HPQ, (Keep.refl Nb wr).drewN _⟩
  case rest =>
   obtain ⟨r, rfl, HR2, hkc⟩ := hcut
   obtain ⟨wd, rfl⟩ : ∃ wd : World, wd = wc := ⟨_, rfl⟩
   cases r with
   | true =>
    have hr3 : 1 < a ∧ 1 < c ∧ L[a - 2]? = M[c - 2]? := of_decide_eq_true HR2.out.symm
    have HN : Hid (BInv.Meet L M (a - 1 - 1) (c - 1 - 1) ∧ Keep Nb w3 wd) := Lib.hid (by
     obtain ⟨p, hp⟩ : ∃ p, L[a - 2]? = some p := ⟨_, List.getElem?_eq_getElem (by omega)⟩
     have hm := HR.out.1
     rw [show a - 1 = (a - 2) + 1 by omega, show c - 1 = (c - 2) + 1 by omega] at hm
     have := BInv.meet_down hm hp (by rw [← hr3.2.2]; exact hp)
     exact ⟨by rw [show a - 1 - 1 = a - 2 by omega, show c - 1 - 1 = c - 2 by omega]; exact this, HR.out.2.trans hkc⟩)
    have b5 : 2 ≤ a := by omega
    have b6 : 2 ≤ c := by omega
    have b1 : IntKind.i64.wrap ((a : Int) - 1) = (a : Int) - 1 := IntWalk.i64_in _ (by omega)
    have b2 : IntKind.i64.wrap ((c : Int) - 1) = (c : Int) - 1 := IntWalk.i64_in _ (by omega)
    have b3 : ((a : Int) - 1).toNat = a - 1 := by omega
    have b4 : ((c : Int) - 1).toNat = c - 1 := by omega
    clear hr3 HR2 HR hkc
    go_wp2_with fail
    go_quiet (fail)
    go_wp2_with fail
    go_roundg (a - 1)
    case measure => omega
    case rel => exact ⟨a - 1, c - 1, rfl, rfl, by omega, by omega, Nat.le_refl _, by omega, by omega, Lib.hid ⟨HN.out.1, HN.out.2.drewN _⟩⟩
   | false =>
    obtain ⟨top, htop⟩ : ∃ top, L[a - 1]? = some top := ⟨_, List.getElem?_eq_getElem (by omega)⟩
    have hst : BInv.Top T up x y top ∧ M[c - 1]? = some top := HInv.out.meet_top HLP.out HMP.out HR.out.1 htop (fun p h1 h2 h3 h4 => by
     have := of_decide_eq_false HR2.out.symm
     refine this ⟨by omega, by omega, ?_⟩
     rw [show a - 2 = a - 1 - 1 by omega, show c - 2 = c - 1 - 1 by omega, h3, h4])
    have HTOP := Lib.hid htop
    have HST := Lib.hid hst.1
    have HTM := Lib.hid hst.2
    have hkd := HR.out.2.trans hkc
    have f1 := hkd.cell (HWL.out (a - 1) top htop) (fun e => e)
    have htn := HInv.out.path_lt hx HLP.out top (List.mem_of_getElem? htop)
    have HTN := Lib.hid htn
    have HJC : Hid (Canon n (joins T top (L.take (a - 1) ++ M.take (c - 1)))) := Lib.hid (joins_canon HInv.out.canon htn.1 (fun p hp => by
     rcases List.mem_append.1 hp with hp | hp
     ·exact (HInv.out.path_lt hx HLP.out p (List.mem_of_mem_take hp)).1
     ·exact (HInv.out.path_lt hy HMP.out p (List.mem_of_mem_take hp)).1))
    have H5 := Lib.hid (H3.out.keep hkd (fun _ _ e => e))
    have K5 := Lib.hid (K3.out.trans' hkd (H := fun k => Fw k ∨ Ft k) (fun _ _ h => h) (fun _ _ h => h.elim))
    have SL5 := Lib.hid ((S2'.out.keep hkd (fun _ _ e => e)).tight.mono (G := fun k => w.heap.size ≤ k ∧ k < wd.heap.size) (fun k hk => ⟨hk.1.1, hk.2⟩))
    have SM5 := Lib.hid ((S3.out.keep hkd (fun _ _ e => e)).tight.mono (G := fun k => w.heap.size ≤ k ∧ k < wd.heap.size) (fun k hk => ⟨Nat.le_trans K2.out.size hk.1, hk.2⟩))
    have b1 : IntKind.i64.wrap ((a : Int) - 1) = (a : Int) - 1 := IntWalk.i64_in _ (by omega)
    have b2 : IntKind.i64.wrap ((c : Int) - 1) = (c : Int) - 1 := IntWalk.i64_in _ (by omega)
    have b3 : ((a : Int) - 1).toNat = a - 1 := by omega
    have b4 : ((c : Int) - 1).toNat = c - 1 := by omega
    have hlook := H5.out.look HU.out (show top < 40 by omega)
    have c2' := H5.out.head.cell (i := 2) rfl
    obtain ⟨o, ho⟩ : ∃ o, up top = o := ⟨_, rfl⟩
    rw [ho] at hlook
    have HO := Lib.hid ho
    clear htop hst hkd htn HR HR2 hkc ho
    go_wp2_with fail
    have hR0 : rowTot (fun i => if i = 0 then L.take (a - 1) else M.take (c - 1)) 2 ≤ 1000 := by
     simp only [rowTot]; simp; omega
    have hRc : rowCat (fun i => if i = 0 then L.take (a - 1) else M.take (c - 1)) 2 = L.take (a - 1) ++ M.take (c - 1) := by simp [rowCat]
    have HR0 := Lib.hid hR0
    have HRc := Lib.hid hRc
    have hMM := matr_two (((SL5.out.alloc (.cells #[.int .i64 ((stepD o).1 : Nat), .int .i64 ((stepD o).2 : Nat)] 155)).drew).takeI (m := a - 1) (by omega)) (((SM5.out.alloc (.cells #[.int .i64 ((stepD o).1 : Nat), .int .i64 ((stepD o).2 : Nat)] 155)).drew).takeI (m := c - 1) (by omega))
    have hz : (wd.alloc (.cells #[.int .i64 ((stepD o).1 : Nat), .int .i64 ((stepD o).2 : Nat)] 155)).drew.heap.size = wd.heap.size + 1 := World.size_alloc _ _
    rw [hz] at hMM
    have HMM := Lib.hid hMM
    have HZ := Lib.hid hz
    clear hMM hR0 hRc hz hlook c2'
    have d1 : (1 : Int) ≤ (a : Int) := by omega
    have d2 : (a : Int) - 1 ≤ (c2 : Int) := by omega
    have d3 : (1 : Int) ≤ (c : Int) := by omega
    have d4 : (c : Int) - 1 ≤ (c3 : Int) := by omega
    go_region_held3 (fun w' => True) (first | trivial) ((first | (go_at_call 113; refine (concat_any _ _ _ 2 2 _ _ HMM.out (fun k hk => by have hz := HZ.out; simp only [World.size_alloc]; rw [hz]; rcases hk with hk | hk <;> omega) (by omega) HR0.out).mono ?_; rintro e w6 ⟨o6, c6, rfl, h6, k6⟩; rw [HRc.out] at h6 ⊢; obtain ⟨R, hR⟩ : ∃ R, L.take (a - 1) ++ M.take (c - 1) = R := ⟨_, rfl⟩; rw [hR] at h6 ⊢; have HRR := Lib.hid hR; have H6 := Lib.hid (h6.mono (G := fun k => w.heap.size ≤ k) (fun k hk => by have z := HZ.out; have z5 := K5.out.size; simp only [World.size_alloc] at hk; rw [z] at hk; omega)); have KB := Lib.hid (Keep.trans ((Keep.refl Nb (wd.alloc (.cells #[.int .i64 ((stepD o).1 : Nat), .int .i64 ((stepD o).2 : Nat)] 155))).drew.alloc _) k6); have K6 := Lib.hid (Keep.trans (((Keep.refl Nb wd).alloc (.cells #[.int .i64 ((stepD o).1 : Nat), .int .i64 ((stepD o).2 : Nat)] 155)).drew.alloc _) k6); clear h6 k6 hR)))
    have HRI : Hid (RiRel F w b n ws ts um im Fw Ft (labs (ends es)) T up top R 0 w6) := Lib.hid (RiRel.start (H5.out.keep K6.out (fun _ _ e => e)) HU.out HI.out ((K5.out.mono (fun k _ h => H.out.sub k (h.elim (fun h => .inr (.inr (.inr (.inl h)))) (fun h => .inr (.inr (.inr (.inr h))))))).trans' K6.out (fun _ _ h => h) (fun _ _ h => h.elim)))
    have hRn : R.length ≤ 80 := by rw [← HRR.out, List.length_append, List.length_take, List.length_take]; omega
    clear d1 d2 d3 d4 b1 b2 b3 b4
    go_wp2_with fail
    go_loopg [163] R.length (fun kx s163 wr => ∃ j : Nat, s163 = .int .i64 j ∧ j ≤ R.length ∧ R.length - j ≤ kx ∧ Hid (RiRel F w b n ws ts um im Fw Ft (labs (ends es)) T up top R j wr ∧ Keep F w6 wr))
    case atStart => exact ⟨0, rfl, Nat.zero_le _, by omega, Lib.hid ⟨HRI.out, Keep.refl _ _⟩⟩
    case round =>
     clear HRI
     obtain ⟨j, rfl, hj, hgj, HRJ⟩ := hrel
     by_cases hjl : j < R.length
     ·obtain ⟨p, hp⟩ : ∃ p, R[j]? = some p := ⟨_, List.getElem?_eq_getElem hjl⟩
      obtain ⟨⟨mU', mI', r1, r2, r3, r4⟩, r5⟩ := HRJ.out
      have hring := (HInv.out.ring_iff HLP.out HMP.out HTOP.out HTM.out (p := p)).2 (by rw [HRR.out]; exact List.mem_of_getElem? hp)
      have hnd : R.Nodup := by rw [← HRR.out]; exact HInv.out.ring_nodup HLP.out HMP.out HTOP.out HTM.out HST.out
      obtain ⟨s, hs⟩ : ∃ s, up p = some s := by
       cases hup : up p with
       | none => exact absurd (hring.1.2.of_none hup).symm hring.2
       | some s => exact ⟨s, rfl⟩
      have hnot : p ∉ R.take j := fun hm => by
       obtain ⟨j', hj', hpj⟩ := mem_take_get hm
       have a1 := List.getElem?_eq_some_iff.1 hpj
       have a2 := List.getElem?_eq_some_iff.1 hp
       have := (List.getElem_inj hnd).1 (a1.2.trans a2.2.symm)
       omega
      have hrp : rids up (R.take j) p = some s := by unfold rids; rw [if_neg hnot]; exact hs
      have hpn : p < n := (HInv.out.key p s hs).1
      have hs1 : DN s.1 := by
       obtain ⟨e, he, hei, _⟩ := HInv.out.edge p s hs
       have := HSM.out e he
       unfold DN; omega
      have hlook := r1.drew.look1 r2 (show p < 40 by omega)
      rw [hrp] at hlook
      simp only [stepD, Option.getD_some] at hlook
      obtain ⟨w7, q1, q2, q3⟩ := r1.drew.mi.del (encN_enc Tryz.underlying3) Tryz.underlying149 hs1 0
      simp only [encN] at q1
      have h7 := r1.drew.setI q2 q3
      obtain ⟨w8, q4, q5, q6⟩ := h7.mu.del (encN_enc Tryz.underlying3) Tryz.underlying148 (a := p) (nat40 (by omega)) 0
      simp only [encN] at q4
      have h8 := h7.setU q5 q6
      have y1 := r1.head.cell (i := 3) rfl
      have y2 := r1.head.cell (i := 2) rfl
      have y3 := h7.head.cell (i := 2) rfl
      have y4 := h8.head.cell (i := 1) rfl
      obtain ⟨gR, rfl, hgR, hcR, hwR⟩ := way_cell H6.out (by omega)
      have y5 := r5.cell (hwR j p hp) (fun e => by
       have h1 := HF.out _ e
       have h2 := World.block_lt_of_cell? w6 _ (hwR j p hp)
       simp only at h1
       omega)
      have HP := Lib.hid hp
      have HS := Lib.hid hs
      have R2 := Lib.hid r2
      have R3 := Lib.hid r3
      have H8 := Lib.hid h8
      have Q4 := Lib.hid q4
      have K8 := Lib.hid (((r4.drew.trans' q3 (H := F) (fun _ _ h => h) (fun k _ h => H.out.sub k (.inr (.inr (.inl h))))).trans' q6 (H := F) (fun _ _ h => h) (fun k _ h => H.out.sub k (.inr (.inl h)))))
      have K9 := Lib.hid (((r5.drew.trans' q3 (H := F) (fun _ _ h => h) (fun k _ h => H.out.sub k (.inr (.inr (.inl h))))).trans' q6 (H := F) (fun _ _ h => h) (fun k _ h => H.out.sub k (.inr (.inl h)))))
      clear r1 r2 r3 r4 r5 hring hnd hnot hrp hs1 q2 q3 q4 q5 q6 h7 h8 hwR hp hs HRJ
      have hfield := run_step_field (s.1 : Nat) (s.2 : Nat) wr.drew
      go_wp2_with fail
      go_region
      go_wp2_with ((refine wpList_mapdel rfl _ _ _ _ rfl rfl rfl Q4.out ?_))
      refine (join_any Ft _ ts n _ p top hpn HTN.out.1 H8.out.st).mono ?_
      rintro e w9 ⟨rfl, s9, k9⟩
      have HN : Hid (RiRel F w b n ws ts um im Fw Ft (labs (ends es)) T up top R (j + 1) w9 ∧ Keep F w6 w9) := Lib.hid
       ⟨RiRel.next HP.out HS.out (fun q s' h1 h2 => HInv.out.uniq q p s' s h1 HS.out h2) R2.out R3.out (H8.out.setT s9 k9) (K8.out.trans' k9 (fun _ _ h => h) (fun k _ h => H.out.sub k (.inr (.inr (.inr (.inr h)))))), K9.out.trans' k9 (fun _ _ h => h) (fun k _ h => H.out.sub k (.inr (.inr (.inr (.inr h)))))⟩
      clear s9 k9
      go_wp2_with fail
      go_roundg (R.length - (j + 1))
      case measure => omega
      case rel => exact ⟨j + 1, rfl, by omega, Nat.le_refl _, HN⟩
     ·obtain rfl : j = R.length := by omega
      obtain ⟨⟨mU', mI', r1, r2, r3, r4⟩, r5⟩ := HRJ.out
      rw [List.take_length] at r1 r2 r3
      have hn' := ring_name hx hy HInv.out HLP.out HMP.out HTOP.out HTM.out HST.out HRR.out
      have HNM := Lib.hid hn'
      have y2 := r1.head.cell (i := 2) rfl
      obtain ⟨w8, q4, q5, q6⟩ := r1.mu.del (encN_enc Tryz.underlying3) Tryz.underlying148 (a := top) (nat40 (by have := HTN.out.1; omega)) 0
      simp only [encN] at q4
      have h8 := r1.setU q5 q6
      have hU8 := r2.del top
      rw [rids_top] at hU8
      have hk8 := r4.trans' q6 (H := F) (fun _ _ h => h) (fun k _ h => H.out.sub k (.inr (.inl h)))
      have hk68 := r5.trans' q6 (H := F) (fun _ _ h => h) (fun k _ h => H.out.sub k (.inr (.inl h)))
      have Q4 := Lib.hid q4
      have H8 := Lib.hid h8
      have HU8 := Lib.hid hU8
      have HK8 := Lib.hid hk8
      have HK68 := Lib.hid hk68
      have R3 := Lib.hid r3
      clear r1 r2 r3 r4 r5 hn' q4 q5 q6 h8 hU8 hk8 hk68 HRJ
      cases o with
      | none =>
       have HP : Hid (BAddPost F w b n es id x y (.returned (.tuple #[.bool false, .nilIface])) w8) := Lib.hid (ring_fin hx hy HID.out hid2 HSM.out HC.out HInv.out HLP.out HMP.out HTOP.out HTM.out HST.out HRR.out (by rw [HO.out, rids_none HNM.out]; exact HU8.out) R3.out H8.out HK8.out)
       go_wp2_with ((refine wpList_mapdel rfl _ _ _ _ rfl rfl rfl Q4.out ?_))
       go_ret2
       exact HP.out
      | some s =>
       have hbox : Row w8 wd.heap.size 155 [.int .i64 (s.1 : Nat), .int .i64 (s.2 : Nat)] := by
        have h1 : Row (wd.alloc (.cells #[.int .i64 (s.1 : Nat), .int .i64 (s.2 : Nat)] 155)) wd.heap.size 155 [.int .i64 (s.1 : Nat), .int .i64 (s.2 : Nat)] := Row.new wd #[.int .i64 (s.1 : Nat), .int .i64 (s.2 : Nat)] 155
        exact (h1.keep KB.out (fun e => e)).keep HK68.out (fun e => by have := HF.out _ e; have := K5.out.size; omega)
       have z1 := hbox.cell (i := 0) rfl
       have z2 := hbox.cell (i := 1) rfl
       have z3 := H8.out.head.cell (i := 2) rfl
       have HBX := Lib.hid hbox
       clear hbox
       go_wp2_with ((refine wpList_mapdel rfl _ _ _ _ rfl rfl rfl Q4.out ?_))
       go_region_held3 (fun w' => w'.cell? ⟨b, 2, none⟩ = some (.map (some um)) ∧ w'.cell? ⟨wd.heap.size, 0, none⟩ = some (.int .i64 (s.1 : Nat)) ∧ w'.cell? ⟨wd.heap.size, 1, none⟩ = some (.int .i64 (s.2 : Nat))) (go_keep) ((first | (go_at_call 110; refine (part_any F _ b n ws ts um im Fw Ft _ _ _ mI' top HTN.out.1 H8.out.drew).mono ?_; rintro e w9 ⟨rfl, h9, k9⟩; have c9 := h9.head.cell (i := 2) rfl; have hb9 := (HBX.out.drew).keep k9 (fun e => by have h1 := HF.out _ (H8.out.sub _ (.inr (.inr (.inr (.inr e))))); have := K5.out.size; omega); have b91 := hb9.cell (i := 0) rfl; have b92 := hb9.cell (i := 1) rfl; obtain ⟨wA, t1, t2, t3⟩ := h9.mu.store (encN_enc Tryz.underlying3) Tryz.underlying148 (a := joins T top R top) (nat40 (by have h1 := HTN.out.1; have h2 := HJC.out; rw [HRR.out] at h2; have h3 := h2.lt h1; omega)) (stepV s); simp only [encN, stepV] at t1; have HA9 := Lib.hid (h9.setU t2 t3); have KA := Lib.hid ((HK8.out.drew.trans' k9 (H := F) (fun _ _ h => h) (fun k _ h => H.out.sub k (.inr (.inr (.inr (.inr h)))))).trans' t3 (H := F) (fun _ _ h => h) (fun k _ h => H.out.sub k (.inr (.inl h)))); have cA := HA9.out.head.cell (i := 2) rfl; have hbA := hb9.keep t3 (fun e => by have h1 := HF.out _ (H8.out.sub _ (.inr (.inl rfl))); have := K5.out.size; omega); have bA1 := hbA.cell (i := 0) rfl; have bA2 := hbA.cell (i := 1) rfl; clear h9 k9 t2 t3 hb9 hbA)))
       have HP : Hid (BAddPost F w b n es id x y (.returned (.tuple #[.bool false, .nilIface])) wA) := Lib.hid (ring_fin hx hy HID.out hid2 HSM.out HC.out HInv.out HLP.out HMP.out HTOP.out HTM.out HST.out HRR.out (by rw [HO.out]; exact HU8.out.set _ s) R3.out HA9.out KA.out)
       go_wp2_with fail
       go_ret2
       exact HP.out
end Go.Proofs.YtfglkgkihafcpaaGreatDoor
namespace Go.Proofs.YtfglkgkihafcpaaGreatDoor
open Go.RowKit Pl Go.Maps
theorem badd_any (F : Nat → Prop) (w : World) (b n : Nat) (es : List E) (id x y : Nat) (hx : x < n) (hy : y < n) (hxy : x ≠ y) (hid : ∀ f, f ∈ es → f.id ≠ id) (hid2 : id < 4611686018427387904)
  (hB : Brs F w b n es) (hF : ∀ k, F k → k < w.heap.size) :
  Calls Tryz.prog 79 #[.pointer (some ⟨b, 0, none⟩), .int .i64 id, .int .i64 x, .int .i64 y] w (BAddPost F w b n es id x y) := by
 by_cases hc : Conn (ends es) x y
 ·exact badd_ring F w b n es id x y hx hy hxy hid hid2 hB hF hc
 ·exact badd_new F w b n es id x y hx hy hxy hid hid2 hB hF hc
theorem Brs.mono {F G : Nat → Prop} {w : World} {b n : Nat} {es : List E} (h : Brs F w b n es) (hG : ∀ k, F k → G k) : Brs G w b n es := by
 obtain ⟨ws, ts, um, im, Fw, Ft, T, mU, mI, up, h1, h2⟩ := h
 exact ⟨ws, ts, um, im, Fw, Ft, T, mU, mI, up, h1.mono hG, h2⟩
theorem Brs.keep {F G : Nat → Prop} {w w' : World} {b n : Nat} {es : List E} (h : Brs F w b n es) (k : Keep G w w') (d : ∀ k, F k → ¬ G k) : Brs F w' b n es := by
 obtain ⟨ws, ts, um, im, Fw, Ft, T, mU, mI, up, h1, h2⟩ := h
 exact ⟨ws, ts, um, im, Fw, Ft, T, mU, mI, up, h1.keep k d, h2⟩
def BNewPost (w : World) (n : Nat) (e : Ending) (w' : World) : Prop :=
 ∃ b, e = .returned (.tuple #[.pointer (some ⟨b, 0, none⟩), .nilIface]) ∧ Brs (fun k => w.heap.size ≤ k ∧ k < w'.heap.size) w' b n [] ∧ Keep Nb w w'
theorem Sets.tight' {F : Nat → Prop} {w : World} {b n : Nat} {L : Nat → Nat} (h : Sets F w b n L) : Sets (fun k => F k ∧ k < w.heap.size) w b n L := by
 obtain ⟨up, size, low, many, ou, os, ol, cu, cs, cl, hM, hI, hn⟩ := h
 exact ⟨up, size, low, many, ou, os, ol, cu, cs, cl, hM.tight, hI, hn⟩
theorem Sets.monoF {F G : Nat → Prop} {w : World} {b n : Nat} {L : Nat → Nat} (h : Sets F w b n L) (hG : ∀ k, F k → G k) : Sets G w b n L := by
 obtain ⟨up, size, low, many, ou, os, ol, cu, cs, cl, hM, hI, hn⟩ := h
 exact ⟨up, size, low, many, ou, os, ol, cu, cs, cl, hM.mono hG, hI, hn⟩
set_option maxRecDepth 100000 in
theorem bnew_any (n : Nat) (hn : n ≤ 40) (w : World) : Calls Tryz.prog 76 #[.int .i64 n] w (BNewPost w n) := by
 have hmm := @run_makeMap Tryz.prog
 go_enter Tryz.func76, Tryz.ntmps76
 go_wp2_with fail
 refine (new_any n hn _).mono ?_
 rintro e w1 ⟨s1, rfl, h1, k1⟩
 have H1 := Lib.hid h1
 have K1 := Lib.hid k1
 clear h1 k1
 go_wp2_with fail
 refine (new_any n hn _).mono ?_
 rintro e w2 ⟨s2, rfl, h2, k2⟩
 have H2 := Lib.hid h2
 have K2 := Lib.hid k2
 clear h2 k2
 have HP : Hid (BNewPost w n (.returned (.tuple #[.pointer (some ⟨w2.heap.size + 1 + 1, 0, none⟩), .nilIface])) (((w2.alloc (.map #[] 0)).alloc (.map #[] 0)).alloc (.cells #[.pointer (some ⟨s1, 0, none⟩), .pointer (some ⟨s2, 0, none⟩), .map (some w2.heap.size), .map (some (w2.heap.size + 1))] 151))) := Lib.hid (by
  have z1 := K1.out.size
  have z2 := K2.out.size
  have m1 : MapAt encN DN ((w2.alloc (.map #[] 0)).alloc (.map #[] 0)) w2.heap.size [] := (MapAt.made encN DN w2).alloc _
  have m2 : MapAt encN DN ((w2.alloc (.map #[] 0)).alloc (.map #[] 0)) (w2.heap.size + 1) [] := by
   have := MapAt.made encN DN (w2.alloc (.map #[] 0))
   rwa [World.size_alloc] at this
  have hrow := Row.new ((w2.alloc (.map #[] 0)).alloc (.map #[] 0)) #[.pointer (some ⟨s1, 0, none⟩), .pointer (some ⟨s2, 0, none⟩), .map (some w2.heap.size), .map (some (w2.heap.size + 1))] 151
  rw [World.size_alloc, World.size_alloc] at hrow
  have kk : Keep Nb w2 (((w2.alloc (.map #[] 0)).alloc (.map #[] 0)).alloc (.cells #[.pointer (some ⟨s1, 0, none⟩), .pointer (some ⟨s2, 0, none⟩), .map (some w2.heap.size), .map (some (w2.heap.size + 1))] 151)) := (((Keep.refl Nb w2).alloc _).alloc _).alloc _
  refine ⟨_, rfl, ⟨s1, s2, w2.heap.size, w2.heap.size + 1, (fun k => w.heap.size ≤ k ∧ k < w1.heap.size), (fun k => w1.heap.size ≤ k ∧ k < w2.heap.size), (fun x => x), [], [], (fun _ => none), ⟨hrow, ?_, ?_, m1.alloc _, m2.alloc _, ?_, ?_, ?_, ?_, ?_⟩, ?_, ?_, BInv.empty n, ?_⟩, (K1.out.trans K2.out).trans kk⟩
  ·exact ((((H1.out.monoF (G := fun k => w.heap.size ≤ k) (fun k hk => by first | exact hk | exact hk.1)).tight').keepG K2.out (fun _ _ e => e)).keepG kk (fun _ _ e => e))
  ·exact ((H2.out.monoF (G := fun k => w1.heap.size ≤ k) (fun k hk => by first | exact hk | exact hk.1)).tight').keepG kk (fun _ _ e => e)
  ·exact ⟨by omega, by omega, by omega, by omega⟩
  ·exact ⟨by omega, by omega, by omega⟩
  ·exact ⟨by omega, by omega⟩
  ·intro k h1 h2; omega
  ·intro k hk
   simp only [World.size_alloc]
   rcases hk with rfl | rfl | rfl | hk | hk <;> omega
  ·intro p; simp [mget_nil]
  ·exact ⟨fun id => by simp [mget_nil, Ids], fun q hq => by cases hq⟩
  ·intro e he; cases he)
 go_wp2_with fail
 go_ret2
 exact HP.out
structure EOk (n : Nat) (es : List E) : Prop where
 over : ∀ e, e ∈ es → e.a < n ∧ e.b < n
 ne : ∀ e, e ∈ es → e.a ≠ e.b
 small : ∀ e, e ∈ es → e.id < 4611686018427387904
 sorted : Sorted es
def BOfPost (w : World) (n : Nat) (es : List E) (e : Ending) (w' : World) : Prop :=
 ∃ b, e = .returned (.pointer (some ⟨b, 0, none⟩)) ∧ Brs (fun k => w.heap.size ≤ k ∧ k < w'.heap.size) w' b n es ∧ Keep Nb w w'
def BWholePost (F : Nat → Prop) (w : World) (b n : Nat) (es : List E) (r : Bool) (e : Ending) (w' : World) : Prop :=
 e = .returned (.tuple #[.bool r, .nilIface]) ∧ Brs F w' b n es ∧ Keep F w w'
set_option maxRecDepth 100000 in
theorem bwhole_any (F : Nat → Prop) (w : World) (b n : Nat) (es : List E) (x y : Nat) (hx : x < n) (hy : y < n) (hB : Brs F w b n es) :
  Calls Tryz.prog 148 #[.pointer (some ⟨b, 0, none⟩), .int .i64 x, .int .i64 y] w (BWholePost F w b n es (decide (Conn (ends es) x y))) := by
 obtain ⟨ws, ts, um, im, Fw, Ft, T, mU, mI, up, h, hr⟩ := hB
 have c0 := h.head.cell (i := 0) rfl
 have H := Lib.hid h
 have HR := Lib.hid hr
 clear h hr
 go_enter Tryz.func148, Tryz.ntmps148
 go_wp2_with fail
 refine (same_any Fw _ ws n _ x y hx hy H.out.sw).mono ?_
 rintro e w1 ⟨rfl, s1, k1⟩
 have HP : Hid (BWholePost F w b n es (decide (Conn (ends es) x y)) (.returned (.tuple #[.bool (decide (labs (ends es) x = labs (ends es) y)), .nilIface])) w1) := Lib.hid
  ⟨rfl, ⟨ws, ts, um, im, Fw, Ft, T, mU, mI, up, H.out.setW s1 k1, HR.out⟩, k1.mono (fun k _ hk => H.out.sub k (.inr (.inr (.inr (.inl hk)))))⟩
 obtain ⟨r, hr⟩ : ∃ r, decide (labs (ends es) x = labs (ends es) y) = r := ⟨_, rfl⟩
 rw [hr] at HP ⊢
 clear s1 k1 hr
 go_wp2_with fail
 go_ret2
 exact HP.out
set_option maxRecDepth 100000 in
theorem btwice_any (F : Nat → Prop) (w : World) (b n : Nat) (es : List E) (x y : Nat) (hx : x < n) (hy : y < n) (hB : Brs F w b n es) :
  Calls Tryz.prog 145 #[.pointer (some ⟨b, 0, none⟩), .int .i64 x, .int .i64 y] w fun e w' => ∃ r : Bool, (r = true ↔ Conn (ends es) x y ∧ ∀ e, e ∈ es → Conn (ends (sans es [e.id])) x y) ∧ BWholePost F w b n es r e w' := by
 obtain ⟨ws, ts, um, im, Fw, Ft, T, mU, mI, up, h, hr⟩ := hB
 have c0 := h.head.cell (i := 1) rfl
 have H := Lib.hid h
 have HR := Lib.hid hr
 clear h hr
 go_enter Tryz.func145, Tryz.ntmps145
 go_wp2_with fail
 refine (same_any Ft _ ts n _ x y hx hy H.out.st).mono ?_
 rintro e w1 ⟨rfl, s1, k1⟩
 have HP : Hid (∃ r : Bool, (r = true ↔ Conn (ends es) x y ∧ ∀ e, e ∈ es → Conn (ends (sans es [e.id])) x y) ∧ BWholePost F w b n es r (.returned (.tuple #[.bool (decide (T x = T y)), .nilIface])) w1) := Lib.hid
  ⟨_, by rw [decide_eq_true_eq]; exact HR.out.2.2.1.twice_iff hx hy, rfl, ⟨ws, ts, um, im, Fw, Ft, T, mU, mI, up, H.out.setT s1 k1, HR.out⟩, k1.mono (fun k _ hk => H.out.sub k (.inr (.inr (.inr (.inr hk)))))⟩
 obtain ⟨r, hr⟩ : ∃ r, decide (T x = T y) = r := ⟨_, rfl⟩
 rw [hr] at HP ⊢
 clear s1 k1 hr
 go_wp2_with fail
 go_ret2
 exact HP.out
end Go.Proofs.YtfglkgkihafcpaaGreatDoor

