/- Part 6 of the proof: A4. -/
import Derived.Test.YtfglkgkihafcpaaGreatDoorDp01
import Derived.Test.YtfglkgkihafcpaaGreatDoorDp04
import Derived.Test.YtfglkgkihafcpaaGreatDoorProg
import Derived.Deep.LoopGhost
import Derived.WalkArith
import Derived.Shelf.Spec.SlicesInsert
import Derived.Lib.AppendZerosOnto
set_option linter.unusedVariables false
set_option linter.unusedSimpArgs false
namespace Go.Proofs.YtfglkgkihafcpaaGreatDoor
open Go.RowKit Pl
def ecells (e : E) : List Value := [.int .i64 e.id, .int .i64 e.a, .int .i64 e.b]
def ecs (es : List E) : List Value := es.flatMap ecells
theorem ecs_nil : ecs [] = [] := rfl
theorem ecs_cons (e : E) (es : List E) : ecs (e :: es) = ecells e ++ ecs es := rfl
theorem ecs_append (es fs : List E) : ecs (es ++ fs) = ecs es ++ ecs fs := by simp [ecs]
theorem ecs_length (es : List E) : (ecs es).length = es.length * 3 := by
 induction es with
 | nil => rfl
 | cons e es ih => rw [ecs_cons, List.length_append, ih]; simp [ecells]; omega
theorem ecs_get {es : List E} {i : Nat} {e : E} (h : es[i]? = some e) : (ecs es)[i * 3]? = some (.int .i64 e.id) ∧ (ecs es)[i * 3 + 1]? = some (.int .i64 e.a) ∧ (ecs es)[i * 3 + 2]? = some (.int .i64 e.b) := by
 induction es generalizing i with
 | nil => simp at h
 | cons f es ih =>
  cases i with
  | zero => simp at h; subst h; simp [ecs_cons, ecells]
  | succ i =>
   simp at h
   obtain ⟨h1, h2, h3⟩ := ih h
   rw [ecs_cons]
   have e0 : (i + 1) * 3 = i * 3 + 3 := by omega
   rw [e0]
   refine ⟨?_, ?_, ?_⟩
   ·rw [List.getElem?_append_right (by simp [ecells])]; simpa [ecells] using h1
   ·rw [List.getElem?_append_right (by simp [ecells])]; simpa [ecells] using h2
   ·rw [List.getElem?_append_right (by simp [ecells])]; simpa [ecells] using h3
theorem ecs_one (es : List E) : ∀ u ∈ ecs es, u.oneCell' = true := by
 intro u hu
 obtain ⟨e, _, he⟩ := List.mem_flatMap.1 hu
 simp [ecells] at he
 rcases he with rfl | rfl | rfl <;> rfl
structure ERow (w : World) (g : Nat) (es : List E) : Prop where
 id : ∀ i e, es[i]? = some e → w.cell? ⟨g, i * 3, none⟩ = some (.int .i64 e.id)
 a : ∀ i e, es[i]? = some e → w.cell? ⟨g, i * 3 + 1, none⟩ = some (.int .i64 e.a)
 b : ∀ i e, es[i]? = some e → w.cell? ⟨g, i * 3 + 2, none⟩ = some (.int .i64 e.b)
theorem Row.edges {w : World} {g : Nat} {T : TypeId} {es : List E} (h : Row w g T (ecs es)) : ERow w g es :=
 ⟨fun _ _ he => h.cell (ecs_get he).1, fun _ _ he => h.cell (ecs_get he).2.1, fun _ _ he => h.cell (ecs_get he).2.2⟩
theorem ERow.keep {F : Nat → Prop} {w w' : World} {g : Nat} {es : List E} (h : ERow w g es) (k : Keep F w w') (hg : ¬ F g) : ERow w' g es :=
 ⟨fun i e he => k.cell (h.id i e he) hg, fun i e he => k.cell (h.a i e he) hg, fun i e he => k.cell (h.b i e he) hg⟩
def cmpId (i : Nat) (t : Int) : Int := if (i : Int) < t then -1 else if t < (i : Int) then 1 else 0
theorem find1_any (id a b : Nat) (t : Int) (w : World) : Calls Tryz.prog 194 #[.agg #[.int .i64 id, .int .i64 a, .int .i64 b], .int .i64 t] w fun e w' => e = .returned (.int .i64 (cmpId id t)) ∧ Keep Nb w w' := by
 by_cases h1 : (id : Int) < t
 ·have hc : cmpId id t = -1 := by unfold cmpId; rw [if_pos h1]
  have HC := Lib.hid hc
  clear hc
  go_enter Tryz.func194, Tryz.ntmps194
  go_wp2
  go_ret
  exact ⟨by rw [HC.out]; rfl, (Keep.refl Nb w).alloc _⟩
 ·by_cases h2 : t < (id : Int)
  ·have hc : cmpId id t = 1 := by unfold cmpId; rw [if_neg h1, if_pos h2]
   have HC := Lib.hid hc
   clear hc
   go_enter Tryz.func194, Tryz.ntmps194
   go_wp2
   go_ret
   exact ⟨by rw [HC.out]; rfl, (Keep.refl Nb w).alloc _⟩
  ·have hc : cmpId id t = 0 := by unfold cmpId; rw [if_neg h1, if_neg h2]
   have HC := Lib.hid hc
   clear hc
   go_enter Tryz.func194, Tryz.ntmps194
   go_wp2
   go_ret
   exact ⟨by rw [HC.out]; rfl, (Keep.refl Nb w).alloc _⟩
end Go.Proofs.YtfglkgkihafcpaaGreatDoor
namespace Go.Proofs.YtfglkgkihafcpaaGreatDoor
open Go.RowKit Pl
def BRel (w : World) (es : List E) (t : Int) (lo hi : Nat) (wr : World) : Prop :=
 Keep Nb w wr ∧ (∀ k e, k < lo → es[k]? = some e → (e.id : Int) < t) ∧ (∀ k e, hi ≤ k → es[k]? = some e → t ≤ (e.id : Int))
theorem BRel.up {w : World} {es : List E} {t : Int} {lo hi m : Nat} {wr w2 : World} {e : E} (h : BRel w es t lo hi wr) (hs : Sorted es) (he : es[m]? = some e) (hl : (e.id : Int) < t) (k : Keep Nb wr w2) : BRel w es t (m + 1) hi w2 := by
 refine ⟨h.1.trans k, fun j f hj hf => ?_, h.2.2⟩
 by_cases hjm : j = m
 ·subst hjm; rw [he] at hf; cases hf; exact hl
 ·have := hs.lt hf he (by omega); omega
theorem BRel.down {w : World} {es : List E} {t : Int} {lo hi m : Nat} {wr w2 : World} {e : E} (h : BRel w es t lo hi wr) (hs : Sorted es) (he : es[m]? = some e) (hl : ¬ (e.id : Int) < t) (k : Keep Nb wr w2) : BRel w es t lo m w2 := by
 refine ⟨h.1.trans k, h.2.1, fun j f hj hf => ?_⟩
 by_cases hjm : j = m
 ·subst hjm; rw [he] at hf; cases hf; omega
 ·have := hs.lt he hf (by omega); omega
def BPost (w : World) (es : List E) (t : Int) (e : Ending) (w' : World) : Prop :=
 e = .returned (.tuple #[.int .i64 (posOf es t : Nat), .bool (hasId es t)]) ∧ Keep Nb w w'
theorem cmp_neg (i : Nat) (t : Int) : cmpId i t < 0 ↔ (i : Int) < t := by
 unfold cmpId; split
 ·simp; assumption
 ·split
  ·simp; omega
  ·simp; omega
theorem cmp_zero (i : Nat) (t : Int) : cmpId i t = 0 ↔ (i : Int) = t := by
 unfold cmpId; split
 ·simp; omega
 ·split
  ·simp; omega
  ·simp; omega
set_option maxRecDepth 100000 in
set_option maxHeartbeats 1000000 in
theorem bsf_any (F : Nat → Prop) (w : World) (o : Option Addr) (n c : Nat) (es : List E) (t : Int) (hS : Sl F w 125 3 o n c (ecs es)) (hs : Sorted es) (hn : n ≤ 1000) :
  Calls Tryz.prog 193 #[.slice o n c, .int .i64 t, .func (.func 194) #[] #[]] w (BPost w es t) := by
 have hlen : n = es.length := by have := hS.len; rw [ecs_length] at this; omega
 have HS := Lib.hid hS
 have HO := Lib.hid hs
 have HP : Hid (∀ i wr, i ≤ n → BRel w es t i i wr → (match es[i]? with | some e => decide ((e.id : Int) = t) | none => false) = hasId es t ∧ posOf es t = i ∧ Keep Nb w wr) :=
  Lib.hid (fun i wr hi h => ⟨(hasId_at hs h.2.1 h.2.2).symm, posOf_eq (by omega) h.2.1 h.2.2, h.1⟩)
 have HB0 : Hid (BRel w es t 0 n w) := Lib.hid ⟨Keep.refl Nb w, fun _ _ h => by omega, fun k e hk he => by have := (List.getElem?_eq_some_iff.1 he).1; omega⟩
 have HLen := Lib.hid hlen
 clear hS hs hlen
 go_enter Tryz.func193, Tryz.ntmps193
 go_wp2
 go_loopg [9, 10] n (fun kx s9 s10 wr => ∃ lo hi : Nat, s9 = .int .i64 lo ∧ s10 = .int .i64 hi ∧ lo ≤ hi ∧ hi ≤ n ∧ hi - lo ≤ kx ∧ Hid (BRel w es t lo hi wr))
 case atStart => exact ⟨0, n, rfl, rfl, Nat.zero_le _, Nat.le_refl _, by omega, HB0⟩
 case round =>
  clear HB0
  obtain ⟨lo, hi, rfl, rfl, hlh, hin, hg, HB⟩ := hrel
  by_cases hlt : lo < hi
  ·obtain ⟨g, ho, _, hnc, hrow⟩ := HS.out.pos (by omega)
   subst ho
   have hm : (lo + hi) / 2 < es.length := by have := HLen.out; omega
   have he := List.getElem?_eq_getElem hm
   generalize es[(lo + hi) / 2]'hm = e at he
   have hE := (hrow.edges.keep HB.out.1 id)
   have c1 := hE.id _ _ he
   have c2 := hE.a _ _ he
   have c3 := hE.b _ _ he
   have HE := Lib.hid he
   clear hE he hrow
   have HX := Lib.hid (show ((lo : Int) + (hi : Int)) / 2 = (((lo + hi) / 2 : Nat) : Int) by omega)
   by_cases hlt2 : (e.id : Int) < t
   ·have hc : cmpId e.id t < 0 := (cmp_neg _ _).2 hlt2
    have HL := Lib.hid hlt2
    clear hlt2
    go_wp2_with (refine (find1_any e.id e.a e.b t _).mono ?_; rintro e1 w1 ⟨rfl, hk1⟩; have HK := Lib.hid hk1; clear hk1)
    go_roundg (hi - ((lo + hi) / 2 + 1))
    case measure => omega
    case rel => exact ⟨(lo + hi) / 2 + 1, hi, by rw [HX.out]; rfl, rfl, by omega, hin, Nat.le_refl _, Lib.hid (HB.out.up HO.out HE.out HL.out HK.out)⟩
   ·have hc : ¬ cmpId e.id t < 0 := fun h => hlt2 ((cmp_neg _ _).1 h)
    have HL := Lib.hid hlt2
    clear hlt2
    go_wp2_with (refine (find1_any e.id e.a e.b t _).mono ?_; rintro e1 w1 ⟨rfl, hk1⟩; have HK := Lib.hid hk1; clear hk1)
    go_roundg ((lo + hi) / 2 - lo)
    case measure => omega
    case rel => exact ⟨lo, (lo + hi) / 2, rfl, by rw [HX.out], by omega, by omega, Nat.le_refl _, Lib.hid (HB.out.down HO.out HE.out (Int.not_lt.2 HL.out) HK.out)⟩
  ·have e0 : lo = hi := by omega
   subst e0
   obtain ⟨hh, hp, hk⟩ := HP.out _ _ hin HB.out
   by_cases hlt3 : lo < n
   ·obtain ⟨g, ho, _, hnc, hrow⟩ := HS.out.pos (by omega)
    subst ho
    have hm : lo < es.length := by have := HLen.out; omega
    have he := List.getElem?_eq_getElem hm
    generalize es[lo]'hm = e at he
    rw [he] at hh
    simp only at hh
    have hE := (hrow.edges.keep HB.out.1 id)
    have c1 := hE.id _ _ he
    have c2 := hE.a _ _ he
    have c3 := hE.b _ _ he
    have hz : (cmpId e.id t = 0) = ((e.id : Int) = t) := propext (cmp_zero _ _)
    have HH := Lib.hid hh
    have HPo := Lib.hid hp
    have HK := Lib.hid hk
    have HZ := Lib.hid hz
    clear hE he hrow hh hp hk hz
    go_wp2_with (refine (find1_any e.id e.a e.b t _).mono ?_; rintro e1 w1 ⟨rfl, hk1⟩; have HK1 := Lib.hid hk1; clear hk1)
    go_ret2
    exact ⟨by rw [HPo.out, ← HH.out]; simp; rw [Bool.eq_iff_iff, beq_iff_eq, decide_eq_true_iff, HZ.out], HK.out.trans HK1.out⟩
   ·have hn0 : es[lo]? = none := by have := HLen.out; simp; omega
    rw [hn0] at hh
    have HH := Lib.hid hh
    have HPo := Lib.hid hp
    have HK := Lib.hid hk
    clear hh hp hk hn0
    go_wp2
    go_ret2
    exact ⟨by rw [HPo.out, ← HH.out]; rfl, HK.out⟩
end Go.Proofs.YtfglkgkihafcpaaGreatDoor
namespace Go.Proofs.YtfglkgkihafcpaaGreatDoor
open Go.RowKit Pl
structure GrMem (F : Nat → Prop) (w : World) (b n : Nat) (es : List E) (o : Option Addr) (c : Nat) : Prop where
 head : Row w b 119 [.int .i64 n, .slice o es.length c]
 hb : F b
 s : Sl F w 125 3 o es.length c (ecs es)
 d : ∀ a, o = some a → a.block ≠ b
namespace GrMem
variable {F : Nat → Prop} {w : World} {b n : Nat} {es : List E} {o : Option Addr} {c : Nat}
theorem keep {G : Nat → Prop} {w' : World} (h : GrMem F w b n es o c) (k : Keep G w w') (d : ∀ k, F k → ¬ G k) : GrMem F w' b n es o c := ⟨h.head.keep k (d b h.hb), h.hb, h.s.keep k d, h.d⟩
theorem drew (h : GrMem F w b n es o c) : GrMem F w.drew b n es o c := ⟨h.head.drew, h.hb, h.s.drew, h.d⟩
theorem alloc (h : GrMem F w b n es o c) (ob : Obj) : GrMem F (w.alloc ob) b n es o c := ⟨h.head.alloc ob, h.hb, h.s.alloc ob, h.d⟩
theorem mono {G : Nat → Prop} (h : GrMem F w b n es o c) (hG : ∀ k, F k → G k) : GrMem G w b n es o c := ⟨h.head, hG _ h.hb, h.s.mono hG, h.d⟩
theorem tight (h : GrMem F w b n es o c) : GrMem (fun k => F k ∧ k < w.heap.size) w b n es o c := ⟨h.head, ⟨h.hb, h.head.lt⟩, h.s.tight, h.d⟩
end GrMem
def Gr (F : Nat → Prop) (w : World) (b n : Nat) (es : List E) : Prop := ∃ o c, GrMem F w b n es o c
theorem Gr.keep {F G : Nat → Prop} {w w' : World} {b n : Nat} {es : List E} (h : Gr F w b n es) (k : Keep G w w') (d : ∀ k, F k → ¬ G k) : Gr F w' b n es := by
 obtain ⟨o, c, h⟩ := h; exact ⟨o, c, h.keep k d⟩
theorem Gr.drew {F : Nat → Prop} {w : World} {b n : Nat} {es : List E} (h : Gr F w b n es) : Gr F w.drew b n es := by
 obtain ⟨o, c, h⟩ := h; exact ⟨o, c, h.drew⟩
theorem Gr.alloc {F : Nat → Prop} {w : World} {b n : Nat} {es : List E} (h : Gr F w b n es) (ob : Obj) : Gr F (w.alloc ob) b n es := by
 obtain ⟨o, c, h⟩ := h; exact ⟨o, c, h.alloc ob⟩
theorem Gr.mono {F G : Nat → Prop} {w : World} {b n : Nat} {es : List E} (h : Gr F w b n es) (hG : ∀ k, F k → G k) : Gr G w b n es := by
 obtain ⟨o, c, h⟩ := h; exact ⟨o, c, h.mono hG⟩
set_option maxRecDepth 100000 in
theorem find_any (F : Nat → Prop) (w : World) (b n : Nat) (es : List E) (t : Int) (hG : Gr F w b n es) (hs : Sorted es) (hn : es.length ≤ 1000) :
  Calls Tryz.prog 166 #[.pointer (some ⟨b, 0, none⟩), .int .i64 t] w (BPost w es t) := by
 obtain ⟨o, c, hM⟩ := hG
 have c1 := hM.head.cell (i := 1) rfl
 have HM := Lib.hid hM
 have HO := Lib.hid hs
 clear hM hs
 go_enter Tryz.func166, Tryz.ntmps166
 go_wp2_with fail
 refine (bsf_any F w o es.length c es t HM.out.s HO.out hn).mono ?_
 rintro e1 w1 ⟨rfl, hk⟩
 have HK := Lib.hid hk
 clear hk
 go_wp2_with fail
 go_ret2
 exact ⟨rfl, HK.out⟩
set_option maxRecDepth 100000 in
theorem nodes_any (F : Nat → Prop) (w : World) (b n : Nat) (es : List E) (hG : Gr F w b n es) :
  Calls Tryz.prog 77 #[.pointer (some ⟨b, 0, none⟩)] w fun e w' => e = .returned (.int .i64 n) ∧ w' = w := by
 obtain ⟨o, c, hM⟩ := hG
 have c0 := hM.head.cell (i := 0) rfl
 clear hM
 go_enter Tryz.func77, Tryz.ntmps77
 go_wp2
 go_ret
 exact ⟨rfl, rfl⟩
end Go.Proofs.YtfglkgkihafcpaaGreatDoor
namespace Go.Proofs.YtfglkgkihafcpaaGreatDoor
open Go.RowKit
theorem run_copyN {P : Program} (w : World) (dT sT ty elem : TypeId) (g o dLen dCap : Nat) (a : Addr) (sLen sCap : Nat) (cur : Array Value) (t : TypeId) (cs : List Value) (size n : Nat)
  (hu : P.underlying dT = some (.slice elem)) (hs : (P.info? elem).map (·.size) = some size)
  (hg : w.heap[g]? = some (.cells cur t (0, 0))) (hn : Nat.min sLen dLen = n) (hcl : cs.length = n * size)
  (hsrc : ∀ j v, cs[j]? = some v → w.cell? (a.add j) = some v) (hfit : o + cs.length ≤ cur.size) (h1 : ∀ v ∈ cs, v.oneCell' = true) :
  (Builtin.copy_ #[dT, sT] ty #[.slice (some ⟨g, o, none⟩) dLen dCap, .slice (some a) sLen sCap]).run P w =
   .ok (goInt n) (w.setRow g (cur.toList.take o ++ cs ++ cur.toList.drop (o + cs.length)).toArray) := by
 have hl := run_loadCells_list (P := P) w a cs hsrc
 have hst := run_storeCells_at P g o t cs 0 cur w hg (by simpa using hfit) h1
 cases hq : P.info? elem with
 | none => simp [hq] at hs
 | some i =>
  have hi : i.size = size := by simpa [hq] using hs
  simp [Builtin.copy_, run_underlying hu, Builtin.lenOf, Builtin.firstCells, sizeOf, typeInfo, hq, hi, hn, ← hcl, hl, hst]
end Go.Proofs.YtfglkgkihafcpaaGreatDoor
namespace Go.Proofs.YtfglkgkihafcpaaGreatDoor
open Go.RowKit Pl
def ins (es : List E) (i : Nat) (e : E) : List E := es.take i ++ e :: es.drop i
theorem ins_end (es : List E) (e : E) : ins es es.length e = es ++ [e] := by simp [ins]
theorem ecs_ins (es : List E) (i : Nat) (e : E) : ecs (ins es i e) = ecs (es.take i) ++ (ecells e ++ ecs (es.drop i)) := by simp [ins, ecs_append, ecs_cons]
theorem ecs_take (es : List E) (i : Nat) : ecs (es.take i) = (ecs es).take (i * 3) := by
 induction es generalizing i with
 | nil => simp [ecs_nil]
 | cons e es ih =>
  cases i with
  | zero => simp [ecs_nil]
  | succ i =>
   have e0 : (i + 1) * 3 = i * 3 + 3 := by omega
   simp only [List.take_succ_cons, ecs_cons, ih, e0]
   simp [ecells, List.take_succ_cons]
theorem ecs_drop (es : List E) (i : Nat) : ecs (es.drop i) = (ecs es).drop (i * 3) := by
 induction es generalizing i with
 | nil => simp [ecs_nil]
 | cons e es ih =>
  cases i with
  | zero => simp [ecs_nil]
  | succ i =>
   have e0 : (i + 1) * 3 = i * 3 + 3 := by omega
   simp only [List.drop_succ_cons, ecs_cons, ih, e0]
   simp [ecells, List.drop_succ_cons]
def InsPost (F : Nat → Prop) (w : World) (o : Option Addr) (es : List E) (i : Nat) (e : E) (en : Ending) (w' : World) : Prop :=
 ∃ g c', en = .returned (.slice (some ⟨g, 0, none⟩) (es.length + 1) c') ∧ Sl (fun k => F k ∨ w.heap.size ≤ k) w' 125 3 (some ⟨g, 0, none⟩) (es.length + 1) c' (ecs (ins es i e)) ∧ Keep (Bl o) w w' ∧ (o = some ⟨g, 0, none⟩ ∨ w.heap.size ≤ g)
theorem elem_edge : ElemT Tryz.prog 125 (.agg #[.int .i64 0, .int .i64 0, .int .i64 0]) 3 24 := by unfold ElemT; kernel_rfl
theorem und_edges : (Tryz.prog).underlying 117 = some (.slice 125) := by kernel_rfl
set_option maxRecDepth 100000 in
theorem insert_end (F : Nat → Prop) (w : World) (o : Option Addr) (c : Nat) (es : List E) (vb : Nat) (e : E) (hS : Sl F w 125 3 o es.length c (ecs es)) (hn : es.length ≤ 1000)
  (hv : w.heap[vb]? = some (.cells (ecells e).toArray 125 (0, 0))) :
  Calls Tryz.prog 167 #[.slice o es.length c, .int .i64 es.length, .slice (some ⟨vb, 0, none⟩) 1 1] w (InsPost F w o es es.length e) := by
 have hcell : ∀ j u, (ecells e)[j]? = some u → w.cell? ((⟨vb, 0, none⟩ : Addr).add j) = some u := by
  intro j u hj
  rw [show (⟨vb, 0, none⟩ : Addr).add j = ⟨vb, j, none⟩ from by unfold Addr.add; split <;> simp_all]
  simp [World.cell?, hv]
  simpa using hj
 obtain ⟨g, c', w', h1, h2, h3, h4⟩ := run_app (P := Tryz.prog) (w := w) 117 117 125 und_edges elem_edge (by rfl) (by omega) hS ⟨vb, 0, none⟩ 1 1 (ecells e) rfl hcell
  (by intro u hu; exact ecs_one [e] u (by simpa [ecs] using hu)) (by simp only [maxLen]; omega) (by omega) (by omega)
 have hP : InsPost F w o es es.length e (.returned (.slice (some ⟨g, 0, none⟩) (es.length + 1) c')) w' := by
  refine ⟨g, c', rfl, ?_, h3, ?_⟩
  ·rw [ins_end, ecs_append, ecs_cons, ecs_nil, List.append_nil]
   exact h2.mono (fun k hk => by rcases hk with h | h; exact .inl h; exact .inr (by omega))
  ·rcases h4 with h | h
   ·exact .inl h
   ·exact .inr (by omega)
 have H1 := Lib.hid h1
 have HP := Lib.hid hP
 have hcs := hS.cases
 clear h1 hP h2 h3 h4 hcell hv hS
 rcases hcs with ⟨rfl, h0, rfl, _⟩ | ⟨g0, rfl, _, hnc, hcm, _⟩
 ·obtain rfl := List.eq_nil_of_length_eq_zero h0
  simp only [List.length_nil, Nat.zero_add, Int.natCast_zero] at H1 HP ⊢
  go_enter Tryz.func167, Tryz.ntmps167
  go_wp2_with ((at_builtin; refine wpList_app rfl _ _ _ rfl rfl rfl H1.out ?_))
  go_ret
  exact HP.out
 ·simp only [maxLen] at hcm
  by_cases hc : c = es.length
  ·subst hc
   go_enter Tryz.func167, Tryz.ntmps167
   go_wp2_with ((at_builtin; refine wpList_app rfl _ _ _ rfl rfl rfl H1.out ?_))
   go_ret
   exact HP.out
  ·have hc' : ¬ c - es.length = 0 := by omega
   go_enter Tryz.func167, Tryz.ntmps167
   go_wp2_with ((at_builtin; refine wpList_app rfl _ _ _ rfl rfl rfl H1.out ?_))
   go_ret
   exact HP.out
end Go.Proofs.YtfglkgkihafcpaaGreatDoor
namespace Go.Proofs.YtfglkgkihafcpaaGreatDoor
open Go.RowKit Go.Lib Pl
theorem shift_row {α : Type} (cur L N : List α) (a k l : Nat) (hk : N.length = k) (hL : cur.take l = L) (hl : L.length = l) (ha : a ≤ l) (hf : l + k ≤ cur.length) :
  ((((cur.take (a + k) ++ L.drop a ++ cur.drop (a + k + (L.drop a).length)).take a) ++ N ++ (cur.take (a + k) ++ L.drop a ++ cur.drop (a + k + (L.drop a).length)).drop (a + N.length)).take (l + k)) = L.take a ++ (N ++ L.drop a) ∧
  ((((cur.take (a + k) ++ L.drop a ++ cur.drop (a + k + (L.drop a).length)).take a) ++ N ++ (cur.take (a + k) ++ L.drop a ++ cur.drop (a + k + (L.drop a).length)).drop (a + N.length))).length = cur.length ∧
  (cur.take (a + k) ++ L.drop a ++ cur.drop (a + k + (L.drop a).length)).length = cur.length := by
 subst hL
 have h3 : (cur.take (a + k) ++ (cur.take l).drop a ++ cur.drop (a + k + ((cur.take l).drop a).length)).length = cur.length := by
  simp; omega
 have h1 : (cur.take (a + k) ++ (cur.take l).drop a ++ cur.drop (a + k + ((cur.take l).drop a).length)).take a = (cur.take l).take a := by
  rw [List.append_assoc, List.take_append_of_le_length (by simp; omega), List.take_take, List.take_take]
  congr 1; omega
 have h2 : (cur.take (a + k) ++ (cur.take l).drop a ++ cur.drop (a + k + ((cur.take l).drop a).length)).drop (a + N.length) = (cur.take l).drop a ++ cur.drop (a + k + ((cur.take l).drop a).length) := by
  rw [List.append_assoc]
  have : a + N.length = (cur.take (a + k)).length := by simp; omega
  rw [this, List.drop_left]
 refine ⟨?_, ?_, h3⟩
 ·rw [h1, h2]
  have e : (cur.take l).take a ++ N ++ ((cur.take l).drop a ++ cur.drop (a + k + ((cur.take l).drop a).length)) = ((cur.take l).take a ++ (N ++ (cur.take l).drop a)) ++ cur.drop (a + k + ((cur.take l).drop a).length) := by simp [List.append_assoc]
  rw [e]
  have : l + k = ((cur.take l).take a ++ (N ++ (cur.take l).drop a)).length := by simp; simp at hl; omega
  rw [this, List.take_left]
 ·rw [h1, h2]
  simp; omega
set_option maxRecDepth 100000 in
theorem insert_shift (F : Nat → Prop) (w : World) (g c i : Nat) (es : List E) (vb : Nat) (e : E) (hS : Sl F w 125 3 (some ⟨g, 0, none⟩) es.length c (ecs es)) (hn : es.length ≤ 1000)
  (hv : w.heap[vb]? = some (.cells (ecells e).toArray 125 (0, 0))) (hne : vb ≠ g) (hi : i < es.length) (hroom : es.length + 1 ≤ c) :
  Calls Tryz.prog 167 #[.slice (some ⟨g, 0, none⟩) es.length c, .int .i64 i, .slice (some ⟨vb, 0, none⟩) 1 1] w (InsPost F w (some ⟨g, 0, none⟩) es i e) := by
 rcases hS.cases with ⟨h0, _⟩ | ⟨g0, h0, hFg, hnc, hcm, hrow, cur, hcur, hcs⟩
 ·cases h0
 obtain rfl : g = g0 := by simpa using h0
 have htake : cur.toList.take (ecs es).length = ecs es := by
  obtain ⟨cur', hc', ht'⟩ := hrow
  rw [hcur] at hc'; cases hc'; exact ht'
 have hel := ecs_length es
 simp only [maxLen] at hcm
 have hov : ∀ off lb cb, (callFunc 195 #[.slice (some ⟨vb, 0, none⟩) 1 1, .slice (some ⟨g, off, none⟩) lb cb]).run Tryz.prog w = .ok (.value (.bool false)) w := fun off lb cb => by
  have hsv : w.shape? vb = some (125, 3) := by simp [World.shape?, hv, ecells]
  have hsg : w.shape? g = some (125, c * 3) := by simp [World.shape?, hcur, hcs]
  rw [run_callFunc_extern Tryz.func195 (by kernel_rfl) (by kernel_rfl) (by kernel_rfl) (e := Extern.SlicesOverlaps.overlaps #[117, 117] #[4]) (by kernel_rfl),
   Lib.run_overlaps_apart w 117 4 125 und_edges 3 (fun w => by kernel_rfl) ⟨vb, 0, none⟩ ⟨g, off, none⟩ 1 1 lb cb hne 125 125 3 (c * 3) hsv hsg (by omega) (by simp [World.frozen?, hv]) (by simp [World.frozen?, hv])]
  rfl
 have hsz : ((Tryz.prog).info? 125).map (·.size) = some 3 := by kernel_rfl
 have hcsize : cur.toList.length = c * 3 := by simpa using hcs
 obtain ⟨hr1, hr2, hr3⟩ := shift_row cur.toList (ecs es) (ecells e) (i * 3) 3 (es.length * 3) rfl (by rw [← hel]; exact htake) hel (by omega) (by rw [hcsize]; omega)
 have hd : ((ecs es).drop (i * 3)).length = (es.length - i) * 3 := by rw [List.length_drop, hel]; omega
 have hcp1 : ∀ ty dc sc, (Builtin.copy_ #[117, 117] ty #[.slice (some ⟨g, (i + 1) * 3, none⟩) (es.length - i) dc, .slice (some ⟨g, i * 3, none⟩) (es.length + 1 - i) sc]).run Tryz.prog w.drew =
       .ok (goInt (es.length - i : Nat)) (w.drew.setRow g (cur.toList.take (i * 3 + 3) ++ (ecs es).drop (i * 3) ++ cur.toList.drop (i * 3 + 3 + ((ecs es).drop (i * 3)).length)).toArray) := fun ty dc sc => by
  have e0 : (i + 1) * 3 = i * 3 + 3 := by omega
  rw [e0]
  exact run_copyN w.drew _ _ ty 125 g (i * 3 + 3) (es.length - i) dc ⟨g, i * 3, none⟩ (es.length + 1 - i) sc cur 125 ((ecs es).drop (i * 3)) 3 (es.length - i) und_edges hsz hcur
   (by simp only [Nat.min_def]; split <;> omega) hd
   (fun j v hj => by
    rw [List.getElem?_drop] at hj
    rw [show (⟨g, i * 3, none⟩ : Addr).add j = ⟨g, i * 3 + j, none⟩ from by unfold Addr.add; split <;> simp_all]
    exact hrow.cell hj)
   (by rw [hd]; have := hcs; omega) (fun v hv => ecs_one es v (List.mem_of_mem_drop hv))
 generalize hrow1 : (cur.toList.take (i * 3 + 3) ++ (ecs es).drop (i * 3) ++ cur.toList.drop (i * 3 + 3 + ((ecs es).drop (i * 3)).length)) = row1 at *
 have hcp2 : ∀ (W : World), W.heap[g]? = some (.cells row1.toArray 125 (0, 0)) → W.heap[vb]? = w.heap[vb]? → ∀ ty dc, (Builtin.copy_ #[117, 117] ty #[.slice (some ⟨g, i * 3, none⟩) (es.length + 1 - i) dc, .slice (some ⟨vb, 0, none⟩) 1 1]).run Tryz.prog W =
   .ok (goInt 1) (W.setRow g (row1.take (i * 3) ++ ecells e ++ row1.drop (i * 3 + (ecells e).length)).toArray) := fun W hWg hWv ty dc =>
  run_copyN W _ _ ty 125 g (i * 3) (es.length + 1 - i) dc ⟨vb, 0, none⟩ 1 1 row1.toArray 125 (ecells e) 3 1 und_edges hsz hWg
   (by simp only [Nat.min_def]; split <;> omega) rfl
   (fun j u hj => by
    rw [show (⟨vb, 0, none⟩ : Addr).add j = ⟨vb, j, none⟩ from by unfold Addr.add; split <;> simp_all]
    simp [World.cell?, hWv, hv]
    simpa using hj)
   (by simp [hr3, ecells, hcs]; omega) (fun u hu => ecs_one [e] u (by simpa [ecs] using hu))
 have hP : ∀ W : World, W.heap = (w.setRow g row1.toArray).heap → W.os = w.os → W.tape = w.tape → W.output = w.output →
   InsPost F w (some ⟨g, 0, none⟩) es i e (.returned (.slice (some ⟨g, 0, none⟩) (es.length + 1) c)) (W.setRow g (row1.take (i * 3) ++ ecells e ++ row1.drop (i * 3 + (ecells e).length)).toArray) := by
  intro W hW ho ht hou
  have hWg : W.heap[g]? = some (.cells row1.toArray 125 (0, 0)) := by rw [hW]; exact setRow_heap w g cur _ _ _ hcur
  have hlen : (ecs (ins es i e)).length = (es.length + 1) * 3 := by rw [ecs_length]; congr 1; simp [ins]; omega
  refine ⟨g, c, rfl, ⟨⟨hlen, .inr ⟨g, c, _, rfl, Nat.zero_le _, setRow_heap W g _ _ _ _ hWg, hroom, by simp only [maxLen]; exact hcm, ?_, ?_⟩⟩, fun a ha => .inl (hS.foot a ha)⟩, ⟨ho, ht, hou, ?_, fun k _ hk => ?_⟩, .inl rfl⟩
  ·rw [List.size_toArray, hr2, hcsize]
  ·rw [show (es.length + 1) * 3 = es.length * 3 + 3 by omega]
   show List.take _ (_ : List Value) = _
   rw [hr1, ecs_ins, ecs_take, ecs_drop]
  ·have : W.heap.size = w.heap.size := by rw [hW]; simp
   simp [this]
  ·have hkg : k ≠ g := fun e => hk ⟨_, rfl, e.symm⟩
   rw [setRow_other W g k _ hkg, hW, setRow_other w g k _ hkg]
 generalize row1.take (i * 3) ++ ecells e ++ row1.drop (i * 3 + (ecells e).length) = row2 at hcp2 hP
 have HOv := Lib.hid hov
 have H1 := Lib.hid hcp1
 have H2 := Lib.hid (hcp2 (w.drew.setRow g row1.toArray) (setRow_heap w.drew g cur _ _ _ hcur) (setRow_other w.drew g vb _ hne))
 have HP := Lib.hid hP
 have HC := Lib.hid hcur
 clear hov hcp1 hcp2 hP hr1 hr2 hr3 hrow1 htake hel hrow hcs hcsize hd hsz hv hcur hS h0
 have hin : i ≤ es.length := by omega
 have htn : ((i : Int) + 1).toNat = i + 1 := by omega
 have hb2 : ¬ (c = i + 1) := by omega
 have hb4 : ¬ (c = i) := by omega
 have hz2 : ¬ ((i : Int) = (es.length : Int)) := by omega
 have hw1 : IntKind.i64.wrap ((i : Int) + 1) = (i : Int) + 1 := IntWalk.i64_in _ (by omega)
 have hb1 : (0 : Int) ≤ (i : Int) + 1 := by omega
 have hb3 : (i : Int) ≤ (es.length : Int) + 1 := by omega
 have mixed : (Tryz.prog).follows Departure.mixedOrders = true := by kernel_rfl
 generalize es.length = n at *
 go_enter Tryz.func167, Tryz.ntmps167
 go_wp2_with (simp only [HOv.out])
 go_region_law_o (refine step_copy_runI rfl _ _ 117 117 rfl (.slice (some ⟨g, (i + 1) * 3, none⟩) (n - i) (c - (i + 1))) (.slice (some ⟨g, i * 3, none⟩) (n + 1 - i) (c - i)) (by simp [Act.eval, Act.put]) (by simp [Act.eval, Act.put]) (H1.out 3 (c - (i + 1)) (c - i)) ?_)
 go_wp2_with (rw [H2.out])
 go_ret
 exact HP.out (w.drew.setRow g row1.toArray) rfl rfl rfl rfl
end Go.Proofs.YtfglkgkihafcpaaGreatDoor

