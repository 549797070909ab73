/- Part 9 of the proof: A6 BKit. -/
import Derived.Test.YtfglkgkihafcpaaGreatDoorDp01
import Derived.Test.YtfglkgkihafcpaaGreatDoorDp04
import Derived.Test.YtfglkgkihafcpaaGreatDoorDp05
import Derived.Test.YtfglkgkihafcpaaGreatDoorDp07
import Derived.Test.YtfglkgkihafcpaaGreatDoorDp08
import Derived.Test.YtfglkgkihafcpaaGreatDoorProg
import Derived.DeepKeys5
set_option linter.unusedVariables false
set_option linter.unusedSimpArgs false
namespace Go.Proofs.YtfglkgkihafcpaaGreatDoor
open Go.RowKit
structure MatR (F : Nat → Prop) (w : World) (T e : TypeId) (o : Option Addr) (n c : Nat) (rw_ : Nat → Rw) (f : Nat → List Nat) : Prop where
 out : Sl F w T 1 o n c ((List.range n).map (fun i => (rw_ i).val))
 row : ∀ i, i < n → Sl F w e 1 (rw_ i).o (f i).length (rw_ i).c (ints (f i))
 num : ∀ i, i < n → (rw_ i).n = (f i).length
 ne : ∀ i a, i < n → (rw_ i).o = some a → ¬ Bl o a.block
namespace MatR
variable {F : Nat → Prop} {w : World} {T e : TypeId} {o : Option Addr} {n c : Nat} {rw_ : Nat → Rw} {f : Nat → List Nat}
theorem nil (F : Nat → Prop) (w : World) (T e : TypeId) (rw_ : Nat → Rw) (f : Nat → List Nat) : MatR F w T e none 0 0 rw_ f :=
 ⟨Sl.nil F w T 1, fun _ h => absurd h (by omega), fun _ h => absurd h (by omega), fun _ _ h => absurd h (by omega)⟩
theorem of_heap {w' : World} (h : MatR F w T e o n c rw_ f) (he : ∀ k, k < w.heap.size → F k → w'.heap[k]? = w.heap[k]?) : MatR F w' T e o n c rw_ f :=
 ⟨h.out.of_heap he, fun i hi => (h.row i hi).of_heap he, h.num, h.ne⟩
theorem keep {G : Nat → Prop} {w' : World} (h : MatR F w T e o n c rw_ f) (k : Keep G w w') (d : ∀ k, F k → ¬ G k) : MatR F w' T e o n c rw_ f := h.of_heap fun i hi hF => k.block i hi (d i hF)
theorem tight (h : MatR F w T e o n c rw_ f) : MatR (fun k => F k ∧ k < w.heap.size) w T e o n c rw_ f := ⟨h.out.tight, fun i hi => (h.row i hi).tight, h.num, h.ne⟩
theorem cell (h : MatR F w T e o n c rw_ f) {i : Nat} (hi : i < n) : ∃ go, o = some ⟨go, 0, none⟩ ∧ n ≤ c ∧ F go ∧ w.cell? ⟨go, i, none⟩ = some (.slice (rw_ i).o (f i).length (rw_ i).c) := by
 obtain ⟨go, h1, h2, h3, h4⟩ := h.out.pos (by omega)
 refine ⟨go, h1, h3, h2, ?_⟩
 have := h4.cell (i := i) (v := (rw_ i).val) (by simp [hi])
 rw [this, Rw.val, h.num i hi]
theorem push {w' : World} {g c' q cq : Nat} {oq : Option Addr} {l : List Nat} (h : MatR F w T e o n c rw_ f) (hq : q = l.length) (hr : Sl F w e 1 oq q cq (ints l)) (hne : ∀ a, oq = some a → ¬ Bl o a.block)
  (hS : Sl (fun k => F k ∨ k = w.heap.size + 1) w' T 1 (some ⟨g, 0, none⟩) (n + 1) c' ((List.range n).map (fun i => (rw_ i).val) ++ [.slice oq q cq])) (hk : Keep (Bl o) w w') (hg : o = some ⟨g, 0, none⟩ ∨ g = w.heap.size + 1) (hF : F (w.heap.size + 1)) :
  MatR F w' T e (some ⟨g, 0, none⟩) (n + 1) c' (fun i => if i = n then ⟨oq, q, cq⟩ else rw_ i) (fun i => if i = n then l else f i) := by
 subst hq
 have old : ∀ i a, i < n → (rw_ i).o = some a → a.block < w.heap.size := fun i a hi ha => (h.row i hi).lt ha
 refine ⟨?_, fun i hi => ?_, fun i hi => ?_, fun i a hi ha => ?_⟩
 ·have e1 : (List.range (n + 1)).map (fun i => (if i = n then (⟨oq, l.length, cq⟩ : Rw) else rw_ i).val) = (List.range n).map (fun i => (rw_ i).val) ++ [.slice oq l.length cq] := by
   rw [List.range_succ, List.map_append]
   congr 1
   ·refine List.map_congr_left fun i hi => ?_
    have := List.mem_range.1 hi
    rw [if_neg (by omega)]
   ·simp [Rw.val]
  rw [e1]
  exact hS.mono fun k hk => hk.elim id (fun h => h ▸ hF)
 ·by_cases hin : i = n
  ·simp only [if_pos hin]
   exact hr.of_block fun a ha => hk.block _ (hr.lt ha) (hne a ha)
  ·simp only [if_neg hin]
   have h1 := h.row i (by omega)
   exact h1.of_block fun a ha => hk.block _ (h1.lt ha) (h.ne i a (by omega) ha)
 ·by_cases hin : i = n
  ·simp only [if_pos hin]
  ·simp only [if_neg hin]; exact h.num i (by omega)
 ·rintro ⟨x, hx, hb⟩
  simp at hx; subst hx
  simp only at hb
  by_cases hin : i = n
  ·simp only [if_pos hin] at ha
   rcases hg with hg | hg
   ·exact hne a ha ⟨_, hg, hb⟩
   ·have := hr.lt ha; omega
  ·simp only [if_neg hin] at ha
   rcases hg with hg | hg
   ·exact h.ne i a (by omega) ha ⟨_, hg, hb⟩
   ·have := old i a (by omega) ha; omega
end MatR
end Go.Proofs.YtfglkgkihafcpaaGreatDoor
namespace Go.Proofs.YtfglkgkihafcpaaGreatDoor
open Go.RowKit
def pcells (p : Nat × Nat) : List Value := [.int .i64 p.1, .int .i64 p.2]
def pcs (l : List (Nat × Nat)) : List Value := l.flatMap pcells
@[simp] theorem pcs_length (l : List (Nat × Nat)) : (pcs l).length = l.length * 2 := by
 induction l with
 | nil => rfl
 | cons p l ih => simp only [pcs, List.flatMap_cons, List.length_append] at ih ⊢; rw [ih]; simp [pcells]; omega
theorem pcs_snoc (l : List (Nat × Nat)) (p : Nat × Nat) : pcs (l ++ [p]) = pcs l ++ pcells p := by simp [pcs]
theorem pcells_one (p : Nat × Nat) : ∀ u ∈ pcells p, u.oneCell' = true := by
 intro u hu; simp [pcells] at hu; rcases hu with rfl | rfl <;> rfl
theorem pcs_get {l : List (Nat × Nat)} {i : Nat} {p : Nat × Nat} (h : l[i]? = some p) : (pcs l)[i * 2]? = some (.int .i64 p.1) ∧ (pcs l)[i * 2 + 1]? = some (.int .i64 p.2) := by
 induction l generalizing i with
 | nil => simp at h
 | cons q l ih =>
  cases i with
  | zero => simp at h; subst h; simp [pcs, pcells]
  | succ i =>
   simp at h
   obtain ⟨h1, h2⟩ := ih h
   have e1 : (i + 1) * 2 = i * 2 + 2 := by omega
   rw [e1]
   have e2 : pcs (q :: l) = [.int .i64 q.1, .int .i64 q.2] ++ pcs l := by simp [pcs, pcells]
   rw [e2, List.getElem?_append_right (by simp), List.getElem?_append_right (by simp)]
   simp only [List.length_cons, List.length_nil]
   exact ⟨by rw [show i * 2 + 2 - (0 + 1 + 1) = i * 2 by omega]; exact h1, by rw [show i * 2 + 2 + 1 - (0 + 1 + 1) = i * 2 + 1 by omega]; exact h2⟩
theorem und_pairs : Tryz.prog.underlying 140 = some (.slice 191) := Tryz.underlying140
theorem elem_pair : ElemT Tryz.prog 191 (.agg #[.int .i64 0, .int .i64 0]) 2 16 := by unfold ElemT; kernel_rfl
theorem Sl.pairs {F : Nat → Prop} {w : World} {g n c : Nat} {l : List (Nat × Nat)} (h : Sl F w 191 2 (some ⟨g, 0, none⟩) n c (pcs l)) {i : Nat} {p : Nat × Nat} (hi : l[i]? = some p) :
  w.cell? ⟨g, i * 2, none⟩ = some (.int .i64 p.1) ∧ w.cell? ⟨g, i * 2 + 1, none⟩ = some (.int .i64 p.2) := by
 have hn : 0 < n := by
  have h1 := h.len
  have h2 := (List.getElem?_eq_some_iff.1 hi).1
  simp at h1; omega
 obtain ⟨g', e, _, _, hrow⟩ := h.pos hn
 obtain rfl : g = g' := by simpa using e
 obtain ⟨h1, h2⟩ := pcs_get hi
 exact ⟨hrow.cell h1, hrow.cell h2⟩
end Go.Proofs.YtfglkgkihafcpaaGreatDoor
namespace Go.Proofs.YtfglkgkihafcpaaGreatDoor
open Go.RowKit Pl
def labG (es : List E) : Nat → Nat := labs (ends es)
def Over (n : Nat) (es : List E) : Prop := ∀ e, e ∈ es → e.a < n ∧ e.b < n
theorem Sl.built (w : World) (T : TypeId) (sz n : Nat) (l : List Value) (hl : l.length = n * sz) (hn : n ≤ maxLen) :
  Sl (fun k => k = w.heap.size) (w.alloc (.cells l.toArray T)) T sz (some ⟨w.heap.size, 0, none⟩) n n l :=
 ⟨⟨hl, .inr ⟨w.heap.size, n, l.toArray, rfl, Nat.zero_le _, heap_alloc_new w _, Nat.le_refl _, hn, by simp [hl], by rw [← hl]; simp⟩⟩, fun a ha => by simp at ha; rw [← ha]⟩
theorem over_without {n : Nat} {es : List E} (h : Over n es) (ed nd : List Nat) : Over n (withoutEs ed nd es) := fun e he => h e (List.mem_filter.1 he).1
theorem Gr.tight {F : Nat → Prop} {w : World} {b n : Nat} {es : List E} (h : Gr F w b n es) : Gr (fun k => F k ∧ k < w.heap.size) w b n es := by
 obtain ⟨o, c, h⟩ := h; exact ⟨o, c, GrMem.tight h⟩
end Go.Proofs.YtfglkgkihafcpaaGreatDoor
namespace Go.Proofs.YtfglkgkihafcpaaGreatDoor
open Go.RowKit Go.Maps
def encP (p : Nat × Nat) : Value := .agg #[.int .i64 p.1, .int .i64 p.2]
def DP (p : Nat × Nat) : Prop := DN p.1 ∧ DN p.2
theorem pair_keyed : Keyed Tryz.prog 191 :=
 Keyed.of_law (deep_law_laid (m := 5) (by kernel_rfl) (by omega) (of_decide_eq_true (by kernel_rfl)) (by kernel_rfl) (by kernel_rfl))
theorem keyOf_pairs {a b : Int} (ha : (Lit.int .i64 a).wf = true) (hb : (Lit.int .i64 b).wf = true) : ∃ l, keyOf Tryz.prog 191 (.agg #[.int .i64 a, .int .i64 b]) = some l := by
 have h1 : (Tryz.prog).keyType 191 = true := by kernel_rfl
 have h2 : (Tryz.prog).cellsOf 191 = 2 := by kernel_rfl
 have h3 : (Tryz.prog).cellsOf 3 = 1 := by kernel_rfl
 obtain ⟨m, hm⟩ : ∃ m, (Tryz.prog).types.size = m + 1 := ⟨(Tryz.prog).types.size - 1, by kernel_rfl⟩
 unfold keyOf
 simp only [Tryz.underlying191]
 rw [if_pos (by simp [h1, Value.formed, Tryz.underlying191, h2]), hm]
 unfold Program.keyLits
 simp only [Tryz.underlying191, Value.cells]
 rw [if_pos (by rw [h2]; exact ⟨rfl, by kernel_rfl⟩)]
 simp only [Program.keyLits, Tryz.underlying3, h3, List.mapM_cons, List.mapM_nil]
 simp [ha, hb]
theorem encP_enc : Enc Tryz.prog 191 encP DP := by
 refine ⟨pair_keyed, fun {a} ha => ?_, fun {a b} h => ?_⟩
 ·have hw : ∀ x : Nat, DN x → (Lit.int .i64 (x : Int)).wf = true := fun x hx => by
   unfold DN at hx
   have h1 : IntKind.i64.min = -9223372036854775808 := by decide
   have h2 : IntKind.i64.max = 9223372036854775807 := by decide
   simp only [Lit.wf, h1, h2, Bool.and_eq_true, decide_eq_true_eq]
   omega
  exact keyOf_pairs (hw _ ha.1) (hw _ ha.2)
 ·obtain ⟨a1, a2⟩ := a
  obtain ⟨b1, b2⟩ := b
  simp only [encP, Value.agg.injEq, Array.mk.injEq, List.cons.injEq, Value.int.injEq, true_and, and_true] at h
  rw [Prod.mk.injEq]
  omega
end Go.Proofs.YtfglkgkihafcpaaGreatDoor

namespace Go.Proofs.YtfglkgkihafcpaaGreatDoor
open Go.RowKit
theorem take_snoc' {α : Type} {l : List α} {i : Nat} {x : α} (h : l[i]? = some x) : l.take (i + 1) = l.take i ++ [x] := by rw [List.take_add_one, h]; rfl
theorem Sl.setN {F : Nat → Prop} {w : World} {T : TypeId} {sz : Nat} {o : Option Addr} {n c : Nat} {l : List Value} (h : Sl F w T sz o n c l) {g : Nat} (i : Nat) (ho : o = some ⟨g, 0, none⟩) (v : Value) : Sl F (w.setCell ⟨g, i, none⟩ v) T sz o n c (l.set i v) := by
 refine ⟨⟨by rw [List.length_set]; exact h.own.1, ?_⟩, h.foot⟩
 rcases h.own.2 with ⟨e, _⟩ | ⟨g', cap, cur, e1, hb, hg, h1, h2, h3, h4⟩
 ·rw [ho] at e; simp at e
 ·simp only [ho, Value.slice.injEq, Option.some.injEq, Addr.mk.injEq, and_true, true_and] at e1
  obtain ⟨rfl, rfl⟩ := e1
  refine .inr ⟨g, c, cur.setIfInBounds i v, by rw [ho], hb, ?_, h1, h2, by simpa using h3, ?_⟩
  ·simp [World.setCell, Array.getElem?_modify, hg]
  ·rw [Array.toList_setIfInBounds, List.take_set, h4]
end Go.Proofs.YtfglkgkihafcpaaGreatDoor

