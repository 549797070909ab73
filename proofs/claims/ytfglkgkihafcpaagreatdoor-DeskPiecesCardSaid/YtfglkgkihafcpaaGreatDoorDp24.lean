/- Part 24 of the proof: DeepK MkI. -/
import Derived.Test.YtfglkgkihafcpaaGreatDoorDp01
import Derived.Test.YtfglkgkihafcpaaGreatDoorDp05
import Derived.Test.YtfglkgkihafcpaaGreatDoorDp09
import Derived.Test.YtfglkgkihafcpaaGreatDoorDp17
import Derived.Test.YtfglkgkihafcpaaGreatDoorDp20
import Derived.Test.YtfglkgkihafcpaaGreatDoorDp23
import Derived.OwnWalk
set_option linter.unusedVariables false
set_option linter.unusedSimpArgs false
namespace Go.Proofs.YtfglkgkihafcpaaGreatDoor
open Go.RowKit Pl
def DeepPost (W : World) (base X Y ob lb gb n : Nat) (mv : Value) (es : List E) (tag : Nat → Nat) (s : DS) (x : Nat) (by_ : Int) (e : Ending) (w' : World) : Prop :=
 e = .returned (.tuple #[]) ∧ ∃ s' tag' so po co sc pc cc rows, Run (fun z => es.filter (kp z)) (.deep x by_) s s' ∧ DM w' base X Y ob lb gb n mv tag' s' so po co sc pc cc rows ∧ (∀ k, k < W.heap.size → tag' k = tag k) ∧ Keep (fun k => tag k < 7) W w' ∧
  unv n s' + 1 ≤ unv n s ∧ wt s' + 400 * unv n s' ≤ wt s + 400 * unv n s
def DeepP (base X Y ob lb gb n : Nat) (mv : Value) (es : List E) (F : Nat → Prop) (k : Nat) : Prop :=
 ∀ (W : World) (tag : Nat → Nat) (s : DS) (so po co : Option Addr) (sc pc cc : Nat) (rows : List Rw) (x : Nat) (by_ : Int), x < n → s.ord x = 0 → unv n s ≤ k → wt s + 400 * unv n s ≤ 100000 →
  DM W base X Y ob lb gb n mv tag s so po co sc pc cc rows → Gr F W gb n es →
  Calls Tryz.prog 198 #[.pointer (some ⟨X, 0, none⟩), .int .i64 x, .int .i64 by_] W (DeepPost W base X Y ob lb gb n mv es tag s x by_)
structure DLoop (w3 wr : World) (base X Y ob lb gb n : Nat) (mv : Value) (es : List E) (tag : Nat → Nat) (s : DS) (x : Nat) (by_ : Int) (i ch : Nat) (si : DS) (tagi : Nat → Nat) (so po co : Option Addr) (sc pc cc : Nat) (rows : List Rw) : Prop where
 run : ∀ s', Run (fun z => es.filter (kp z)) (.loop x by_ ((es.filter (kp x)).drop i) ch) si s' → Run (fun z => es.filter (kp z)) (.loop x by_ (es.filter (kp x)) 0) (s.enter x) s'
 dm : DM wr base X Y ob lb gb n mv tagi si so po co sc pc cc rows
 same : ∀ k, k < w3.heap.size → tagi k = tag k
 keep : Keep (fun k => tag k < 7) w3 wr
 un : unv n si ≤ unv n (s.enter x)
 bd : wt si + 400 * unv n si ≤ wt (s.enter x) + 400 * unv n (s.enter x) + 3 * i
theorem DLoop.lt7 {w3 wr : World} {base X Y ob lb gb n : Nat} {mv : Value} {es : List E} {tag : Nat → Nat} {s : DS} {x : Nat} {by_ : Int} {i ch : Nat} {si : DS} {tagi : Nat → Nat} {so po co : Option Addr} {sc pc cc : Nat} {rows : List Rw}
  (h : DLoop w3 wr base X Y ob lb gb n mv es tag s x by_ i ch si tagi so po co sc pc cc rows) {w' : World} {G : Nat → Prop} (k : Keep G wr w') (d : ∀ j, G j → tagi j < 7 ∨ wr.heap.size ≤ j) : Keep (fun j => tag j < 7) w3 w' :=
 h.keep.trans' k (fun _ _ e => e) (fun j hj e => by
  have z := h.keep.size
  rcases d j e with e | e
  ·rw [← h.same j hj]; exact e
  ·omega)
theorem DLoop.child {w3 wr wF : World} {base X Y ob lb gb n : Nat} {mv : Value} {es : List E} {tag : Nat → Nat} {s : DS} {x y : Nat} {by_ : Int} {i ch : Nat} {si s1 sF : DS} {tagi tagF : Nat → Nat} {so po co so' po' co' : Option Addr} {sc pc cc sc' pc' cc' : Nat} {rows rows' : List Rw} {e : E}
  (h : DLoop w3 wr base X Y ob lb gb n mv es tag s x by_ i ch si tagi so po co sc pc cc rows) (hdr : (es.filter (kp x)).drop i = e :: (es.filter (kp x)).drop (i + 1)) (hb : (e.id : Int) ≠ by_) (hy : othE e x = y) (hv : si.ord y = 0)
  (hrun : Run (fun z => es.filter (kp z)) (.deep y e.id) (si.pushE e.id) s1) (hub : unv n s1 + 1 ≤ unv n (si.pushE e.id) ∧ wt s1 + 400 * unv n s1 ≤ wt (si.pushE e.id) + 400 * unv n (si.pushE e.id))
  (hs : sF = s1.after x y si.st.length (decide (0 ≤ by_) || decide (1 < ch + 1))) (hdm : DM wF base X Y ob lb gb n mv tagF sF so' po' co' sc' pc' cc' rows') (same : ∀ k, k < w3.heap.size → tagF k = tag k) (keep : Keep (fun k => tag k < 7) w3 wF) :
  DLoop w3 wF base X Y ob lb gb n mv es tag s x by_ (i + 1) (ch + 1) sF tagF so' po' co' sc' pc' cc' rows' := by
 subst hy
 have h1 := (after_ord s1 x (othE e x) si.st.length (decide (0 ≤ by_) || decide (1 < ch + 1))).1
 have h2 : unv n sF = unv n s1 := by rw [hs]; exact unv_congr h1
 have h3 := wt_after s1 x (othE e x) si.st.length (decide (0 ≤ by_) || decide (1 < ch + 1))
 rw [← hs] at h3
 have h4 : unv n (si.pushE e.id) = unv n si := rfl
 have h5 := wt_push si e.id
 have h6 := h.un
 have h7 := h.bd
 refine ⟨fun s' r => h.run s' (by rw [hdr]; exact .child hb hv hrun (by rw [← hs]; exact r)), hdm, same, keep, by omega, by omega⟩
theorem keep_chain {a b c : World} {t1 t2 : Nat → Nat} (h : Keep (fun k => t1 k < 7) a b) (g : Keep (fun k => t2 k < 7) b c) (same : ∀ k, k < a.heap.size → t2 k = t1 k) : Keep (fun k => t1 k < 7) a c :=
 h.trans' g (fun _ _ e => e) (fun j hj e => by rw [← same j hj]; exact e)
theorem DM.lowered {w : World} {base X Y ob lb gb n : Nat} {mv : Value} {tag : Nat → Nat} {s : DS} {so po co : Option Addr} {sc pc cc : Nat} {rows : List Rw} (h : DM w base X Y ob lb gb n mv tag s so po co sc pc cc rows) {x lv v : Nat} (hx : x < n) (hl : s.low x = lv) :
  DM (w.setCell ⟨lb, x, none⟩ (.int .i64 (min (lv : Int) (v : Int)))).drew base X Y ob lb gb n mv tag (s.lower x v) so po co sc pc cc rows := by
 have e : min (lv : Int) (v : Int) = ((min lv v : Nat) : Int) := by omega
 have h1 := (h.setL x (min lv v) hx).keepN ((Keep.refl Nb _).drew)
 rw [e]
 unfold DS.lower
 rw [hl]
 exact h1
theorem DM.keepL {w : World} {base X Y ob lb gb n : Nat} {mv : Value} {tag : Nat → Nat} {s : DS} {so po co : Option Addr} {sc pc cc : Nat} {rows : List Rw} (h : DM w base X Y ob lb gb n mv tag s so po co sc pc cc rows) (x : Nat) (v : Value) :
  Keep (fun k => tag k < 7) w (w.setCell ⟨lb, x, none⟩ v).drew := ((keep_set w lb x v).mono (G := fun k => tag k < 7) (fun j _ e => by subst e; rw [h.tL]; omega)).drew
end Go.Proofs.YtfglkgkihafcpaaGreatDoor

namespace Go.Proofs.YtfglkgkihafcpaaGreatDoor
open Go.RowKit Pl
theorem run_makeI (n : Nat) (hn : n ≤ 1000000) : ∃ Z : Array Value, Z.toList = fints n (fun _ => 0) ∧ ∀ w : World, (Instr.makeSlice 63 (.int .i64 (n : Nat)) (.int .i64 (n : Nat))).run Tryz.prog w = .ok (.slice (some ⟨w.heap.size, 0, none⟩) n n) (w.alloc (.cells Z 3)) := by
 obtain ⟨i, hi, hz, hs, hby⟩ := info_parts elem_int
 refine ⟨madeCells (Value.int .i64 0).cells (n * 1), ?_, fun w => ?_⟩
 ·have h1 : (madeCells (Value.int .i64 0).cells (n * 1)).toList = List.replicate n (.int .i64 0) := by
   rw [show (Value.int IntKind.i64 0).cells = #[Value.int .i64 0] from rfl, Nat.mul_one, toList_madeCells_one]
  rw [h1]
  apply List.ext_getElem?
  intro j
  by_cases hj : j < n
  ·rw [fints_get _ hj]; simp [hj]
  ·rw [List.getElem?_eq_none (by simp; omega), List.getElem?_eq_none (by rw [fints_length]; omega)]
 ·have := run_make (P := Tryz.prog) (w := w) 63 3 i (.int .i64 0) Tryz.underlying63 hi hz .i64 .i64 (n : Int) (n : Int) (by omega) (by omega) (by rw [hby]; omega) (by omega)
  rw [hs] at this
  simpa using this
end Go.Proofs.YtfglkgkihafcpaaGreatDoor

