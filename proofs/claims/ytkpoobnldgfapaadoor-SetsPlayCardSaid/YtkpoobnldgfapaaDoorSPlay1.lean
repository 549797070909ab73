/- isthmuslaw.SetsPlay: the walk. -/
import Derived.Test.YtkpoobnldgfapaaDoorAsErr
import Derived.Test.YtkpoobnldgfapaaDoorSErr
import Derived.Test.YtkpoobnldgfapaaDoorRParts
import Derived.Test.YtkpoobnldgfapaaDoorLSame
import Derived.Test.YtkpoobnldgfapaaDoorMake
import Derived.Test.YtkpoobnldgfapaaDoorA1
import Derived.Deep.DeepCutAuto
set_option linter.unusedVariables false
set_option linter.unusedSimpArgs false
namespace Go.Proofs.YtkpoobnldgfapaaDoor
open Go.RowKit Pl

theorem Sets.lkeep {F G : Nat → Prop} {w w' : World} {b n : Nat} {L : Nat → Nat} (h : Sets F w b n L) (k : Keep G w w') (d : ∀ k, F k → ¬ G k) : Sets F w' b n L := by
  obtain ⟨up, size, low, many, ou, os, ol, cu, cs, cl, hM, hI, hn⟩ := h
  exact ⟨up, size, low, many, ou, os, ol, cu, cs, cl, hM.keep k d, hI, hn⟩

theorem Sets.canon {F : Nat → Prop} {w : World} {b n : Nat} {L : Nat → Nat} (h : Sets F w b n L) : Canon n L := by
  obtain ⟨up, size, low, many, ou, os, ol, cu, cs, cl, hM, hI, hn⟩ := h
  exact hI.canon

theorem fints_congr {n : Nat} {f g : Nat → Nat} (h : ∀ x, x < n → f x = g x) : fints n f = fints n g := by
  unfold fints
  rw [List.map_congr_left (fun x hx => h x (List.mem_range.1 hx))]

theorem rangeV_err : rangeV = errV 2 := by unfold rangeV errV; rfl

/-- The list of the least ones, in its box. -/
structure LeastRow (lo : Nat) (w : World) (n B q : Nat) (f : Nat → Nat) : Prop where
  box : w.cell? ⟨B, 0, none⟩ = some (.slice (some ⟨q, 0, none⟩) n n)
  row : Row w q 3 (fints n f)
  ne : q ≠ B
  q : lo ≤ q
  b : lo ≤ B

theorem LeastRow.keep {F : Nat → Prop} {lo : Nat} {w w' : World} {n B q : Nat} {f : Nat → Nat} (h : LeastRow lo w n B q f) (k : Keep F w w') (d : ∀ k, lo ≤ k → ¬ F k) : LeastRow lo w' n B q f :=
  ⟨k.cell h.box (d _ h.b), h.row.keep k (d _ h.q), h.ne, h.q, h.b⟩

theorem LeastRow.set {lo : Nat} {w : World} {n B q : Nat} {f g : Nat → Nat} (h : LeastRow lo w n B q f) {i v : Nat} (hi : i < n) (hg : ∀ x, x < n → g x = if x = i then v else f x) : LeastRow lo (w.setCell ⟨q, i, none⟩ (.int .i64 v)) n B q g := by
  refine ⟨?_, ?_, h.ne, h.q, h.b⟩
  · exact (World.cell?_of_block (Below.heap_setCell w _ _ B (fun e => h.ne e.symm))).trans h.box
  · rw [fints_congr (g := upd f i v) (fun x hx => hg x hx), ← fints_set]
    exact h.row.set (by rw [fints_length]; exact hi) _

theorem LeastRow.congr {lo : Nat} {w : World} {n B q : Nat} {f g : Nat → Nat} (h : LeastRow lo w n B q f) (hg : ∀ x, x < n → g x = f x) : LeastRow lo w n B q g :=
  ⟨h.box, by rw [fints_congr hg]; exact h.row, h.ne, h.q, h.b⟩

/-- The closure that tells who is alike. -/
theorem alike_fn (lo : Nat) (w : World) (n B q : Nat) (L : Nat → Nat) (h : LeastRow lo w n B q L) (W : World) (hk : Keep Nb w W) (a b : Nat) (ha : a < n) (hb : b < n) (hn : n ≤ 40) :
    Calls Tryd.prog 16 #[.int .i64 a, .int .i64 b, .pointer (some ⟨B, 0, none⟩)] W fun e w' => e = .returned (.bool (decide (L a = L b))) ∧ Keep Nb W w' := by
  have h' := h.keep hk (fun _ _ e => e)
  have d0 := h'.box
  have d1 := h'.row.cell (fints_get L ha)
  have d2 := h'.row.cell (fints_get L hb)
  obtain ⟨x, hx⟩ : ∃ x, L a = x := ⟨_, rfl⟩
  obtain ⟨y, hy⟩ : ∃ y, L b = y := ⟨_, rfl⟩
  rw [hx] at d1
  rw [hy] at d2
  have he : ((x : Int) == (y : Int)) = decide (L a = L b) := by rw [hx, hy, Bool.eq_iff_iff, beq_iff_eq, decide_eq_true_eq]; omega
  obtain ⟨r, hr⟩ : ∃ r, decide (L a = L b) = r := ⟨_, rfl⟩
  rw [hr] at he ⊢
  clear h h' hx hy hr hk
  go_enter Tryd.func16, Tryd.ntmps16
  go_wp2_with fail
  go_quiet (fail)
  go_wp2_with fail
  go_ret
  exact ⟨rfl, (Keep.refl Nb W).drewN _⟩

set_option maxRecDepth 100000 in
theorem setsPlay_long (n : Int) (oa : Option Addr) (len cap : Nat) (h : 80 < len) (w : World) :
    Calls Tryd.prog 3 #[.int .i64 n, .slice oa len cap] w fun e w' => e = .returned (.bool true) ∧ Keep Nb w w' := by
  have h' : (80 : Int) < (len : Int) := by omega
  go_enter Tryd.func3, Tryd.ntmps3
  go_wp2_with fail
  go_ret
  exact ⟨rfl, Keep.refl _ _⟩

set_option maxRecDepth 100000 in
theorem setsPlay_none (n : Int) (hn : n < 0 ∨ 40 < n) (oa : Option Addr) (len cap : Nat) (h : len ≤ 80) (w : World) (hE : ErrT w) :
    Calls Tryd.prog 3 #[.int .i64 n, .slice oa len cap] w fun e w' => e = .returned (.bool true) ∧ Keep Nb w w' := by
  have h' : ¬ (80 : Int) < (len : Int) := by omega
  have hNE := Lib.hid (new_err n hn w)
  rcases hn with hn | hn
  · go_enter Tryd.func3, Tryd.ntmps3
    go_wp2_with (go_at_call 6; refine hNE.out.mono ?_; rintro e w1 ⟨rfl, rfl⟩)
    refine (lbare_any rangeV 2 2 rangeV_err _ hE).mono ?_
    rintro e w1 ⟨rfl, hk⟩
    go_wp2_with fail
    go_ret
    exact ⟨rfl, hk⟩
  · have h1 : ¬ n < 0 := by omega
    go_enter Tryd.func3, Tryd.ntmps3
    go_wp2_with (go_at_call 6; refine hNE.out.mono ?_; rintro e w1 ⟨rfl, rfl⟩)
    refine (lbare_any rangeV 2 2 rangeV_err _ hE).mono ?_
    rintro e w1 ⟨rfl, hk⟩
    go_wp2_with fail
    go_ret
    exact ⟨rfl, hk⟩

/-- What stands between two rounds. -/
def SpRel (w w1 : World) (n b B q : Nat) (L : Nat → Nat) (wr : World) : Prop :=
  Sets (Iv w.heap.size w1.heap.size) wr b n L ∧ LeastRow w1.heap.size wr n B q L ∧ Keep Nb w wr

/-- As SpRel, the joined sets and the list apart. -/
def SpIn (w w1 : World) (n b B q : Nat) (L L' : Nat → Nat) (wr : World) : Prop :=
  Sets (Iv w.heap.size w1.heap.size) wr b n L ∧ LeastRow w1.heap.size wr n B q L' ∧ Keep Nb w wr

theorem SpIn.same {w w1 wr w' : World} {n b B q : Nat} {L L' : Nat → Nat} (h : SpIn w w1 n b B q L L' wr) (k : Keep Nb wr w') : SpIn w w1 n b B q L L' w' :=
  ⟨h.1.lkeep k (fun _ _ e => e), h.2.1.keep k (fun _ _ e => e), h.2.2.trans k⟩

theorem SpIn.drewN {w w1 wr : World} {n b B q : Nat} {L L' : Nat → Nat} (h : SpIn w w1 n b B q L L' wr) (m : Nat) : SpIn w w1 n b B q L L' (wr.drewN m) :=
  h.same ((Keep.refl Nb wr).drewN m)

theorem SpIn.sets {w w1 wr w' : World} {n b B q : Nat} {L L2 L' : Nat → Nat} (h : SpIn w w1 n b B q L L' wr) (k : Keep (Iv w.heap.size w1.heap.size) wr w') (hS : Sets (Iv w.heap.size w1.heap.size) w' b n L2) : SpIn w w1 n b B q L2 L' w' :=
  ⟨hS, h.2.1.keep k (fun k h e => by unfold Iv at e; omega), h.2.2.trans' k (fun _ _ e => e) (fun k h e => by unfold Iv at e; omega)⟩

theorem SpIn.row {w w1 wr : World} {n b B q : Nat} {L L' L3 : Nat → Nat} (hz : w.heap.size ≤ w1.heap.size) (h : SpIn w w1 n b B q L L' wr) {i v : Nat} (hi : i < n) (hg : ∀ x, x < n → L3 x = if x = i then v else L' x) : SpIn w w1 n b B q L L3 (wr.setCell ⟨q, i, none⟩ (.int .i64 v)) := by
  have hq := h.2.1.q
  have k : Keep (fun k => w1.heap.size ≤ k) wr (wr.setCell ⟨q, i, none⟩ (.int .i64 v)) := (Keep.refl _ wr).setCell (.inl hq) _
  exact ⟨h.1.lkeep k (fun k hk e => by unfold Iv at hk; omega), h.2.1.set hi hg, h.2.2.trans' k (fun _ _ e => e) (fun k h1 e => by omega)⟩

theorem SpIn.congr {w w1 wr : World} {n b B q : Nat} {L L' L3 : Nat → Nat} (h : SpIn w w1 n b B q L L' wr) (hg : ∀ x, x < n → L3 x = L' x) : SpIn w w1 n b B q L L3 wr :=
  ⟨h.1, h.2.1.congr hg, h.2.2⟩

end Go.Proofs.YtkpoobnldgfapaaDoor
