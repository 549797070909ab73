/- isthmusref: rows of labels; the closures of Twice and Thrice. -/
import Derived.Test.YtkpoobnldgfapabGreatDoorE1
import Derived.Test.YtkpoobnldgfapabGreatDoorRPartsZ
import Derived.Test.YtkpoobnldgfapabGreatDoorD2
import Derived.Test.YtkpoobnldgfapabGreatDoorA6
import Derived.Deep.LoopGhost
import Derived.Deep.QuietTactic
import Derived.BigQuiet
set_option linter.unusedVariables false
set_option linter.unusedSimpArgs false
namespace Go.Proofs.YtkpoobnldgfapabGreatDoor
open Go.RowKit Pl

/-- Rows of labels, one behind the other. -/
def LRows (F : Nat → Prop) (w : World) (n : Nat) (o : Option Addr) (m c : Nat) (fs : List (Nat → Nat)) : Prop :=
  fs.length = m ∧ ∃ rw_ f, (∀ i L, fs[i]? = some L → f i = (List.range n).map L) ∧ MatR F w 33 3 o m c rw_ f

theorem LRows.nil (F : Nat → Prop) (w : World) (n : Nat) : LRows F w n none 0 0 [] := ⟨rfl, fun _ => ⟨none, 0, 0⟩, fun _ => [], fun _ _ h => by simp at h, MatR.nil _ _ _ _ _ _⟩
theorem LRows.keep {F G : Nat → Prop} {w w' : World} {n : Nat} {o : Option Addr} {m c : Nat} {fs : List (Nat → Nat)} (h : LRows F w n o m c fs) (k : Keep G w w') (d : ∀ k, F k → ¬ G k) : LRows F w' n o m c fs := by
  obtain ⟨h1, a, b, h2, h3⟩ := h
  exact ⟨h1, a, b, h2, h3.keep k d⟩
theorem LRows.mono {F G : Nat → Prop} {w : World} {n : Nat} {o : Option Addr} {m c : Nat} {fs : List (Nat → Nat)} (h : LRows F w n o m c fs) (d : ∀ k, F k → G k) : LRows G w n o m c fs := by
  obtain ⟨h1, a, b, h2, h3⟩ := h
  exact ⟨h1, a, b, h2, h3.mono d⟩
theorem LRows.tight {F : Nat → Prop} {w : World} {n : Nat} {o : Option Addr} {m c : Nat} {fs : List (Nat → Nat)} (h : LRows F w n o m c fs) : LRows (fun k => F k ∧ k < w.heap.size) w n o m c fs := by
  obtain ⟨h1, a, b, h2, h3⟩ := h
  exact ⟨h1, a, b, h2, h3.tight⟩

/-- One row's header, and the row. -/
theorem LRows.at {F : Nat → Prop} {w : World} {n : Nat} {o : Option Addr} {m c : Nat} {fs : List (Nat → Nat)} (h : LRows F w n o m c fs) {i : Nat} {L : Nat → Nat} (hL : fs[i]? = some L) :
    ∃ (go : Nat) (oq : Option Addr) (cq : Nat), o = some ⟨go, 0, none⟩ ∧ m ≤ c ∧ w.cell? ⟨go, i, none⟩ = some (.slice oq n cq) ∧ Sl F w 3 1 oq n cq (fints n L) := by
  obtain ⟨h1, a, b, h2, h3⟩ := h
  have hi : i < m := by rw [← h1]; exact (List.getElem?_eq_some_iff.1 hL).1
  obtain ⟨go, q1, q2, _, q3⟩ := h3.cell hi
  have hr := h3.row i hi
  have hb := h2 i L hL
  rw [hb] at q3 hr
  simp only [List.length_map, List.length_range] at q3 hr
  exact ⟨go, _, _, q1, q2, q3, hr⟩

/-- One row more: it has just been made. -/
theorem LRows.push {F : Nat → Prop} {w w' : World} {n m c g c' cq : Nat} {o oq : Option Addr} {fs : List (Nat → Nat)} {L : Nat → Nat} (h : LRows F w n o m c fs) (hr : Sl F w 3 1 oq n cq (fints n L)) (hne : ∀ a, oq = some a → ¬ Bl o a.block) (hF : F (w.heap.size + 1))
    (hS : ∀ l, (∀ rw_ f, MatR F w 33 3 o m c rw_ f → l = (List.range m).map (fun i => (rw_ i).val) → Sl (fun k => F k ∨ k = w.heap.size + 1) w' 33 1 (some ⟨g, 0, none⟩) (m + 1) c' (l ++ [.slice oq n cq]))) (hk : Keep (Bl o) w w') (hg : o = some ⟨g, 0, none⟩ ∨ g = w.heap.size + 1) :
    LRows F w' n (some ⟨g, 0, none⟩) (m + 1) c' (fs ++ [L]) := by
  obtain ⟨h1, a, b, h2, h3⟩ := h
  refine ⟨by rw [List.length_append, h1]; rfl, _, _, fun i L' hi => ?_, h3.push (l := (List.range n).map L) (by simp) hr hne (hS _ a b h3 rfl) hk hg hF⟩
  by_cases e : i = m
  · subst e
    simp only [if_pos rfl]
    rw [List.getElem?_append_right (by omega), h1, Nat.sub_self] at hi
    simp at hi; rw [hi]; simp
  · simp only [if_neg e]
    have hlt : i < m := by
      have := (List.getElem?_eq_some_iff.1 hi).1
      rw [List.length_append, h1] at this
      simp at this; omega
    rw [List.getElem?_append_left (by omega)] at hi
    exact h2 i L' hi

set_option maxRecDepth 100000 in
set_option maxHeartbeats 2000000 in
theorem rthrice1_any (F : Nat → Prop) (w : World) (A n m c a b : Nat) (o : Option Addr) (fs : List (Nat → Nat)) (hA : w.cell? ⟨A, 0, none⟩ = some (.slice o m c)) (hL : LRows F w n o m c fs) (hm : m ≤ 20000) (ha : a < n) (hb : b < n) (hn : n ≤ 40) :
    Calls Tryz.prog 87 #[.int .i64 (a : Nat), .int .i64 (b : Nat), .pointer (some ⟨A, 0, none⟩)] w fun e w' => e = .returned (.bool (decide (∀ f, f ∈ fs → f a = f b))) ∧ Keep Nb w w' := by
  have HL := Lib.hid hL
  have hml : fs.length = m := hL.1
  have HML := Lib.hid hml
  clear hL hml
  go_enter Tryz.func87, Tryz.ntmps87
  go_wp2_with fail
  go_loopg [10] m (fun kx s wr => ∃ i : Nat, s = .int .i64 i ∧ i ≤ m ∧ m - i ≤ kx ∧ Hid (Keep Nb w wr ∧ ∀ f, f ∈ fs.take i → f a = f b))
  case atStart => exact ⟨0, rfl, Nat.zero_le _, by omega, Lib.hid ⟨Keep.refl _ _, fun f hf => by simp at hf⟩⟩
  case round =>
    obtain ⟨i, rfl, hi, hg, HR⟩ := hrel
    by_cases hlt : i < m
    · obtain ⟨L, hy⟩ : ∃ L, fs[i]? = some L := ⟨_, List.getElem?_eq_getElem (by rw [HML.out]; exact hlt)⟩
      obtain ⟨go, oq, cq, rfl, hmc, d0, hr⟩ := (HL.out.keep HR.out.1 (fun _ _ e => e)).at hy
      obtain ⟨gq, rfl, _, hnc, hrow⟩ := hr.pos (by omega)
      have d1 := hrow.cell (fints_get L ha)
      have d2 := hrow.cell (fints_get L hb)
      have HY : Hid (fs.take (i + 1) = fs.take i ++ [L] ∧ L ∈ fs) := Lib.hid ⟨by rw [List.take_add_one, hy]; rfl, List.mem_of_getElem? hy⟩
      obtain ⟨p, hp⟩ : ∃ p, L a = p := ⟨_, rfl⟩
      obtain ⟨r, hr'⟩ : ∃ r, L b = r := ⟨_, rfl⟩
      have HPR : Hid (L a = p ∧ L b = r) := Lib.hid ⟨hp, hr'⟩
      rw [hp] at d1
      rw [hr'] at d2
      clear hr hrow hy hp hr'
      by_cases hpr : p = r
      · subst hpr
        have b1 : ((p : Int) != (p : Int)) = false := by simp
        go_wp2_with fail
        go_quiet (fail)
        go_wp2_with fail
        go_roundg (m - (i + 1))
        case measure => omega
        case rel => exact ⟨i + 1, by go_num, by omega, Nat.le_refl _, Lib.hid ⟨HR.out.1.drewN _, fun f hf => by
          rw [HY.out.1] at hf
          rcases List.mem_append.1 hf with h | h
          · exact HR.out.2 f h
          · rw [List.mem_singleton.1 h, HPR.out.1, HPR.out.2]⟩⟩
      · have b1 : ((p : Int) != (r : Int)) = true := by rw [bne_iff_ne]; omega
        have HF : Hid (decide (∀ f, f ∈ fs → f a = f b) = false) := Lib.hid (by
          rw [decide_eq_false_iff_not]
          intro h
          have := h L HY.out.2
          rw [HPR.out.1, HPR.out.2] at this
          exact hpr this)
        clear hpr
        go_wp2_with fail
        go_quiet (fail)
        go_wp2_with fail
        go_ret
        exact ⟨by rw [HF.out]; rfl, HR.out.1.drewN _⟩
    · obtain rfl : i = m := by omega
      have HF : Hid (decide (∀ f, f ∈ fs → f a = f b) = true) := Lib.hid (by
        rw [decide_eq_true_eq]
        have := HR.out.2
        rwa [← HML.out, List.take_length] at this)
      go_wp2_with fail
      go_ret
      exact ⟨by rw [HF.out]; rfl, HR.out.1⟩

set_option maxRecDepth 100000 in
set_option maxHeartbeats 2000000 in
theorem rtwice1_any (F : Nat → Prop) (w : World) (A n m c a b : Nat) (o : Option Addr) (fs : List (Nat → Nat)) (hA : w.cell? ⟨A, 0, none⟩ = some (.slice o m c)) (hL : LRows F w n o m c fs) (hm : m ≤ 20000) (ha : a < n) (hb : b < n) (hn : n ≤ 40) :
    Calls Tryz.prog 101 #[.int .i64 (a : Nat), .int .i64 (b : Nat), .pointer (some ⟨A, 0, none⟩)] w fun e w' => e = .returned (.bool (decide (∀ f, f ∈ fs → f a = f b))) ∧ Keep Nb w w' := by
  have HL := Lib.hid hL
  have hml : fs.length = m := hL.1
  have HML := Lib.hid hml
  clear hL hml
  go_enter Tryz.func101, Tryz.ntmps101
  go_wp2_with fail
  go_loopg [10] m (fun kx s wr => ∃ i : Nat, s = .int .i64 i ∧ i ≤ m ∧ m - i ≤ kx ∧ Hid (Keep Nb w wr ∧ ∀ f, f ∈ fs.take i → f a = f b))
  case atStart => exact ⟨0, rfl, Nat.zero_le _, by omega, Lib.hid ⟨Keep.refl _ _, fun f hf => by simp at hf⟩⟩
  case round =>
    obtain ⟨i, rfl, hi, hg, HR⟩ := hrel
    by_cases hlt : i < m
    · obtain ⟨L, hy⟩ : ∃ L, fs[i]? = some L := ⟨_, List.getElem?_eq_getElem (by rw [HML.out]; exact hlt)⟩
      obtain ⟨go, oq, cq, rfl, hmc, d0, hr⟩ := (HL.out.keep HR.out.1 (fun _ _ e => e)).at hy
      obtain ⟨gq, rfl, _, hnc, hrow⟩ := hr.pos (by omega)
      have d1 := hrow.cell (fints_get L ha)
      have d2 := hrow.cell (fints_get L hb)
      have HY : Hid (fs.take (i + 1) = fs.take i ++ [L] ∧ L ∈ fs) := Lib.hid ⟨by rw [List.take_add_one, hy]; rfl, List.mem_of_getElem? hy⟩
      obtain ⟨p, hp⟩ : ∃ p, L a = p := ⟨_, rfl⟩
      obtain ⟨r, hr'⟩ : ∃ r, L b = r := ⟨_, rfl⟩
      have HPR : Hid (L a = p ∧ L b = r) := Lib.hid ⟨hp, hr'⟩
      rw [hp] at d1
      rw [hr'] at d2
      clear hr hrow hy hp hr'
      by_cases hpr : p = r
      · subst hpr
        have b1 : ((p : Int) != (p : Int)) = false := by simp
        go_wp2_with fail
        go_quiet (fail)
        go_wp2_with fail
        go_roundg (m - (i + 1))
        case measure => omega
        case rel => exact ⟨i + 1, by go_num, by omega, Nat.le_refl _, Lib.hid ⟨HR.out.1.drewN _, fun f hf => by
          rw [HY.out.1] at hf
          rcases List.mem_append.1 hf with h | h
          · exact HR.out.2 f h
          · rw [List.mem_singleton.1 h, HPR.out.1, HPR.out.2]⟩⟩
      · have b1 : ((p : Int) != (r : Int)) = true := by rw [bne_iff_ne]; omega
        have HF : Hid (decide (∀ f, f ∈ fs → f a = f b) = false) := Lib.hid (by
          rw [decide_eq_false_iff_not]
          intro h
          have := h L HY.out.2
          rw [HPR.out.1, HPR.out.2] at this
          exact hpr this)
        clear hpr
        go_wp2_with fail
        go_quiet (fail)
        go_wp2_with fail
        go_ret
        exact ⟨by rw [HF.out]; rfl, HR.out.1.drewN _⟩
    · obtain rfl : i = m := by omega
      have HF : Hid (decide (∀ f, f ∈ fs → f a = f b) = true) := Lib.hid (by
        rw [decide_eq_true_eq]
        have := HR.out.2
        rwa [← HML.out, List.take_length] at this)
      go_wp2_with fail
      go_ret
      exact ⟨by rw [HF.out]; rfl, HR.out.1⟩

end Go.Proofs.YtkpoobnldgfapabGreatDoor
