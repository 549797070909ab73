/- isthmusref: Without. -/
import Derived.Test.YtkpoobnldgfapabGreatDoorRGraph2
set_option linter.unusedVariables false
set_option linter.unusedSimpArgs false
namespace Go.Proofs.YtkpoobnldgfapabGreatDoor
open Go.RowKit Pl

set_option maxRecDepth 100000 in
theorem has_any (F : Nat → Prop) (w : World) (o : Option Addr) (c : Nat) (l : List Nat) (x : Nat) (r : Bool) (hr : r = decide (x ∈ l)) (hS : Sl F w 3 1 o l.length c (ints l)) (hl : l.length ≤ 1000) :
    Calls Tryz.prog 141 #[.slice o l.length c, .int .i64 x] w fun e w' => e = .returned (.bool r) ∧ w = w' := by
  have HS := Lib.hid hS
  have HR := Lib.hid hr
  clear hS hr
  go_enter Tryz.func141, Tryz.ntmps141
  go_wp2_with fail
  go_loopg [9] l.length (fun kx s wr => ∃ i : Nat, s = .int .i64 i ∧ i ≤ l.length ∧ l.length - i ≤ kx ∧ w = wr ∧ Hid (∀ (k y : Nat), k < i → l[k]? = some y → y ≠ x))
  case atStart => exact ⟨0, rfl, Nat.zero_le _, by omega, rfl, Lib.hid fun k y hk => absurd hk (by omega)⟩
  case round =>
    obtain ⟨i, rfl, hi, hg, rfl, HI⟩ := hrel
    by_cases hlt : i < l.length
    · obtain ⟨g, rfl, _, hnc, hrow⟩ := HS.out.pos (by omega)
      have hy := List.getElem?_eq_getElem hlt
      generalize l[i]'hlt = y at hy
      have d1 := hrow.cell (ints_get hy)
      have HY := Lib.hid hy
      clear hy hrow
      by_cases e : x = y
      · have e2 : ((x : Int) == (y : Int)) = true := by simp; omega
        have hr2 : r = true := by rw [HR.out, decide_eq_true_eq, e]; exact List.mem_of_getElem? HY.out
        clear e HR
        subst hr2
        go_wp2_with fail
        go_ret
        exact ⟨rfl, rfl⟩
      · have e2 : ((x : Int) == (y : Int)) = false := by simp; omega
        have HN : Hid (∀ (k y : Nat), k < i + 1 → l[k]? = some y → y ≠ x) := Lib.hid fun k z hk hz => by
          by_cases hki : k = i
          · subst hki; rw [HY.out] at hz; cases hz; exact fun h => e h.symm
          · exact HI.out k z (by omega) hz
        clear e
        go_wp2_with fail
        go_roundg (l.length - (i + 1))
        case measure => omega
        case rel => exact ⟨i + 1, rfl, by omega, Nat.le_refl _, rfl, HN⟩
    · have hr2 : r = false := by
        rw [HR.out, decide_eq_false_iff_not]
        intro hm
        obtain ⟨k, hk⟩ := List.mem_iff_getElem?.1 hm
        exact HI.out k x (by have := (List.getElem?_eq_some_iff.1 hk).1; omega) hk rfl
      clear HR
      subst hr2
      go_wp2_with fail
      go_ret
      exact ⟨rfl, rfl⟩

end Go.Proofs.YtkpoobnldgfapabGreatDoor
