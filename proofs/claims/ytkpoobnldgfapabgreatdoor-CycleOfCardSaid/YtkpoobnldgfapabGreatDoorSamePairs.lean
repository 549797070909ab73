/- isthmuslaw: samePairs of two that are the same. -/
import Derived.Test.YtkpoobnldgfapabGreatDoorA6
import Derived.Deep.RegionHeld3
import Derived.RegionTactic
import Derived.ChangeAlike
set_option linter.unusedVariables false
set_option linter.unusedSimpArgs false
namespace Go.Proofs.YtkpoobnldgfapabGreatDoor
open Go.RowKit

set_option maxRecDepth 100000 in
set_option maxHeartbeats 1000000 in
theorem samePairs_any (F : Nat → Prop) (w : World) (o o' : Option Addr) (c c' : Nat) (l : List (Nat × Nat)) (hS : Sl F w 58 2 o l.length c (pcs l)) (hS' : Sl F w 58 2 o' l.length c' (pcs l)) (hn : l.length ≤ 100000) :
    Calls Tryz.prog 18 #[.slice o l.length c, .slice o' l.length c'] w fun e w' => e = .returned (.bool true) ∧ Keep Nb w w' := by
  have HS := Lib.hid hS
  have HS' := Lib.hid hS'
  have hne : ((l.length : Int) != (l.length : Int)) = false := by simp
  clear hS hS'
  go_enter Tryz.func18, Tryz.ntmps18
  go_wp2_with fail
  go_loopg [5] l.length (fun kx s wr => ∃ i : Nat, s = .int .i64 i ∧ i ≤ l.length ∧ l.length - i ≤ kx ∧ Hid (Keep Nb w wr))
  case atStart => exact ⟨0, rfl, Nat.zero_le _, by omega, Lib.hid (Keep.refl _ _)⟩
  case round =>
    obtain ⟨i, rfl, hi, hg, HK⟩ := hrel
    by_cases hlt : i < l.length
    · obtain ⟨g, rfl, _, hnc, _⟩ := HS.out.pos (by omega)
      obtain ⟨g', rfl, _, hnc', _⟩ := HS'.out.pos (by omega)
      have hy := List.getElem?_eq_getElem hlt
      generalize l[i]'hlt = p at hy
      obtain ⟨a1, a2⟩ := (HS.out.keep HK.out (fun _ _ e => e)).pairs hy
      obtain ⟨b1, b2⟩ := (HS'.out.keep HK.out (fun _ _ e => e)).pairs hy
      clear hy
      go_wp2_with fail
      go_region
      all_goals
        go_wp2_with fail
        go_roundg (l.length - (i + 1))
        case measure => omega
        case rel => exact ⟨i + 1, rfl, by omega, Nat.le_refl _, Lib.hid (HK.out.drewN _)⟩
    · go_wp2_with fail
      go_ret
      exact ⟨rfl, HK.out⟩

end Go.Proofs.YtkpoobnldgfapabGreatDoor
