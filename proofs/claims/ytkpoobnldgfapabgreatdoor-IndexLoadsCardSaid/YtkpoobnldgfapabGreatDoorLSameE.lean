/- isthmuslaw: sameEdges of two that are the same. -/
import Derived.Test.YtkpoobnldgfapabGreatDoorA5
import Derived.Deep.QuietTactic
import Derived.BigQuiet
set_option linter.unusedVariables false
set_option linter.unusedSimpArgs false
namespace Go.Proofs.YtkpoobnldgfapabGreatDoor
open Go.RowKit Pl

set_option maxRecDepth 100000 in
set_option maxHeartbeats 1000000 in
theorem sameE_q (F F' : Nat → Prop) (w : World) (o o' : Option Addr) (n c c' : Nat) (l : List E) (hl : l.length = n) (hS : Sl F w 42 3 o n c (ecs l)) (hS' : Sl F' w 42 3 o' n c' (ecs l)) (hn : n ≤ 100000) :
    Calls Tryz.prog 48 #[.slice o n c, .slice o' n c'] w fun e w' => e = .returned (.bool true) ∧ ∃ m, w' = w.drewN m := by
  have HL := Lib.hid hl
  have HS := Lib.hid hS
  have HS' := Lib.hid hS'
  have hne : ((n : Int) != (n : Int)) = false := by simp
  clear hS hS' hl
  go_enter Tryz.func48, Tryz.ntmps48
  go_wp2_with fail
  go_loopg [5] n (fun kx s wr => ∃ i : Nat, s = .int .i64 i ∧ i ≤ n ∧ n - i ≤ kx ∧ Hid (∃ m, wr = w.drewN m))
  case atStart => exact ⟨0, rfl, Nat.zero_le _, by omega, Lib.hid ⟨0, rfl⟩⟩
  case round =>
    obtain ⟨i, rfl, hi, hg, HK⟩ := hrel
    obtain ⟨m, hm⟩ := HK.out
    have HKM := Lib.hid hm
    have hkw : Keep Nb w wr := by rw [hm]; exact (Keep.refl Nb w).drewN m
    by_cases hlt : i < n
    · obtain ⟨g, rfl, _, hnc, hrow⟩ := (HS.out.keep hkw (fun _ _ e => e)).pos (by omega)
      obtain ⟨g', rfl, _, hnc', hrow'⟩ := (HS'.out.keep hkw (fun _ _ e => e)).pos (by omega)
      have hy := List.getElem?_eq_getElem (l := l) (i := i) (by rw [HL.out]; exact hlt)
      generalize l[i]'(by rw [HL.out]; exact hlt) = p at hy
      have d1 := hrow.edges.id _ _ hy
      have d2 := hrow.edges.a _ _ hy
      have d3 := hrow.edges.b _ _ hy
      have e1 := hrow'.edges.id _ _ hy
      have e2 := hrow'.edges.a _ _ hy
      have e3 := hrow'.edges.b _ _ hy
      clear hy hrow hrow' hm hkw
      go_wp2_with fail
      go_quiet (fail)
      go_wp2_with fail
      go_roundg (n - (i + 1))
      case measure => omega
      case rel => exact ⟨i + 1, rfl, by omega, Nat.le_refl _, Lib.hid ⟨m + nq, by rw [HKM.out, World.drewN_drewN]⟩⟩
    · clear hm hkw
      go_wp2_with fail
      go_ret
      exact ⟨rfl, HK.out⟩

end Go.Proofs.YtkpoobnldgfapabGreatDoor
