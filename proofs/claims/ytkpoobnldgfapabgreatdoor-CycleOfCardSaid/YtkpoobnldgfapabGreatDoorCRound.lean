/- isthmuslaw: CycleOf's closure: does a ring go round an edge? -/
import Derived.Test.YtkpoobnldgfapabGreatDoorRRings
set_option linter.unusedVariables false
set_option linter.unusedSimpArgs false
namespace Go.Proofs.YtkpoobnldgfapabGreatDoor
open Go.RowKit Pl

set_option maxRecDepth 100000 in
set_option maxHeartbeats 1000000 in
theorem cround_any (F : Nat → Prop) (w : World) (A id k m c : Nat) (o : Option Addr) (ll : List (List Nat)) (l : List Nat) (hA : w.cell? ⟨A, 0, none⟩ = some (.slice o m c)) (hL : NRows F w o m c ll) (hl : ll[k]? = some l) (hn : l.length ≤ 1000) (hk : k ≤ 1000) :
    Calls Tryz.prog 25 #[.int .i64 (id : Nat), .int .i64 (k : Nat), .pointer (some ⟨A, 0, none⟩)] w fun e w' => e = .returned (.bool (decide (id ∈ l))) ∧ w' = w := by
  obtain ⟨go, oq, cq, rfl, hmc, d0, hr⟩ := hL.at hl
  have hkm : k < m := by rw [← hL.1]; exact (List.getElem?_eq_some_iff.1 hl).1
  have HR := Lib.hid hr
  obtain ⟨n, hn'⟩ : ∃ n, l.length = n := ⟨_, rfl⟩
  have HN := Lib.hid hn'
  rw [hn'] at d0 hn
  clear hL hl hr hn'
  go_enter Tryz.func25, Tryz.ntmps25
  go_wp2_with fail
  go_loopg [6] n (fun kx s wr => ∃ i : Nat, s = .int .i64 i ∧ i ≤ n ∧ n - i ≤ kx ∧ Hid (id ∉ l.take i) ∧ wr = w)
  case atStart => exact ⟨0, rfl, Nat.zero_le _, by omega, Lib.hid (by simp), rfl⟩
  case round =>
    obtain ⟨i, rfl, hi, hg, HI, rfl⟩ := hrel
    by_cases hlt : i < n
    · obtain ⟨x, hx⟩ : ∃ x, l[i]? = some x := ⟨_, List.getElem?_eq_getElem (by rw [HN.out]; exact hlt)⟩
      have hr2 := HR.out
      rw [HN.out] at hr2
      obtain ⟨gq, rfl, _, hnc, hrow⟩ := hr2.pos (by omega)
      have d1 := hrow.cell (ints_get hx)
      have HX : Hid (l.take (i + 1) = l.take i ++ [x] ∧ x ∈ l) := Lib.hid ⟨by rw [List.take_add_one, hx]; rfl, List.mem_of_getElem? hx⟩
      clear hr2 hrow hx
      by_cases hxi : x = id
      · subst hxi
        have HD : Hid (decide (x ∈ l) = true) := Lib.hid (decide_eq_true HX.out.2)
        go_wp2_with fail
        go_ret
        exact ⟨by rw [HD.out]; rfl, rfl⟩
      · have b1 : ((x : Int) == (id : Int)) = false := by simp; omega
        have HNI : Hid (id ∉ l.take (i + 1)) := Lib.hid (by
          rw [HX.out.1, List.mem_append, List.mem_singleton]
          rintro (h | h)
          · exact HI.out h
          · exact hxi h.symm)
        clear hxi HX HI
        go_wp2_with fail
        go_roundg (n - (i + 1))
        case measure => omega
        case rel => exact ⟨i + 1, by go_num, by omega, Nat.le_refl _, HNI, rfl⟩
    · obtain rfl : i = n := by omega
      have HD : Hid (decide (id ∈ l) = false) := Lib.hid (decide_eq_false (by have := HI.out; rwa [← HN.out, List.take_length] at this))
      clear HI
      go_wp2_with fail
      go_ret
      exact ⟨by rw [HD.out]; rfl, rfl⟩

end Go.Proofs.YtkpoobnldgfapabGreatDoor
