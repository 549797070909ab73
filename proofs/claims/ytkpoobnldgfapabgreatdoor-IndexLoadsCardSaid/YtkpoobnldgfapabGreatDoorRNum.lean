/- isthmusref: Number. -/
import Derived.Test.YtkpoobnldgfapabGreatDoorStrKit
import Derived.Test.YtkpoobnldgfapabGreatDoorPlText
set_option linter.unusedVariables false
set_option linter.unusedSimpArgs false
namespace Go.Proofs.YtkpoobnldgfapabGreatDoor
open Go.RowKit Pl

/-- A number, written as it is written. -/
def numT (l : List UInt8) : Option Int := match Lib.parseIntB 64 l with
  | .ok v => if Lib.itoa v = l then some v else none
  | _ => none

theorem pb64 {l : List UInt8} {v : Int} (h : Lib.parseIntB 64 l = .ok v) : -9223372036854775808 ≤ v ∧ v < 9223372036854775808 := by
  have := Lib.parseIntB_bounds h
  simpa using this

theorem numT_some {l : List UInt8} {v : Int} (h : numT l = some v) : Lib.itoa v = l ∧ -9223372036854775808 ≤ v ∧ v ≤ 9223372036854775807 := by
  unfold numT at h
  cases hp : Lib.parseIntB 64 l with
  | ok u =>
    rw [hp] at h
    have hb := pb64 hp
    simp only at h
    split at h
    · cases h
      rename_i hh
      refine ⟨hh, ?_⟩
      omega
    · cases h
  | «syntax» => rw [hp] at h; cases h
  | range => rw [hp] at h; cases h

theorem slist (s : ByteArray) : s.toList = s.data.toList := by first | exact ByteArray.toList_eq s | exact Go.ByteArray.toList_eq s

theorem list_beq (l : List UInt8) (s : ByteArray) : (l == s.toList) = decide (l = s.data.toList) := by
  rw [slist, Bool.eq_iff_iff, beq_iff_eq, decide_eq_true_eq]

set_option maxRecDepth 100000 in
set_option maxHeartbeats 2000000 in
theorem rnumber_any (w : World) (hL : LibW w) (s : ByteArray) (hs : s.size ≤ 100000000) :
    Calls Tryz.prog 110 #[.string s] w fun e w' => e = .returned (.tuple #[.int .i64 ((numT s.data.toList).getD 0), .bool (numT s.data.toList).isSome]) ∧ Keep Nb w w' := by
  have HL := Lib.hid hL
  have HP := Lib.hid (parseInt_any w hL s (by omega))
  clear hL
  go_enter Tryz.func110, Tryz.ntmps110
  go_wp2_with fail
  refine HP.out.mono ?_
  rintro e1 w1 ⟨⟨v, ⟨hp, rfl⟩ | ⟨hno, t, p, rfl⟩⟩, hk1⟩
  · have hb := pb64 hp
    have HK := Lib.hid hk1
    have HF := Lib.hid (formatInt_any w1 (HL.out.keep hk1) v (by omega) (by omega))
    have hv : numT s.data.toList = if Lib.itoa v = s.data.toList then some v else none := by unfold numT; rw [hp]
    have HV := Lib.hid hv
    clear hk1 hv hp HP
    go_wp2_with fail
    refine HF.out.mono ?_
    rintro e1 w2 ⟨rfl, hk2⟩
    have HK2 := Lib.hid (HK.out.trans hk2)
    have hbe := list_beq (Lib.itoa v) s
    by_cases h : Lib.itoa v = s.data.toList
    · rw [decide_eq_true h] at hbe
      have HE := Lib.hid h
      clear h hk2 HF
      go_wp2_with fail
      go_ret2
      rw [HV.out, if_pos HE.out]
      exact ⟨rfl, HK2.out⟩
    · rw [decide_eq_false h] at hbe
      have HE := Lib.hid h
      clear h hk2 HF
      go_wp2_with fail
      go_ret2
      rw [HV.out, if_neg HE.out]
      exact ⟨rfl, HK2.out⟩
  · have hv : numT s.data.toList = none := by
      unfold numT
      cases hp : Lib.parseIntB 64 s.data.toList with
      | ok u => exact absurd hp (hno u)
      | «syntax» => rfl
      | range => rfl
    have HV := Lib.hid hv
    have HK := Lib.hid hk1
    clear hv hno hk1
    go_wp2_with fail
    go_ret2
    rw [HV.out]
    exact ⟨rfl, HK.out⟩

end Go.Proofs.YtkpoobnldgfapabGreatDoor
