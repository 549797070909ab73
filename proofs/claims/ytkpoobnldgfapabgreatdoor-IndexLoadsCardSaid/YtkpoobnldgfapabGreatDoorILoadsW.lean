/- isthmuslaw: IndexLoads, the walk. -/
import Derived.Test.YtkpoobnldgfapabGreatDoorILoad
import Derived.Test.YtkpoobnldgfapabGreatDoorRLoad
import Derived.Test.YtkpoobnldgfapabGreatDoorLSameE
import Derived.Test.YtkpoobnldgfapabGreatDoorRSort
import Derived.Test.YtkpoobnldgfapabGreatDoorRBr
import Derived.Test.YtkpoobnldgfapabGreatDoorAsErr
set_option linter.unusedVariables false
set_option linter.unusedSimpArgs false
namespace Go.Proofs.YtkpoobnldgfapabGreatDoor
open Go.RowKit Pl

set_option maxRecDepth 100000 in
theorem indexloads_long (s : ByteArray) (hs : 1500 < s.size) (w : World) :
    Calls Tryz.prog 6 #[.string s] w fun e w' => e = .returned (.bool true) ∧ Keep Nb w w' := by
  have h1 : (1500 : Int) < (s.size : Int) := by omega
  go_enter Tryz.func6, Tryz.ntmps6
  go_wp2_with fail
  go_ret
  exact ⟨rfl, Keep.refl _ _⟩

set_option maxRecDepth 100000 in
set_option maxHeartbeats 4000000 in
theorem indexloads_any (s : List UInt8) (hs : s.length ≤ 1500) (w : World) (hL : LibW w) :
    Calls Tryz.prog 6 #[.string (bstr s)] w fun e w' => e = .returned (.bool true) ∧ Keep Nb w w' := by
  have HL := Lib.hid hL
  have h1 : ¬ (1500 : Int) < (s.length : Int) := by omega
  have HRL := Lib.hid (rload_any w hL s (by omega))
  have hsl : s.length ≤ 100000 := by omega
  clear hL hs
  go_enter Tryz.func6, Tryz.ntmps6
  go_wp2_with fail
  refine HRL.out.mono ?_
  rintro e w1 ⟨hk1, ⟨gb, n, fs, es, rfl, hrd, hp, hso, hsv, hG⟩ | ⟨rfl, hno⟩⟩
  · have HK1 := Lib.hid hk1
    have HRD := Lib.hid (And.intro hrd (And.intro hp (And.intro hso hsv)))
    have HG := Lib.hid hG
    have HIL := Lib.hid (iload_any w1 (HL.out.keep hk1) s hsl)
    clear hk1 hrd hp hso hsv hG HRL
    go_wp2_with fail
    refine HIL.out.mono ?_
    rintro e w2 ⟨hk2, ⟨xb, n', es', rfl, hld, hsv', hI, hX⟩ | ⟨rfl, hno⟩⟩
    · obtain ⟨rfl, rfl⟩ := both_load hI.n40 hI.ok.sorted hld hsv' HRD.out.1 HRD.out.2.1 HRD.out.2.2.1
      have HK2 := Lib.hid hk2
      have HI := Lib.hid hI
      have HX := Lib.hid hX
      have HB := Lib.hid (lbare_any .nilIface 0 0 rfl w2 ((HL.out.keep (HK1.out.trans hk2)).err))
      clear hk2 hld hsv' hI hX HIL
      go_wp2_with fail
      refine HB.out.mono ?_
      rintro e w3 ⟨rfl, hk3⟩
      have HK3 := Lib.hid hk3
      have HED := Lib.hid (iedges_any _ w3 xb n es _ _ _ (HX.out.keep hk3 (fun _ _ e => e)) (by have := HI.out.le; omega))
      clear hk3 HB
      go_wp2_with fail
      refine HED.out.mono ?_
      rintro e w4 ⟨o4, c4, rfl, hS4, hk4⟩
      have HS4 := Lib.hid hS4
      have HK4 := Lib.hid hk4
      have HRS := Lib.hid (rsorted_any _ w4 gb n fs (((HG.out.keep HK2.out (fun _ _ e => e)).keep HK3.out (fun _ _ e => e)).keep hk4 (fun _ _ e => e)) (by have := HRD.out.2.1.length_eq; have := HI.out.le; omega))
      clear hS4 hk4 HED
      go_wp2_with fail
      refine HRS.out.mono ?_
      rintro e w5 ⟨ds, o5, c5, rfl, hp5, hs5, hS5, hk5⟩
      obtain rfl := sorted_of HRD.out.2.2.1 HRD.out.2.1 hp5 hs5
      obtain ⟨m, hm⟩ : ∃ m, ds.length = m := ⟨_, rfl⟩
      have hm' : fs.length = m := by rw [← HRD.out.2.1.length_eq]; exact hm
      rw [hm'] at hS5 ⊢
      rw [hm] at HS4 ⊢
      have hle := HI.out.le
      have HSE := Lib.hid (sameE_q _ _ w5 o4 o5 m c4 c5 ds hm (HS4.out.keep hk5 (fun _ _ e => e)) hS5 (by omega))
      have HK5 := Lib.hid hk5
      clear hp5 hs5 hS5 hk5 hm hm' HRS
      go_wp2_with fail
      refine HSE.out.mono ?_
      rintro e w6 ⟨rfl, mm, rfl⟩
      have HK6 : Hid (Keep Nb w (w5.drewN mm)) := Lib.hid ((HK1.out.trans (HK2.out.trans (HK3.out.trans (HK4.out.trans HK5.out)))).drewN mm)
      have HSV : Hid (Calls Tryz.prog 50 #[.pointer (some ⟨xb, 0, none⟩)] (w5.drewN mm) fun e w' => e = .returned (.string (bstr s)) ∧ Keep Nb (w5.drewN mm) w') := Lib.hid (by
        obtain ⟨gb', bb, Fg, Fb, fs', x1, x2, -⟩ := HX.out.keep (HK3.out.trans (HK4.out.trans (HK5.out.drewN mm))) (fun _ _ e => e)
        have h := isaved_any Fg (w5.drewN mm) xb gb' n ds _ _ _ _ x1 x2 (HL.out.keep HK6.out) HI.out.n40 HI.out.le (fun e he => ⟨HI.out.ok.small e he, (HI.out.ok.over e he).1, (HI.out.ok.over e he).2⟩)
        rw [HRD.out.2.2.2] at h
        exact h)
      clear HSE
      go_wp2_with fail
      refine HSV.out.mono ?_
      rintro e w7 ⟨rfl, hk7⟩
      have HK7 := Lib.hid (HK6.out.trans hk7)
      have hq1 : (s == s) = true := by simp
      clear hk7 HSV
      go_wp2_with fail
      go_ret
      exact ⟨rfl, HK7.out⟩
    · exfalso
      exact hno n es (load_r HRD.out.1 HRD.out.2.1 HRD.out.2.2.1 HRD.out.2.2.2) HRD.out.2.2.2
  · have HK1 := Lib.hid hk1
    have HNO := Lib.hid hno
    have HIL := Lib.hid (iload_any w1 (HL.out.keep hk1) s hsl)
    clear hk1 hno HRL
    go_wp2_with fail
    refine HIL.out.mono ?_
    rintro e w2 ⟨hk2, ⟨xb, n', es', rfl, hld, hsv', hI, hX⟩ | ⟨rfl, hno⟩⟩
    · exfalso
      exact HNO.out n' es' es' (load_i hI.n40 hld hsv' hI.ok.sorted) (List.Perm.refl _) hI.ok.sorted hsv'
    · have HK2 := Lib.hid (HK1.out.trans hk2)
      have HB := Lib.hid (lbare_any (errVal 3) 3 3 rfl w2 ((HL.out.keep (HK1.out.trans hk2)).err))
      clear hk2 hno HIL
      unfold errVal at HB ⊢
      go_wp2_with fail
      refine HB.out.mono ?_
      rintro e w3 ⟨rfl, hk3⟩
      have HK3 := Lib.hid (HK2.out.trans hk3)
      clear hk3 HB
      go_wp2_with fail
      go_ret
      exact ⟨rfl, HK3.out⟩

end Go.Proofs.YtkpoobnldgfapabGreatDoor
