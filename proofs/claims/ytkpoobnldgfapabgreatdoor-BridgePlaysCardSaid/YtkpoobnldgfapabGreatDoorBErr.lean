/- bridge: what is not right. -/
import Derived.Test.YtkpoobnldgfapabGreatDoorA8
import Derived.Test.YtkpoobnldgfapabGreatDoorSErr
import Derived.Test.YtkpoobnldgfapabGreatDoorRGraph2
set_option linter.unusedVariables false
set_option linter.unusedSimpArgs false
namespace Go.Proofs.YtkpoobnldgfapabGreatDoor
open Go.RowKit Pl

theorem BrMem.brs {F Fw Ft : Nat → Prop} {w : World} {b n ws ts um im : Nat} {es : List E} {T : Nat → Nat} {mU mI : List (Nat × Value)} {up : Nat → Option (Nat × Nat)} (h : BrMem F w b n ws ts um im Fw Ft (labs (ends es)) T mU mI) (hr : UpIs mU up ∧ IdIs mI up ∧ BInv n es T up ∧ ∀ e, e ∈ es → e.id < 4611686018427387904) : Brs F w b n es :=
  ⟨ws, ts, um, im, Fw, Ft, T, mU, mI, up, h, hr⟩

set_option maxRecDepth 100000 in
theorem bnew_err (n : Int) (h : n < 0 ∨ 40 < n) (w : World) :
    Calls Tryz.prog 29 #[.int .i64 n] w fun e w' => e = .returned (.tuple #[.pointer none, rangeV]) ∧ Keep Nb w w' := by
  have HC := Lib.hid (new_err n h w)
  clear h
  unfold rangeV at HC ⊢
  go_enter Tryz.func29, Tryz.ntmps29
  go_wp2_with fail
  refine HC.out.mono ?_
  rintro e w1 ⟨rfl, rfl⟩
  go_wp2_with fail
  go_ret2
  exact ⟨rfl, Keep.refl _ _⟩

set_option maxRecDepth 100000 in
theorem badd_range (F : Nat → Prop) (w : World) (b n : Nat) (es : List E) (id x y : Int) (hxy : outB n x = true ∨ outB n y = true) (hB : Brs F w b n es) :
    Calls Tryz.prog 31 #[.pointer (some ⟨b, 0, none⟩), .int .i64 id, .int .i64 x, .int .i64 y] w fun e w' => e = .returned (.tuple #[.bool false, rangeV]) ∧ Keep Nb w w' := by
  obtain ⟨ws, ts, um, im, Fw, Ft, T, mU, mI, up, h, hr⟩ := hB
  have c0 := h.head.cell (i := 0) rfl
  have HC := Lib.hid (same_err Fw w ws n _ x y hxy h.sw)
  clear h hr hxy
  unfold rangeV at HC ⊢
  go_enter Tryz.func31, Tryz.ntmps31
  go_wp2_with fail
  refine HC.out.mono ?_
  rintro e w1 ⟨rfl, hk⟩
  have HK := Lib.hid hk
  clear hk
  go_wp2_with fail
  go_ret2
  exact ⟨rfl, HK.out⟩

set_option maxRecDepth 100000 in
theorem badd_loop (F : Nat → Prop) (w : World) (b n x : Nat) (es : List E) (id : Int) (hx : x < n) (hB : Brs F w b n es) :
    Calls Tryz.prog 31 #[.pointer (some ⟨b, 0, none⟩), .int .i64 id, .int .i64 x, .int .i64 x] w fun e w' => e = .returned (.tuple #[.bool false, errVal 1]) ∧ Brs F w' b n es ∧ Keep F w w' := by
  obtain ⟨ws, ts, um, im, Fw, Ft, T, mU, mI, up, h, hr⟩ := hB
  have c0 := h.head.cell (i := 0) rfl
  have H := Lib.hid h
  have HR := Lib.hid hr
  clear h hr
  unfold errVal
  go_enter Tryz.func31, Tryz.ntmps31
  go_wp2_with fail
  refine (same_any Fw _ ws n _ x x hx hx H.out.sw).mono ?_
  rintro e w1 ⟨rfl, s1, k1⟩
  have HP : Hid (Brs F w1 b n es ∧ Keep F w w1) := Lib.hid
    ⟨⟨ws, ts, um, im, Fw, Ft, T, mU, mI, up, H.out.setW s1 k1, HR.out⟩, k1.mono (fun k _ hk => H.out.sub k (.inr (.inr (.inr (.inl hk)))))⟩
  obtain ⟨r, hr⟩ : ∃ r, decide (labs (ends es) x = labs (ends es) x) = r := ⟨_, rfl⟩
  rw [hr]
  clear s1 k1 hr
  go_wp2_with fail
  go_ret2
  exact ⟨rfl, HP.out.1, HP.out.2⟩

set_option maxRecDepth 100000 in
theorem bwhole_err (F : Nat → Prop) (w : World) (b n : Nat) (es : List E) (x y : Int) (hxy : outB n x = true ∨ outB n y = true) (hB : Brs F w b n es) :
    Calls Tryz.prog 37 #[.pointer (some ⟨b, 0, none⟩), .int .i64 x, .int .i64 y] w fun e w' => e = .returned (.tuple #[.bool false, rangeV]) ∧ Keep Nb w w' := by
  obtain ⟨ws, ts, um, im, Fw, Ft, T, mU, mI, up, h, hr⟩ := hB
  have c0 := h.head.cell (i := 0) rfl
  have HC := Lib.hid (same_err Fw w ws n _ x y hxy h.sw)
  clear h hr hxy
  unfold rangeV at HC ⊢
  go_enter Tryz.func37, Tryz.ntmps37
  go_wp2_with fail
  refine HC.out.mono ?_
  rintro e w1 ⟨rfl, hk⟩
  have HK := Lib.hid hk
  clear hk
  go_wp2_with fail
  go_ret2
  exact ⟨rfl, HK.out⟩

set_option maxRecDepth 100000 in
theorem btwice_err (F : Nat → Prop) (w : World) (b n : Nat) (es : List E) (x y : Int) (hxy : outB n x = true ∨ outB n y = true) (hB : Brs F w b n es) :
    Calls Tryz.prog 38 #[.pointer (some ⟨b, 0, none⟩), .int .i64 x, .int .i64 y] w fun e w' => e = .returned (.tuple #[.bool false, rangeV]) ∧ Keep Nb w w' := by
  obtain ⟨ws, ts, um, im, Fw, Ft, T, mU, mI, up, h, hr⟩ := hB
  have c0 := h.head.cell (i := 1) rfl
  have HC := Lib.hid (same_err Ft w ts n _ x y hxy h.st)
  clear h hr hxy
  unfold rangeV at HC ⊢
  go_enter Tryz.func38, Tryz.ntmps38
  go_wp2_with fail
  refine HC.out.mono ?_
  rintro e w1 ⟨rfl, hk⟩
  have HK := Lib.hid hk
  clear hk
  go_wp2_with fail
  go_ret2
  exact ⟨rfl, HK.out⟩

end Go.Proofs.YtkpoobnldgfapabGreatDoor
