/- sets: what is not right: ErrRange. -/
import Derived.Test.YtkpoobnldgfapabGreatDoorA2
import Derived.Test.YtkpoobnldgfapabGreatDoorA3
set_option linter.unusedVariables false
set_option linter.unusedSimpArgs false
namespace Go.Proofs.YtkpoobnldgfapabGreatDoor
open Go.RowKit Pl

/-- ErrRange. -/
def rangeV : Value := .iface 50 (.int .i64 2)

set_option maxRecDepth 100000 in
theorem join_err (F : Nat → Prop) (w : World) (b n : Nat) (L : Nat → Nat) (x y : Int) (hxy : outB n x = true ∨ outB n y = true) (hS : Sets F w b n L) :
    Calls Tryz.prog 76 #[.pointer (some ⟨b, 0, none⟩), .int .i64 x, .int .i64 y] w fun e w' => e = .returned (.tuple #[.bool false, rangeV]) ∧ Keep Nb w w' := by
  obtain ⟨up, size, low, many, ou, os, ol, cu, cs, cl, hM, hI, hn⟩ := hS
  have hc0 := hM.head.cell (i := 0) rfl
  have hb := hM.head.lt
  have hca : (w.alloc (.cells #[.int .i64 x, .int .i64 y] 3)).cell? ⟨b, 0, none⟩ = some (.slice ou n cu) := by rw [World.cell?_alloc_past _ _ _ hb]; exact hc0
  have hg2 := Lib.hid (two_get (w := w) (T := 3) [x, y] rfl)
  obtain ⟨z, hz, hout⟩ : ∃ z ∈ [x, y], outB n z = true := by
    rcases hxy with h | h
    · exact ⟨x, by simp, h⟩
    · exact ⟨y, by simp, h⟩
  clear hM hI hc0 hxy
  go_enter Tryz.func76, Tryz.ntmps76
  go_wp2_with fail
  refine (right_no _ b n cu ou _ [x, y] 2 2 rfl (Nat.le_refl _) hn hca hg2.out z hz hout).mono ?_
  rintro e w1 ⟨rfl, hk1⟩
  go_wp2_with fail
  go_ret2
  exact ⟨rfl, (((Keep.refl Nb w).alloc _).trans hk1)⟩

set_option maxRecDepth 100000 in
theorem same_err (F : Nat → Prop) (w : World) (b n : Nat) (L : Nat → Nat) (x y : Int) (hxy : outB n x = true ∨ outB n y = true) (hS : Sets F w b n L) :
    Calls Tryz.prog 84 #[.pointer (some ⟨b, 0, none⟩), .int .i64 x, .int .i64 y] w fun e w' => e = .returned (.tuple #[.bool false, rangeV]) ∧ Keep Nb w w' := by
  obtain ⟨up, size, low, many, ou, os, ol, cu, cs, cl, hM, hI, hn⟩ := hS
  have hc0 := hM.head.cell (i := 0) rfl
  have hb := hM.head.lt
  have hca : (w.alloc (.cells #[.int .i64 x, .int .i64 y] 3)).cell? ⟨b, 0, none⟩ = some (.slice ou n cu) := by rw [World.cell?_alloc_past _ _ _ hb]; exact hc0
  have hg2 := Lib.hid (two_get (w := w) (T := 3) [x, y] rfl)
  obtain ⟨z, hz, hout⟩ : ∃ z ∈ [x, y], outB n z = true := by
    rcases hxy with h | h
    · exact ⟨x, by simp, h⟩
    · exact ⟨y, by simp, h⟩
  clear hM hI hc0 hxy
  go_enter Tryz.func84, Tryz.ntmps84
  go_wp2_with fail
  refine (right_no _ b n cu ou _ [x, y] 2 2 rfl (Nat.le_refl _) hn hca hg2.out z hz hout).mono ?_
  rintro e w1 ⟨rfl, hk1⟩
  go_wp2_with fail
  go_ret2
  exact ⟨rfl, (((Keep.refl Nb w).alloc _).trans hk1)⟩

set_option maxRecDepth 100000 in
theorem least_err (F : Nat → Prop) (w : World) (b n : Nat) (L : Nat → Nat) (x : Int) (hx : outB n x = true) (hS : Sets F w b n L) :
    Calls Tryz.prog 149 #[.pointer (some ⟨b, 0, none⟩), .int .i64 x] w fun e w' => e = .returned (.tuple #[.int .i64 0, rangeV]) ∧ Keep Nb w w' := by
  obtain ⟨up, size, low, many, ou, os, ol, cu, cs, cl, hM, hI, hn⟩ := hS
  have hc0 := hM.head.cell (i := 0) rfl
  have hb := hM.head.lt
  have hca : (w.alloc (.cells #[.int .i64 x] 3)).cell? ⟨b, 0, none⟩ = some (.slice ou n cu) := by rw [World.cell?_alloc_past _ _ _ hb]; exact hc0
  have hg2 := Lib.hid (one_get (w := w) (T := 3) [x] rfl)
  clear hM hI hc0
  go_enter Tryz.func149, Tryz.ntmps149
  go_wp2_with fail
  refine (right_no _ b n cu ou _ [x] 1 1 rfl (by omega) hn hca hg2.out x (by simp) hx).mono ?_
  rintro e w1 ⟨rfl, hk1⟩
  go_wp2_with fail
  go_ret2
  exact ⟨rfl, (((Keep.refl Nb w).alloc _).trans hk1)⟩

set_option maxRecDepth 100000 in
theorem size_err (F : Nat → Prop) (w : World) (b n : Nat) (L : Nat → Nat) (x : Int) (hx : outB n x = true) (hS : Sets F w b n L) :
    Calls Tryz.prog 93 #[.pointer (some ⟨b, 0, none⟩), .int .i64 x] w fun e w' => e = .returned (.tuple #[.int .i64 0, rangeV]) ∧ Keep Nb w w' := by
  obtain ⟨up, size, low, many, ou, os, ol, cu, cs, cl, hM, hI, hn⟩ := hS
  have hc0 := hM.head.cell (i := 0) rfl
  have hb := hM.head.lt
  have hca : (w.alloc (.cells #[.int .i64 x] 3)).cell? ⟨b, 0, none⟩ = some (.slice ou n cu) := by rw [World.cell?_alloc_past _ _ _ hb]; exact hc0
  have hg2 := Lib.hid (one_get (w := w) (T := 3) [x] rfl)
  clear hM hI hc0
  go_enter Tryz.func93, Tryz.ntmps93
  go_wp2_with fail
  refine (right_no _ b n cu ou _ [x] 1 1 rfl (by omega) hn hca hg2.out x (by simp) hx).mono ?_
  rintro e w1 ⟨rfl, hk1⟩
  go_wp2_with fail
  go_ret2
  exact ⟨rfl, (((Keep.refl Nb w).alloc _).trans hk1)⟩

set_option maxRecDepth 100000 in
theorem new_err (n : Int) (h : n < 0 ∨ 40 < n) (w : World) :
    Calls Tryz.prog 73 #[.int .i64 n] w fun e w' => e = .returned (.tuple #[.pointer none, rangeV]) ∧ w = w' := by
  by_cases h0 : n < 0
  · go_enter Tryz.func73, Tryz.ntmps73
    go_wp2_with fail
    go_ret2
    exact ⟨rfl, rfl⟩
  · have h1 : 40 < n := by omega
    go_enter Tryz.func73, Tryz.ntmps73
    go_wp2_with fail
    go_ret2
    exact ⟨rfl, rfl⟩

end Go.Proofs.YtkpoobnldgfapabGreatDoor
