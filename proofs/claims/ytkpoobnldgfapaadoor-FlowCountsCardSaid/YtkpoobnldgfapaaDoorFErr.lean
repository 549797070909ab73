/- flow: what an error brings. -/
import Derived.Test.YtkpoobnldgfapaaDoorB3
set_option linter.unusedVariables false
set_option linter.unusedSimpArgs false
namespace Go.Proofs.YtkpoobnldgfapaaDoor
open Go.RowKit Pl

set_option maxRecDepth 100000 in
theorem fedges_err (F : Nat → Prop) (w : World) (b n : Nat) (es : List E) (s t most r : Int) (hG : Gr F w b n es) (hr : askErr n s t most = r) (h0 : r ≠ 0) :
    Calls Tryd.prog 20 #[.pointer (some ⟨b, 0, none⟩), .int .i64 s, .int .i64 t, .int .i64 most] w fun e w' => e = .returned (.tuple #[.int .i64 0, .iface 29 (.int .i64 r)]) ∧ Keep Nb w w' := by
  have HC : Hid (Calls Tryd.prog 44 #[.pointer (some ⟨b, 0, none⟩), .int .i64 s, .int .i64 t, .int .i64 most] w fun e w' => e = .returned (.iface 29 (.int .i64 r)) ∧ w = w') := Lib.hid ((right_any F w b n es s t most hG).mono (fun e w' h => by
    obtain ⟨h1, h2⟩ := h
    rw [hr, if_neg h0] at h1
    exact ⟨h1, h2⟩))
  clear hG hr h0
  go_enter Tryd.func20, Tryd.ntmps20
  go_wp2_with fail
  refine HC.out.mono ?_
  rintro e w1 ⟨rfl, rfl⟩
  go_wp2_with fail
  go_ret2
  exact ⟨rfl, Keep.refl _ _⟩

set_option maxRecDepth 100000 in
theorem fways_err (F : Nat → Prop) (w : World) (b n : Nat) (es : List E) (s t most r : Int) (hG : Gr F w b n es) (hr : askErr n s t most = r) (h0 : r ≠ 0) :
    Calls Tryd.prog 22 #[.pointer (some ⟨b, 0, none⟩), .int .i64 s, .int .i64 t, .int .i64 most] w fun e w' => e = .returned (.tuple #[.slice none 0 0, .iface 29 (.int .i64 r)]) ∧ Keep Nb w w' := by
  have HC : Hid (Calls Tryd.prog 44 #[.pointer (some ⟨b, 0, none⟩), .int .i64 s, .int .i64 t, .int .i64 most] w fun e w' => e = .returned (.iface 29 (.int .i64 r)) ∧ w = w') := Lib.hid ((right_any F w b n es s t most hG).mono (fun e w' h => by
    obtain ⟨h1, h2⟩ := h
    rw [hr, if_neg h0] at h1
    exact ⟨h1, h2⟩))
  clear hG hr h0
  go_enter Tryd.func22, Tryd.ntmps22
  go_wp2_with fail
  refine HC.out.mono ?_
  rintro e w1 ⟨rfl, rfl⟩
  go_wp2_with fail
  go_ret2
  exact ⟨rfl, Keep.refl _ _⟩

set_option maxRecDepth 100000 in
theorem fnodes_err (F : Nat → Prop) (w : World) (b n : Nat) (es : List E) (s t most r : Int) (hG : Gr F w b n es) (hr : askErr n s t most = r) (h0 : r ≠ 0) :
    Calls Tryd.prog 21 #[.pointer (some ⟨b, 0, none⟩), .int .i64 s, .int .i64 t, .int .i64 most] w fun e w' => e = .returned (.tuple #[.int .i64 0, .iface 29 (.int .i64 r)]) ∧ Keep Nb w w' := by
  have HC : Hid (∀ wx, Keep Nb w wx → Calls Tryd.prog 44 #[.pointer (some ⟨b, 0, none⟩), .int .i64 s, .int .i64 t, .int .i64 most] wx fun e w' => e = .returned (.iface 29 (.int .i64 r)) ∧ wx = w') := Lib.hid (fun wx k => (right_any F wx b n es s t most (hG.keep k (fun _ _ e => e))).mono (fun e w' h => by
    obtain ⟨h1, h2⟩ := h
    rw [hr, if_neg h0] at h1
    exact ⟨h1, h2⟩))
  clear hG hr h0
  go_enter Tryd.func21, Tryd.ntmps21
  go_wp2_with fail
  have k2 : Keep Nb w ((w.alloc (.cells #[.int .i64 s] 3)).alloc (.cells #[.int .i64 t] 3)) := ((Keep.refl Nb w).alloc _).alloc _
  refine (HC.out _ k2).mono ?_
  rintro e w1 ⟨rfl, rfl⟩
  go_wp2_with fail
  go_ret2
  exact ⟨rfl, k2⟩

end Go.Proofs.YtkpoobnldgfapaaDoor
