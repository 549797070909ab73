/- isthmuskeep: pick, joined. -/
import Derived.Test.YtkpoobnldgfapaaNew3
namespace Go.Proofs.Ytkpoobnldgfapaa
open Go.RowKit Pl

/-- What pick picks. -/
def pickN (a : Int) (n : Nat) : Nat := ((IntKind.u64.wrap a).tmod n).toNat

theorem u64_nonneg (a : Int) : 0 ≤ IntKind.u64.wrap a := by
  have h : IntKind.u64.wrap a = a % 18446744073709551616 := by
    simp only [IntKind.wrap]; rfl
  rw [h]; omega

theorem pickN_lt (a : Int) {n : Nat} (hn : 0 < n) : pickN a n < n := by
  have h := Int.tmod_lt_of_pos (IntKind.u64.wrap a) (show (0 : Int) < n by omega)
  have h0 := Int.tmod_nonneg (n : Int) (u64_nonneg a)
  unfold pickN; omega

theorem pickN_eq (a : Int) {n : Nat} (hn : 0 < n) (hn2 : n ≤ 1000000) : wrap64 ((IntKind.u64.wrap a).tmod n) = (pickN a n : Nat) := by
  have h := Int.tmod_lt_of_pos (IntKind.u64.wrap a) (show (0 : Int) < n by omega)
  have h0 := Int.tmod_nonneg (n : Int) (u64_nonneg a)
  unfold pickN wrap64
  omega

theorem pick_any (a : Int) (n : Nat) (hn : 0 < n) (hn2 : n ≤ 1000000) (w : World) : Calls Try.prog 11 #[.int .i64 a, .int .i64 n] w fun e w' => e = .returned (.int .i64 (pickN a n : Nat)) ∧ w = w' := by
  have he := Lib.hid (pickN_eq a hn hn2)
  go_enter Try.func11, Try.ntmps11
  go_wp2
  go_ret
  exact ⟨by rw [← he.out]; rfl, rfl⟩

theorem pick_int (a m : Int) (n : Nat) (hm : m = n) (hn : 0 < n) (hn2 : n ≤ 1000000) (w : World) : Calls Try.prog 11 #[.int .i64 a, .int .i64 m] w fun e w' => e = .returned (.int .i64 (pickN a n : Nat)) ∧ w = w' := by
  subst hm; exact pick_any a n hn hn2 w

set_option maxHeartbeats 1000000 in
set_option maxRecDepth 100000 in
theorem joined_any (w : World) : Calls Try.prog 10 #[] w fun e w' => e = .returned (.bool true) ∧ Keep Nb w w' := by
  have n2 : ((2 : Nat) : Int) = 2 := rfl
  go_enter Try.func10, Try.ntmps10
  go_wp2_with fail
  refine (new_any 3 (by omega) _).mono ?_
  rintro e w1 ⟨b, rfl, hS1, hk1⟩
  have HK1 := Lib.hid hk1
  clear hk1
  go_wp2_with fail
  refine (join_any _ _ b 3 _ 2 1 (by omega) (by omega) hS1).mono ?_
  rintro e w2 ⟨he2, hS2, hk2⟩
  obtain rfl : e = .returned (.tuple #[.bool true, .nilIface]) := he2
  have HK2 := Lib.hid hk2
  clear hk2
  go_wp2_with fail
  refine (join_any _ _ b 3 _ 1 2 (by omega) (by omega) hS2).mono ?_
  rintro e w3 ⟨he3, hS3, hk3⟩
  obtain rfl : e = .returned (.tuple #[.bool false, .nilIface]) := he3
  have HK3 := Lib.hid hk3
  clear hk3 hS2 hS1
  go_wp2_with fail
  refine (least_any _ _ b 3 _ 2 (by omega) hS3).mono ?_
  rintro e w4 ⟨he4, hS4, hk4⟩
  obtain rfl : e = .returned (.tuple #[.int .i64 1, .nilIface]) := he4
  have HK4 := Lib.hid hk4
  clear hk4 hS3
  go_wp2_with fail
  refine (many_any _ _ b 3 _ hS4).mono ?_
  rintro e w5 ⟨he5, rfl⟩
  obtain rfl : e = .returned (.int .i64 2) := he5
  go_wp2_with fail
  refine (all_any _ _ b 3 _ hS4).mono ?_
  rintro e w5 ⟨o, m, c, rows, rfl, hMat, hS5, hk5⟩
  obtain rfl : m = 2 := hMat.n_eq
  have hfin := Lib.hid (HK1.out.trans' (HK2.out.trans (HK3.out.trans (HK4.out.trans hk5))) (H := Nb) (fun _ _ h => h) (fun j hj e => by unfold Iv at e; omega))
  clear hMat hS5 hk5 hS4
  go_wp2_with fail
  go_ret
  exact ⟨rfl, hfin.out⟩

end Go.Proofs.Ytkpoobnldgfapaa
