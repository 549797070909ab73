/- Part 24 of the proof: PlNumT. -/
import Derived.Lib.ItoaMem
import Derived.Lib.ItoaLen
import Derived.Lib.AtoiAllCases
import Derived.Lib.ParseIntB
set_option linter.unusedVariables false
set_option linter.unusedSimpArgs false
namespace Go.Proofs.YtkpoobnldgfapabGreatDoor
open Go
theorem dig_toNat {x : Nat} (h : x < 10) : (UInt8.ofNat (48 + x)).toNat = 48 + x := by
  rw [UInt8.toNat_ofNat']; omega
theorem dec_dig (u : Nat) : ∀ c ∈ Lib.decDigits u, 48 ≤ c.toNat ∧ c.toNat ≤ 57 := by
  induction u using Nat.strongRecOn with
  | _ u ih =>
    intro c hc
    rw [Lib.decDigits] at hc
    split at hc
    · rename_i h
      simp only [List.mem_singleton] at hc
      subst hc
      rw [dig_toNat h]; omega
    · rename_i h
      rcases List.mem_append.1 hc with hc | hc
      · exact ih _ (by omega) c hc
      · simp only [List.mem_singleton] at hc
        subst hc
        rw [dig_toNat (by omega)]; omega
theorem dec_ne (u : Nat) : Lib.decDigits u ≠ [] := by
  rw [Lib.decDigits]
  split <;> simp
theorem itoa_nat (u : Nat) : Lib.itoa (u : Int) = Lib.decDigits u := Lib.itoa_nonneg u
theorem itoa_free (u : Nat) {c : UInt8} (hc : c.toNat < 48) (k : Nat) : (Lib.itoa (u : Int))[k]? ≠ some c := by
  intro h
  rw [itoa_nat] at h
  have := dec_dig u c (List.mem_of_getElem? h)
  omega
theorem pu_app {acc : Nat} {l : List UInt8} {u x : Nat} (h : Lib.parseUint10 acc l = .ok u) (hx : x < 10) (hu : u * 10 + x < 18446744073709551616) : Lib.parseUint10 acc (l ++ [UInt8.ofNat (48 + x)]) = .ok (u * 10 + x) := by
  induction l generalizing acc with
  | nil =>
    simp only [Lib.parseUint10] at h
    cases h
    rw [List.nil_append]
    unfold Lib.parseUint10
    rw [dig_toNat hx, if_pos (by omega), if_neg (by omega), if_neg (by omega)]
    unfold Lib.parseUint10
    congr 1; omega
  | cons c r ih =>
    rw [List.cons_append]
    unfold Lib.parseUint10 at h ⊢
    split at h
    · rename_i h1
      rw [if_pos h1]
      split at h
      · cases h
      · rename_i h2
        rw [if_neg h2]
        split at h
        · cases h
        · rename_i h3
          rw [if_neg h3]
          exact ih h
    · cases h
theorem pu_dec (u : Nat) (hu : u < 18446744073709551616) : Lib.parseUint10 0 (Lib.decDigits u) = .ok u := by
  induction u using Nat.strongRecOn with
  | _ u ih =>
    rw [Lib.decDigits]
    split
    · rename_i h
      have := pu_app (acc := 0) (l := []) (u := 0) (x := u) rfl h (by omega)
      simpa using this
    · rename_i h
      have := pu_app (ih (u / 10) (by omega) (by omega)) (x := u % 10) (by omega) (by omega)
      rw [this]
      congr 1; omega
theorem pum_app {acc M : Nat} {l : List UInt8} {u x : Nat} (h : Lib.parseUintM M acc l = .ok u) (hx : x < 10) (hu : u * 10 + x ≤ M) (hM : M < 18446744073709551616) : Lib.parseUintM M acc (l ++ [UInt8.ofNat (48 + x)]) = .ok (u * 10 + x) := by
  induction l generalizing acc with
  | nil =>
    simp only [Lib.parseUintM] at h
    cases h
    rw [List.nil_append]
    unfold Lib.parseUintM
    rw [dig_toNat hx, if_pos (by omega), if_neg (by omega), if_neg (by omega)]
    unfold Lib.parseUintM
    congr 1; omega
  | cons c r ih =>
    rw [List.cons_append]
    unfold Lib.parseUintM at h ⊢
    split at h
    · rename_i h1
      rw [if_pos h1]
      split at h
      · cases h
      · rename_i h2
        rw [if_neg h2]
        split at h
        · cases h
        · rename_i h3
          rw [if_neg h3]
          exact ih h
    · cases h
theorem pum_dec (u M : Nat) (hu : u ≤ M) (hM : M < 18446744073709551616) : Lib.parseUintM M 0 (Lib.decDigits u) = .ok u := by
  induction u using Nat.strongRecOn with
  | _ u ih =>
    rw [Lib.decDigits]
    split
    · rename_i h
      have := pum_app (acc := 0) (M := M) (l := []) (u := 0) (x := u) rfl h (by omega) hM
      simpa using this
    · rename_i h
      have := pum_app (ih (u / 10) (by omega) (by omega)) (x := u % 10) (by omega) (by omega) hM
      rw [this]
      congr 1; omega
theorem atoi_itoa (u : Nat) (hu : u < 9223372036854775808) : Lib.atoiAll (Lib.itoa (u : Int)) = .ok (u : Int) := by
  rw [itoa_nat]
  have h1 := dec_ne u
  have h2 := dec_dig u
  have h3 := pu_dec u (by omega)
  cases hd : Lib.decDigits u with
  | nil => exact absurd hd h1
  | cons c r =>
    rw [hd] at h2 h3
    have hc := h2 c List.mem_cons_self
    rw [Lib.atoiAll_plain c r (by omega) (by omega)]
    unfold Lib.parseMag
    rw [if_neg (by simp), h3]
    simp only [Lib.signless]
    rw [if_neg (by omega)]
theorem parse_itoa (u : Nat) (hu : u < 9223372036854775808) : Lib.parseIntB 64 (Lib.itoa (u : Int)) = .ok (u : Int) := by
  rw [itoa_nat]
  have h1 := dec_ne u
  have h2 := dec_dig u
  have h3 := pum_dec u (2 ^ 64 - 1) (by omega) (by omega)
  cases hd : Lib.decDigits u with
  | nil => exact absurd hd h1
  | cons c r =>
    rw [hd] at h2 h3
    have hc := h2 c List.mem_cons_self
    have e43 : ¬ c.toNat = 43 := by omega
    have e45 : ¬ c.toNat = 45 := by omega
    unfold Lib.parseIntB
    simp only [e43, e45, if_false, or_self]
    unfold Lib.parseUintB
    rw [if_neg (by simp), h3]
    simp
    omega
end Go.Proofs.YtkpoobnldgfapabGreatDoor

