/- Part 37 of the proof: PlNumT PlPcs. -/
import Derived.Lib.ItoaMem
import Derived.Lib.ItoaLen
import Derived.Lib.AtoiAllCases
import Derived.Lib.ParseIntB
import Derived.Lib.Split
import Derived.Lib.IndexLaws
import Derived.Lib.IndexBytes
set_option linter.unusedVariables false
set_option linter.unusedSimpArgs false
namespace Go.Proofs.YtfglkgkihafcpaaGreatDoor
open Go
theorem dig_toNat {x : Nat} (h : x < 10) : (UInt8.ofNat (48 + x)).toNat = 48 + x := by
 rw [UInt8.toNat_ofNat']; omega
theorem dec_dig (u : Nat) : ∀ c ∈ Lib.decDigits u, 48 ≤ c.toNat ∧ c.toNat ≤ 57 := by
 induction u using Nat.strongRecOn with
 | _ u ih =>
  intro c hc
  rw [Lib.decDigits] at hc
  split at hc
  ·rename_i h
   simp only [List.mem_singleton] at hc
   subst hc
   rw [dig_toNat h]; omega
  ·rename_i h
   rcases List.mem_append.1 hc with hc | hc
   ·exact ih _ (by omega) c hc
   ·simp only [List.mem_singleton] at hc
    subst hc
    rw [dig_toNat (by omega)]; omega
theorem dec_ne (u : Nat) : Lib.decDigits u ≠ [] := by
 rw [Lib.decDigits]
 split <;> simp
theorem itoa_nat (u : Nat) : Lib.itoa (u : Int) = Lib.decDigits u := Lib.itoa_nonneg u
theorem itoa_free (u : Nat) {c : UInt8} (hc : c.toNat < 48) (k : Nat) : (Lib.itoa (u : Int))[k]? ≠ some c := by
 intro h
 rw [itoa_nat] at h
 have := dec_dig u c (List.mem_of_getElem? h)
 omega
theorem pu_app {acc : Nat} {l : List UInt8} {u x : Nat} (h : Lib.parseUint10 acc l = .ok u) (hx : x < 10) (hu : u * 10 + x < 18446744073709551616) : Lib.parseUint10 acc (l ++ [UInt8.ofNat (48 + x)]) = .ok (u * 10 + x) := by
 induction l generalizing acc with
 | nil =>
  simp only [Lib.parseUint10] at h
  cases h
  rw [List.nil_append]
  unfold Lib.parseUint10
  rw [dig_toNat hx, if_pos (by omega), if_neg (by omega), if_neg (by omega)]
  unfold Lib.parseUint10
  congr 1; omega
 | cons c r ih =>
  rw [List.cons_append]
  unfold Lib.parseUint10 at h ⊢
  split at h
  ·rename_i h1
   rw [if_pos h1]
   split at h
   ·cases h
   ·rename_i h2
    rw [if_neg h2]
    split at h
    ·cases h
    ·rename_i h3
     rw [if_neg h3]
     exact ih h
  ·cases h
theorem pu_dec (u : Nat) (hu : u < 18446744073709551616) : Lib.parseUint10 0 (Lib.decDigits u) = .ok u := by
 induction u using Nat.strongRecOn with
 | _ u ih =>
  rw [Lib.decDigits]
  split
  ·rename_i h
   have := pu_app (acc := 0) (l := []) (u := 0) (x := u) rfl h (by omega)
   simpa using this
  ·rename_i h
   have := pu_app (ih (u / 10) (by omega) (by omega)) (x := u % 10) (by omega) (by omega)
   rw [this]
   congr 1; omega
theorem atoi_itoa (u : Nat) (hu : u < 9223372036854775808) : Lib.atoiAll (Lib.itoa (u : Int)) = .ok (u : Int) := by
 rw [itoa_nat]
 have h1 := dec_ne u
 have h2 := dec_dig u
 have h3 := pu_dec u (by omega)
 cases hd : Lib.decDigits u with
 | nil => exact absurd hd h1
 | cons c r =>
  rw [hd] at h2 h3
  have hc := h2 c List.mem_cons_self
  rw [Lib.atoiAll_plain c r (by omega) (by omega)]
  unfold Lib.parseMag
  rw [if_neg (by simp), h3]
  simp only [Lib.signless]
  rw [if_neg (by omega)]
end Go.Proofs.YtfglkgkihafcpaaGreatDoor

namespace Go.Proofs.YtfglkgkihafcpaaGreatDoor
def pcz (c : UInt8) : List UInt8 → List (List UInt8)
 | [] => [[]]
 | x :: l => if x = c then [] :: pcz c l else (x :: (pcz c l).headD []) :: (pcz c l).tail
theorem pcz_ne (c : UInt8) (l : List UInt8) : pcz c l ≠ [] := by
 cases l with
 | nil => simp [pcz]
 | cons x l => unfold pcz; split <;> simp
theorem pcz_free {c : UInt8} : ∀ {l : List UInt8}, (∀ k : Nat, l[k]? ≠ some c) → pcz c l = [l]
 | [], _ => rfl
 | x :: l, h => by
  have h0 : x ≠ c := fun e => h 0 (by simp [e])
  have ih : pcz c l = [l] := pcz_free (fun k => by have := h (k + 1); simpa using this)
  unfold pcz
  rw [if_neg h0, ih]
  rfl
theorem pcz_at {c : UInt8} : ∀ {l : List UInt8} {o : Nat}, l[o]? = some c → (∀ k : Nat, k < o → l[k]? ≠ some c) → pcz c l = l.take o :: pcz c (l.drop (o + 1))
 | [], o, h, _ => by simp at h
 | x :: l, 0, h, _ => by
  simp at h
  subst h
  simp [pcz]
 | x :: l, o + 1, h, hk => by
  have h0 : x ≠ c := fun e => hk 0 (by omega) (by simp [e])
  have ih := pcz_at (c := c) (l := l) (o := o) (by simpa using h) (fun k hk' => by have := hk (k + 1) (by omega); simpa using this)
  conv => lhs; unfold pcz
  rw [if_neg h0, ih]
  simp
theorem pcz_miss {c : UInt8} {l : List UInt8} (h : Lib.indexByte l c = -1) : pcz c l = [l] := pcz_free (Lib.indexByte_none h)
theorem pcz_hit {c : UInt8} {l : List UInt8} {o : Nat} (h : Lib.indexByte l c = o) : pcz c l = l.take o :: pcz c (l.drop (o + 1)) := by
 obtain ⟨h1, h2⟩ := Lib.indexByte_some h
 exact pcz_at h1 h2
theorem pcz_split (c : UInt8) : ∀ (n : Nat) (l : List UInt8), l.length ≤ n → Lib.splitK [c] 0 (Lib.count l [c]) l = pcz c l := by
 intro n
 induction n with
 | zero =>
  intro l hl
  obtain rfl : l = [] := List.length_eq_zero_iff.1 (by omega)
  have hm : Lib.index [] [c] = -1 := by rw [Lib.index_one]; rfl
  rw [Lib.count_miss hm]; rfl
 | succ n ih =>
  intro l hl
  have hge := Lib.indexByte_ge l c
  by_cases hm : Lib.indexByte l c = -1
  ·rw [Lib.count_miss (by rw [Lib.index_one]; exact hm), pcz_miss hm]; rfl
  ·obtain ⟨o, ho⟩ : ∃ o : Nat, Lib.indexByte l c = o := ⟨(Lib.indexByte l c).toNat, by omega⟩
   have hi : Lib.index l [c] = o := by rw [Lib.index_one]; exact ho
   obtain ⟨h1, _⟩ := Lib.indexByte_some ho
   have hlt := (List.getElem?_eq_some_iff.1 h1).1
   rw [Lib.count_hit (by simp) hi, pcz_hit ho, Nat.add_comm 1]
   unfold Lib.splitK
   rw [hi, if_neg (by simp)]
   simp only [Int.toNat_natCast, Nat.add_zero, List.length_singleton]
   rw [ih (l.drop (o + 1)) (by rw [List.length_drop]; omega)]
theorem pcz_app {c : UInt8} {a b : List UInt8} (h : ∀ k : Nat, a[k]? ≠ some c) : pcz c (a ++ c :: b) = a :: pcz c b := by
 have := pcz_at (c := c) (l := a ++ c :: b) (o := a.length) (by simp) (fun k hk => by rw [List.getElem?_append_left hk]; exact h k)
 simpa using this
theorem pcz_len (c : UInt8) : ∀ l : List UInt8, (pcz c l).length ≤ l.length + 1
 | [] => by simp [pcz]
 | x :: l => by
  have ih := pcz_len c l
  unfold pcz
  split
  ·simp only [List.length_cons]; omega
  ·simp only [List.length_cons, List.length_tail]; omega
theorem pcz_mem (c : UInt8) : ∀ (l x : List UInt8), x ∈ pcz c l → x.length ≤ l.length
 | [], x, h => by simp [pcz] at h; subst h; simp
 | y :: l, x, h => by
  have ih := pcz_mem c l
  unfold pcz at h
  split at h
  ·rcases List.mem_cons.1 h with rfl | h
   ·simp
   ·have := ih x h; simp only [List.length_cons]; omega
  ·rcases List.mem_cons.1 h with rfl | h
   ·cases hp : pcz c l with
    | nil => simp
    | cons z zs => have := ih z (by rw [hp]; simp); simp only [List.headD_cons, List.length_cons]; omega
   ·have := ih x (List.mem_of_mem_tail h); simp only [List.length_cons]; omega
end Go.Proofs.YtfglkgkihafcpaaGreatDoor

