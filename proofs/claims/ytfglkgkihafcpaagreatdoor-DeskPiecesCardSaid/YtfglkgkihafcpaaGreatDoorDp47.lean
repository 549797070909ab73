/- Part 47 of the proof: PlSesL. -/
import Derived.Test.YtfglkgkihafcpaaGreatDoorDp37
import Derived.Lib.Strings
set_option linter.unusedVariables false
set_option linter.unusedSimpArgs false
namespace Go.Proofs.YtfglkgkihafcpaaGreatDoor
theorem pcz_cat (c : UInt8) (b : List UInt8) : ∀ a : List UInt8, pcz c (a ++ c :: b) = pcz c a ++ pcz c b
 | [] => by simp [pcz]
 | x :: a => by
  have ih := pcz_cat c b a
  have hne := pcz_ne c a
  rw [List.cons_append]
  by_cases h : x = c
  ·simp only [pcz, if_pos h, ih, List.cons_append]
  ·simp only [pcz, if_neg h, ih]
   cases hp : pcz c a with
   | nil => exact absurd hp hne
   | cons y ys => simp
theorem trim_end (a : List UInt8) (c : UInt8) : Lib.trimSuffix (a ++ [c]) [c] = a := by
 unfold Lib.trimSuffix Lib.hasSuffix
 rw [if_pos (by rw [List.isSuffixOf_iff_suffix]; exact List.suffix_append _ _)]
 simp
theorem pcz_more (a b : List UInt8) : ∃ l, pcz 10 (Lib.trimSuffix (a ++ [10] ++ b) [10]) = pcz 10 (Lib.trimSuffix (a ++ [10]) [10]) ++ l := by
 rw [trim_end]
 rcases List.eq_nil_or_concat b with rfl | ⟨b', x, rfl⟩
 ·refine ⟨[], ?_⟩
  rw [List.append_nil, trim_end, List.append_nil]
 ·by_cases hx : x = 10
  ·subst hx
   refine ⟨pcz 10 b', ?_⟩
   rw [List.concat_eq_append, ← List.append_assoc, trim_end, List.append_assoc]
   exact pcz_cat 10 b' a
  ·refine ⟨pcz 10 (b' ++ [x]), ?_⟩
   have h : Lib.trimSuffix (a ++ [10] ++ (b' ++ [x])) [10] = a ++ [10] ++ (b' ++ [x]) := by
    unfold Lib.trimSuffix Lib.hasSuffix
    rw [if_neg]
    intro h
    rw [List.isSuffixOf_iff_suffix] at h
    obtain ⟨t, ht⟩ := h
    rw [← List.append_assoc] at ht
    have := List.append_inj' ht rfl
    simp at this
    exact hx this.2.symm
   rw [List.concat_eq_append, h, List.append_assoc]
   exact pcz_cat 10 (b' ++ [x]) a
end Go.Proofs.YtfglkgkihafcpaaGreatDoor

