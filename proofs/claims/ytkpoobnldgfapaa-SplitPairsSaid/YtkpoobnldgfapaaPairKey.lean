/- Two numbers as a map's key. -/
import Derived.Test.YtkpoobnldgfapaaProg
import Derived.Test.YtkpoobnldgfapaaMapLib
import Derived.DeepKeys5
namespace Go.Proofs.Ytkpoobnldgfapaa
open Go.RowKit Go.Maps

def encP (p : Nat × Nat) : Value := .agg #[.int .i64 p.1, .int .i64 p.2]
def DP (p : Nat × Nat) : Prop := DN p.1 ∧ DN p.2

theorem pair_keyed : Keyed Try.prog 31 :=
  Keyed.of_law (deep_law_laid (m := 5) (by kernel_rfl) (by omega) (of_decide_eq_true (by kernel_rfl)) (by kernel_rfl) (by kernel_rfl))

theorem keyOf_pairs {a b : Int} (ha : (Lit.int .i64 a).wf = true) (hb : (Lit.int .i64 b).wf = true) : ∃ l, keyOf Try.prog 31 (.agg #[.int .i64 a, .int .i64 b]) = some l := by
  have h1 : (Try.prog).keyType 31 = true := by kernel_rfl
  have h2 : (Try.prog).cellsOf 31 = 2 := by kernel_rfl
  have h3 : (Try.prog).cellsOf 3 = 1 := by kernel_rfl
  obtain ⟨m, hm⟩ : ∃ m, (Try.prog).types.size = m + 1 := ⟨(Try.prog).types.size - 1, by kernel_rfl⟩
  unfold keyOf
  simp only [Try.underlying31]
  rw [if_pos (by simp [h1, Value.formed, Try.underlying31, h2]), hm]
  unfold Program.keyLits
  simp only [Try.underlying31, Value.cells]
  rw [if_pos (by rw [h2]; exact ⟨rfl, by kernel_rfl⟩)]
  simp only [Program.keyLits, Try.underlying3, h3, List.mapM_cons, List.mapM_nil]
  simp [ha, hb]

theorem encP_enc : Enc Try.prog 31 encP DP := by
  refine ⟨pair_keyed, fun {a} ha => ?_, fun {a b} h => ?_⟩
  · have hw : ∀ x : Nat, DN x → (Lit.int .i64 (x : Int)).wf = true := fun x hx => by
      unfold DN at hx
      have h1 : IntKind.i64.min = -9223372036854775808 := by decide
      have h2 : IntKind.i64.max = 9223372036854775807 := by decide
      simp only [Lit.wf, h1, h2, Bool.and_eq_true, decide_eq_true_eq]
      omega
    exact keyOf_pairs (hw _ ha.1) (hw _ ha.2)
  · obtain ⟨a1, a2⟩ := a
    obtain ⟨b1, b2⟩ := b
    simp only [encP, Value.agg.injEq, Array.mk.injEq, List.cons.injEq, Value.int.injEq, true_and, and_true] at h
    rw [Prod.mk.injEq]
    omega

end Go.Proofs.Ytkpoobnldgfapaa
