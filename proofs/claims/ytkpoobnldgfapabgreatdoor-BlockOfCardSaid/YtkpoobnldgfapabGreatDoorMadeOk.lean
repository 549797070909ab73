/- isthmuslaw.made: the edges that it makes. -/
import Derived.Test.YtkpoobnldgfapabGreatDoorLMade
set_option linter.unusedVariables false
set_option linter.unusedSimpArgs false
namespace Go.Proofs.YtkpoobnldgfapabGreatDoor
open Go.RowKit Pl

theorem madeG_lt (n : Nat) (A B : Nat → Int) (i : Nat) : ∀ e, e ∈ madeG n A B i → e.a < e.b := by
  induction i with
  | zero => intro e he; cases he
  | succ i ih =>
    intro e he
    have he : e ∈ addEs n (madeG n A B i) (idL i) (A i) (B i) := he
    unfold addEs at he
    split at he
    · exact ih e he
    · rename_i hb
      rcases List.mem_append.1 he with he | he
      · exact ih e (List.mem_of_mem_take he)
      · rcases List.mem_cons.1 he with he | he
        · subst he
          unfold addBad at hb
          unfold mkE
          simp only
          omega
        · exact ih e (List.mem_of_mem_drop he)

theorem madeG_small (n : Nat) (A B : Nat → Int) (i : Nat) : ∀ e, e ∈ madeG n A B i → e.id ≤ 60 := by
  induction i with
  | zero => intro e he; cases he
  | succ i ih =>
    intro e he
    have he : e ∈ addEs n (madeG n A B i) (idL i) (A i) (B i) := he
    have hid := idL_range i
    unfold addEs at he
    split at he
    · exact ih e he
    · rcases List.mem_append.1 he with he | he
      · exact ih e (List.mem_of_mem_take he)
      · rcases List.mem_cons.1 he with he | he
        · subst he
          unfold mkE
          simp only
          omega
        · exact ih e (List.mem_of_mem_drop he)

end Go.Proofs.YtkpoobnldgfapabGreatDoor
