/- Part 34 of the proof: PlText. -/
import Derived.Test.YtfglkgkihafcpaaGreatDoorDp04
import Derived.Lib.ItoaLen
set_option linter.unusedVariables false
set_option linter.unusedSimpArgs false
namespace Go.Proofs.YtfglkgkihafcpaaGreatDoor.Pl
open Go
def lineT (e : E) : List UInt8 := Lib.itoa (e.id : Int) ++ [32] ++ Lib.itoa (e.a : Int) ++ [32] ++ Lib.itoa (e.b : Int) ++ [10]
def savedT (n : Nat) (es : List E) : List UInt8 := Lib.itoa (n : Int) ++ [10] ++ (es.map lineT).flatten
theorem savedT_zero (n : Nat) : savedT n [] = Lib.itoa (n : Int) ++ [10] := by simp [savedT]
theorem savedT_snoc (n : Nat) (es : List E) (e : E) : savedT n (es ++ [e]) = savedT n es ++ lineT e := by simp [savedT]
theorem itoa_len {x : Nat} (h : x < 9223372036854775808) : (Lib.itoa (x : Int)).length ≤ 21 := Lib.itoa_length_le _ (by omega) (by omega)
theorem lineT_len {e : E} (h1 : e.id < 9223372036854775808) (h2 : e.a < 9223372036854775808) (h3 : e.b < 9223372036854775808) : (lineT e).length ≤ 66 := by
 have := itoa_len h1
 have := itoa_len h2
 have := itoa_len h3
 unfold lineT
 simp; omega
theorem savedT_len {n : Nat} {es : List E} (hn : n < 9223372036854775808) (h : ∀ e, e ∈ es → e.id < 9223372036854775808 ∧ e.a < 9223372036854775808 ∧ e.b < 9223372036854775808) : (savedT n es).length ≤ 22 + 66 * es.length := by
 have h0 := itoa_len hn
 have h1 : (es.map lineT).flatten.length ≤ 66 * es.length := by
  induction es with
  | nil => simp
  | cons e es ih =>
   have h2 := h e List.mem_cons_self
   have h3 := lineT_len h2.1 h2.2.1 h2.2.2
   have h4 := ih (fun f hf => h f (List.mem_cons_of_mem _ hf))
   simp only [List.map_cons, List.flatten_cons, List.length_append, List.length_cons]
   omega
 unfold savedT
 simp only [List.length_append, List.length_cons, List.length_nil]
 omega
end Go.Proofs.YtfglkgkihafcpaaGreatDoor.Pl

