/- slices.Index and Contains at numbers; Other; Edge. -/
import Derived.Test.YtkpoobnldgfapaaGraph9
namespace Go.Proofs.Ytkpoobnldgfapaa
open Go.RowKit Pl

set_option maxRecDepth 100000 in
theorem index_any (F : Nat → Prop) (w : World) (o : Option Addr) (c : Nat) (l : List Nat) (x : Nat) (hS : Sl F w 3 1 o l.length c (ints l)) (hn : l.length ≤ 1000) :
    Calls Try.prog 86 #[.slice o l.length c, .int .i64 x] w fun e w' => ∃ r : Int, e = .returned (.int .i64 r) ∧ (0 ≤ r ↔ x ∈ l) ∧ w' = w := by
  have HS := Lib.hid hS
  clear hS
  have HP : Hid (∀ i : Nat, l[i]? = some x → ∃ r : Int, Ending.returned (.int .i64 i) = .returned (.int .i64 r) ∧ (0 ≤ r ↔ x ∈ l)) :=
    Lib.hid (fun i hi => ⟨i, rfl, ⟨fun _ => List.mem_of_getElem? hi, fun _ => by omega⟩⟩)
  have HN : Hid ((∀ j : Nat, j < l.length → l[j]? ≠ some x) → ∃ r : Int, Ending.returned (.int .i64 (-1)) = .returned (.int .i64 r) ∧ (0 ≤ r ↔ x ∈ l)) :=
    Lib.hid (fun h => ⟨-1, rfl, ⟨fun h => by omega, fun h' => by
      obtain ⟨j, hj⟩ := List.mem_iff_getElem?.1 h'
      exact absurd hj (h j (List.getElem?_eq_some_iff.1 hj).1)⟩⟩)
  generalize hPP : (fun (e : Ending) (w' : World) => ∃ r : Int, e = .returned (.int .i64 r) ∧ (0 ≤ r ↔ x ∈ l) ∧ w' = w) = PP
  have HPP := Lib.hid hPP
  clear hPP
  go_enter Try.func86, Try.ntmps86
  go_wp2
  go_loop [8] (fun r => ∃ i : Nat, r = .int .i64 i ∧ i ≤ l.length ∧ Hid (∀ j : Nat, j < i → l[j]? ≠ some x)) (fun r => l.length - (intOf r).toNat)
  case atStart => exact ⟨0, rfl, Nat.zero_le _, Lib.hid (fun j hj => by omega)⟩
  case round =>
    obtain ⟨i, rfl, hi, HJ⟩ := hrel
    by_cases hlt : i < l.length
    · obtain ⟨g, rfl, _, hnc, hrow⟩ := HS.out.pos (by omega)
      have hy := List.getElem?_eq_getElem hlt
      generalize l[i]'hlt = y at hy
      have c1 := hrow.cell (ints_get hy)
      have HY := Lib.hid hy
      clear hy hrow
      by_cases hxy : x = y
      · subst hxy
        go_wp2
        obtain ⟨r, h1, h2⟩ := HP.out i HY.out
        rw [← HPP.out]
        exact ⟨r, h1, h2, rfl⟩
      · have hxy' : ¬ ((x : Int) = (y : Int)) := by omega
        have HX := Lib.hid hxy
        clear hxy
        go_wp2
        go_round
        case rel => exact ⟨i + 1, rfl, by omega, Lib.hid (fun j hj => by
            by_cases e : j = i
            · subst e; rw [HY.out]; intro h; exact HX.out (Option.some.inj h).symm
            · exact HJ.out j (by omega))⟩
        case measure => simp [intOf]; omega
    · go_wp2
      rw [← HPP.out]
      obtain ⟨r, h1, h2⟩ := HN.out (fun j hj => HJ.out j (by omega))
      exact ⟨r, h1, h2, rfl⟩

set_option maxRecDepth 100000 in
theorem contains_any (F : Nat → Prop) (w : World) (o : Option Addr) (c : Nat) (l : List Nat) (x : Nat) (hS : Sl F w 3 1 o l.length c (ints l)) (hn : l.length ≤ 1000) :
    Calls Try.prog 66 #[.slice o l.length c, .int .i64 x] w fun e w' => e = .returned (.bool (decide (x ∈ l))) ∧ w' = w := by
  have HS := Lib.hid hS
  clear hS
  go_enter Try.func66, Try.ntmps66
  go_wp2_with fail
  refine (index_any F w o c l x HS.out hn).mono ?_
  rintro e w1 ⟨r, rfl, hr, rfl⟩
  have HR := Lib.hid hr
  clear hr
  go_wp2_with fail
  go_ret
  exact ⟨by rw [← decide_eq_decide.2 HR.out]; rfl, rfl⟩

set_option maxRecDepth 100000 in
theorem other_any (w : World) (id a b x : Nat) :
    Calls Try.prog 88 #[.agg #[.int .i64 id, .int .i64 a, .int .i64 b], .int .i64 x] w fun e w' => e = .returned (.int .i64 ((if a = x then b else a : Nat) : Int)) ∧ Keep Nb w w' := by
  by_cases h : a = x
  · subst h
    go_enter Try.func88, Try.ntmps88
    go_wp2
    go_ret
    exact ⟨by simp, (Keep.refl Nb w).alloc _⟩
  · have h' : ¬ ((a : Int) = (x : Int)) := by omega
    have H := Lib.hid h
    clear h
    go_enter Try.func88, Try.ntmps88
    go_wp2
    go_ret
    refine ⟨?_, (Keep.refl Nb w).alloc _⟩
    rfl

end Go.Proofs.Ytkpoobnldgfapaa
