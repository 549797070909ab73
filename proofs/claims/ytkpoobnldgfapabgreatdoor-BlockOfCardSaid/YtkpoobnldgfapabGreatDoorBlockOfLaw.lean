/- The card of isthmuslaw.BlockOf: it returns true at every input (the listed variable tied to the program's text), and leaves its input as it was. -/
import Derived.Test.YtkpoobnldgfapabGreatDoorDoorKit
import Derived.Test.YtkpoobnldgfapabGreatDoorBlockW
import Derived.Test.YtkpoobnldgfapabGreatDoorTie
import Derived.Test.YtkpoobnldgfapabGreatDoorCards
import Derived.SevenTiedAt
import Derived.Conc.Holds
import Derived.Leaving
set_option linter.unusedVariables false
set_option linter.unusedSimpArgs false
namespace Go.Proofs.YtkpoobnldgfapabGreatDoor.blockOf
open Go.RowKit Pl Go.ChangeShapes Go.WideShapes Go.ChangeAt

/-- A tied card without a companion, whether the program starts routines or not. -/
theorem tied_goes (Lk : Looks) {p : Pinned} {s : OpenSpec} {c : OpenClaim} (al : List (List PathCond)) (kinds : List LaidKind) (tests : Bool) (har : Bool × String) (lk goes : Bool)
    (hc : c.holds p s) (hal : ∀ D ∈ al, (c.withDomain D).holds p s) (hw : c.wfByText s = true) (hwal : ∀ D ∈ al, (c.withDomain D).wfByText s = true)
    (htie : c.laidByTextAt Lk p kinds tests)
    (hst : c.start = .entering) (hnb : c.noBlocks = false ∧ c.again = false) (hm : p.checked.prog.mainIs = some (har.1, har.2.toList)) (hn : (!har.1 && har.2.isEmpty && !lk) = false)
    (hl : ∀ f fn, p.checked.prog.funcNamed c.func = some f → p.checked.prog.funcs[f]? = some fn → lk = p.checked.prog.looks [] ∧ ∀ (j : Nat) t, fn.params[j]? = some t → p.checked.prog.wantsStandIn t = false)
    (hg : goes = c.goesBy p.checked.prog) :
    Claim7.holds p (.plain s) { stood := { row := c, standIns := [], harness := har, looks := lk }, kinds := [], alts := al, laidByText := true, laidKinds := kinds, laidTests := tests, laidLooks := Lk, goes := goes } := by
  have h6 : ∀ r : OpenClaim, Claim7.isSixth { stood := { row := r, standIns := [], harness := har, looks := lk }, kinds := [] } = false := fun r => by simpa [Claim7.isSixth] using hn
  refine ⟨Claim7.tied_new_at Lk kinds tests (Claim7.new_of_sixth hc har lk hst hnb hm (h6 c) hl) hw, fun D hD => ?_, htie, (fun h => by cases h), hg⟩
  exact Claim7.tied_new_at Lk kinds tests (Claim7.new_of_sixth (hal D hD) har lk hst hnb hm (h6 _) hl) (hwal D hD)

set_option maxRecDepth 100000 in
theorem lifted (os : Os) (started : os.Started) (H : Type) (enc : TypeId × Value → H) :
    ReturnsInHanded {} Tryz.checked os 5 .any (fun w args => (Rows.blockOfSpec.pre enc Tryz.prog Tryz.f5 [] false w args ∧ laidMetH Tryz.prog [("errors.errorType", Rows.laid_errors_errorType)] w) ∧ sizedMet enc Tryz.prog Tryz.f5 (OpenSpec.ofChange Rows.blockOfSpec) false w args)
      (Rows.blockOfSpec.post enc Tryz.prog Tryz.f5 false true false false) := by
  refine returnsInHanded_of_change_and (C := Tryz.checked) (X := fun w _ => laidMetH Tryz.prog [("errors.errorType", Rows.laid_errors_errorType)] w) (fun _ _ _ hh h => h.of_heap hh) own started (by kernel_rfl) Tryz.func5
    (ChangeSpec.witness_at (enc := enc) (C := Tryz.checked) (os := os) (X := fun w _ => laidMetH Tryz.prog [("errors.errorType", Rows.laid_errors_errorType)] w) false (doorWorld os) #[.int .i64 0, .slice none 0 0] 8 rfl (by kernel_rfl) (by kernel_rfl) (by kernel_rfl) (by kernel_rfl) (by kernel_rfl) (doorWorld_met os _)) ?_
  intro W base args ds gs before hval0 hW _ _ hL _
  have hval : ∀ (j : Nat) t v, Tryz.f5.params[j]? = some t → args[j]? = some v → Value.okWide Tryz.prog W .any base t v := hval0
  have hW' := hW
  obtain ⟨p, q, hA0, hV0, rfl, hfz, hnd⟩ := hW
  have hA : DataW.TrodAll enc Tryz.prog W 0 (fun _ => true) true Tryz.f5.params.toList args.toList ds p := hA0
  have hV : DataW.TrodVars enc Tryz.prog W (fun _ => true) [] gs q := hV0
  rw [Tryz.params5] at hA hval
  obtain ⟨v0, vs0, d0, ds0, p0, q0, hargs, rfl, rfl, h0, r0⟩ := trodAll_cons hA
  obtain ⟨v1, vs1, d1, ds1, p1, q1, rfl, rfl, rfl, h1, r1⟩ := trodAll_cons r0
  obtain ⟨rfl, rfl, rfl⟩ := trodAll_nil r1
  obtain rfl : args = #[v0, v1] := by cases args; simp_all
  obtain ⟨rfl, rfl⟩ : gs = [] ∧ q = [] := by
    cases gs with
    | nil => exact ⟨rfl, hV⟩
    | cons g r => exact absurd hV (by intro h; cases h)
  obtain ⟨a0, rfl, rfl, rfl, w0⟩ := open_int Tryz.underlying3 (hval 0 3 v0 rfl rfl) h0
  have k1 := h1
  have lt1 : ∀ x ∈ p1, x.block < W.heap.size := by obtain ⟨m, hm⟩ := k1; exact DataW.trod_lt m _ _ _ hm
  obtain ⟨oa, len, cap, b, off, A, B, rfl, hlc, hoa, hb, hP⟩ := open_prs (okWide_slice Tryz.underlying22 (hval 1 22 v1 rfl rfl)) h1
  have hg := door_laid hL
  clear hA0 hval0
  have walk : Calls Tryz.prog 5 #[.int .i64 a0, .slice oa len cap] W fun e w' => e = .returned (.bool true) ∧ Keep Nb W w' := by
    by_cases hn : a0 < 0 ∨ 16 < a0 ∨ 60 < len
    · exact blockof_none a0 oa len cap hn W
    · obtain ⟨n, rfl⟩ := Int.eq_ofNat_of_zero_le (show 0 ≤ a0 by omega)
      have hM := made_made n A B len
      have hok : EOk n (madeG n A B len) := ⟨hM.over, fun e he => by have := madeG_lt n A B len e he; omega, fun e he => by have := madeG_small n A B len e he; omega, hM.sorted⟩
      exact blockof_any n b off len cap oa hoa A B (by omega) (by omega) hlc W hb hP hg hok (madeG_small n A B len)
  refine walk.mono fun e W' ⟨he, hk⟩ => ?_
  have bel : Below W.heap.size W W' := hk.to_below (fun _ _ e => e)
  subst he
  exact ⟨_, rfl, _, _, _, [], _, [], hW', trodAll_mk1 (shut_bool Tryz.underlying4 _),
    (trodAll_cons_mk (shut_int Tryz.underlying3 w0) (trodAll_cons_mk (Below.trod laidOut (by kernel_rfl) (of_decide_eq_true (by kernel_rfl)) k1 bel lt1) trodAll_mk0)), rfl, bel.frame _, fun h => by cases h⟩

/-- Who returns alone, returns where the others are only leaving. -/
theorem leaving_of_handed {a : Assume} {C : Checked} {os : Os} {f : FuncId} {r : Reach} {Pre : World → Array Value → Prop} {Post : World → Array Value → Value → World → Prop} (h : ReturnsInHanded a C os f r Pre Post) : ReturnsInLeavingWide a C os f r Pre Post := fun enter => by
  obtain ⟨h0, h1, h2, h3, h4⟩ := h enter
  refine ⟨h0, h1, h2, h3, fun w tape i hf => ?_⟩
  obtain ⟨n, v, w', a1, a2, a3, a4, ⟨j, last, b1, b2, b3⟩, a5⟩ := h4 w tape i hf
  exact ⟨n, v, w', a1, a2, a3, a4, ⟨j, last, b1, b2, b3.2.1, onlyLeaving_of_quiet b3.1, b3.2.2⟩, a5⟩

theorem and_tt {a b : Bool} (hb : b = true) (ha : a = true) : (a && b) = true := by rw [ha, hb]; rfl

set_option maxHeartbeats 4000000 in
/-- The row's closed facts, one by one. -/
theorem closed : joinedFacts Tryz.prog 5 Tryz.f5 Rows.blockOfSpec Rows.blockOfRow = true := by
  unfold joinedFacts
  repeat
    with_reducible refine and_tt ?_ ?_
    · as_aux_lemma => kernel_rfl
  as_aux_lemma => kernel_rfl

theorem over : Rows.BlockOfSaid :=
  OpenClaim.holds_of_wide_leaving 5 Tryz.f5 rfl rfl rfl rfl rfl rfl rfl ⟨rfl, rfl, rfl, rfl, rfl⟩ rfl rfl rfl rfl rfl (by as_aux_lemma => kernel_rfl) Tryz.func5 closed
    (of_decide_eq_true (by as_aux_lemma => kernel_rfl)) (by unfold Func.isWrapper; first | (rw [if_pos (by decide +kernel)]; kernel_rfl) | (rw [if_neg (by decide +kernel)]; exact ⟨rfl, rfl⟩))
    (fun os started H enc _ => leaving_of_handed (lifted os started H enc))

/-- The card. -/
theorem proved : Rows.BlockOfCardSaid :=
  tied_goes .later [] [.handle] true Rows.blockOfCard.stood.harness true Rows.blockOfCard.goes
    over (fun _ h => by cases h) (by kernel_rfl) (fun _ h => by cases h) blockOf_row_tie rfl ⟨rfl, rfl⟩ (by kernel_rfl) rfl
    (fun f fn hf hfn => by
      obtain rfl : f = 5 := Option.some.inj ((show Tryz.prog.funcNamed Rows.blockOfRow.func = some 5 by kernel_rfl).symm.trans hf) |>.symm
      obtain rfl : fn = Tryz.f5 := (Option.some.inj (Tryz.func5.symm.trans hfn)).symm
      exact ⟨by kernel_rfl, fun j t ht => by
        rw [Tryz.params5] at ht
        have hj : j = 0 ∨ j = 1 ∨ 2 ≤ j := by omega
        rcases hj with rfl | rfl | hj
        · obtain rfl : 3 = t := by simpa using ht
          exact (show Tryz.prog.wantsStandIn 3 = false by kernel_rfl)
        · obtain rfl : 22 = t := by simpa using ht
          exact (show Tryz.prog.wantsStandIn 22 = false by kernel_rfl)
        · rw [Array.getElem?_eq_none (by simpa using hj)] at ht; cases ht⟩)
    (by kernel_rfl)

end Go.Proofs.YtkpoobnldgfapabGreatDoor.blockOf
