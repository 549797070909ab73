/- The card of DeskPieces: it returns true at every input (the listed variables tied to the program's text), and leaves its input as it was. -/
import Derived.Test.YtfglkgkihafcpaaGreatDoorDp03
import Derived.Test.YtfglkgkihafcpaaGreatDoorDp48
import Derived.Test.YtfglkgkihafcpaaGreatDoorTie
import Derived.Test.YtfglkgkihafcpaaGreatDoorCards
import Derived.SevenTiedAt
import Derived.Conc.Holds
import Derived.Leaving
import Derived.SizedLaws
set_option linter.unusedVariables false
set_option linter.unusedSimpArgs false
namespace Go.Proofs.YtfglkgkihafcpaaGreatDoor.deskPieces
open Go.RowKit Pl Go.ChangeShapes Go.WideShapes Go.ChangeAt
theorem tied_goes (Lk : Looks) {p : Pinned} {s : OpenSpec} {c : OpenClaim} (al : List (List PathCond)) (kinds : List LaidKind) (tests : Bool) (har : Bool × String) (lk goes : Bool)
  (hc : c.holds p s) (hal : ∀ D ∈ al, (c.withDomain D).holds p s) (hw : c.wfByText s = true) (hwal : ∀ D ∈ al, (c.withDomain D).wfByText s = true)
  (htie : c.laidByTextAt Lk p kinds tests)
  (hst : c.start = .entering) (hnb : c.noBlocks = false ∧ c.again = false) (hm : p.checked.prog.mainIs = some (har.1, har.2.toList)) (hn : (!har.1 && har.2.isEmpty && !lk) = false)
  (hl : ∀ f fn, p.checked.prog.funcNamed c.func = some f → p.checked.prog.funcs[f]? = some fn → lk = p.checked.prog.looks [] ∧ ∀ (j : Nat) t, fn.params[j]? = some t → p.checked.prog.wantsStandIn t = false)
  (hg : goes = c.goesBy p.checked.prog) :
  Claim7.holds p (.plain s) { stood := { row := c, standIns := [], harness := har, looks := lk }, kinds := [], alts := al, laidByText := true, laidKinds := kinds, laidTests := tests, laidLooks := Lk, goes := goes } := by
 have h6 : ∀ r : OpenClaim, Claim7.isSixth { stood := { row := r, standIns := [], harness := har, looks := lk }, kinds := [] } = false := fun r => by simpa [Claim7.isSixth] using hn
 refine ⟨Claim7.tied_new_at Lk kinds tests (Claim7.new_of_sixth hc har lk hst hnb hm (h6 c) hl) hw, fun D hD => ?_, htie, (fun h => by cases h), hg⟩
 exact Claim7.tied_new_at Lk kinds tests (Claim7.new_of_sixth (hal D hD) har lk hst hnb hm (h6 _) hl) (hwal D hD)
set_option maxRecDepth 100000 in
/-- Who returns, where the start's shape and the arguments' sizes are known. -/
theorem returns_sized {H : Type} {enc : TypeId × Value → H} {a : Assume} {C : Checked} {os : Os} {f : FuncId} {fn : Func} {s : ChangeSpec} {conds : List PathCond} {apart fresh handsOn again : Bool} {X : World → Array Value → Prop}
  (hX : ∀ (w w' : World) (args : Array Value), w.heap = w'.heap → X w args → X w' args)
  (own : ownKnob C.prog.godebug = none) (started : os.Started) (noInit : C.prog.inits.idxOf? f = none) (hfn : C.prog.funcs[f]? = some fn)
  (witness : ∃ (w : World) (tape : Tape) (i : Input), w.os = os ∧ (w.forCall tape i).Shaped C.prog ∧ i.vars = [] ∧ Input.okWide C.prog (w.forCall tape i) .any w.heap.size f i ∧
   ((s.pre enc C.prog fn conds apart (w.forCall tape i).memory i.args ∧ X (w.forCall tape i).memory i.args) ∧ sizedMet enc C.prog fn (OpenSpec.ofChange s) apart (w.forCall tape i).memory i.args) ∧ a.holds C.prog (lone (Frame.enter C.prog f i.args .normal) [] (w.forCall tape i)))
  (contract : ∀ (W : World) (base : Nat) (args : Array Value) (ds gs : List (DataW H)) (before : List MemPlace), W.ShapedOpen C.prog →
   (∀ (j : Nat) t v, fn.params[j]? = some t → args[j]? = some v → Value.okWide C.prog W .any base t v) →
   DataW.Whole enc C.prog fn.params.toList s.vars apart W args.toList ds gs before → X W args → (DataW.weightsEach C.prog (fn.params.toList ++ (OpenSpec.ofChange s).bare.plain.varTypes C.prog) (ds ++ gs)).all (· ≤ reachBytes) = true →
   Calls C.prog f args W fun e W' => ∃ v, e = .returned v ∧ s.post enc C.prog fn apart fresh handsOn again W args v W') :
  ReturnsInHanded a C os f .any (fun w args => (s.pre enc C.prog fn conds apart w args ∧ X w args) ∧ sizedMet enc C.prog fn (OpenSpec.ofChange s) apart w args) (s.post enc C.prog fn apart fresh handsOn again) := by
 refine returnsInHanded_of_calls own started noInit witness ?_
 intro w tape i _ hsh _ hok hpre _
 obtain ⟨_, _, _, fn', hfn', _, _, _, _, hval⟩ := hok
 obtain rfl : fn' = fn := Option.some.inj (hfn'.symm.trans hfn)
 obtain ⟨⟨_, hx⟩, ⟨_, ds, gs, before, hw, hz⟩⟩ := hpre
 refine (contract (w.forCall tape i) w.heap.size i.args ds gs before hsh hval (DataW.Whole.of_heap (w' := w.forCall tape i) (by rfl) hw) (hX _ _ _ (by rfl) hx) hz).mono fun e W' ⟨v, he, hp⟩ => ?_
 subst he
 exact ChangeSpec.post_blind hp
set_option maxRecDepth 100000 in
theorem lifted (os : Os) (started : os.Started) (H : Type) (enc : TypeId × Value → H) :
  ReturnsInHanded {} Tryz.checked os 3 .any (fun w args => (Rows.deskPiecesSpec.pre enc Tryz.prog Tryz.f3 [] false w args ∧ laidMetH Tryz.prog laidL w) ∧ sizedMet enc Tryz.prog Tryz.f3 (OpenSpec.ofChange Rows.deskPiecesSpec) false w args)
   (Rows.deskPiecesSpec.post enc Tryz.prog Tryz.f3 false true false false) := by
 refine returns_sized (C := Tryz.checked) (X := fun w _ => laidMetH Tryz.prog laidL w) (fun _ _ _ hh h => h.of_heap hh) own started (by kernel_rfl) Tryz.func3
  (ChangeSpec.witness_at (enc := enc) (C := Tryz.checked) (os := os) (X := fun w _ => laidMetH Tryz.prog laidL w) false (libWorld os) #[.string ⟨#[]⟩, .string ⟨#[]⟩] 8 rfl (by kernel_rfl) (by kernel_rfl) (by kernel_rfl) (by kernel_rfl) (by kernel_rfl) (libWorld_met os _)) ?_
 intro W base args ds gs before hsh hval0 hW hL hz0
 have hval : ∀ (j : Nat) t v, Tryz.f3.params[j]? = some t → args[j]? = some v → Value.okWide Tryz.prog W .any base t v := hval0
 have hW' := hW
 obtain ⟨p, q, hA0, hV0, rfl, hfz, hnd⟩ := hW
 have hA : DataW.TrodAll enc Tryz.prog W 0 (fun _ => true) true Tryz.f3.params.toList args.toList ds p := hA0
 have hV : DataW.TrodVars enc Tryz.prog W (fun _ => true) [] gs q := hV0
 rw [Tryz.params3] at hA hval
 obtain ⟨v0, vs0, d0, ds0, p0, q0, hargs, rfl, rfl, h0, r0⟩ := trodAll_cons hA
 obtain ⟨v1, vs1, d1, ds1, p1, q1, rfl, rfl, rfl, h1, r1⟩ := trodAll_cons r0
 obtain ⟨rfl, rfl, rfl⟩ := trodAll_nil r1
 obtain rfl : args = #[v0, v1] := by cases args; simp_all
 obtain ⟨rfl, rfl⟩ : gs = [] ∧ q = [] := by
  cases gs with
  | nil => exact ⟨rfl, hV⟩
  | cons g r => exact absurd hV (by intro h; cases h)
 obtain ⟨s, rfl, rfl, rfl, w0⟩ := Go.ChangeMaps.open_string Tryz.underlying9 (hval 0 9 v0 rfl rfl) h0
 obtain ⟨s2, rfl, rfl, rfl, w1⟩ := Go.ChangeMaps.open_string Tryz.underlying9 (hval 1 9 v1 rfl rfl) h1
 rw [Tryz.params3] at hz0
 have b0 : s.data.toList.length ≤ reachBytes := sized_string hz0 (j := 0) rfl rfl
 have b1 : s2.data.toList.length ≤ reachBytes := sized_string hz0 (j := 1) rfl rfl
 have hlib := lib_laid hsh hL
 have herr := lib_err hL
 clear hA0 hval0
 have walk : Calls Tryz.prog 3 #[.string s, .string s2] W fun e w' => e = .returned (.bool true) ∧ Keep Nb W w' := by
  have e0 : s.data.toList.length = s.size := Array.length_toList
  have e1 : s2.data.toList.length = s2.size := Array.length_toList
  by_cases hn : 1500 < s.size + s2.size
  ·exact deskpieces_long s s2 hn (by rw [← e0]; exact Nat.le_trans b0 (by decide)) (by rw [← e1]; exact Nat.le_trans b1 (by decide)) W
  ·exact deskpieces_any s.data.toList s2.data.toList (by omega) W hlib herr
 refine walk.mono fun e W' ⟨he, hk⟩ => ?_
 have bel : Below W.heap.size W W' := hk.to_below (fun _ _ e => e)
 subst he
 exact ⟨_, rfl, _, _, _, [], _, [], hW', trodAll_mk1 (shut_bool Tryz.underlying4 _), trodAll_cons_mk (Go.ChangeMaps.shut_string Tryz.underlying9 w0) (trodAll_cons_mk (Go.ChangeMaps.shut_string Tryz.underlying9 w1) trodAll_mk0), rfl, bel.frame _, fun h => by cases h⟩
theorem leaving_of_handed {a : Assume} {C : Checked} {os : Os} {f : FuncId} {r : Reach} {Pre : World → Array Value → Prop} {Post : World → Array Value → Value → World → Prop} (h : ReturnsInHanded a C os f r Pre Post) : ReturnsInLeavingWide a C os f r Pre Post := fun enter => by
 obtain ⟨h0, h1, h2, h3, h4⟩ := h enter
 refine ⟨h0, h1, h2, h3, fun w tape i hf => ?_⟩
 obtain ⟨n, v, w', a1, a2, a3, a4, ⟨j, last, b1, b2, b3⟩, a5⟩ := h4 w tape i hf
 exact ⟨n, v, w', a1, a2, a3, a4, ⟨j, last, b1, b2, b3.2.1, onlyLeaving_of_quiet b3.1, b3.2.2⟩, a5⟩
theorem and_tt {a b : Bool} (hb : b = true) (ha : a = true) : (a && b) = true := by rw [ha, hb]; rfl
set_option maxHeartbeats 4000000 in
/-- The row's closed facts, one by one. -/
theorem closed : joinedFacts Tryz.prog 3 Tryz.f3 Rows.deskPiecesSpec Rows.deskPiecesRow = true := by
 unfold joinedFacts
 repeat
  with_reducible refine and_tt ?_ ?_
  ·as_aux_lemma => kernel_rfl
 as_aux_lemma => kernel_rfl
theorem over : Rows.DeskPiecesSaid :=
 OpenClaim.holds_of_wide_leaving 3 Tryz.f3 rfl rfl rfl rfl rfl rfl rfl ⟨rfl, rfl, rfl, rfl, rfl⟩ rfl rfl rfl rfl rfl (by as_aux_lemma => kernel_rfl) Tryz.func3 closed
  (of_decide_eq_true (by as_aux_lemma => kernel_rfl)) (by unfold Func.isWrapper; first | (rw [if_pos (by decide +kernel)]; kernel_rfl) | (rw [if_neg (by decide +kernel)]; exact ⟨rfl, rfl⟩))
  (fun os started H enc _ => leaving_of_handed (lifted os started H enc))
theorem proved : Rows.DeskPiecesCardSaid :=
 tied_goes .later [] [.data, .data, .data, .data, .handle, .sentinel, .sentinel, .pinned] true Rows.deskPiecesCard.stood.harness true Rows.deskPiecesCard.goes
  over (fun _ h => by cases h) (by kernel_rfl) (fun _ h => by cases h) deskPieces_row_tie rfl ⟨rfl, rfl⟩ (by kernel_rfl) rfl
  (fun f fn hf hfn => by
   obtain rfl : f = 3 := Option.some.inj ((show Tryz.prog.funcNamed Rows.deskPiecesRow.func = some 3 by kernel_rfl).symm.trans hf) |>.symm
   obtain rfl : fn = Tryz.f3 := (Option.some.inj (Tryz.func3.symm.trans hfn)).symm
   exact ⟨by kernel_rfl, fun j t ht => by
    rw [Tryz.params3] at ht
    have hj : j = 0 ∨ j = 1 ∨ 2 ≤ j := by omega
    rcases hj with rfl | rfl | hj
    ·obtain rfl : 9 = t := by simpa using ht
     exact (show Tryz.prog.wantsStandIn 9 = false by kernel_rfl)
    ·obtain rfl : 9 = t := by simpa using ht
     exact (show Tryz.prog.wantsStandIn 9 = false by kernel_rfl)
    ·rw [Array.getElem?_eq_none (by simpa using hj)] at ht; cases ht⟩)
  (by kernel_rfl)
end Go.Proofs.YtfglkgkihafcpaaGreatDoor.deskPieces

