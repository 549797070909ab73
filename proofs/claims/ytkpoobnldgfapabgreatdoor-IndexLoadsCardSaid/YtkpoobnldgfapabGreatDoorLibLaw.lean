/- The rows that list the library's tables: what their condition gives a walk; a world that meets it. -/
import Derived.Test.YtkpoobnldgfapabGreatDoorDoorKit
import Derived.Test.YtkpoobnldgfapabGreatDoorStrKit
import Derived.Lib.LaidTab
import Derived.Lib.LaidIn
import Derived.Handed
import Derived.ChangeMaps
set_option linter.unusedVariables false
set_option linter.unusedSimpArgs false
namespace Go.Proofs.YtkpoobnldgfapabGreatDoor
open Go.ChangeShapes Go.WideShapes Go.RowKit

/-- The row's list. -/
abbrev laidL : List (String × DataW Unit) := [("math/bits.deBruijn32tab", Rows.laid_math_bits_deBruijn32tab), ("math/bits.deBruijn64tab", Rows.laid_math_bits_deBruijn64tab), ("internal/strconv.uint64pow10", Rows.laid_internal_strconv_uint64pow10), ("unicode/utf8.acceptRanges", Rows.laid_unicode_utf8_acceptRanges), ("errors.errorType", Rows.laid_errors_errorType), ("strconv.ErrRange", Rows.laid_strconv_ErrRange), ("strconv.ErrSyntax", Rows.laid_strconv_ErrSyntax), ("unicode/utf8.first", Rows.laid_unicode_utf8_first)]
/-- .. without the type handle. -/
abbrev laidD : List (String × DataW Unit) := [("math/bits.deBruijn32tab", Rows.laid_math_bits_deBruijn32tab), ("math/bits.deBruijn64tab", Rows.laid_math_bits_deBruijn64tab), ("internal/strconv.uint64pow10", Rows.laid_internal_strconv_uint64pow10), ("unicode/utf8.acceptRanges", Rows.laid_unicode_utf8_acceptRanges), ("strconv.ErrRange", Rows.laid_strconv_ErrRange), ("strconv.ErrSyntax", Rows.laid_strconv_ErrSyntax), ("unicode/utf8.first", Rows.laid_unicode_utf8_first)]

theorem laid_at {P : Program} {W : World} : ∀ {l : List (String × DataW Unit)} {ps : List MemPlace}, DataW.LaidVars P W l ps → ∀ {n : String} {d : DataW Unit}, (n, d) ∈ l →
    ∃ g t cs fuel p, P.globalNamed n = some g ∧ (P.globals[g]?).map (·.type) = some t ∧ W.var? P n = some cs ∧ DataW.trod (fun _ => ()) P W 0 (fun _ => true) false fuel t cs.toList = some (d, p)
  | [], _, _, _, _, hm => by cases hm
  | (n', d') :: r, ps, h, n, d, hm => by
    obtain ⟨g, t, cs, fuel, p, q, h1, h2, h3, h4, h5, _⟩ := h
    rcases List.mem_cons.1 hm with e | hm
    · cases e
      exact ⟨g, t, cs, fuel, p, h1, h2, h3, h4⟩
    · exact laid_at h5 hm

/-- A variable of type int holds some int. -/
theorem int_of_shape {P : Program} {w : World} {g : Nat} {t : TypeId} {zero : Array Value} (h : w.ShapedOpen P) (hg : g < P.globals.size)
    (h0 : ((begin P (fun _ _ => 0) default).world.heap[g]?).bind Obj.row? = some (zero, t)) (hz : zero.size = 1)
    (hb : P.buildable t = true) (hc : P.cellTypes P.depth t = some [t]) (hu : P.underlying t = some (.int .i64)) : ∃ m : Int, w.cell? ⟨g, 0, none⟩ = some (.int .i64 m) := by
  obtain ⟨cs, hh, hs, hr⟩ := h.1 g zero t hg h0
  obtain ⟨ts, hts, _, hall⟩ := hr hb
  rw [hc] at hts
  cases hts
  have h1 : 0 < cs.size := by omega
  obtain ⟨u, hu', hok⟩ := hall 0 cs[0] (by simp [h1])
  have : u = t := by simpa using hu'.symm
  subst this
  have hcell : w.cell? ⟨g, 0, none⟩ = some cs[0] := by simp [World.cell?, hh, h1]
  rw [hcell]
  unfold Cell.ok at hok
  rw [hu] at hok
  cases hv : cs[0] <;> rw [hv] at hok <;> first | (rename_i k z; simp at hok; obtain ⟨rfl, _⟩ := hok; exact ⟨_, rfl⟩) | (rename_i k z; simp at hok; obtain rfl := hok; exact ⟨_, rfl⟩) | simp at hok

theorem tab_pow : (Rows.laid_internal_strconv_uint64pow10 : DataW Unit) = Lib.tabData .u64 Lib.pow10Tab := by
  unfold Rows.laid_internal_strconv_uint64pow10 Lib.tabData Lib.pow10Tab
  rfl

theorem glob_syn : Tryz.prog.globalNamed "strconv.ErrSyntax" = some 1 := by kernel_rfl
theorem glob_rng : Tryz.prog.globalNamed "strconv.ErrRange" = some 2 := by kernel_rfl
theorem glob_pow : Tryz.prog.globalNamed "internal/strconv.uint64pow10" = some 4 := by kernel_rfl

set_option maxRecDepth 100000 in
/-- WHAT THE CONDITION GIVES A WALK. -/
theorem lib_laid {W : World} (hsh : W.ShapedOpen Tryz.prog) (h : laidMetH Tryz.prog laidL W) : LibW W := by
  have h' : laidMet Tryz.prog laidD W ∧ handlesMet Tryz.prog [("errors.errorType", Rows.laid_errors_errorType)] W := h
  obtain ⟨⟨ps, hv, _, _⟩, hh⟩ := h'
  have herr : ErrT W := door_laid (show laidMetH Tryz.prog [("errors.errorType", Rows.laid_errors_errorType)] W from ⟨laidMet_nil _ _, hh⟩)
  have sent : ∀ (n : String) (x d : DataW Unit) (nm : String) (g : Nat), x = .iface nm d → (n, x) ∈ laidD → Tryz.prog.globalNamed n = some g → (Tryz.prog.globals[g]?).map (·.type) = some 44 → ∃ tp p, W.var? Tryz.prog n = some #[.iface tp p] := by
    intro n x d nm g hx hm hg hty
    obtain ⟨g', t, cs, fuel, p, h1, h2, h3, h4⟩ := laid_at hv hm
    obtain rfl := Option.some.inj (hg.symm.trans h1)
    obtain rfl := Option.some.inj (hty.symm.trans h2)
    rw [hx] at h4
    obtain ⟨_, u, v, hc, _, _⟩ := iface_of_trod Tryz.underlying44 h4
    exact ⟨u, v, by rw [h3]; congr 1; exact Array.toList_inj.1 (by rw [hc])⟩
  refine ⟨?_, sent "strconv.ErrSyntax" Rows.laid_strconv_ErrSyntax _ _ _ rfl ?_ glob_syn (by kernel_rfl), sent "strconv.ErrRange" Rows.laid_strconv_ErrRange _ _ _ rfl ?_ glob_rng (by kernel_rfl), ?_, herr⟩
  · obtain ⟨g, t, cs, fuel, p, h1, h2, h3, h4⟩ := laid_at hv (n := "internal/strconv.uint64pow10") (d := Rows.laid_internal_strconv_uint64pow10) (.tail _ (.tail _ (.head _)))
    rw [tab_pow] at h4
    obtain rfl := Option.some.inj (glob_pow.symm.trans h1)
    obtain ⟨t0, n0, e0, hty, ht, he, hce, hct⟩ : ∃ t0 n0 e0, (Tryz.prog.globals[4]?).map (·.type) = some t0 ∧ Tryz.prog.underlying t0 = some (.array n0 e0) ∧ Tryz.prog.underlying e0 = some (.int .u64) ∧ Tryz.prog.cellsOf e0 = 1 ∧ Tryz.prog.cellsOf t0 = n0 :=
      ⟨368, 20, 101, by kernel_rfl, by kernel_rfl, by kernel_rfl, by kernel_rfl, by kernel_rfl⟩
    obtain rfl := Option.some.inj (hty.symm.trans h2)
    unfold Lib.TabIs
    rw [h3]
    congr 1
    exact Array.toList_inj.1 (by rw [Lib.cells_of_tab ht he hce hct h4])
  · exact .tail _ (.tail _ (.tail _ (.tail _ (.tail _ (.head _)))))
  · exact .tail _ (.tail _ (.tail _ (.tail _ (.head _))))
  · exact int_of_shape hsh (g := Tryz.lays146_ren.g 1) (t := 3) (zero := #[.int .i64 0]) (of_decide_eq_true (by kernel_rfl)) (by kernel_rfl) rfl (by kernel_rfl) (by kernel_rfl) (by kernel_rfl)

/-- Who returns, where the start's shape is known too. -/
theorem returns_shaped {H : Type} {enc : TypeId × Value → H} {a : Assume} {C : Checked} {os : Os} {f : FuncId} {fn : Func} {s : ChangeSpec} {conds : List PathCond} {apart fresh handsOn again : Bool} {X : World → Array Value → Prop}
    (hX : ∀ (w w' : World) (args : Array Value), w.heap = w'.heap → X w args → X w' args)
    (own : ownKnob C.prog.godebug = none) (started : os.Started) (noInit : C.prog.inits.idxOf? f = none) (hfn : C.prog.funcs[f]? = some fn)
    (witness : ∃ (w : World) (tape : Tape) (i : Input), w.os = os ∧ (w.forCall tape i).Shaped C.prog ∧ i.vars = [] ∧ Input.okWide C.prog (w.forCall tape i) .any w.heap.size f i ∧
      ((s.pre enc C.prog fn conds apart (w.forCall tape i).memory i.args ∧ X (w.forCall tape i).memory i.args) ∧ sizedMet enc C.prog fn (OpenSpec.ofChange s) apart (w.forCall tape i).memory i.args) ∧ a.holds C.prog (lone (Frame.enter C.prog f i.args .normal) [] (w.forCall tape i)))
    (contract : ∀ (W : World) (base : Nat) (args : Array Value) (ds gs : List (DataW H)) (before : List MemPlace), W.ShapedOpen C.prog →
      (∀ (j : Nat) t v, fn.params[j]? = some t → args[j]? = some v → Value.okWide C.prog W .any base t v) →
      DataW.Whole enc C.prog fn.params.toList s.vars apart W args.toList ds gs before → X W args →
      Calls C.prog f args W fun e W' => ∃ v, e = .returned v ∧ s.post enc C.prog fn apart fresh handsOn again W args v W') :
    ReturnsInHanded a C os f .any (fun w args => (s.pre enc C.prog fn conds apart w args ∧ X w args) ∧ sizedMet enc C.prog fn (OpenSpec.ofChange s) apart w args) (s.post enc C.prog fn apart fresh handsOn again) := by
  refine returnsInHanded_of_calls own started noInit witness ?_
  intro w tape i _ hsh _ hok hpre _
  obtain ⟨_, _, _, fn', hfn', _, _, _, _, hval⟩ := hok
  obtain rfl : fn' = fn := Option.some.inj (hfn'.symm.trans hfn)
  obtain ⟨⟨⟨ds, gs, before, hw, _⟩, hx⟩, _⟩ := hpre
  refine (contract (w.forCall tape i) w.heap.size i.args ds gs before hsh hval (DataW.Whole.of_heap (w' := w.forCall tape i) (by rfl) hw) (hX _ _ _ (by rfl) hx)).mono fun e W' ⟨v, he, hp⟩ => ?_
  subst he
  exact ChangeSpec.post_blind hp

/-- So many blocks has the settled world. -/
noncomputable def lowW : Nat := (World.holding Tryz.prog default ⟨#[], #[], []⟩).heap.size

def flatLits : DataW Unit → Array Value
  | .agg l => (l.flatMap fun | .lit (.int k z) => [Value.int k z] | .agg [.lit (.int k z), .lit (.int k' z')] => [Value.int k z, Value.int k' z'] | _ => []).toArray
  | _ => #[]

/-- A world that meets the condition: the settled one, the listed variables laid. -/
noncomputable def libWorld (os : Os) : World :=
  let w0 := World.holding Tryz.prog os ⟨#[.cells #[.string ⟨#[118, 97, 108, 117, 101, 32, 111, 117, 116, 32, 111, 102, 32, 114, 97, 110, 103, 101]⟩] 376, .cells #[.string ⟨#[105, 110, 118, 97, 108, 105, 100, 32, 115, 121, 110, 116, 97, 120]⟩] 376], #[], []⟩
  let put (h : Array Obj) (g : Nat) (cs : Array Value) : Array Obj := h.modify g fun
    | .cells _ t frozen => .cells cs t frozen
    | o => o
  let h0 := put w0.heap 0 #[.iface 259 (.agg #[.pointer (some ⟨9, 44, none⟩)])]
  let h1 := put h0 2 #[.iface 374 (.pointer (some ⟨lowW, 0, none⟩))]
  let h2 := put h1 1 #[.iface 374 (.pointer (some ⟨lowW + 1, 0, none⟩))]
  let h3 := put h2 4 (flatLits Rows.laid_internal_strconv_uint64pow10)
  let h4 := put h3 5 (flatLits Rows.laid_unicode_utf8_first)
  let h5 := put h4 6 (flatLits Rows.laid_unicode_utf8_acceptRanges)
  let h6 := put h5 7 (flatLits Rows.laid_math_bits_deBruijn32tab)
  let h7 := put h6 8 (flatLits Rows.laid_math_bits_deBruijn64tab)
  { w0 with heap := h7 }

set_option maxRecDepth 1000000 in
theorem libWorld_laid (os : Os) (args : Array Value) : LaidIn Tryz.prog ((libWorld os).forCall (fun _ _ => 0) ⟨#[], args, []⟩).memory laidD [7, 8, 4, 6, 2, lowW, 1, lowW + 1, 5] :=
  LaidIn.of_run [7, 8, 4, 6, 2, lowW, 1, lowW + 1, 5] 10 (by kernel_rfl) (by kernel_rfl) (by kernel_rfl) (by kernel_rfl)

set_option maxRecDepth 1000000 in
theorem libWorld_met (os : Os) (args : Array Value) : laidMetH Tryz.prog laidL ((libWorld os).forCall (fun _ _ => 0) ⟨#[], args, []⟩).memory :=
  laidMetH_of_parts (l := laidL) (libWorld_laid os args).met (by kernel_rfl)

end Go.Proofs.YtkpoobnldgfapabGreatDoor
