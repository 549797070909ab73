/- Part 4 of the proof: LibLaw RFunc. -/
import Derived.Test.YtkpoobnldgfapabGreatDoorIl01
import Derived.Test.YtkpoobnldgfapabGreatDoorIl02
import Derived.Test.YtkpoobnldgfapabGreatDoorIl03
import Derived.Lib.LaidTab
import Derived.Lib.LaidIn
import Derived.Handed
import Derived.ChangeMaps
import Derived.RangeFuncWrites
import Derived.RangeFuncLeaves
set_option linter.unusedVariables false
set_option linter.unusedSimpArgs false
namespace Go.Proofs.YtkpoobnldgfapabGreatDoor
open Go.ChangeShapes Go.WideShapes Go.RowKit
abbrev laidL : List (String × DataW Unit) := [("math/bits.deBruijn32tab", Rows.laid_math_bits_deBruijn32tab), ("math/bits.deBruijn64tab", Rows.laid_math_bits_deBruijn64tab), ("internal/strconv.uint64pow10", Rows.laid_internal_strconv_uint64pow10), ("unicode/utf8.acceptRanges", Rows.laid_unicode_utf8_acceptRanges), ("errors.errorType", Rows.laid_errors_errorType), ("strconv.ErrRange", Rows.laid_strconv_ErrRange), ("strconv.ErrSyntax", Rows.laid_strconv_ErrSyntax), ("unicode/utf8.first", Rows.laid_unicode_utf8_first)]
abbrev laidD : List (String × DataW Unit) := [("math/bits.deBruijn32tab", Rows.laid_math_bits_deBruijn32tab), ("math/bits.deBruijn64tab", Rows.laid_math_bits_deBruijn64tab), ("internal/strconv.uint64pow10", Rows.laid_internal_strconv_uint64pow10), ("unicode/utf8.acceptRanges", Rows.laid_unicode_utf8_acceptRanges), ("strconv.ErrRange", Rows.laid_strconv_ErrRange), ("strconv.ErrSyntax", Rows.laid_strconv_ErrSyntax), ("unicode/utf8.first", Rows.laid_unicode_utf8_first)]
theorem laid_at {P : Program} {W : World} : ∀ {l : List (String × DataW Unit)} {ps : List MemPlace}, DataW.LaidVars P W l ps → ∀ {n : String} {d : DataW Unit}, (n, d) ∈ l →
    ∃ g t cs fuel p, P.globalNamed n = some g ∧ (P.globals[g]?).map (·.type) = some t ∧ W.var? P n = some cs ∧ DataW.trod (fun _ => ()) P W 0 (fun _ => true) false fuel t cs.toList = some (d, p)
  | [], _, _, _, _, hm => by cases hm
  | (n', d') :: r, ps, h, n, d, hm => by
    obtain ⟨g, t, cs, fuel, p, q, h1, h2, h3, h4, h5, _⟩ := h
    rcases List.mem_cons.1 hm with e | hm
    · cases e
      exact ⟨g, t, cs, fuel, p, h1, h2, h3, h4⟩
    · exact laid_at h5 hm
theorem int_of_shape {P : Program} {w : World} {g : Nat} {t : TypeId} {zero : Array Value} (h : w.ShapedOpen P) (hg : g < P.globals.size)
    (h0 : ((begin P (fun _ _ => 0) default).world.heap[g]?).bind Obj.row? = some (zero, t)) (hz : zero.size = 1)
    (hb : P.buildable t = true) (hc : P.cellTypes P.depth t = some [t]) (hu : P.underlying t = some (.int .i64)) : ∃ m : Int, w.cell? ⟨g, 0, none⟩ = some (.int .i64 m) := by
  obtain ⟨cs, hh, hs, hr⟩ := h.1 g zero t hg h0
  obtain ⟨ts, hts, _, hall⟩ := hr hb
  rw [hc] at hts
  cases hts
  have h1 : 0 < cs.size := by omega
  obtain ⟨u, hu', hok⟩ := hall 0 cs[0] (by simp [h1])
  have : u = t := by simpa using hu'.symm
  subst this
  have hcell : w.cell? ⟨g, 0, none⟩ = some cs[0] := by simp [World.cell?, hh, h1]
  rw [hcell]
  unfold Cell.ok at hok
  rw [hu] at hok
  cases hv : cs[0] <;> rw [hv] at hok <;> first | (rename_i k z; simp at hok; obtain ⟨rfl, _⟩ := hok; exact ⟨_, rfl⟩) | (rename_i k z; simp at hok; obtain rfl := hok; exact ⟨_, rfl⟩) | simp at hok
theorem tab_pow : (Rows.laid_internal_strconv_uint64pow10 : DataW Unit) = Lib.tabData .u64 Lib.pow10Tab := by
  unfold Rows.laid_internal_strconv_uint64pow10 Lib.tabData Lib.pow10Tab
  rfl
theorem glob_syn : Tryz.prog.globalNamed "strconv.ErrSyntax" = some 1 := by kernel_rfl
theorem glob_rng : Tryz.prog.globalNamed "strconv.ErrRange" = some 2 := by kernel_rfl
theorem glob_pow : Tryz.prog.globalNamed "internal/strconv.uint64pow10" = some 4 := by kernel_rfl
set_option maxRecDepth 100000 in
/-- WHAT THE CONDITION GIVES A WALK. -/
theorem lib_laidD {W : World} (hsh : W.ShapedOpen Tryz.prog) (h : laidMet Tryz.prog laidD W) : LibW W := by
  obtain ⟨ps, hv, _, _⟩ := h
  have sent : ∀ (n : String) (x d : DataW Unit) (nm : String) (g : Nat), x = .iface nm d → (n, x) ∈ laidD → Tryz.prog.globalNamed n = some g → (Tryz.prog.globals[g]?).map (·.type) = some 44 → ∃ tp p, W.var? Tryz.prog n = some #[.iface tp p] := by
    intro n x d nm g hx hm hg hty
    obtain ⟨g', t, cs, fuel, p, h1, h2, h3, h4⟩ := laid_at hv hm
    obtain rfl := Option.some.inj (hg.symm.trans h1)
    obtain rfl := Option.some.inj (hty.symm.trans h2)
    rw [hx] at h4
    obtain ⟨_, u, v, hc, _, _⟩ := iface_of_trod Tryz.underlying44 h4
    exact ⟨u, v, by rw [h3]; congr 1; exact Array.toList_inj.1 (by rw [hc])⟩
  refine ⟨?_, sent "strconv.ErrSyntax" Rows.laid_strconv_ErrSyntax _ _ _ rfl ?_ glob_syn (by kernel_rfl), sent "strconv.ErrRange" Rows.laid_strconv_ErrRange _ _ _ rfl ?_ glob_rng (by kernel_rfl), ?_⟩
  · obtain ⟨g, t, cs, fuel, p, h1, h2, h3, h4⟩ := laid_at hv (n := "internal/strconv.uint64pow10") (d := Rows.laid_internal_strconv_uint64pow10) (.tail _ (.tail _ (.head _)))
    rw [tab_pow] at h4
    obtain rfl := Option.some.inj (glob_pow.symm.trans h1)
    obtain ⟨t0, n0, e0, hty, ht, he, hce, hct⟩ : ∃ t0 n0 e0, (Tryz.prog.globals[4]?).map (·.type) = some t0 ∧ Tryz.prog.underlying t0 = some (.array n0 e0) ∧ Tryz.prog.underlying e0 = some (.int .u64) ∧ Tryz.prog.cellsOf e0 = 1 ∧ Tryz.prog.cellsOf t0 = n0 :=
      ⟨368, 20, 101, by kernel_rfl, by kernel_rfl, by kernel_rfl, by kernel_rfl, by kernel_rfl⟩
    obtain rfl := Option.some.inj (hty.symm.trans h2)
    unfold Lib.TabIs
    rw [h3]
    congr 1
    exact Array.toList_inj.1 (by rw [Lib.cells_of_tab ht he hce hct h4])
  · exact .tail _ (.tail _ (.tail _ (.tail _ (.tail _ (.head _)))))
  · exact .tail _ (.tail _ (.tail _ (.tail _ (.head _))))
  · exact int_of_shape hsh (g := Tryz.lays146_ren.g 1) (t := 3) (zero := #[.int .i64 0]) (of_decide_eq_true (by kernel_rfl)) (by kernel_rfl) rfl (by kernel_rfl) (by kernel_rfl) (by kernel_rfl)
theorem lib_laid {W : World} (hsh : W.ShapedOpen Tryz.prog) (h : laidMetH Tryz.prog laidL W) : LibW W :=
  lib_laidD hsh (show laidMet Tryz.prog laidD W ∧ handlesMet Tryz.prog [("errors.errorType", Rows.laid_errors_errorType)] W from h).1
theorem lib_err {W : World} (h : laidMetH Tryz.prog laidL W) : ErrT W :=
  door_laid (show laidMetH Tryz.prog [("errors.errorType", Rows.laid_errors_errorType)] W from ⟨laidMet_nil _ _, (show laidMet Tryz.prog laidD W ∧ handlesMet Tryz.prog [("errors.errorType", Rows.laid_errors_errorType)] W from h).2⟩)
theorem returns_shaped {H : Type} {enc : TypeId × Value → H} {a : Assume} {C : Checked} {os : Os} {f : FuncId} {fn : Func} {s : ChangeSpec} {conds : List PathCond} {apart fresh handsOn again : Bool} {X : World → Array Value → Prop}
    (hX : ∀ (w w' : World) (args : Array Value), w.heap = w'.heap → X w args → X w' args)
    (own : ownKnob C.prog.godebug = none) (started : os.Started) (noInit : C.prog.inits.idxOf? f = none) (hfn : C.prog.funcs[f]? = some fn)
    (witness : ∃ (w : World) (tape : Tape) (i : Input), w.os = os ∧ (w.forCall tape i).Shaped C.prog ∧ i.vars = [] ∧ Input.okWide C.prog (w.forCall tape i) .any w.heap.size f i ∧
      ((s.pre enc C.prog fn conds apart (w.forCall tape i).memory i.args ∧ X (w.forCall tape i).memory i.args) ∧ sizedMet enc C.prog fn (OpenSpec.ofChange s) apart (w.forCall tape i).memory i.args) ∧ a.holds C.prog (lone (Frame.enter C.prog f i.args .normal) [] (w.forCall tape i)))
    (contract : ∀ (W : World) (base : Nat) (args : Array Value) (ds gs : List (DataW H)) (before : List MemPlace), W.ShapedOpen C.prog →
      (∀ (j : Nat) t v, fn.params[j]? = some t → args[j]? = some v → Value.okWide C.prog W .any base t v) →
      DataW.Whole enc C.prog fn.params.toList s.vars apart W args.toList ds gs before → X W args →
      Calls C.prog f args W fun e W' => ∃ v, e = .returned v ∧ s.post enc C.prog fn apart fresh handsOn again W args v W') :
    ReturnsInHanded a C os f .any (fun w args => (s.pre enc C.prog fn conds apart w args ∧ X w args) ∧ sizedMet enc C.prog fn (OpenSpec.ofChange s) apart w args) (s.post enc C.prog fn apart fresh handsOn again) := by
  refine returnsInHanded_of_calls own started noInit witness ?_
  intro w tape i _ hsh _ hok hpre _
  obtain ⟨_, _, _, fn', hfn', _, _, _, _, hval⟩ := hok
  obtain rfl : fn' = fn := Option.some.inj (hfn'.symm.trans hfn)
  obtain ⟨⟨⟨ds, gs, before, hw, _⟩, hx⟩, _⟩ := hpre
  refine (contract (w.forCall tape i) w.heap.size i.args ds gs before hsh hval (DataW.Whole.of_heap (w' := w.forCall tape i) (by rfl) hw) (hX _ _ _ (by rfl) hx)).mono fun e W' ⟨v, he, hp⟩ => ?_
  subst he
  exact ChangeSpec.post_blind hp
noncomputable def lowW : Nat := (World.holding Tryz.prog default ⟨#[], #[], []⟩).heap.size
def flatLits : DataW Unit → Array Value
  | .agg l => (l.flatMap fun | .lit (.int k z) => [Value.int k z] | .agg [.lit (.int k z), .lit (.int k' z')] => [Value.int k z, Value.int k' z'] | _ => []).toArray
  | _ => #[]
noncomputable def libWorld (os : Os) : World :=
  let w0 := World.holding Tryz.prog os ⟨#[.cells #[.string ⟨#[118, 97, 108, 117, 101, 32, 111, 117, 116, 32, 111, 102, 32, 114, 97, 110, 103, 101]⟩] 376, .cells #[.string ⟨#[105, 110, 118, 97, 108, 105, 100, 32, 115, 121, 110, 116, 97, 120]⟩] 376], #[], []⟩
  let put (h : Array Obj) (g : Nat) (cs : Array Value) : Array Obj := h.modify g fun
    | .cells _ t frozen => .cells cs t frozen
    | o => o
  let h0 := put w0.heap 0 #[.iface 259 (.agg #[.pointer (some ⟨9, 44, none⟩)])]
  let h1 := put h0 2 #[.iface 374 (.pointer (some ⟨lowW, 0, none⟩))]
  let h2 := put h1 1 #[.iface 374 (.pointer (some ⟨lowW + 1, 0, none⟩))]
  let h3 := put h2 4 (flatLits Rows.laid_internal_strconv_uint64pow10)
  let h4 := put h3 5 (flatLits Rows.laid_unicode_utf8_first)
  let h5 := put h4 6 (flatLits Rows.laid_unicode_utf8_acceptRanges)
  let h6 := put h5 7 (flatLits Rows.laid_math_bits_deBruijn32tab)
  let h7 := put h6 8 (flatLits Rows.laid_math_bits_deBruijn64tab)
  { w0 with heap := h7 }
set_option maxRecDepth 1000000 in
theorem libWorld_laid (os : Os) (args : Array Value) : LaidIn Tryz.prog ((libWorld os).forCall (fun _ _ => 0) ⟨#[], args, []⟩).memory laidD [7, 8, 4, 6, 2, lowW, 1, lowW + 1, 5] :=
  LaidIn.of_run [7, 8, 4, 6, 2, lowW, 1, lowW + 1, 5] 10 (by kernel_rfl) (by kernel_rfl) (by kernel_rfl) (by kernel_rfl)
set_option maxRecDepth 1000000 in
theorem libWorld_met (os : Os) (args : Array Value) : laidMetH Tryz.prog laidL ((libWorld os).forCall (fun _ _ => 0) ⟨#[], args, []⟩).memory :=
  laidMetH_of_parts (l := laidL) (libWorld_laid os args).met (by kernel_rfl)
end Go.Proofs.YtkpoobnldgfapabGreatDoor

namespace Go.Proofs.YtkpoobnldgfapabGreatDoor
open Go.RowKit
variable {F : Fence} {n : Nat} {P : Program}
theorem Keep.putObj {G : Nat → Prop} {w : World} {r : Nat} (o : Obj) (h : G r) : Keep G w (w.putObj r o) :=
  ⟨rfl, rfl, rfl, by simp, fun k _ hn => World.putObj_heap_other (fun e => hn (e ▸ h))⟩
def Box3 (B : Nat) (W W' : World) : Prop := ∀ k, B ≤ k → k < B + 3 → W'.heap[k]? = W.heap[k]?
theorem Box3.refl (B : Nat) (W : World) : Box3 B W W := fun _ _ _ => rfl
theorem Box3.trans {B : Nat} {X Y Z : World} (h : Box3 B X Y) (g : Box3 B Y Z) : Box3 B X Z := fun k a b => (g k a b).trans (h k a b)
theorem Box3.of_keep {B : Nat} {G : Nat → Prop} {X Y : World} (h : Keep G X Y) (hB : B + 3 ≤ X.heap.size) (hG : ∀ k, B ≤ k → k < B + 3 → ¬ G k) : Box3 B X Y := fun k a b => h.block k (by omega) (hG k a b)
def AbC {β : Type} (B : Nat) (J : β → World → Prop) : Prop := ∀ s W W', J s W → Keep (fun k => k = B) W W' → J s W'
def OwnS {β : Type} (B hs : Nat) (I : β → World → Prop) : Prop :=
  ∀ s W W', I s W → Keep (fun k => k = B ∨ (hs ≤ k ∧ ∃ o : Obj, W.heap[k]? = some o ∧ o.isCells = false)) W W' → I s W'
def SeqRuns {α : Type} (F : Fence) (n : Nat) (P : Program) (g : Nat) (lb : Array Value) (encs : α → Array Value) (xs : List α) (B : Nat) (w : World) : Prop :=
  ∀ (l : Nat) (J Jx : List α → World → Prop) (W : World), Box3 B w W → w.heap.size ≤ W.heap.size → AbC B J → AbC B Jx →
    (∀ pre x post W1, xs = pre ++ x :: post → J pre W1 → YieldAt F (n - 1) P l (encs x) W1 fun e W' =>
      (e = .returned (.bool true) ∧ J (pre ++ [x]) W' ∧ Box3 B W1 W' ∧ W1.heap.size ≤ W'.heap.size) ∨ (e = .returned (.bool false) ∧ Jx (pre ++ [x]) W')) →
    J [] W →
    CallsIn F n P g (#[.func (.yield l) #[] #[]] ++ lb) W fun e W' => (∃ v, e = .returned v) ∧ (J xs W' ∨ ∃ pre, pre <+: xs ∧ Jx pre W')
theorem wpIn_rangeFunc_S {α : Type} {g : Operand} {ps : Array Tmp} {assign body : Code} {Q : Exit → Act → World → Prop} {a : Act} {w : World}
    (hro : F.round = none) (h1 : 1 ≤ n) {gf : Nat} {lb : Array Value} (hg : a.eval g = .func (.func gf) #[] lb) (hFg : F.fn gf) (eg : ∀ args w, (callFunc gf args).run P w = .ok (.enter gf args) w)
    {encs : α → Array Value} {xs : List α} {B : Nat} (hB : B + 3 ≤ w.heap.size) (hseq : SeqRuns F (n - 1) P gf lb encs xs B w) (hps : ∀ x, (encs x).size = ps.size)
    (I : List α → World → Prop) (Ix : Code → List α → World → Prop) (hI : OwnS B w.heap.size I) (hIx : ∀ c, OwnS B w.heap.size (Ix c)) (h0 : I [] w) (a₁ : α → Act)
    (hassign : ∀ (l : Nat) (x : α) (W : World) (K : Act → World → Prop), K (a₁ x) W →
      assign.wpIn (F.inRound l) (n - 1 - 1) P (Exit.then K (fun _ _ _ => False)) { tmps := (ps.zip (encs x)).foldl (fun t (p, v) => t.setIfInBounds p v) a.tmps, defers := [] } W)
    (hbody : ∀ (l : Nat) (pre : List α) (x : α) (post : List α) (W : World), xs = pre ++ x :: post → w.heap.size ≤ W.heap.size → I pre W → body.wpIn (F.inRound l) (n - 1 - 1) P (ownPostG w.heap.size (Box3 B) I Ix (pre ++ [x]) W) (a₁ x) W)
    (hdone : ∀ (D : Nat) (W : World), w.heap.size ≤ D → I xs W → W.heap[D]? = some (.deferred (some [])) → Q .normal { a with defers := { target := .collected D, args := #[] } :: a.defers } W)
    (hstop : ∀ (D : Nat) (c : Code) (pre : List α) (W : World), w.heap.size ≤ D → pre <+: xs → Ix c pre W → W.heap[D]? = some (.deferred (some [])) → c.wpIn F n P Q { a with defers := { target := .collected D, args := #[] } :: a.defers } W) :
    (Code.rangeFunc g ps assign body).wpIn F n P Q a w := by
  refine wpIn_rangeFunc ?_
  intro fn hfn
  rw [hro]
  obtain ⟨rec, hrec⟩ : ∃ rec : LoopState → Option Code → Loop, rec = fun st pe => { state := st, pending := pe, fn, tmps := a.tmps, params := ps, assign, body, defers := w.heap.size } := ⟨_, rfl⟩
  obtain ⟨W1, hW1⟩ : ∃ W1, (w.alloc (.deferred (some []))).alloc (.loop (rec .ready none)) = W1 := ⟨_, rfl⟩
  have hL1 : W1.heap[w.heap.size + 1]? = some (.loop (rec .ready none)) := by
    rw [← hW1]; have := World.alloc_heap_new (w.alloc (.deferred (some []))) (.loop (rec .ready none)); rwa [World.size_alloc] at this
  have hK1 : W1.heap[w.heap.size]? = some (.deferred (some [])) := by
    rw [← hW1]; exact (Below.heap_alloc _ _ _ (by simp)).trans (World.alloc_heap_new w _)
  have hkA : Keep (fun _ => False) w W1 := by rw [← hW1]; exact ((Keep.refl _ w).alloc _).alloc _
  have hI1 : I [] W1 := hI _ _ _ h0 (hkA.mono (fun _ _ h => h.elim))
  have hz1 : W1.heap.size = w.heap.size + 2 := by rw [← hW1]; simp
  refine ⟨w.heap.size + 1, [{ target := .collected w.heap.size, args := #[] }], W1, { target := .fn (.func gf) lb, args := #[.func (.yield (w.heap.size + 1)) #[] #[]] }, W1, gf,
    #[.func (.yield (w.heap.size + 1)) #[] #[]] ++ lb, W1, ?_, ?_, ?_, ?_, fun _ => h1, ?_⟩
  · rw [← hW1, hrec]; exact run_enterLoop_outer _ _ _ _ _
  · simp only [resolve, hg]
    simp [go_sem]
  · intro f' hf'; simp [Target.leads] at hf'; subst hf'; exact hFg
  · simp [invoke, go_sem, eg]
  · have hput : ∀ {X : List α → World → Prop} (_ : OwnS B w.heap.size X) {s : List α} {W : World} {l : Nat} {o : Obj} (o' : Obj), X s W → w.heap.size ≤ l → W.heap[l]? = some o → o.isCells = false → X s (W.putObj l o') :=
      fun hX _ _ _ _ o' hs hl ho hc => hX _ _ _ hs (Keep.putObj o' (.inr ⟨hl, _, ho, hc⟩))
    have habs : ∀ {A A' : World} {k : Nat} {o : Obj}, Keep (fun k => k = B) A A' → w.heap.size ≤ k → A.heap[k]? = some o → A'.heap[k]? = some o :=
      fun hk hl ho => (hk.block _ (Array.getElem?_eq_some_iff.1 ho).1 (fun e => by omega)).trans ho
    have hwid : ∀ {A A' : World}, Keep (fun k => k = B) A A' → Keep (fun k => k = B ∨ (w.heap.size ≤ k ∧ ∃ o : Obj, A.heap[k]? = some o ∧ o.isCells = false)) A A' := fun h => h.mono (fun _ _ e => .inl e)
    refine (hseq (w.heap.size + 1)
      (fun pre W => I pre W ∧ W.heap[w.heap.size + 1]? = some (.loop (rec .ready none)) ∧ W.heap[w.heap.size]? = some (.deferred (some [])))
      (fun pre W => ∃ c, Ix c pre W ∧ W.heap[w.heap.size + 1]? = some (.loop (rec .done (some c))) ∧ W.heap[w.heap.size]? = some (.deferred (some [])))
      W1 (Box3.of_keep hkA hB (fun _ _ _ h => h)) (by omega)
      (fun s A A' hs hk => ⟨hI s A A' hs.1 (hwid hk), habs hk (by omega) hs.2.1, habs hk (by omega) hs.2.2⟩)
      (fun s A A' hs hk => by
        obtain ⟨c, hc, hl, hd⟩ := hs
        exact ⟨c, hIx c s A A' hc (hwid hk), habs hk (by omega) hl, habs hk (by omega) hd⟩)
      ?_ ⟨hI1, hL1, hK1⟩).mono ?_
    · rintro pre x post W hx ⟨hi, hl, hk⟩
      have hlt : w.heap.size + 1 < W.heap.size := (Array.getElem?_eq_some_iff.1 hl).1
      have hy := run_yield (P := P) (args := encs x) hl (by rw [hrec]; exact hps x)
      rw [hrec] at hy
      refine ⟨fn, _, assign, body, hy, roundIn_of_wpIn hfn (hassign _ x W _ ⟨_, run_beginRound hl (by rw [hrec]), ?_⟩)⟩
      have hl2 : (W.putObj (w.heap.size + 1) (.loop { rec .ready none with state := .busy })).heap[w.heap.size + 1]? = some (.loop { rec .ready none with state := .busy }) := World.putObj_heap_same hlt
      have hk2 : (W.putObj (w.heap.size + 1) (.loop { rec .ready none with state := .busy })).heap[w.heap.size]? = some (.deferred (some [])) := (World.putObj_heap_other (by omega)).trans hk
      have hpb : ∀ (X : World) (o' : Obj), Box3 B X (X.putObj (w.heap.size + 1) o') := fun X o' k _ hb => World.putObj_heap_other (by omega)
      refine wpIn_mono (hbody _ pre x post _ hx (by simp only [World.putObj_size]; omega) (hput hI _ hi (by omega) hl rfl)) ?_
      have fin : ∀ (jump : Option Code) (W3 : World), KeepsFrom w.heap.size (W.putObj (w.heap.size + 1) (.loop { rec .ready none with state := .busy })) W3 →
          (Instr.endRound (w.heap.size + 1) jump).run P W3 = .ok (.bool jump.isNone) (W3.putObj (w.heap.size + 1) (.loop (rec (if jump.isNone then .ready else .done) jump))) ∧
          W3.heap[w.heap.size + 1]? = some (.loop { rec .ready none with state := .busy }) ∧
          (W3.putObj (w.heap.size + 1) (.loop (rec (if jump.isNone then .ready else .done) jump))).heap[w.heap.size + 1]? = some (.loop (rec (if jump.isNone then .ready else .done) jump)) ∧
          (W3.putObj (w.heap.size + 1) (.loop (rec (if jump.isNone then .ready else .done) jump))).heap[w.heap.size]? = some (.deferred (some [])) := fun jump W3 hk3 => by
        have hl3 := hk3.same _ _ (by omega) hl2 rfl
        have := run_endRound (P := P) jump hl3
        rw [hrec] at this ⊢
        exact ⟨this, by rw [hrec] at hl3; exact hl3, World.putObj_heap_same (Array.getElem?_eq_some_iff.1 hl3).1, (World.putObj_heap_other (by omega)).trans (hk3.same _ _ (Nat.le_refl _) hk2 rfl)⟩
      rintro e a3 W3 hp
      cases e with
      | normal =>
        obtain ⟨hk3, hkp3, hi3⟩ := hp
        obtain ⟨hr, hl3, hl4, hk4⟩ := fin none W3 hk3
        have hsz := hk3.size
        simp only [World.putObj_size] at hsz
        exact ⟨_, _, hr, .inl ⟨rfl, ⟨hput hI _ hi3 (by omega) hl3 rfl, hl4, hk4⟩, ((hpb W _).trans hkp3).trans (hpb W3 _), by simp only [World.putObj_size]; exact hsz⟩⟩
      | ret =>
        obtain ⟨hk3, hi3⟩ := hp
        obtain ⟨hr, hl3, hl4, hk4⟩ := fin (some .ret) W3 hk3
        exact ⟨_, _, hr, .inr ⟨rfl, .ret, hput (hIx _) _ hi3 (by omega) hl3 rfl, hl4, hk4⟩⟩
      | exit id =>
        obtain ⟨hk3, hi3⟩ := hp
        obtain ⟨hr, hl3, hl4, hk4⟩ := fin (some (.exit id)) W3 hk3
        exact ⟨_, _, hr, .inr ⟨rfl, .exit id, hput (hIx _) _ hi3 (by omega) hl3 rfl, hl4, hk4⟩⟩
      | goto t =>
        obtain ⟨hk3, hi3⟩ := hp
        obtain ⟨hr, hl3, hl4, hk4⟩ := fin (some (.goto t)) W3 hk3
        exact ⟨_, _, hr, .inr ⟨rfl, .goto t, hput (hIx _) _ hi3 (by omega) hl3 rfl, hl4, hk4⟩⟩
      | panic ch => exact hp.elim
      | outgrown => exact hp.elim
    · rintro e W2 ⟨⟨v, rfl⟩, (⟨hi, hl, hk⟩ | ⟨pre, hSp, c, hi, hl, hk⟩)⟩
      · exact ⟨none, _, by have := run_endLoop (P := P) hl (by rw [hrec]; simp); rw [hrec] at this; exact this, hdone _ _ (Nat.le_refl _) (hput hI _ hi (by omega) hl rfl) ((World.putObj_heap_other (by omega)).trans hk)⟩
      · exact ⟨some c, _, by have := run_endLoop (P := P) hl (by rw [hrec]; simp); rw [hrec] at this; exact this, hstop _ c pre _ (Nat.le_refl _) hSp (hput (hIx c) _ hi (by omega) hl rfl) ((World.putObj_heap_other (by omega)).trans hk)⟩
def Marks (W : World) (ds : List Deferred) (Ds : List Nat) : Prop :=
  ds = Ds.map (fun D => { target := .collected D, args := #[] }) ∧ Ds.Nodup ∧ ∀ D, D ∈ Ds → W.heap[D]? = some (.deferred (some []))
theorem Marks.keep {G : Nat → Prop} {W W' : World} {ds : List Deferred} {Ds : List Nat} (h : Marks W ds Ds) (k : Keep G W W') (hG : ∀ D, D ∈ Ds → ¬ G D) : Marks W' ds Ds :=
  ⟨h.1, h.2.1, fun D hD => (k.block D (Array.getElem?_eq_some_iff.1 (h.2.2 D hD)).1 (hG D hD)).trans (h.2.2 D hD)⟩
theorem Marks.cons {W : World} {ds : List Deferred} {Ds : List Nat} (h : Marks W ds Ds) {D : Nat} (hD : W.heap[D]? = some (.deferred (some []))) (hn : D ∉ Ds) : Marks W ({ target := .collected D, args := #[] } :: ds) (D :: Ds) :=
  ⟨by rw [h.1]; rfl, List.nodup_cons.2 ⟨hn, h.2.1⟩, fun E hE => by
    rcases List.mem_cons.1 hE with rfl | hE
    · exact hD
    · exact h.2.2 E hE⟩
theorem leaves_marks {fn : Func} {tmps : Array Value} {R : Ending → World → Prop} : ∀ (Ds : List Nat) (ds : List Deferred) (W : World), Marks W ds Ds →
    (∀ W', Keep (fun k => k ∈ Ds) W W' → LeavesIn F n P fn tmps R [] .returning W') → LeavesInM F n P fn tmps R ds .returning W := by
  intro Ds
  induction Ds with
  | nil => intro ds W h hR; obtain ⟨rfl, -, -⟩ := h; exact hR W (Keep.refl _ W)
  | cons D Ds ih =>
    intro ds W h hR
    obtain ⟨rfl, hnd, hb⟩ := h
    rw [List.nodup_cons] at hnd
    have hD := hb D (by simp)
    have hk : Keep (fun k => k = D) W (W.putObj D (.deferred none)) := Keep.putObj _ rfl
    refine ⟨by simp, .inl ⟨D, _, rfl, run_takeDeferred hD, ?_⟩⟩
    refine ih _ _ ⟨rfl, hnd.2, fun E hE => ?_⟩ (fun W' hk' => hR W' ?_)
    · exact (World.putObj_heap_other (fun e : E = D => hnd.1 (e ▸ hE))).trans (hb E (by simp [hE]))
    · exact hk.trans' hk' (fun _ _ e => by simp [e]) (fun _ _ e => by simp [e])
end Go.Proofs.YtkpoobnldgfapabGreatDoor

