/- Part 39 of the proof: RFunc SSeq. -/
import Derived.Test.YtfglkgkihafcpaaGreatDoorDp01
import Derived.Test.YtfglkgkihafcpaaGreatDoorDp03
import Derived.Test.YtfglkgkihafcpaaGreatDoorDp37
import Derived.RangeFuncWrites
import Derived.RangeFuncLeaves
import Derived.RangeFuncBox
import Derived.TacticsIn
import Derived.LoopIn
import Derived.OwnWalkIn
import Derived.Shelf.Strings.Search3
set_option linter.unusedVariables false
set_option linter.unusedSimpArgs false
namespace Go.Proofs.YtfglkgkihafcpaaGreatDoor
open Go.RowKit
variable {F : Fence} {n : Nat} {P : Program}
theorem Keep.putObj {G : Nat → Prop} {w : World} {r : Nat} (o : Obj) (h : G r) : Keep G w (w.putObj r o) :=
 ⟨rfl, rfl, rfl, by simp, fun k _ hn => World.putObj_heap_other (fun e => hn (e ▸ h))⟩
def Box3 (B : Nat) (W W' : World) : Prop := ∀ k, B ≤ k → k < B + 3 → W'.heap[k]? = W.heap[k]?
theorem Box3.trans {B : Nat} {X Y Z : World} (h : Box3 B X Y) (g : Box3 B Y Z) : Box3 B X Z := fun k a b => (g k a b).trans (h k a b)
theorem Box3.of_keep {B : Nat} {G : Nat → Prop} {X Y : World} (h : Keep G X Y) (hB : B + 3 ≤ X.heap.size) (hG : ∀ k, B ≤ k → k < B + 3 → ¬ G k) : Box3 B X Y := fun k a b => h.block k (by omega) (hG k a b)
def AbC {β : Type} (B : Nat) (J : β → World → Prop) : Prop := ∀ s W W', J s W → Keep (fun k => k = B) W W' → J s W'
def OwnS {β : Type} (B hs : Nat) (I : β → World → Prop) : Prop :=
 ∀ s W W', I s W → Keep (fun k => k = B ∨ (hs ≤ k ∧ ∃ o : Obj, W.heap[k]? = some o ∧ o.isCells = false)) W W' → I s W'
def SeqRuns {α : Type} (F : Fence) (n : Nat) (P : Program) (g : Nat) (lb : Array Value) (encs : α → Array Value) (xs : List α) (B : Nat) (w : World) : Prop :=
 ∀ (l : Nat) (J Jx : List α → World → Prop) (W : World), Box3 B w W → w.heap.size ≤ W.heap.size → AbC B J → AbC B Jx →
  (∀ pre x post W1, xs = pre ++ x :: post → J pre W1 → YieldAt F (n - 1) P l (encs x) W1 fun e W' =>
   (e = .returned (.bool true) ∧ J (pre ++ [x]) W' ∧ Box3 B W1 W' ∧ W1.heap.size ≤ W'.heap.size) ∨ (e = .returned (.bool false) ∧ Jx (pre ++ [x]) W')) →
  J [] W →
  CallsIn F n P g (#[.func (.yield l) #[] #[]] ++ lb) W fun e W' => (∃ v, e = .returned v) ∧ (J xs W' ∨ ∃ pre, pre <+: xs ∧ Jx pre W')
theorem wpIn_rangeFunc_S {α : Type} {g : Operand} {ps : Array Tmp} {assign body : Code} {Q : Exit → Act → World → Prop} {a : Act} {w : World}
  (hro : F.round = none) (h1 : 1 ≤ n) {gf : Nat} {lb : Array Value} (hg : a.eval g = .func (.func gf) #[] lb) (hFg : F.fn gf) (eg : ∀ args w, (callFunc gf args).run P w = .ok (.enter gf args) w)
  {encs : α → Array Value} {xs : List α} {B : Nat} (hB : B + 3 ≤ w.heap.size) (hseq : SeqRuns F (n - 1) P gf lb encs xs B w) (hps : ∀ x, (encs x).size = ps.size)
  (I : List α → World → Prop) (Ix : Code → List α → World → Prop) (hI : OwnS B w.heap.size I) (hIx : ∀ c, OwnS B w.heap.size (Ix c)) (h0 : I [] w) (a₁ : α → Act)
  (hassign : ∀ (l : Nat) (x : α) (W : World) (K : Act → World → Prop), K (a₁ x) W →
   assign.wpIn (F.inRound l) (n - 1 - 1) P (Exit.then K (fun _ _ _ => False)) { tmps := (ps.zip (encs x)).foldl (fun t (p, v) => t.setIfInBounds p v) a.tmps, defers := [] } W)
  (hbody : ∀ (l : Nat) (pre : List α) (x : α) (post : List α) (W : World), xs = pre ++ x :: post → w.heap.size ≤ W.heap.size → I pre W → body.wpIn (F.inRound l) (n - 1 - 1) P (ownPostG w.heap.size (Box3 B) I Ix (pre ++ [x]) W) (a₁ x) W)
  (hdone : ∀ (D : Nat) (W : World), w.heap.size ≤ D → I xs W → W.heap[D]? = some (.deferred (some [])) → Q .normal { a with defers := { target := .collected D, args := #[] } :: a.defers } W)
  (hstop : ∀ (D : Nat) (c : Code) (pre : List α) (W : World), w.heap.size ≤ D → pre <+: xs → Ix c pre W → W.heap[D]? = some (.deferred (some [])) → c.wpIn F n P Q { a with defers := { target := .collected D, args := #[] } :: a.defers } W) :
  (Code.rangeFunc g ps assign body).wpIn F n P Q a w := by
 refine wpIn_rangeFunc ?_
 intro fn hfn
 rw [hro]
 obtain ⟨rec, hrec⟩ : ∃ rec : LoopState → Option Code → Loop, rec = fun st pe => { state := st, pending := pe, fn, tmps := a.tmps, params := ps, assign, body, defers := w.heap.size } := ⟨_, rfl⟩
 obtain ⟨W1, hW1⟩ : ∃ W1, (w.alloc (.deferred (some []))).alloc (.loop (rec .ready none)) = W1 := ⟨_, rfl⟩
 have hL1 : W1.heap[w.heap.size + 1]? = some (.loop (rec .ready none)) := by
  rw [← hW1]; have := World.alloc_heap_new (w.alloc (.deferred (some []))) (.loop (rec .ready none)); rwa [World.size_alloc] at this
 have hK1 : W1.heap[w.heap.size]? = some (.deferred (some [])) := by
  rw [← hW1]; exact (Below.heap_alloc _ _ _ (by simp)).trans (World.alloc_heap_new w _)
 have hkA : Keep (fun _ => False) w W1 := by rw [← hW1]; exact ((Keep.refl _ w).alloc _).alloc _
 have hI1 : I [] W1 := hI _ _ _ h0 (hkA.mono (fun _ _ h => h.elim))
 have hz1 : W1.heap.size = w.heap.size + 2 := by rw [← hW1]; simp
 refine ⟨w.heap.size + 1, [{ target := .collected w.heap.size, args := #[] }], W1, { target := .fn (.func gf) lb, args := #[.func (.yield (w.heap.size + 1)) #[] #[]] }, W1, gf,
  #[.func (.yield (w.heap.size + 1)) #[] #[]] ++ lb, W1, ?_, ?_, ?_, ?_, fun _ => h1, ?_⟩
 ·rw [← hW1, hrec]; exact run_enterLoop_outer _ _ _ _ _
 ·simp only [resolve, hg]
  simp [go_sem]
 ·intro f' hf'; simp [Target.leads] at hf'; subst hf'; exact hFg
 ·simp [invoke, go_sem, eg]
 ·have hput : ∀ {X : List α → World → Prop} (_ : OwnS B w.heap.size X) {s : List α} {W : World} {l : Nat} {o : Obj} (o' : Obj), X s W → w.heap.size ≤ l → W.heap[l]? = some o → o.isCells = false → X s (W.putObj l o') :=
   fun hX _ _ _ _ o' hs hl ho hc => hX _ _ _ hs (Keep.putObj o' (.inr ⟨hl, _, ho, hc⟩))
  have habs : ∀ {A A' : World} {k : Nat} {o : Obj}, Keep (fun k => k = B) A A' → w.heap.size ≤ k → A.heap[k]? = some o → A'.heap[k]? = some o :=
   fun hk hl ho => (hk.block _ (Array.getElem?_eq_some_iff.1 ho).1 (fun e => by omega)).trans ho
  have hwid : ∀ {A A' : World}, Keep (fun k => k = B) A A' → Keep (fun k => k = B ∨ (w.heap.size ≤ k ∧ ∃ o : Obj, A.heap[k]? = some o ∧ o.isCells = false)) A A' := fun h => h.mono (fun _ _ e => .inl e)
  refine (hseq (w.heap.size + 1)
   (fun pre W => I pre W ∧ W.heap[w.heap.size + 1]? = some (.loop (rec .ready none)) ∧ W.heap[w.heap.size]? = some (.deferred (some [])))
   (fun pre W => ∃ c, Ix c pre W ∧ W.heap[w.heap.size + 1]? = some (.loop (rec .done (some c))) ∧ W.heap[w.heap.size]? = some (.deferred (some [])))
   W1 (Box3.of_keep hkA hB (fun _ _ _ h => h)) (by omega)
   (fun s A A' hs hk => ⟨hI s A A' hs.1 (hwid hk), habs hk (by omega) hs.2.1, habs hk (by omega) hs.2.2⟩)
   (fun s A A' hs hk => by
    obtain ⟨c, hc, hl, hd⟩ := hs
    exact ⟨c, hIx c s A A' hc (hwid hk), habs hk (by omega) hl, habs hk (by omega) hd⟩)
   ?_ ⟨hI1, hL1, hK1⟩).mono ?_
  ·rintro pre x post W hx ⟨hi, hl, hk⟩
   have hlt : w.heap.size + 1 < W.heap.size := (Array.getElem?_eq_some_iff.1 hl).1
   have hy := run_yield (P := P) (args := encs x) hl (by rw [hrec]; exact hps x)
   rw [hrec] at hy
   refine ⟨fn, _, assign, body, hy, roundIn_of_wpIn hfn (hassign _ x W _ ⟨_, run_beginRound hl (by rw [hrec]), ?_⟩)⟩
   have hl2 : (W.putObj (w.heap.size + 1) (.loop { rec .ready none with state := .busy })).heap[w.heap.size + 1]? = some (.loop { rec .ready none with state := .busy }) := World.putObj_heap_same hlt
   have hk2 : (W.putObj (w.heap.size + 1) (.loop { rec .ready none with state := .busy })).heap[w.heap.size]? = some (.deferred (some [])) := (World.putObj_heap_other (by omega)).trans hk
   have hpb : ∀ (X : World) (o' : Obj), Box3 B X (X.putObj (w.heap.size + 1) o') := fun X o' k _ hb => World.putObj_heap_other (by omega)
   refine wpIn_mono (hbody _ pre x post _ hx (by simp only [World.putObj_size]; omega) (hput hI _ hi (by omega) hl rfl)) ?_
   have fin : ∀ (jump : Option Code) (W3 : World), KeepsFrom w.heap.size (W.putObj (w.heap.size + 1) (.loop { rec .ready none with state := .busy })) W3 →
     (Instr.endRound (w.heap.size + 1) jump).run P W3 = .ok (.bool jump.isNone) (W3.putObj (w.heap.size + 1) (.loop (rec (if jump.isNone then .ready else .done) jump))) ∧
     W3.heap[w.heap.size + 1]? = some (.loop { rec .ready none with state := .busy }) ∧
     (W3.putObj (w.heap.size + 1) (.loop (rec (if jump.isNone then .ready else .done) jump))).heap[w.heap.size + 1]? = some (.loop (rec (if jump.isNone then .ready else .done) jump)) ∧
     (W3.putObj (w.heap.size + 1) (.loop (rec (if jump.isNone then .ready else .done) jump))).heap[w.heap.size]? = some (.deferred (some [])) := fun jump W3 hk3 => by
    have hl3 := hk3.same _ _ (by omega) hl2 rfl
    have := run_endRound (P := P) jump hl3
    rw [hrec] at this ⊢
    exact ⟨this, by rw [hrec] at hl3; exact hl3, World.putObj_heap_same (Array.getElem?_eq_some_iff.1 hl3).1, (World.putObj_heap_other (by omega)).trans (hk3.same _ _ (Nat.le_refl _) hk2 rfl)⟩
   rintro e a3 W3 hp
   cases e with
   | normal =>
    obtain ⟨hk3, hkp3, hi3⟩ := hp
    obtain ⟨hr, hl3, hl4, hk4⟩ := fin none W3 hk3
    have hsz := hk3.size
    simp only [World.putObj_size] at hsz
    exact ⟨_, _, hr, .inl ⟨rfl, ⟨hput hI _ hi3 (by omega) hl3 rfl, hl4, hk4⟩, ((hpb W _).trans hkp3).trans (hpb W3 _), by simp only [World.putObj_size]; exact hsz⟩⟩
   | ret =>
    obtain ⟨hk3, hi3⟩ := hp
    obtain ⟨hr, hl3, hl4, hk4⟩ := fin (some .ret) W3 hk3
    exact ⟨_, _, hr, .inr ⟨rfl, .ret, hput (hIx _) _ hi3 (by omega) hl3 rfl, hl4, hk4⟩⟩
   | exit id =>
    obtain ⟨hk3, hi3⟩ := hp
    obtain ⟨hr, hl3, hl4, hk4⟩ := fin (some (.exit id)) W3 hk3
    exact ⟨_, _, hr, .inr ⟨rfl, .exit id, hput (hIx _) _ hi3 (by omega) hl3 rfl, hl4, hk4⟩⟩
   | goto t =>
    obtain ⟨hk3, hi3⟩ := hp
    obtain ⟨hr, hl3, hl4, hk4⟩ := fin (some (.goto t)) W3 hk3
    exact ⟨_, _, hr, .inr ⟨rfl, .goto t, hput (hIx _) _ hi3 (by omega) hl3 rfl, hl4, hk4⟩⟩
   | panic ch => exact hp.elim
   | outgrown => exact hp.elim
  ·rintro e W2 ⟨⟨v, rfl⟩, (⟨hi, hl, hk⟩ | ⟨pre, hSp, c, hi, hl, hk⟩)⟩
   ·exact ⟨none, _, by have := run_endLoop (P := P) hl (by rw [hrec]; simp); rw [hrec] at this; exact this, hdone _ _ (Nat.le_refl _) (hput hI _ hi (by omega) hl rfl) ((World.putObj_heap_other (by omega)).trans hk)⟩
   ·exact ⟨some c, _, by have := run_endLoop (P := P) hl (by rw [hrec]; simp); rw [hrec] at this; exact this, hstop _ c pre _ (Nat.le_refl _) hSp (hput (hIx c) _ hi (by omega) hl rfl) ((World.putObj_heap_other (by omega)).trans hk)⟩
def Marks (W : World) (ds : List Deferred) (Ds : List Nat) : Prop :=
 ds = Ds.map (fun D => { target := .collected D, args := #[] }) ∧ Ds.Nodup ∧ ∀ D, D ∈ Ds → W.heap[D]? = some (.deferred (some []))
theorem Marks.keep {G : Nat → Prop} {W W' : World} {ds : List Deferred} {Ds : List Nat} (h : Marks W ds Ds) (k : Keep G W W') (hG : ∀ D, D ∈ Ds → ¬ G D) : Marks W' ds Ds :=
 ⟨h.1, h.2.1, fun D hD => (k.block D (Array.getElem?_eq_some_iff.1 (h.2.2 D hD)).1 (hG D hD)).trans (h.2.2 D hD)⟩
theorem Marks.cons {W : World} {ds : List Deferred} {Ds : List Nat} (h : Marks W ds Ds) {D : Nat} (hD : W.heap[D]? = some (.deferred (some []))) (hn : D ∉ Ds) : Marks W ({ target := .collected D, args := #[] } :: ds) (D :: Ds) :=
 ⟨by rw [h.1]; rfl, List.nodup_cons.2 ⟨hn, h.2.1⟩, fun E hE => by
  rcases List.mem_cons.1 hE with rfl | hE
  ·exact hD
  ·exact h.2.2 E hE⟩
theorem leaves_marks {fn : Func} {tmps : Array Value} {R : Ending → World → Prop} : ∀ (Ds : List Nat) (ds : List Deferred) (W : World), Marks W ds Ds →
  (∀ W', Keep (fun k => k ∈ Ds) W W' → LeavesIn F n P fn tmps R [] .returning W') → LeavesInM F n P fn tmps R ds .returning W := by
 intro Ds
 induction Ds with
 | nil => intro ds W h hR; obtain ⟨rfl, -, -⟩ := h; exact hR W (Keep.refl _ W)
 | cons D Ds ih =>
  intro ds W h hR
  obtain ⟨rfl, hnd, hb⟩ := h
  rw [List.nodup_cons] at hnd
  have hD := hb D (by simp)
  have hk : Keep (fun k => k = D) W (W.putObj D (.deferred none)) := Keep.putObj _ rfl
  refine ⟨by simp, .inl ⟨D, _, rfl, run_takeDeferred hD, ?_⟩⟩
  refine ih _ _ ⟨rfl, hnd.2, fun E hE => ?_⟩ (fun W' hk' => hR W' ?_)
  ·exact (World.putObj_heap_other (fun e : E = D => hnd.1 (e ▸ hE))).trans (hb E (by simp [hE]))
  ·exact hk.trans' hk' (fun _ _ e => by simp [e]) (fun _ _ e => by simp [e])
end Go.Proofs.YtfglkgkihafcpaaGreatDoor

namespace Go.Proofs.YtfglkgkihafcpaaGreatDoor
open Go.RowKit
attribute [local go_sem] Oper.semAt_some
theorem sseq_any (w : World) (s sep : ByteArray) : Calls Tryz.prog 9 #[.string s, .string sep] w fun e w' =>
  e = .returned (.func (.func 51) #[] #[.pointer (some ⟨w.heap.size + 1, 0, none⟩), .pointer (some ⟨w.heap.size, 0, none⟩), .pointer (some ⟨w.heap.size + 2, 0, none⟩)]) ∧
  w' = ((w.alloc (.cells #[.string s] 9)).alloc (.cells #[.string sep] 9)).alloc (.cells #[.int .i64 0] 3) := by
 go_enter Tryz.func9, Tryz.ntmps9
 go_wp2
 go_ret
 exact ⟨rfl, rfl⟩
theorem index1_any (w : World) (s : List UInt8) (c : UInt8) : Calls Tryz.prog 53 #[.string (bstr s), .string ⟨#[c]⟩] w fun e w' => e = .returned (.int .i64 (Lib.indexByte s c)) ∧ w' = w := by
 have := Any.strings_Index_one Tryz.lays143 (bstr s) c w
 have hs : (bstr s).data.toList = s := by simp [bstr]
 rw [hs] at this
 exact this
theorem bstr_cut (s : List UInt8) (i : Nat) : (bstr s).extract 0 i = bstr (s.take i) := by
 apply ByteArray.ext; apply Array.ext'; simp [bstr]
theorem bstr_rest (s : List UInt8) (i : Nat) : (bstr s).extract i s.length = bstr (s.drop i) := by
 apply ByteArray.ext; apply Array.ext'; simp [bstr]
 exact List.take_of_length_le (by simp)
def strLen (w : World) (B : Nat) : Nat := match w.cell? ⟨B, 0, none⟩ with | some (.string s) => s.size | _ => 0
set_option maxRecDepth 100000 in
set_option maxHeartbeats 2000000 in
theorem sseq_runs (m : Nat) (B : Nat) (c : UInt8) (l : List UInt8) (w : World) (hl : l.length < 4294967281) (h0 : w.heap[B]? = some (.cells #[.string (bstr l)] 9 (0, 0))) (h1 : w.heap[B + 1]? = some (.cells #[.string ⟨#[c]⟩] 9 (0, 0))) (h2 : w.heap[B + 2]? = some (.cells #[.int .i64 0] 3 (0, 0))) :
  SeqRuns Fence.wide m Tryz.prog 51 #[.pointer (some ⟨B + 1, 0, none⟩), .pointer (some ⟨B, 0, none⟩), .pointer (some ⟨B + 2, 0, none⟩)] (fun x : List UInt8 => #[.string (bstr x)]) (pcz c l) B w := by
 intro y J Jx W hB hz hJ hJx hY hj0
 refine callsIn_of_wp Tryz.func51 rfl trivial ?_ rfl
 simp only [Tryz.ntmps51, List.size_toArray, List.length_cons, List.length_nil, Nat.reduceAdd, Nat.reduceSub, Array.replicate_succ, Array.replicate_zero, List.push_toArray, List.append_toArray, List.nil_append, List.cons_append]
 have g1 : W.cell? ⟨B + 1, 0, none⟩ = some (.string ⟨#[c]⟩) := Boxed.cell (t := 9) ((hB _ (by omega) (by omega)).trans h1)
 have HYD := Lib.hid hY
 have HJ := Lib.hid (And.intro hJ hJx)
 clear hY hJ hJx
 gi_wp2
 gi_loopw [7] (fun _ wr => ∃ (pre : List (List UInt8)) (rest : List UInt8), Hid (pcz c l = pre ++ pcz c rest ∧ rest.length ≤ l.length) ∧ Hid (J pre wr) ∧ wr.heap[B]? = some (.cells #[.string (bstr rest)] 9 (0, 0)) ∧ wr.heap[B + 1]? = some (.cells #[.string ⟨#[c]⟩] 9 (0, 0)) ∧ wr.heap[B + 2]? = some (.cells #[.int .i64 0] 3 (0, 0)))
  (fun _ wr => strLen wr B)
 case atStart => exact ⟨[], l, Lib.hid ⟨rfl, Nat.le_refl _⟩, Lib.hid hj0, (hB _ (by omega) (by omega)).trans h0, (hB _ (by omega) (by omega)).trans h1, (hB _ (by omega) (by omega)).trans h2⟩
 case round =>
  obtain ⟨pre, rest, HP, HJR, b0, b1, b2⟩ := hrel
  have d0 := Boxed.cell (t := 9) b0
  have d1 := Boxed.cell (t := 9) b1
  have d2 := Boxed.cell (t := 3) b2
  have f0 := Boxed.frozen (t := 9) b0
  have HB := Lib.hid (And.intro b0 (And.intro b1 b2))
  clear b0 b1 b2
  gi_wp2
  refine And.intro trivial (And.intro (fun h => absurd h (by simp [Fence.wide])) ?_)
  refine ((callsIn_wide (n := m - 1)).2 (index1_any wr rest c)).mono ?_
  rintro e w1 ⟨rfl, rfl⟩
  have hge := Lib.indexByte_ge rest c
  by_cases hm : Lib.indexByte rest c = -1
  ·rw [hm]
   have hend : pcz c l = pre ++ rest :: [] := by rw [HP.out.1, pcz_miss hm]
   have HE := Lib.hid hend
   obtain ⟨f1, t1, a1, b1, hy1, hR1⟩ := HYD.out pre rest [] w1 hend HJR.out
   have HR1 := Lib.hid hR1
   clear hR1 hend
   gi_wp2
   refine And.intro (fun h => absurd h (by simp [Fence.wide])) (HR1.out.mono ?_)
   rintro e W1 (⟨rfl, hJ1, _⟩ | ⟨rfl, hx1⟩)
   ·have HD := Lib.hid hJ1
    clear hJ1
    gi_wp2
    go_end0
    exact ⟨⟨_, rfl⟩, .inl (by rw [HE.out]; exact HD.out)⟩
   ·have HD := Lib.hid hx1
    clear hx1
    gi_wp2
    go_end0
    exact ⟨⟨_, rfl⟩, .inr ⟨_, by rw [HE.out]; exact List.prefix_refl _, HD.out⟩⟩
  ·obtain ⟨o, ho⟩ : ∃ o : Nat, Lib.indexByte rest c = o := ⟨(Lib.indexByte rest c).toNat, by omega⟩
   have hpc := pcz_hit ho
   have hlt := (List.getElem?_eq_some_iff.1 (Lib.indexByte_some ho).1).1
   rw [ho]
   have hlr := HP.out.2
   have q1 : wrap64 (o : Int) = o := by unfold wrap64; omega
   have q2 : wrap64 ((o : Int) + 1) = o + 1 := by unfold wrap64; omega
   have q3 : ¬ (rest.length < o) := by omega
   have q4 : ¬ (rest.length < o + 1) := by omega
   have q5 : o ≤ rest.length := by omega
   have q6 : o + 1 ≤ rest.length := by omega
   have q7 : (o : Int) ≤ rest.length := by omega
   have q8 : (o : Int) + 1 ≤ rest.length := by omega
   have hend : pcz c l = pre ++ rest.take o :: pcz c (rest.drop (o + 1)) := by rw [HP.out.1, hpc]
   have HE := Lib.hid hend
   obtain ⟨f1, t1, a1, b1, hy1, hR1⟩ := HYD.out pre _ _ w1 hend HJR.out
   rw [← bstr_cut] at hy1
   have HR1 := Lib.hid hR1
   clear hR1 hend hpc
   gi_wp2
   refine And.intro (fun h => absurd h (by simp [Fence.wide])) (HR1.out.mono ?_)
   rintro e W1 (⟨rfl, hJ1, hb1, hz1⟩ | ⟨rfl, hx1⟩)
   ·have HD := Lib.hid hJ1
    have b0 := (hb1 B (by omega) (by omega)).trans HB.out.1
    have b1 := (hb1 (B + 1) (by omega) (by omega)).trans HB.out.2.1
    have b2 := (hb1 (B + 2) (by omega) (by omega)).trans HB.out.2.2
    have d0 := Boxed.cell (t := 9) b0
    have d1 := Boxed.cell (t := 9) b1
    have f0 := Boxed.frozen (t := 9) b0
    have HB1 := Lib.hid (And.intro b0 (And.intro b1 b2))
    clear b0 b1 b2 hJ1 hb1
    gi_wp2
    rw [bstr_rest]
    have hbx : Boxed (W1.setCell ⟨B, 0, none⟩ (.string (bstr (rest.drop (o + 1))))) B 9 (.string (bstr (rest.drop (o + 1)))) := Boxed.set (t := 9) _ HB1.out.1
    have hoth : ∀ k, k ≠ B → (W1.setCell ⟨B, 0, none⟩ (.string (bstr (rest.drop (o + 1))))).heap[k]? = W1.heap[k]? := fun k hk => Below.heap_setCell _ _ _ k hk
    constructor
    ·refine ⟨pre ++ [rest.take o], rest.drop (o + 1), Lib.hid ⟨by rw [HE.out, List.append_assoc]; rfl, by rw [List.length_drop]; omega⟩, Lib.hid (HJ.out.1 _ _ _ HD.out ((Keep.refl (fun k => k = B) W1).setCell (.inl rfl) _)), hbx, (hoth _ (by omega)).trans HB1.out.2.1, (hoth _ (by omega)).trans HB1.out.2.2⟩
    ·have e1 := hbx.cell
     have e2 := Boxed.cell (t := 9) HB.out.1
     unfold strLen
     rw [e1, e2]
     simp only [bstr_size, List.length_drop]
     omega
   ·have HD := Lib.hid hx1
    clear hx1
    gi_wp2
    refine bodyPost_ret (results_none rfl _ _ _) rfl ?_
    exact ⟨⟨_, rfl⟩, .inr ⟨_, by rw [HE.out]; exact ⟨_, by rw [List.append_assoc]; rfl⟩, HD.out⟩⟩
end Go.Proofs.YtfglkgkihafcpaaGreatDoor

