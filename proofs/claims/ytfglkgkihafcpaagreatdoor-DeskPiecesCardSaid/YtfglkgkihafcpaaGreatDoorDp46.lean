/- Part 46 of the proof: DkLen StrBldO RFuncD DkSesL DkSes. -/
import Derived.Test.YtfglkgkihafcpaaGreatDoorDp33
import Derived.Test.YtfglkgkihafcpaaGreatDoorDp39
import Derived.Test.YtfglkgkihafcpaaGreatDoorDp45
import Derived.RangeFuncCalls
set_option linter.unusedVariables false
set_option linter.unusedSimpArgs false
namespace Go.Proofs.YtfglkgkihafcpaaGreatDoor
open Go.RowKit Pl
def LenP (A : List (List UInt8) → Nat → List E → Ans) : Prop := ∀ l n es t, IOk n es → (A l n es).out = .ok t → t.length ≤ 2200200100
theorem LenP.ite {p : Prop} [Decidable p] {a1 a2 : List (List UInt8) → Nat → List E → Ans} (h1 : LenP a1) (h2 : LenP a2) : LenP (if p then a1 else a2) := by split <;> assumption
theorem noNums_len {l : List (List UInt8)} {n : Nat} {es : List E} {t t' : List UInt8} {n' : Nat} {es' : List E} (h : (noNums l n es ⟨.ok t, n', es'⟩).out = .ok t') (ht : t.length ≤ 2200200100) : t'.length ≤ 2200200100 := by
 unfold noNums at h
 split at h
 ·cases h; exact ht
 ·cases h
theorem app_len {a b : List UInt8} (ha : a.length ≤ 100) (hb : b.length ≤ 2200200000) : (a ++ b).length ≤ 2200200100 := by rw [List.length_append]; omega
theorem fb_len (b : Bool) : (Lib.formatBool b).length ≤ 2200200100 := by cases b <;> decide +kernel
theorem cmdA_len (c : List UInt8) : LenP (cmdA c) := by
 have hask : ∀ f : List E → Nat → Nat → Bool, LenP (fun l n es => aAsk (f es) l n es) := fun f l n es t _ h => by
  simp only [aAsk] at h
  split at h
  ·cases h
  ·split at h
   ·split at h
    ·cases h
     exact fb_len _
    ·cases h
   ·cases h
 unfold cmdA
 refine LenP.ite (hask fun es x y => decide (Conn (ends es) x y)) ?_
 refine LenP.ite (fun l n es t _ h => ?_) ?_
 ·simp only [aWays] at h
  split at h
  ·cases h
  ·split at h
   ·split at h
    ·cases h
     refine Nat.le_trans (wordsT_len _ (by simp) (fun x hx => ?_)) (by decide)
     simp only [List.mem_cons, List.not_mem_nil, or_false] at hx
     rcases hx with rfl | rfl
     ·exact theE_sm _ _ _
     ·exact theN_sm _ _ _ _
    ·cases h
   ·cases h
 refine LenP.ite (hask twB) ?_
 refine LenP.ite (fun l n es t _ h => noNums_len h (app_len (by decide) (theThr_sm n es))) ?_
 refine LenP.ite (fun l n es t hI h => noNums_len h (app_len (by decide) (twos_len _ (allS_bd _ hI.n40).1 (allS_bd _ hI.n40).2))) ?_
 refine LenP.ite (fun l n es t _ h => noNums_len h (by decide)) ?_
 refine LenP.ite (fun l n es t hI h => noNums_len h (app_len (by decide) (twos_len _ (alikes_bd hI).1 (alikes_bd hI).2))) ?_
 refine LenP.ite (fun l n es t _ h => ?_) ?_
 ·simp only [aNodes] at h
  split at h
  ·cases h
  ·split at h
   ·split at h
    ·cases h; decide
    ·cases h
   ·cases h
 refine LenP.ite (fun l n es t _ h => noNums_len h (by decide)) ?_
 refine LenP.ite (fun l n es t hI h => noNums_len h (app_len (by decide) (listsT_len _ (edgL_bd hI).1 (edgL_bd hI).2.1 (edgL_bd hI).2.2))) ?_
 refine LenP.ite (fun l n es t _ h => ?_) ?_
 ·simp only [aDrop] at h
  split at h
  ·cases h
  ·split at h
   ·split at h
    ·cases h; decide
    ·cases h
   ·cases h
 refine LenP.ite (fun l n es t _ h => noNums_len h (app_len (by decide) (theCuts_sm n es))) ?_
 refine LenP.ite (fun l n es t _ h => noNums_len h (app_len (by decide) (theBr_sm es))) ?_
 refine LenP.ite (fun l n es t _ h => noNums_len h (app_len (by decide) (theBlk_sm es))) ?_
 refine LenP.ite (fun l n es t _ h => ?_) (fun l n es t _ h => by cases h)
 simp only [aAdd] at h
 split at h
 ·cases h
 ·split at h
  ·split at h
   ·cases h
    exact fb_len _
   ·cases h
  ·cases h
theorem lineA_len (l : List UInt8) {n : Nat} {es : List E} (hI : IOk n es) : (lineA l n es).txt.length ≤ 2200200200 := by
 unfold lineA
 split
 ·show tOk.length ≤ _
  decide
 ·rename_i c args _
  simp only
  split
  ·rename_i t h
   have := cmdA_len c args n es t hI h
   omega
  ·rename_i k h
   obtain ⟨r, rfl, hr⟩ := cmdA_err c args n es k h
   have := wordsT_len [r] (by simp) (fun x hx => by simp only [List.mem_singleton] at hx; omega)
   have e : wordsT [r] = Lib.itoa r := by simp [wordsT, Lib.join]
   rw [e] at this
   rw [List.length_append]
   have h6 : tErr.length = 6 := by decide
   omega
end Go.Proofs.YtfglkgkihafcpaaGreatDoor

namespace Go.Proofs.YtfglkgkihafcpaaGreatDoor
open Go.RowKit Go.Shelf Go.Sort
theorem run_app_str {P : Program} (w : World) (base : Nat) (t u ty e : TypeId) (i : TypeInfo) (ht : P.underlying t = some (.slice e)) (hu : P.underlying u = some .string) (hi : P.info? e = some i) (hz : i.zero = some (.int .u8 0)) (hsize : i.size = 1) (hby : i.bytes = 1)
  (v : Value) (n : Nat) (xs : List Value) (hown : w.ownsRowF base e 1 v n xs) (s : ByteArray) (hs : 0 < s.size) (h63 : n + s.size ≤ maxLen) (hbytes : n + s.size ≤ 140737488355328) (hbase : base ≤ w.heap.size) :
  ∃ v' w', (Builtin.append_ #[t, u] ty #[v, .string s]).run P w = .ok v' w' ∧ w'.ownsRowF base e 1 v' (n + s.size) (xs ++ Lib.strCells s) ∧ w.grownBy w' v.ownBlock ∧ (v'.ownBlock = v.ownBlock ∨ ∃ g, v'.ownBlock = some g ∧ w.heap.size ≤ g) := by
 obtain ⟨v', w', hr, h1, h2, _⟩ := Lib.run_append_own_stringF (P := P) w base t u ty e i ht hu hi hz hsize hby v n xs hown s h63 hbytes hbase
 refine ⟨v', w', hr, h1, h2, ?_⟩
 rcases hown.2 with ⟨rfl, rfl⟩ | ⟨g, cap, cur, fz, rfl, hbg, hg, hfz, hnc, hcm, hcs, htake⟩
 ·obtain ⟨v2, w2, hr2, g1, _, _⟩ := Lib.run_append_own_stringF (P := P) w w.heap.size t u ty e i ht hu hi hz hsize hby (.slice none 0 0) 0 xs ⟨hown.1, .inl ⟨rfl, rfl⟩⟩ s h63 hbytes (Nat.le_refl _)
  rw [hr] at hr2
  cases hr2
  rcases g1.2 with ⟨_, h0⟩ | ⟨g, cap, cur, fz, rfl, hb, _⟩
  ·omega
  ·exact .inr ⟨g, rfl, hb⟩
 ·by_cases hroom : n + s.size ≤ cap
  ·have hcs2 : cur.size = cap := by simpa using hcs
   have hr2 := Lib.run_append_room_stringF (P := P) w t u ty e i ht hu hi hsize g n cap cur fz hg (by simpa using hfz) s hroom (by omega)
   rw [hr] at hr2
   cases hr2
   exact .inl rfl
  ·have hr2 := Lib.run_append_grow_string (P := P) w t u ty e i (.int .u8 0) ht hu hi hz ⟨g, 0, none⟩ n cap xs (by rw [hsize]; simpa using hown.1) (hown.cells (g := g) rfl) s (by omega) (by simp only [maxLen] at h63; omega) (by rw [hby]; exact growslice_fits (by omega) (by omega))
   rw [hr] at hr2
   cases hr2
   exact .inr ⟨w.heap.size, rfl, Nat.le_refl _⟩
theorem wpList_app2 {P : Program} {w w' : World} {ops : Array Oper} {rest : List Oper} {o : Oper} {a : Act} {Q : Exit → Act → World → Prop} (hg : o.guard = none) (s x : Operand) (t u : TypeId)
  (hop : o.op = Op.call { callee := Callee.builtin Builtin.append, args := #[s, x], argTypes := #[t, u] }) {v vx v' : Value} (hs : a.eval s = v) (hx : a.eval x = vx)
  (hrun : (Builtin.append_ #[t, u] o.type #[v, vx]).run P w = .ok v' w') (h : wpList P ops Q rest (a.put o.dst v') w') : wpList P ops Q (o :: rest) a w := by
 refine wpList_plain hg fun K hK' => ?_
 unfold Oper.wp
 simp [execOp, hop, resolve, invoke, builtin, hs, hx, hrun, Result.andThen]
 exact hK' _ _ h
def BldO (w : World) (B b : Nat) (l : List UInt8) (o : Option Nat) : Prop :=
 B ≤ b ∧ ∃ p v, (p = .pointer none ∨ p = .pointer (some ⟨b, 0, none⟩)) ∧ w.heap[b]? = some (.cells #[p, v] 39 (0, 0)) ∧ w.ownsRowF B 5 1 v l.length (Lib.byteCells l) ∧ v.ownBlock ≠ some b ∧ v.ownBlock = o
theorem own_keep {G : Nat → Prop} {w w' : World} {B : Nat} {e : TypeId} {v : Value} {n : Nat} {xs : List Value} (h : w.ownsRowF B e 1 v n xs) (k : Keep G w w') (hG : ∀ g, v.ownBlock = some g → ¬ G g) : w'.ownsRowF B e 1 v n xs := by
 refine ⟨h.1, ?_⟩
 rcases h.2 with hn | ⟨g, cap, cur, fz, rfl, hb, hg, rest⟩
 ·exact .inl hn
 ·exact .inr ⟨g, cap, cur, fz, rfl, hb, (k.block g (Array.getElem?_eq_some_iff.1 hg).1 (hG g rfl)).trans hg, rest⟩
theorem BldO.lt {w : World} {B b : Nat} {l : List UInt8} {o : Option Nat} (h : BldO w B b l o) : b < w.heap.size := by
 obtain ⟨_, p, v, _, hb, _⟩ := h
 exact (Array.getElem?_eq_some_iff.1 hb).1
theorem BldO.olt {w : World} {B b : Nat} {l : List UInt8} {o : Option Nat} (h : BldO w B b l o) {g : Nat} (hg : o = some g) : g < w.heap.size := by
 obtain ⟨_, p, v, _, _, h2, _, h3⟩ := h
 subst h3
 rcases h2.2 with ⟨rfl, _⟩ | ⟨g', cap, cur, fz, rfl, _, hgg, _⟩
 ·simp [Value.ownBlock] at hg
 ·simp [Value.ownBlock] at hg
  subst hg
  exact (Array.getElem?_eq_some_iff.1 hgg).1
theorem BldO.keep {G : Nat → Prop} {w w' : World} {B b : Nat} {l : List UInt8} {o : Option Nat} (h : BldO w B b l o) (k : Keep G w w') (h1 : ¬ G b) (h2 : ∀ g, o = some g → ¬ G g) : BldO w' B b l o := by
 have hlt := h.lt
 obtain ⟨h0, p, v, hp, hb, ho, hn, rfl⟩ := h
 exact ⟨h0, p, v, hp, (k.block b hlt h1).trans hb, own_keep ho k h2, hn, rfl⟩
theorem BldO.bld {w : World} {B b : Nat} {l : List UInt8} {o : Option Nat} (h : BldO w B b l o) : Bld w B b l := by
 obtain ⟨h0, p, v, hp, hb, ho, hn, rfl⟩ := h
 have e : (Lib.byteCells l).length = l.length := by simp [Lib.byteCells]
 rcases hp with rfl | rfl
 ·exact .inl ⟨h0, v, hb, by rw [e]; exact ho, hn⟩
 ·exact .inr ⟨h0, v, hb, by rw [e]; exact ho, hn⟩
theorem bcheck_any (w : World) (b : Nat) (p v : Value) (hp : p = .pointer none ∨ p = .pointer (some ⟨b, 0, none⟩)) (hb : w.heap[b]? = some (.cells #[p, v] 39 (0, 0))) :
  Calls Tryz.prog 23 #[.pointer (some ⟨b, 0, none⟩)] w fun e w' => e = .returned (.tuple #[]) ∧ w'.heap[b]? = some (.cells #[.pointer (some ⟨b, 0, none⟩), v] 39 (0, 0)) ∧ Keep (fun k => k = b) w w' := by
 have c0 : w.cell? ⟨b, 0, none⟩ = some p := by rw [Lib.cell_of_heap hb]; rfl
 rcases hp with rfl | rfl
 ·refine Calls.mono (Any.Builder_copyCheck_fresh { Tryz.lays156 with } Tryz.Builder_Extra_156.toX72 b w c0 (by simp [World.shape?, hb]; rfl) (Lib.frozen_of_heap hb 0)) ?_
  rintro e w' ⟨rfl, rfl⟩
  refine ⟨rfl, ?_, (Keep.refl (fun k => k = b) w).setCell (.inl rfl) _⟩
  simp [World.setCell, Array.getElem?_modify, hb]
 ·refine Calls.mono (Any.Builder_copyCheck_used { Tryz.lays156 with } Tryz.Builder_Extra_156.toX72 b w c0) ?_
  rintro e w' ⟨rfl, rfl⟩
  exact ⟨rfl, hb, Keep.refl _ _⟩
theorem keep_grown {w w' : World} {o : Option Nat} (h : w.grownBy w' o) : Keep (fun k => o = some k) w w' :=
 ⟨h.os, h.tape, h.output, h.size, fun k hk hn => h.block k hk (fun e => hn e.symm)⟩
set_option maxRecDepth 100000 in
set_option maxHeartbeats 1000000 in
theorem wstrO_any (w : World) (B b : Nat) (l : List UInt8) (s : ByteArray) (o : Option Nat) (h : BldO w B b l o) (hs : 0 < s.size) (hl : l.length + s.size ≤ 140737488355328) (hB : B ≤ w.heap.size) :
  Calls Tryz.prog 11 #[.pointer (some ⟨b, 0, none⟩), .string s] w fun e w' => e = .returned (.tuple #[.int .i64 s.size, .nilIface]) ∧ ∃ o', BldO w' B b (l ++ s.data.toList) o' ∧ (o' = o ∨ ∃ g, o' = some g ∧ w.heap.size ≤ g) ∧ Keep (fun k => k = b ∨ o = some k) w w' := by
 obtain ⟨i0, hi, hz0, hz1, hz2⟩ := info_parts Tryz.Builder_Extra_156.infoByte
 have hlt := h.lt
 obtain ⟨h0, p, v, hp, hb, ho, hn, rfl⟩ := h
 have HC := Lib.hid (bcheck_any w b p v hp hb)
 have HP := Lib.hid (And.intro h0 (And.intro ho (And.intro hn (And.intro hs (And.intro hl (And.intro hB hlt))))))
 clear h0 hp hb ho hn hs hl hB hlt
 go_enter Tryz.func11, Tryz.ntmps11
 go_wp2_with fail
 refine HC.out.mono ?_
 rintro e w1 ⟨rfl, hb1, hk1⟩
 obtain ⟨h0, ho, hn, hs, hl, hB, hlt⟩ := HP.out
 have hz := hk1.size
 obtain ⟨v', w2, hr, ho2, hg, hv⟩ := run_app_str (P := Tryz.prog) w1 B 37 9 37 5 i0 Tryz.underlying37 Tryz.underlying9 hi hz0 hz1 hz2 v l.length (Lib.byteCells l) (own_keep ho hk1 (fun g hg e => hn (by rw [hg, e]))) s hs (by unfold maxLen; omega) (by omega) (by omega)
 have hkg := keep_grown hg
 have hb2 : w2.heap[b]? = some (.cells #[.pointer (some ⟨b, 0, none⟩), v] 39 (0, 0)) := (hkg.block b (by omega) hn).trans hb1
 have c0 : w1.cell? ⟨b, 0, none⟩ = some (.pointer (some ⟨b, 0, none⟩)) := by rw [Lib.cell_of_heap hb1]; rfl
 have c1 : w1.cell? ⟨b, 1, none⟩ = some v := by rw [Lib.cell_of_heap hb1]; rfl
 have d1 : w2.cell? ⟨b, 1, none⟩ = some v := by rw [Lib.cell_of_heap hb2]; rfl
 have f1 : w2.frozen? ⟨b, 1, none⟩ = false := Lib.frozen_of_heap hb2 1
 have hvn : v'.ownBlock ≠ some b := by
  rcases hv with e | ⟨g, e, hge⟩
  ·rw [e]; exact hn
  ·rw [e]; simp; omega
 obtain ⟨ao, n', cap, hvv⟩ : ∃ ao n' cap, v' = .slice ao n' cap := by
  rcases ho2.2 with ⟨hv, _⟩ | ⟨g, cap, cur, fz, hv, _⟩
  ·exact ⟨_, _, _, hv⟩
  ·exact ⟨_, _, _, hv⟩
 subst hvv
 have HR := Lib.hid hr
 have ks : Keep (fun k => k = b) w2 (w2.setCell ⟨b, 1, none⟩ (.slice ao n' cap)) := (Keep.refl (fun k => k = b) w2).setCell (.inl rfl) _
 have HE : Hid (∃ o', BldO (w2.setCell ⟨b, 1, none⟩ (.slice ao n' cap)) B b (l ++ s.data.toList) o' ∧ (o' = v.ownBlock ∨ ∃ g, o' = some g ∧ w.heap.size ≤ g) ∧ Keep (fun k => k = b ∨ v.ownBlock = some k) w (w2.setCell ⟨b, 1, none⟩ (.slice ao n' cap))) := Lib.hid (by
  refine ⟨_, ⟨h0, _, _, .inr rfl, ?_, ?_, hvn, rfl⟩, ?_, ?_⟩
  ·simp [World.setCell, Array.getElem?_modify, hb2]
  ·have e1 : Lib.byteCells l ++ Lib.strCells s = Lib.byteCells (l ++ s.data.toList) := by simp [Lib.byteCells, Lib.strCells]
   have e2 : (l ++ s.data.toList).length = l.length + s.size := by rw [List.length_append]; rfl
   rw [e2, ← e1]
   exact own_keep ho2 ks (fun g hg e => hvn (by rw [hg, e]))
  ·rcases hv with e | ⟨g, e, hge⟩
   ·exact .inl e
   ·exact .inr ⟨g, e, by omega⟩
  ·exact ((hk1.mono (fun _ _ e => .inl e)).trans (hkg.mono (fun _ _ e => .inr e))).trans (ks.mono (fun _ _ e => .inl e)))
 clear ho hn hs hl hB hlt ho2 hg hv hkg hr hb1 hb2 hvn ks HP HC
 go_wp2_with ((at_builtin; refine wpList_app2 rfl _ _ _ _ rfl rfl rfl HR.out ?_))
 go_ret2
 exact ⟨rfl, HE.out⟩
end Go.Proofs.YtfglkgkihafcpaaGreatDoor

namespace Go.Proofs.YtfglkgkihafcpaaGreatDoor
open Go.RowKit
variable {F : Fence} {n : Nat} {P : Program}
def OwnD {β : Type} (B hs : Nat) (I : β → World → Prop) : Prop := ∀ s W W', I s W → Keep (fun k => k = B ∨ k = hs ∨ k = hs + 1) W W' → I s W'
abbrev bPost {α : Type} (hs B : Nat) (I : List α → World → Prop) (xs : List α) (W : World) : Exit → Act → World → Prop := fun e _ W' => e = .normal ∧ W'.heap[hs]? = W.heap[hs]? ∧ W'.heap[hs + 1]? = W.heap[hs + 1]? ∧ Box3 B W W' ∧ W.heap.size ≤ W'.heap.size ∧ I xs W'
theorem wpIn_rangeFunc_D {α : Type} {g : Operand} {ps : Array Tmp} {assign body : Code} {Q : Exit → Act → World → Prop} {a : Act} {w : World}
  (hro : F.round = none) (h1 : 1 ≤ n) {gf : Nat} {lb : Array Value} (hg : a.eval g = .func (.func gf) #[] lb) (hFg : F.fn gf) (eg : ∀ args w, (callFunc gf args).run P w = .ok (.enter gf args) w)
  {encs : α → Array Value} {xs : List α} {B : Nat} (hB : B + 3 ≤ w.heap.size) (hseq : SeqRuns F (n - 1) P gf lb encs xs B w) (hps : ∀ x, (encs x).size = ps.size)
  (I : List α → World → Prop) (hI : OwnD B w.heap.size I) (h0 : I [] w) (a₁ : α → Act)
  (hassign : ∀ (l : Nat) (x : α) (W : World) (K : Act → World → Prop), K (a₁ x) W →
   assign.wpIn (F.inRound l) (n - 1 - 1) P (Exit.then K (fun _ _ _ => False)) { tmps := (ps.zip (encs x)).foldl (fun t (p, v) => t.setIfInBounds p v) a.tmps, defers := [] } W)
  (hbody : ∀ (l : Nat) (pre : List α) (x : α) (post : List α) (W : World), xs = pre ++ x :: post → w.heap.size + 2 ≤ W.heap.size → I pre W → body.wpIn (F.inRound l) (n - 1 - 1) P (bPost w.heap.size B I (pre ++ [x]) W) (a₁ x) W)
  (hdone : ∀ (D : Nat) (W : World), w.heap.size ≤ D → I xs W → W.heap[D]? = some (.deferred (some [])) → Q .normal { a with defers := { target := .collected D, args := #[] } :: a.defers } W) :
  (Code.rangeFunc g ps assign body).wpIn F n P Q a w := by
 refine wpIn_rangeFunc ?_
 intro fn hfn
 rw [hro]
 obtain ⟨rec, hrec⟩ : ∃ rec : LoopState → Option Code → Loop, rec = fun st pe => { state := st, pending := pe, fn, tmps := a.tmps, params := ps, assign, body, defers := w.heap.size } := ⟨_, rfl⟩
 obtain ⟨W1, hW1⟩ : ∃ W1, (w.alloc (.deferred (some []))).alloc (.loop (rec .ready none)) = W1 := ⟨_, rfl⟩
 have hL1 : W1.heap[w.heap.size + 1]? = some (.loop (rec .ready none)) := by
  rw [← hW1]; have := World.alloc_heap_new (w.alloc (.deferred (some []))) (.loop (rec .ready none)); rwa [World.size_alloc] at this
 have hK1 : W1.heap[w.heap.size]? = some (.deferred (some [])) := by
  rw [← hW1]; exact (Below.heap_alloc _ _ _ (by simp)).trans (World.alloc_heap_new w _)
 have hkA : Keep (fun _ => False) w W1 := by rw [← hW1]; exact ((Keep.refl _ w).alloc _).alloc _
 have hI1 : I [] W1 := hI _ _ _ h0 (hkA.mono (fun _ _ h => h.elim))
 have hz1 : W1.heap.size = w.heap.size + 2 := by rw [← hW1]; simp
 refine ⟨w.heap.size + 1, [{ target := .collected w.heap.size, args := #[] }], W1, { target := .fn (.func gf) lb, args := #[.func (.yield (w.heap.size + 1)) #[] #[]] }, W1, gf,
  #[.func (.yield (w.heap.size + 1)) #[] #[]] ++ lb, W1, ?_, ?_, ?_, ?_, fun _ => h1, ?_⟩
 ·rw [← hW1, hrec]; exact run_enterLoop_outer _ _ _ _ _
 ·simp only [resolve, hg]
  simp [go_sem]
 ·intro f' hf'; simp [Target.leads] at hf'; subst hf'; exact hFg
 ·simp [invoke, go_sem, eg]
 ·have hput : ∀ {s : List α} {W : World} (o' : Obj), I s W → I s (W.putObj (w.heap.size + 1) o') := fun o' hs => hI _ _ _ hs (Keep.putObj o' (.inr (.inr rfl)))
  have habs : ∀ {A A' : World} {k : Nat} {o : Obj}, Keep (fun k => k = B) A A' → w.heap.size ≤ k → A.heap[k]? = some o → A'.heap[k]? = some o :=
   fun hk hl ho => (hk.block _ (Array.getElem?_eq_some_iff.1 ho).1 (fun e => by omega)).trans ho
  have hwid : ∀ {A A' : World}, Keep (fun k => k = B) A A' → Keep (fun k => k = B ∨ k = w.heap.size ∨ k = w.heap.size + 1) A A' := fun h => h.mono (fun _ _ e => .inl e)
  refine (hseq (w.heap.size + 1)
   (fun pre W => I pre W ∧ W.heap[w.heap.size + 1]? = some (.loop (rec .ready none)) ∧ W.heap[w.heap.size]? = some (.deferred (some [])))
   (fun _ _ => False) W1 (Box3.of_keep hkA hB (fun _ _ _ h => h)) (by omega)
   (fun s A A' hs hk => ⟨hI s A A' hs.1 (hwid hk), habs hk (by omega) hs.2.1, habs hk (by omega) hs.2.2⟩)
   (fun s A A' hs hk => hs.elim) ?_ ⟨hI1, hL1, hK1⟩).mono ?_
  ·rintro pre x post W hx ⟨hi, hl, hk⟩
   have hlt : w.heap.size + 1 < W.heap.size := (Array.getElem?_eq_some_iff.1 hl).1
   have hy := run_yield (P := P) (args := encs x) hl (by rw [hrec]; exact hps x)
   rw [hrec] at hy
   refine ⟨fn, _, assign, body, hy, roundIn_of_wpIn hfn (hassign _ x W _ ⟨_, run_beginRound hl (by rw [hrec]), ?_⟩)⟩
   have hl2 : (W.putObj (w.heap.size + 1) (.loop { rec .ready none with state := .busy })).heap[w.heap.size + 1]? = some (.loop { rec .ready none with state := .busy }) := World.putObj_heap_same hlt
   have hk2 : (W.putObj (w.heap.size + 1) (.loop { rec .ready none with state := .busy })).heap[w.heap.size]? = some (.deferred (some [])) := (World.putObj_heap_other (by omega)).trans hk
   have hpb : ∀ (X : World) (o' : Obj), Box3 B X (X.putObj (w.heap.size + 1) o') := fun X o' k _ hb => World.putObj_heap_other (by omega)
   refine wpIn_mono (hbody _ pre x post _ hx (by simp only [World.putObj_size]; omega) (hput _ hi)) ?_
   rintro e a3 W3 ⟨rfl, hd3, hl3, hkp3, hz3, hi3⟩
   replace hl3 := hl3.trans hl2
   have hr := run_endRound (P := P) none hl3
   rw [hrec] at hr
   rw [hrec] at hl3
   have hsz := hz3
   simp only [World.putObj_size] at hsz
   refine ⟨_, _, hr, .inl ⟨rfl, ⟨hput _ hi3, ?_, ?_⟩, ((hpb W _).trans hkp3).trans (hpb W3 _), by simp only [World.putObj_size]; exact hsz⟩⟩
   ·rw [hrec]; exact World.putObj_heap_same (Array.getElem?_eq_some_iff.1 hl3).1
   ·exact (World.putObj_heap_other (by omega)).trans (hd3.trans hk2)
  ·rintro e W2 ⟨⟨v, rfl⟩, (⟨hi, hl, hk⟩ | ⟨pre, hSp, hF⟩)⟩
   ·exact ⟨none, _, by have := run_endLoop (P := P) hl (by rw [hrec]; simp); rw [hrec] at this; exact this, hdone _ _ (Nat.le_refl _) (hput _ hi) ((World.putObj_heap_other (by omega)).trans hk)⟩
   ·exact hF.elim
end Go.Proofs.YtfglkgkihafcpaaGreatDoor

namespace Go.Proofs.YtfglkgkihafcpaaGreatDoor
open Go.RowKit Pl
noncomputable def sesA : List (List UInt8) → Nat → List E → List UInt8
 | [], _, _ => []
 | l :: ls, n, es => (lineA l n es).txt ++ [10] ++ sesA ls (lineA l n es).n (lineA l n es).es
noncomputable def sesS : List (List UInt8) → Nat → List E → Nat × List E
 | [], n, es => (n, es)
 | l :: ls, n, es => sesS ls (lineA l n es).n (lineA l n es).es
theorem sesA_app (b : List (List UInt8)) : ∀ (a : List (List UInt8)) (n : Nat) (es : List E), sesA (a ++ b) n es = sesA a n es ++ sesA b (sesS a n es).1 (sesS a n es).2
 | [], n, es => rfl
 | l :: a, n, es => by
  rw [List.cons_append, sesA, sesA, sesS, sesA_app b a]
  simp only [List.append_assoc]
theorem sesS_app (b : List (List UInt8)) : ∀ (a : List (List UInt8)) (n : Nat) (es : List E), sesS (a ++ b) n es = sesS b (sesS a n es).1 (sesS a n es).2
 | [], n, es => rfl
 | l :: a, n, es => by rw [List.cons_append, sesS, sesS, sesS_app b a]
def tE4 : List UInt8 := [101, 114, 114, 111, 114, 32, 52, 10]
noncomputable def sesT (l : List UInt8) : List UInt8 := if 20000 < l.length then tE4 else sesA (pcz 10 (Lib.trimSuffix l [10])) 10 []
theorem DkM.apart {Z : Nat} {F G : Nat → Prop} {w w' : World} {db xb n : Nat} {es : List E} (h : DkM Z F w db xb n es) (k : Keep G w w') (h1 : ∀ j, F j → ¬ G j) (h2 : ¬ G db) (h3 : ∀ j, G j → Z ≤ j) : DkM Z F w' db xb n es :=
 ⟨h.row.keep k h2, h.ix.keep k h1, h.nd, fun j hj => Nat.lt_of_lt_of_le (h.lt j hj) k.size, h.ok, h.lok, h.lo, h.ldb, h.lib.keep k h3⟩
theorem ten_nums : numsD [[49, 48]] = some [10] := by
 have h1 : Lib.atoiAll [49, 48] = .ok 10 := by decide +kernel
 have h2 : Lib.itoa 10 = [49, 48] := by decide +kernel
 simp [numsD, numA, h1, h2]
set_option maxRecDepth 100000 in
set_option maxHeartbeats 1000000 in
/-- The first index. -/
theorem start_any (Z : Nat) (w : World) (hZ : LibZ Z w) (db : Nat) (hR : Row w db 34 [.pointer none]) (hzd : Z ≤ db) (o : Option Addr) (c : Nat) (hW : Wds w o 1 c [[49, 48]]) :
  Calls Tryz.prog 8 #[.pointer (some ⟨db, 0, none⟩), .slice o 1 c] w fun e w' => e = .returned (.string (bstr tNodes)) ∧ ∃ F xb, DkM Z F w' db xb 10 [] ∧ (∀ k, F k → w.heap.size ≤ k) ∧ Keep (fun k => k = db) w w' := by
 have HN := Lib.hid (wds_nums hZ.lib hZ.err hW 1 (by omega))
 have HR := Lib.hid hR
 have HZ := Lib.hid (And.intro hZ hzd)
 clear hW hR hZ hzd
 go_enter Tryz.func8, Tryz.ntmps8
 go_wp2_with fail
 refine HN.out.mono ?_
 rintro e w1 ⟨hk1, ⟨vs, o', c', h0, hvs, hvl, rfl, hS⟩ | ⟨hbad, rfl⟩⟩
 ·rw [ten_nums] at hvs
  cases hvs
  obtain ⟨g, rfl, hFg, hgc, hrow⟩ := hS.pos (by omega)
  have dv : w1.cell? ⟨g, 0, none⟩ = some (.int .i64 10) := hrow.cell rfl
  have HK1 := Lib.hid hk1
  clear hk1 h0 hvl hrow hS HN hFg
  go_wp2_with fail
  refine (inew_any 10 (by omega) w1).mono ?_
  rintro e w2 ⟨yb, rfl, hY, hk2⟩
  have HY := Lib.hid hY
  have HK2 := Lib.hid hk2
  have hR3 := (HR.out.keep HK1.out (fun e => e)).keep hk2 (fun e => e)
  have d3 := hR3.cell (i := 0) rfl
  have f3 := hR3.frozen 0 none
  have HR3 := Lib.hid hR3
  clear hY hk2 hR3
  go_wp2_with fail
  refine (must_nil w2).mono ?_
  rintro e w4 ⟨rfl, rfl⟩
  go_wp2_with fail
  go_ret
  have z1 := HK1.out.size
  have z2 := HK2.out.size
  have hdb := HR.out.lt
  have hld := HZ.out.2
  have ks : Keep (fun j => j = db) w4 (w4.setCell ⟨db, 0, none⟩ (.pointer (some ⟨yb, 0, none⟩))) := (Keep.refl (fun j => j = db) w4).setCell (.inl rfl) _
  have zs := ks.size
  refine ⟨rfl, fun k => w1.heap.size ≤ k ∧ k < w4.heap.size, yb, ⟨HR3.out.set (i := 0) (by simp) _, (HY.out.known.tight).keep ks (fun k h1 h2 => by omega), fun e => by omega, fun k hk => by omega, IOk.nil (by omega), LOk.nil 10, fun k hk => by omega, hld, ((HZ.out.1.keep HK1.out (fun _ e => e.elim)).keep HK2.out (fun _ e => e.elim)).keep ks (fun k e => by rw [e]; exact hld)⟩, fun k hk => by omega, ((HK1.out.trans HK2.out).of_nb (F := fun k => k = db)).trans' ks (fun _ _ e => e) (fun _ _ e => e)⟩
 ·exfalso
  rw [ten_nums] at hbad
  rcases hbad with h | h
  ·exact h rfl
  ·cases h
def SesRel (Z : Nat) (w : World) (db vb Bb hs : Nat) (pre : List (List UInt8)) (W : World) : Prop :=
 ∃ (F : Nat → Prop) (xb : Nat) (o : Option Nat), DkM Z F W db xb (sesS pre 10 []).1 (sesS pre 10 []).2 ∧ Row W vb 31 [.pointer (some ⟨db, 0, none⟩)] ∧ BldO W Bb Bb (sesA pre 10 []) o ∧ (∀ k, F k → (k < Bb ∨ hs + 2 ≤ k) ∧ k ≠ vb) ∧ (∀ k, o = some k → hs + 2 ≤ k ∧ ¬ F k) ∧ (sesA pre 10 []).length ≤ pre.length * 2200200301 ∧ Keep Nb w W
theorem ses_own {Z : Nat} {w : World} {db vb Bb hs : Nat} (h1 : db < Bb) (h2 : vb < Bb) (h3 : Bb + 4 ≤ hs) (h4 : w.heap.size ≤ Bb) (h5 : Z ≤ Bb) : ∀ s W W', SesRel Z w db vb Bb hs s W → Keep (fun k => k = Bb + 1 ∨ k = hs ∨ k = hs + 1) W W' → SesRel Z w db vb Bb hs s W' := by
 rintro pre W W' ⟨F, xb, o, hD, hR, hB, hF, ho, hl, hk⟩ k
 refine ⟨F, xb, o, hD.apart k (fun j hj e => ?_) (by omega) (fun j hj => by omega), hR.keep k (by omega), hB.keep k (by omega) (fun g hg e => ?_), hF, ho, hl, hk.trans' k (fun _ _ e => e) (fun j hj e => by show False; omega)⟩
 ·have := (hF j hj).1; omega
 ·have := (ho g hg).1; omega
theorem ses_next {Z : Nat} {w : World} {db vb Bb hs : Nat} {pre : List (List UInt8)} {x : List UInt8} {W W1 W2 : World} {F : Nat → Prop} {xb : Nat} {o : Option Nat} (h1 : db < Bb) (h2 : vb < Bb) (h3 : Bb + 4 ≤ hs) (h5 : Z ≤ Bb) (hdv : db ≠ vb) (hwb : w.heap.size ≤ db)
  (hD : DkM Z F W db xb (sesS pre 10 []).1 (sesS pre 10 []).2) (hR : Row W vb 31 [.pointer (some ⟨db, 0, none⟩)]) (hF : ∀ k, F k → (k < Bb ∨ hs + 2 ≤ k) ∧ k ≠ vb) (hF2 : ∀ k, F k → w.heap.size ≤ k) (ho : ∀ k, o = some k → hs + 2 ≤ k ∧ ¬ F k) (hol : ∀ k, o = some k → k < W.heap.size) (hl : (sesA pre 10 []).length ≤ pre.length * 2200200301) (hk : Keep Nb w W) (hz : hs + 2 ≤ W.heap.size)
  {r : Lnd} (hr : lineA x (sesS pre 10 []).1 (sesS pre 10 []).2 = r)
  (hP : ∃ F' xb', DkM Z F' W1 db xb' r.n r.es ∧ ∀ k, F' k → F k ∨ W.heap.size ≤ k) (hkP : Keep (fun k => F k ∨ k = db) W W1)
  {o' : Option Nat} (hB : BldO W2 Bb Bb (sesA pre 10 [] ++ (r.txt ++ [10])) o') (ho' : o' = o ∨ ∃ g, o' = some g ∧ W1.heap.size ≤ g) (hk2 : Keep (fun k => k = Bb ∨ o = some k) W1 W2) :
  SesRel Z w db vb Bb hs (pre ++ [x]) W2 := by
 obtain ⟨F', xb', hD', hF'⟩ := hP
 have z1 := hkP.size
 have z2 := hk2.size
 have hlen := lineA_len x hD.ok
 have eS : sesS (pre ++ [x]) 10 [] = (r.n, r.es) := by rw [sesS_app]; simp only [sesS, hr]
 have eA : sesA (pre ++ [x]) 10 [] = sesA pre 10 [] ++ (r.txt ++ [10]) := by rw [sesA_app]; simp only [sesA, hr, List.append_nil]
 have hoF : ∀ g, o = some g → ¬ F' g := fun g hg e => by
  rcases hF' g e with e | e
  ·exact (ho g hg).2 e
  ·have := hol g hg; omega
 refine ⟨F', xb', o', ?_, (hR.keep hkP (fun e => ?_)).keep hk2 (fun e => ?_), by rw [eA]; exact hB, fun k hk => ?_, fun g hg => ?_, ?_, ?_⟩
 ·rw [eS]
  refine hD'.apart hk2 (fun j hj e => ?_) (fun e => ?_) (fun j e => ?_)
  ·rcases e with e | e
   ·rcases hF' j hj with g | g
    ·have := (hF j g).1; omega
    ·omega
   ·exact hoF j e hj
  ·rcases e with e | e
   ·omega
   ·have := (ho db e).1; omega
  ·rcases e with e | e
   ·omega
   ·have := (ho j e).1; omega
 ·rcases e with e | e
  ·exact (hF vb e).2 rfl
  ·exact hdv e.symm
 ·rcases e with e | e
  ·omega
  ·have := (ho vb e).1; omega
 ·rcases hF' k hk with g | g
  ·exact hF k g
  ·exact ⟨.inr (by omega), by omega⟩
 ·rcases ho' with e | ⟨g', e, hg'⟩
  ·rw [e] at hg
   exact ⟨(ho g hg).1, hoF g hg⟩
  ·rw [e] at hg
   have hgg : g' = g := Option.some.inj hg
   exact ⟨by omega, fun e => by have := hD'.lt g e; omega⟩
 ·rw [eA, List.length_append, List.length_append]
  rw [hr] at hlen
  simp only [List.length_append, List.length_cons, List.length_nil]
  omega
 ·refine (hk.trans' hkP (fun _ _ e => e) (fun j hj e => ?_)).trans' hk2 (fun _ _ e => e) (fun j hj e => ?_)
  ·rcases e with e | e
   ·have := hF2 j e; show False; omega
   ·show False; omega
  ·rcases e with e | e
   ·show False; omega
   ·have := (ho j e).1; show False; omega
end Go.Proofs.YtfglkgkihafcpaaGreatDoor

namespace Go.Proofs.YtfglkgkihafcpaaGreatDoor
open Go.RowKit Pl
attribute [local go_sem] Oper.semAt_some
theorem trim_any (w : World) (l : List UInt8) (hl : l.length ≤ 100000) : Calls Tryz.prog 10 #[.string (bstr l), .string ⟨#[10]⟩] w fun e w' => e = .returned (.string (bstr (Lib.trimSuffix l [10]))) ∧ w' = w :=
 Any.strings_TrimSuffix Tryz.lays102 (bstr l) ⟨#[10]⟩ w (by rw [bstr_size]; omega)
theorem trim_len (l : List UInt8) (c : UInt8) : (Lib.trimSuffix l [c]).length ≤ l.length := by
 unfold Lib.trimSuffix
 split
 ·rw [List.length_take]; omega
 ·exact Nat.le_refl _
theorem ses_leave {w W : World} {T : List UInt8} {tm : Array Value} {ds : List Deferred} {Ds : List Nat} (h2 : tm.getD 2 undef = .string (bstr T)) (hM : Marks W ds Ds) (hk : Keep Nb w W) (hD : ∀ D, D ∈ Ds → w.heap.size ≤ D) :
  LeavesInM Fence.wide 9 Tryz.prog Tryz.f5 tm (fun e w' => e = .returned (.string (bstr T)) ∧ Keep Nb w w') ds .returning W := by
 refine leaves_marks Ds ds W hM (fun W' hk' => ⟨_, results_tmp rfl _ _ _, ?_⟩)
 rw [h2]
 exact ⟨rfl, hk.trans' hk' (fun _ _ e => e) (fun j hj e => by have := hD j e; show False; omega)⟩
theorem four_allocs (w : World) (a b c d : Obj) {n : Nat} (h : w.heap.size = n) : ((((w.alloc a).alloc b).alloc c).alloc d).heap[n]? = some a ∧ ((((w.alloc a).alloc b).alloc c).alloc d).heap[n + 1]? = some b ∧ ((((w.alloc a).alloc b).alloc c).alloc d).heap[n + 2]? = some c ∧ ((((w.alloc a).alloc b).alloc c).alloc d).heap[n + 3]? = some d := by
 subst h
 have e1 := World.alloc_heap_new w a
 have e2 := World.alloc_heap_new (w.alloc a) b
 have e3 := World.alloc_heap_new ((w.alloc a).alloc b) c
 have e4 := World.alloc_heap_new (((w.alloc a).alloc b).alloc c) d
 simp only [World.size_alloc] at e2 e3 e4
 refine ⟨?_, ?_, ?_, e4⟩
 ·rw [Below.heap_alloc _ _ _ (by simp only [World.size_alloc]; omega), Below.heap_alloc _ _ _ (by simp only [World.size_alloc]; omega), Below.heap_alloc _ _ _ (by simp)]; exact e1
 ·rw [Below.heap_alloc _ _ _ (by simp only [World.size_alloc]; omega), Below.heap_alloc _ _ _ (by simp)]; exact e2
 ·rw [Below.heap_alloc _ _ _ (by simp)]; exact e3
set_option maxRecDepth 100000 in
set_option maxHeartbeats 4000000 in
theorem session_any (w : World) (hL : LibW w) (hE : ErrT w) (s : List UInt8) (hs : s.length ≤ 100000) :
  Calls Tryz.prog 5 #[.string (bstr s)] w fun e w' => e = .returned (.string (bstr (sesT s))) ∧ Keep Nb w w' := by
 have HZ := Lib.hid (LibZ.start hL hE)
 obtain ⟨T, hT⟩ : ∃ T, sesT s = T := ⟨_, rfl⟩
 rw [hT]
 have HT := Lib.hid hT
 clear hL hE hT
 refine (callsIn_wide (n := 9)).1 ?_
 refine callsIn_of_wp_marks Tryz.func5 rfl trivial ?_ rfl
 simp only [Tryz.ntmps5, List.size_toArray, List.length_cons, List.length_nil, Nat.reduceAdd, Nat.reduceSub, Array.replicate_succ, Array.replicate_zero, List.push_toArray, List.append_toArray, List.nil_append, List.cons_append]
 refine wpIn_wide.2 ?_
 by_cases hlong : 20000 < s.length
 ·have h1 : (20000 : Int) < (s.length : Int) := by omega
  have hT2 : tE4 = T := by rw [← HT.out]; unfold sesT; rw [if_pos hlong]
  subst hT2
  go_wp2_with fail
  exact ses_leave (Ds := []) rfl ⟨rfl, List.nodup_nil, fun _ h => (by cases h)⟩ (Keep.refl _ _) (fun _ h => (by cases h))
 ·have h1 : ¬ (20000 : Int) < (s.length : Int) := by omega
  obtain ⟨tl, htl⟩ : ∃ tl, Lib.trimSuffix s [10] = tl := ⟨_, rfl⟩
  have hT2 : sesA (pcz 10 tl) 10 [] = T := by rw [← HT.out, ← htl]; unfold sesT; rw [if_neg hlong]
  have HT2 := Lib.hid hT2
  have HTL := Lib.hid htl
  have htlen : tl.length ≤ 20000 := by rw [← htl]; exact Nat.le_trans (trim_len s 10) (by omega)
  clear hT2 htl hlong HT
  go_wp2_with fail
  obtain ⟨wA, hwA⟩ : ∃ wA, ((w.alloc (.cells #[.pointer none] 34)).alloc (.cells #[.pointer (some ⟨w.heap.size, 0, none⟩)] 31)).alloc (.cells #[.string ⟨#[49, 48]⟩] 9) = wA := ⟨_, rfl⟩
  rw [hwA]
  have hkA : Keep Nb w wA := by rw [← hwA]; exact (((Keep.refl Nb w).alloc _).alloc _).alloc _
  have hzA : wA.heap.size = w.heap.size + 3 := by rw [← hwA]; simp
  have hAA := three_allocs w (.cells #[.pointer none] 34) (.cells #[.pointer (some ⟨w.heap.size, 0, none⟩)] 31) (.cells #[.string ⟨#[49, 48]⟩] 9) rfl
  rw [hwA] at hAA
  have hrd : Row wA w.heap.size 34 [.pointer none] := ⟨_, hAA.1, rfl⟩
  have hrv : Row wA (w.heap.size + 1) 31 [.pointer (some ⟨w.heap.size, 0, none⟩)] := ⟨_, hAA.2.1, rfl⟩
  have hrs : Row wA (w.heap.size + 2) 9 [.string ⟨#[49, 48]⟩] := ⟨_, hAA.2.2, rfl⟩
  have hW : Wds wA (some ⟨w.heap.size + 1 + 1, 0, none⟩) 1 1 [[49, 48]] := ⟨⟨rfl, .inr ⟨w.heap.size + 2, 0, [], rfl, rfl, hrs⟩⟩, rfl, by omega, fun x hx => by simp at hx; subst hx; simp⟩
  have HS := Lib.hid (start_any w.heap.size wA (HZ.out.keep hkA (fun _ e => e.elim)) w.heap.size hrd (Nat.le_refl _) _ 1 hW)
  have HRV := Lib.hid hrv
  have HKA := Lib.hid hkA
  clear hW hrs hrv hrd hAA hkA hwA
  refine HS.out.mono ?_
  rintro e w1 ⟨rfl, F, xb, hD, hF, hk1⟩
  have hz1 := hk1.size
  have HD := Lib.hid hD
  have HF := Lib.hid hF
  have HR1 := Lib.hid (HRV.out.keep hk1 (by omega))
  have HK1 : Hid (Keep Nb w w1) := Lib.hid (HKA.out.trans' hk1 (fun _ _ e => e) (fun j hj e => by show False; omega))
  clear hD hF hk1 HS HRV HKA HZ
  go_wp2_with fail
  refine (trim_any _ s hs).mono ?_
  rintro e w2 ⟨rfl, rfl⟩
  rw [HTL.out]
  go_wp2_with fail
  refine (sseq_any _ (bstr tl) ⟨#[10]⟩).mono ?_
  rintro e w2 ⟨rfl, rfl⟩
  go_wp2_with fail
  obtain ⟨wb, hwb⟩ : ∃ wb, (((w1.alloc (.cells #[.pointer none, .slice none 0 0] 39)).alloc (.cells #[.string (bstr tl)] 9)).alloc (.cells #[.string ⟨#[10]⟩] 9)).alloc (.cells #[.int .i64 0] 3) = wb := ⟨_, rfl⟩
  have hzb : wb.heap.size = w1.heap.size + 4 := by rw [← hwb]; simp
  have h4 := four_allocs w1 (.cells #[.pointer none, .slice none 0 0] 39) (.cells #[.string (bstr tl)] 9) (.cells #[.string ⟨#[10]⟩] 9) (.cells #[.int .i64 0] 3) rfl
  rw [hwb] at h4
  have hk1b : Keep Nb w1 wb := by rw [← hwb]; exact ((((Keep.refl Nb w1).alloc _).alloc _).alloc _).alloc _
  simp only [World.size_alloc, hwb]
  have HKB := Lib.hid hk1b
  have HB4 := Lib.hid h4
  clear hk1b h4 hwb
  have hzw : w.heap.size + 3 ≤ w1.heap.size := by omega
  refine (wpIn_wide (n := 9)).1 ?_
  refine wpIn_rangeFunc_D rfl (by omega) (gf := 51) (lb := #[.pointer (some ⟨w1.heap.size + 1 + 1, 0, none⟩), .pointer (some ⟨w1.heap.size + 1, 0, none⟩), .pointer (some ⟨w1.heap.size + 1 + 2, 0, none⟩)]) rfl trivial (enters_of Tryz.func51 (by kernel_rfl) rfl)
   (B := w1.heap.size + 1) (xs := pcz 10 tl) (by omega) (sseq_runs _ _ 10 tl wb (by omega) HB4.out.2.1 HB4.out.2.2.1 HB4.out.2.2.2) (fun _ => rfl) (SesRel w.heap.size w w.heap.size (w.heap.size + 1) w1.heap.size wb.heap.size) (fun s W W' h k => ses_own (by omega) (by omega) (by omega) (by omega) (by omega) s W W' h k) ?start ?act ?assign ?body ?done
  case assign =>
   intro l' x W K hK
   gi_wp2
   exact hK
  case start =>
   exact ⟨F, xb, none, HD.out.still HKB.out, HR1.out.keep HKB.out (fun e => e), ⟨Nat.le_refl _, _, _, .inl rfl, HB4.out.1, ⟨rfl, .inl ⟨rfl, rfl⟩⟩, by simp [Value.ownBlock], rfl⟩, fun k hk => ⟨.inl (HD.out.lt k hk), by have := HF.out k hk; omega⟩, fun _ h => (by cases h), by simp [sesA], HK1.out.trans HKB.out⟩
  case body =>
   rintro l' pre x post W hx hzW ⟨F', xb', o, hD', hR', hB', hF', ho', hl', hk'⟩
   have d0 := hR'.cell (i := 0) rfl
   have hpl : pre.length ≤ 20000 := by
    have e1 := pcz_len 10 tl
    rw [hx, List.length_append, List.length_cons] at e1
    omega
   have hxl : x.length ≤ 20000 := Nat.le_trans (pcz_mem 10 tl x (by rw [hx]; simp)) htlen
   have HLI := Lib.hid (line_any w.heap.size F' W w.heap.size xb' _ _ hD' x (by omega))
   have hrl := lineA_len x hD'.ok
   obtain ⟨r, hr⟩ : ∃ r, lineA x (sesS pre 10 []).1 (sesS pre 10 []).2 = r := ⟨_, rfl⟩
   rw [hr] at HLI hrl
   have HP := Lib.hid (And.intro hD' (And.intro hR' (And.intro hB' (And.intro hF' (And.intro ho' (And.intro hl' (And.intro hk' hr)))))))
   clear hD' hR' hB' hF' ho' hl' hk' hr hx
   gi_wp2
   refine And.intro trivial ?_
   refine (CallsIn.inRound l' ((callsIn_wide (n := 6)).2 HLI.out)).mono ?_
   rintro e W1 ⟨rfl, hP1, hkP⟩
   have HQ := Lib.hid (And.intro hP1 hkP)
   have p1 : ¬ 9223372036854775807 < r.txt.length + 1 := by omega
   clear hP1 hkP HLI d0
   gi_wp2
   refine And.intro trivial ?_
   obtain ⟨hD', hR', hB', hF', ho', hl', hk', hr⟩ := HP.out
   obtain ⟨hP1, hkP⟩ := HQ.out
   have zP := hkP.size
   have hdb := hD'.row.lt
   have hB1 := hB'.keep hkP (fun e => by
    rcases e with e | e
    ·have := (hF' _ e).1; omega
    ·omega) (fun g hg e => by
    rcases e with e | e
    ·exact (ho' g hg).2 e
    ·have := (ho' g hg).1; omega)
   have e1 : (bstr r.txt ++ (⟨#[10]⟩ : ByteArray)) = bstr (r.txt ++ [10]) := bs_cat r.txt [10]
   rw [e1]
   refine (CallsIn.inRound l' ((callsIn_wide (n := 6)).2 (wstrO_any W1 _ _ _ (bstr (r.txt ++ [10])) o hB1 (by rw [bstr_size]; simp) (by rw [bstr_size, List.length_append, List.length_singleton]; omega) (by omega)))).mono ?_
   rintro e W2 ⟨rfl, o', hB2, ho2, hk2⟩
   have z2 := hk2.size
   have hst : ∀ j, w1.heap.size < j → j < wb.heap.size + 2 → W2.heap[j]? = W.heap[j]? := fun j g1 g2 => (hk2.block j (by omega) (fun e => by
    rcases e with e | e
    ·omega
    ·have := (ho' j e).1; omega)).trans (hkP.block j (by omega) (fun e => by
    rcases e with e | e
    ·have := (hF' j e).1; omega
    ·omega))
   have HN := Lib.hid (ses_next (w := w) (by omega) (by omega) (by omega) (by omega) (by omega) (Nat.le_refl _) hD' hR' hF' hD'.lo ho' (fun k hk => hB'.olt hk) hl' hk' hzW hr hP1 hkP hB2 ho2 hk2)
   have HST := Lib.hid hst
   clear hD' hR' hB' hF' ho' hl' hk' hr hP1 hkP hB1 hB2 ho2 hk2 hst
   gi_wp2
   exact ⟨rfl, HST.out _ (by omega) (by omega), HST.out _ (by omega) (by omega), fun k g1 g2 => HST.out k (by omega) (by omega), by omega, HN.out⟩
  case done =>
   rintro D W hD ⟨F', xb', o, hD', hR', hB', hF', ho', hl', hk'⟩ hDm
   have HS := bstring_any W _ _ _ hB'.bld (Nat.le_of_lt hB'.lt)
   rw [HT2.out] at HS
   have HSH := Lib.hid HS
   have HP := Lib.hid (And.intro hk' hDm)
   clear HS hD' hR' hB' hF' ho' hl' hk' hDm
   go_wp2_with fail
   refine HSH.out.mono ?_
   rintro e W1 ⟨rfl, hk1⟩
   have HK := Lib.hid hk1
   clear hk1
   go_wp2_with fail
   refine ses_leave (Ds := [D]) rfl ⟨rfl, by simp, fun E hE => ?_⟩ (HP.out.1.trans' HK.out (fun _ _ e => e) (fun j hj e => by have := e.1; show False; omega)) (fun E hE => ?_)
   ·obtain rfl : E = D := by simpa using hE
    have hm := HP.out.2
    refine (HK.out.block E (Array.getElem?_eq_some_iff.1 hm).1 (fun e => ?_)).trans hm
    rcases e.2 with e | ⟨c, fz, e⟩
    ·omega
    ·rw [hm] at e; cases e
   ·obtain rfl : E = D := by simpa using hE
    omega
end Go.Proofs.YtfglkgkihafcpaaGreatDoor

