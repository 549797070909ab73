/- Part 40 of the proof: ILoad. -/
import Derived.Test.YtfglkgkihafcpaaGreatDoorDp16
import Derived.Test.YtfglkgkihafcpaaGreatDoorDp35
import Derived.Test.YtfglkgkihafcpaaGreatDoorDp38
import Derived.Test.YtfglkgkihafcpaaGreatDoorDp39
import Derived.RangeFuncCalls
set_option linter.unusedVariables false
set_option linter.unusedSimpArgs false
namespace Go.Proofs.YtfglkgkihafcpaaGreatDoor
open Go.RowKit Pl
attribute [local go_sem] Oper.semAt_some
theorem three_allocs (w : World) (a b c : Obj) {n : Nat} (h : w.heap.size = n) : (((w.alloc a).alloc b).alloc c).heap[n]? = some a ∧ (((w.alloc a).alloc b).alloc c).heap[n + 1]? = some b ∧ (((w.alloc a).alloc b).alloc c).heap[n + 2]? = some c := by
 subst h
 have e1 := World.alloc_heap_new w a
 have e2 := World.alloc_heap_new (w.alloc a) b
 have e3 := World.alloc_heap_new ((w.alloc a).alloc b) c
 simp only [World.size_alloc] at e2 e3
 refine ⟨?_, ?_, e3⟩
 ·rw [Below.heap_alloc _ _ _ (by simp; omega), Below.heap_alloc _ _ _ (by simp)]; exact e1
 ·rw [Below.heap_alloc _ _ _ (by simp)]; exact e2
theorem wpListIn_app {F : Fence} {n : Nat} {P : Program} {w w' : World} {ops : Array Oper} {rest : List Oper} {o : Oper} {a : Act} {Q : Exit → Act → World → Prop} (hg : o.guard = none) (s x : Operand) (t : TypeId)
  (hop : o.op = Op.call { callee := Callee.builtin Builtin.append, args := #[s, x], argTypes := #[t, t] }) {v vx v' : Value} (hs : a.eval s = v) (hx : a.eval x = vx)
  (hrun : (Builtin.append_ #[t, t] o.type #[v, vx]).run P w = .ok v' w') (h : wpListIn F n P ops Q rest (a.put o.dst v') w') : wpListIn F n P ops Q (o :: rest) a w := by
 refine wpListIn_plain hg fun K hK' => ?_
 unfold Oper.wpIn
 refine ⟨?_, ?_⟩
 ·simp [Oper.about, hop, resolve, Target.leads, Sem.run_pure]
 ·rw [Oper.semAt_plain F _ _ (by rw [hop]; intro c hc'; cases hc')]
  simp [execOp, hop, resolve, invoke, builtin, hs, hx, hrun, Result.andThen]
  exact hK' _ _ h
def zvals (l : List Int) : List Value := l.map (Value.int .i64)
theorem numsT_all {ws : List (List UInt8)} : ∀ {vs : List Int}, ws.map Lib.atoiAll = vs.map Lib.NumEnd.ok → numsT ws = vs := by
 induction ws with
 | nil => intro vs h; cases vs with | nil => rfl | cons v vs => simp at h
 | cons x ws ih =>
  intro vs h
  cases vs with
  | nil => simp at h
  | cons v vs =>
   simp only [List.map_cons, List.cons.injEq] at h
   unfold numsT
   rw [h.1]
   simp only
   rw [ih h.2]
theorem numsT_stop {ws post : List (List UInt8)} {x : List UInt8} (hx : ∀ v, Lib.atoiAll x ≠ .ok v) : ∀ {vs : List Int}, ws.map Lib.atoiAll = vs.map Lib.NumEnd.ok → numsT (ws ++ x :: post) = vs := by
 induction ws with
 | nil =>
  intro vs h
  cases vs with
  | nil =>
   rw [List.nil_append]
   unfold numsT
   cases he : Lib.atoiAll x with
   | ok v => exact absurd he (hx v)
   | _ => rfl
  | cons v vs => simp at h
 | cons y ws ih =>
  intro vs h
  cases vs with
  | nil => simp at h
  | cons v vs =>
   simp only [List.map_cons, List.cons.injEq] at h
   rw [List.cons_append]
   unfold numsT
   rw [h.1]
   simp only
   rw [ih h.2]
def WdRel (wb : World) (Bn : Nat) (pre : List (List UInt8)) (W : World) : Prop :=
 ∃ (vs : List Int) (o : Option Addr) (c : Nat), pre.map Lib.atoiAll = vs.map Lib.NumEnd.ok ∧ Boxed W Bn 63 (.slice o vs.length c) ∧ Sl (fun j => Bn + 4 ≤ j) W 3 1 o vs.length c (zvals vs) ∧ Keep (fun j => j = Bn ∨ j = Bn + 1) wb W
def WdStop (wb : World) (Bn : Nat) (cd : Code) (pre : List (List UInt8)) (W : World) : Prop :=
 cd = .exit 2 ∧ ∃ ws x, pre = ws ++ [x] ∧ (∀ v, Lib.atoiAll x ≠ .ok v) ∧ WdRel wb Bn ws W
theorem wd_own (wb : World) (Bn : Nat) (hz : wb.heap.size = Bn + 4) : OwnS (Bn + 1) wb.heap.size (WdRel wb Bn) := by
 rintro pre W W' ⟨vs, o, c, h1, h2, h3, h4⟩ hk
 refine ⟨vs, o, c, h1, (hk.block _ h2.lt (fun h => by omega)).trans h2, h3.of_block fun a ha => hk.block _ (h3.lt ha) (fun h => ?_), h4.trans' hk (fun _ _ h => h) (fun k hk' h => ?_)⟩
 ·have hf := h3.foot a ha
  rcases h with h | ⟨_, ob, ho, hc⟩
  ·omega
  ·rcases h3.cases with ⟨e, _⟩ | ⟨g, e, _, _, _, ⟨cur, hrow, _⟩, _⟩
   ·rw [e] at ha; cases ha
   ·rw [e] at ha; cases ha
    rw [hrow] at ho; cases ho; cases hc
 ·rcases h with h | ⟨h, _⟩
  ·exact .inr h
  ·omega
theorem wd_ownS (wb : World) (Bn : Nat) (hz : wb.heap.size = Bn + 4) (cd : Code) : OwnS (Bn + 1) wb.heap.size (WdStop wb Bn cd) := by
 rintro pre W W' ⟨h0, ws, x, h1, h2, h3⟩ hk
 exact ⟨h0, ws, x, h1, h2, wd_own wb Bn hz _ _ _ h3 hk⟩
theorem drop_get {α : Type} {l : List α} {k : Nat} {x : α} (h : l[k]? = some x) : l.drop k = x :: l.drop (k + 1) := by
 obtain ⟨h1, h2⟩ := List.getElem?_eq_some_iff.1 h
 rw [List.drop_eq_getElem_cons h1, h2]
theorem wrap_succ {k : Nat} (h : k < 1000000000) : wrap64 ((k : Int) + 1) = k + 1 := by unfold wrap64; omega
theorem ld_less {M k : Nat} (h : k < M) : M - (intOf (Value.int .i64 ((k + 1 : Nat) : Int))).toNat < M - (intOf (Value.int .i64 (k : Int))).toNat := by
 simp only [intOf, Int.toNat_natCast]; omega
def ILoadPost (w : World) (s : List UInt8) (e : Ending) (w' : World) : Prop :=
 Keep Nb w w' ∧ ((∃ xb n es, e = .returned (.tuple #[.pointer (some ⟨xb, 0, none⟩), .nilIface]) ∧ ldI (pcz 10 s) = some (n, es) ∧ savedT n es = s ∧ IOk n es ∧ IxAt (fun k => w.heap.size ≤ k) w' xb n es (.pointer none) (.pointer none) (.pointer none)) ∨
  (e = .returned (.tuple #[.pointer none, errVal 3]) ∧ ∀ n es, ldI (pcz 10 s) = some (n, es) → savedT n es ≠ s))
structure LdRel (w w1 : World) (s : List UInt8) (M c k : Nat) (xv : Value) (wr : World) (ds : List Deferred) (Ds : List Nat) : Prop where
 keep : Keep Nb w wr
 size : w1.heap.size ≤ wr.heap.size
 row : Sl (fun k => k = w.heap.size) wr 9 1 (some ⟨w.heap.size, 0, none⟩) M c (strs ((pcz 10 s).map bstr))
 marks : Marks wr ds Ds
 over : ∀ D, D ∈ Ds → w1.heap.size ≤ D
 ix : (k = 0 ∧ xv = .pointer none) ∨ ∃ xb n es, 0 < k ∧ xv = .pointer (some ⟨xb, 0, none⟩) ∧ IxAt (fun j => w1.heap.size ≤ j ∧ j ∉ Ds) wr xb n es (.pointer none) (.pointer none) (.pointer none) ∧ IOk n es ∧ ldI (pcz 10 s) = ldGo n es ((pcz 10 s).drop k)
def LdInv (w w1 : World) (s : List UInt8) (M c : Nat) (a : Act) (wr : World) : Prop :=
 ∃ (k : Nat) (xv : Value) (ds : List Deferred) (Ds : List Nat) (u : Nat → Value), k ≤ M ∧ Hid (LdRel w w1 s M c k xv wr ds Ds) ∧ a = { tmps := #[.string (bstr s), undef, .pointer none, .nilIface, xv, u 5, u 6, u 7, u 8, u 9, u 10, u 11, .string (bstr s), .slice (some ⟨w.heap.size, 0, none⟩) M c, .int .i64 M, .int .i64 k, u 16, u 17, u 18, u 19, u 20, u 21, u 22, u 23, u 24, u 25, u 26, u 27, u 28, u 29, u 30, u 31, u 32, u 33, u 34, u 35, u 36, u 37, u 38, u 39, u 40, u 41, u 42, u 43, u 44, u 45, u 46, u 47, u 48, u 49, u 50, u 51, u 52, u 53, u 54, u 55, u 56, u 57, u 58, u 59, u 60, u 61, u 62, u 63, u 64, u 65, u 66, u 67, u 68, u 69, u 70, u 71, u 72, u 73, u 74, u 75, u 76, u 77, u 78, u 79, u 80, u 81, u 82, u 83, u 84, u 85, u 86, u 87, u 88, u 89, u 90, u 91, u 92, u 93, u 94, u 95, u 96], defers := ds }
set_option maxRecDepth 100000 in
theorem LdInv.of {w w1 : World} {s : List UInt8} {M c : Nat} {a : Act} {wr : World} (k : Nat) (xv : Value) (ds : List Deferred) (Ds : List Nat) (hk : k ≤ M) (h : LdRel w w1 s M c k xv wr ds Ds) (hd : a.defers = ds)
  (ht : a.tmps = #[.string (bstr s), undef, .pointer none, .nilIface, xv, a.tmps.getD 5 undef, a.tmps.getD 6 undef, a.tmps.getD 7 undef, a.tmps.getD 8 undef, a.tmps.getD 9 undef, a.tmps.getD 10 undef, a.tmps.getD 11 undef, .string (bstr s), .slice (some ⟨w.heap.size, 0, none⟩) M c, .int .i64 M, .int .i64 k, a.tmps.getD 16 undef, a.tmps.getD 17 undef, a.tmps.getD 18 undef, a.tmps.getD 19 undef, a.tmps.getD 20 undef, a.tmps.getD 21 undef, a.tmps.getD 22 undef, a.tmps.getD 23 undef, a.tmps.getD 24 undef, a.tmps.getD 25 undef, a.tmps.getD 26 undef, a.tmps.getD 27 undef, a.tmps.getD 28 undef, a.tmps.getD 29 undef, a.tmps.getD 30 undef, a.tmps.getD 31 undef, a.tmps.getD 32 undef, a.tmps.getD 33 undef, a.tmps.getD 34 undef, a.tmps.getD 35 undef, a.tmps.getD 36 undef, a.tmps.getD 37 undef, a.tmps.getD 38 undef, a.tmps.getD 39 undef, a.tmps.getD 40 undef, a.tmps.getD 41 undef, a.tmps.getD 42 undef, a.tmps.getD 43 undef, a.tmps.getD 44 undef, a.tmps.getD 45 undef, a.tmps.getD 46 undef, a.tmps.getD 47 undef, a.tmps.getD 48 undef, a.tmps.getD 49 undef, a.tmps.getD 50 undef, a.tmps.getD 51 undef, a.tmps.getD 52 undef, a.tmps.getD 53 undef, a.tmps.getD 54 undef, a.tmps.getD 55 undef, a.tmps.getD 56 undef, a.tmps.getD 57 undef, a.tmps.getD 58 undef, a.tmps.getD 59 undef, a.tmps.getD 60 undef, a.tmps.getD 61 undef, a.tmps.getD 62 undef, a.tmps.getD 63 undef, a.tmps.getD 64 undef, a.tmps.getD 65 undef, a.tmps.getD 66 undef, a.tmps.getD 67 undef, a.tmps.getD 68 undef, a.tmps.getD 69 undef, a.tmps.getD 70 undef, a.tmps.getD 71 undef, a.tmps.getD 72 undef, a.tmps.getD 73 undef, a.tmps.getD 74 undef, a.tmps.getD 75 undef, a.tmps.getD 76 undef, a.tmps.getD 77 undef, a.tmps.getD 78 undef, a.tmps.getD 79 undef, a.tmps.getD 80 undef, a.tmps.getD 81 undef, a.tmps.getD 82 undef, a.tmps.getD 83 undef, a.tmps.getD 84 undef, a.tmps.getD 85 undef, a.tmps.getD 86 undef, a.tmps.getD 87 undef, a.tmps.getD 88 undef, a.tmps.getD 89 undef, a.tmps.getD 90 undef, a.tmps.getD 91 undef, a.tmps.getD 92 undef, a.tmps.getD 93 undef, a.tmps.getD 94 undef, a.tmps.getD 95 undef, a.tmps.getD 96 undef]) : LdInv w w1 s M c a wr := by
 obtain ⟨tm, df⟩ := a
 dsimp only at hd ht
 refine ⟨k, xv, ds, Ds, fun j => tm.getD j undef, hk, Lib.hid h, ?_⟩
 rw [Act.mk.injEq]
 exact ⟨ht, hd⟩
theorem leave_err {w W : World} {s : List UInt8} {tm : Array Value} {ds : List Deferred} {Ds : List Nat} (h2 : tm.getD 2 undef = .pointer none) (h3 : tm.getD 3 undef = errVal 3) (hM : Marks W ds Ds) (hk : Keep Nb w W) (hD : ∀ D, D ∈ Ds → w.heap.size ≤ D)
  (hno : ∀ n es, ldI (pcz 10 s) = some (n, es) → savedT n es ≠ s) : LeavesInM Fence.wide 9 Tryz.prog Tryz.f97 tm (ILoadPost w s) ds .returning W := by
 refine leaves_marks Ds ds W hM (fun W' hk' => ⟨_, results_tmp2 rfl _ _ _, ?_⟩)
 rw [h2, h3]
 exact ⟨hk.trans' hk' (fun _ _ e => e) (fun j hj e => by have := hD j e; show False; omega), .inr ⟨rfl, hno⟩⟩
theorem leave_ok {w W : World} {s : List UInt8} {tm : Array Value} {ds : List Deferred} {Ds : List Nat} {xb n : Nat} {es : List E} {w1 : World} (h2 : tm.getD 2 undef = .pointer (some ⟨xb, 0, none⟩)) (h3 : tm.getD 3 undef = .nilIface) (hM : Marks W ds Ds) (hk : Keep Nb w W) (hD : ∀ D, D ∈ Ds → w.heap.size ≤ D)
  (hl : ldI (pcz 10 s) = some (n, es)) (hs : savedT n es = s) (hI : IOk n es) (h1 : w.heap.size ≤ w1.heap.size) (hX : IxAt (fun j => w1.heap.size ≤ j ∧ j ∉ Ds) W xb n es (.pointer none) (.pointer none) (.pointer none)) : LeavesInM Fence.wide 9 Tryz.prog Tryz.f97 tm (ILoadPost w s) ds .returning W := by
 refine leaves_marks Ds ds W hM (fun W' hk' => ⟨_, results_tmp2 rfl _ _ _, ?_⟩)
 rw [h2, h3]
 refine ⟨hk.trans' hk' (fun _ _ e => e) (fun j hj e => by have := hD j e; show False; omega), .inl ⟨xb, n, es, rfl, hl, hs, hI, ?_⟩⟩
 exact (hX.keep hk' (fun j h e => h.2 e)).mono (fun j h _ => by have := h.1; omega)
set_option maxRecDepth 100000 in
set_option maxHeartbeats 4000000 in
theorem iload_any (w : World) (hL : LibW w) (s : List UInt8) (hs : s.length ≤ 100000) :
  Calls Tryz.prog 97 #[.string (bstr s)] w (ILoadPost w s) := by
 have HL := Lib.hid hL
 have hsp := split_any w hL (bstr s) ⟨#[10]⟩ (by rw [bstr_size]; omega) (by decide)
 rw [splitB_pcz] at hsp
 have HSP := Lib.hid hsp
 clear hL hsp
 refine (callsIn_wide (n := 9)).1 ?_
 refine callsIn_of_wp_marks Tryz.func97 rfl trivial ?_ rfl
 simp only [Tryz.ntmps97, List.size_toArray, List.length_cons, List.length_nil, Nat.reduceAdd, Nat.reduceSub, Array.replicate_succ, Array.replicate_zero, List.push_toArray, List.append_toArray, List.nil_append, List.cons_append]
 refine wpIn_wide.2 ?_
 go_wp2_with fail
 refine HSP.out.mono ?_
 rintro e w1 ⟨M, c, rfl, hS1, hM, hk1⟩
 have HS1 := Lib.hid hS1
 have hM5 : M ≤ 100001 := by have := pcz_len 10 s; simp only [List.length_map] at hM; omega
 have HM := Lib.hid hM
 have HK1 := Lib.hid hk1
 clear hS1 hM hk1 HSP
 go_wp2_with fail
 refine wp_loop (LdInv w w1 s M c)
  (fun a _ => M - (intOf (a.tmps.getD 15 undef)).toNat) ?_ ?_
 ·refine LdInv.of 0 (.pointer none) [] [] (by omega) ⟨HK1.out, Nat.le_refl _, HS1.out, ⟨rfl, List.nodup_nil, fun _ h => (by cases h)⟩, fun _ h => (by cases h), .inl ⟨rfl, rfl⟩⟩ rfl rfl
 rintro a wr ⟨k, xv, ds, Ds, u, hk, HR, rfl⟩
 by_cases hlt : k < M
 ·obtain ⟨l, hl⟩ : ∃ l, (pcz 10 s)[k]? = some l := ⟨(pcz 10 s)[k]'(by have := HM.out; simp at this; omega), List.getElem?_eq_getElem _⟩
  have d0 : wr.cell? ⟨w.heap.size, k, none⟩ = some (.string (bstr l)) := by
   obtain ⟨g, hg, _, _, hrow⟩ := HR.out.row.pos (by omega)
   cases hg
   exact hrow.cell (by simp [strs, hl])
  have HLN := Lib.hid hl
  have hll : l.length ≤ 100000 := Nat.le_trans (pcz_mem 10 s l (List.mem_of_getElem? hl)) hs
  have hpl := pcz_len 32 l
  clear hl
  go_wp2_with fail
  refine (sseq_any _ (bstr l) ⟨#[32]⟩).mono ?_
  rintro e w2 ⟨rfl, rfl⟩
  go_wp2_with fail
  obtain ⟨wa, hwa⟩ : ∃ wa, wr.alloc (.cells #[.slice none 0 0] 63) = wa := ⟨_, rfl⟩
  obtain ⟨wb, hwb⟩ : ∃ wb, ((wa.alloc (.cells #[.string (bstr l)] 9)).alloc (.cells #[.string ⟨#[32]⟩] 9)).alloc (.cells #[.int .i64 0] 3) = wb := ⟨_, rfl⟩
  have hza : wa.heap.size = wr.heap.size + 1 := by rw [← hwa]; simp
  have hzb : wb.heap.size = wr.heap.size + 4 := by rw [← hwb]; simp [hza]
  have h3 := three_allocs wa (.cells #[.string (bstr l)] 9) (.cells #[.string ⟨#[32]⟩] 9) (.cells #[.int .i64 0] 3) hza
  rw [hwb] at h3
  simp only [World.size_alloc, hwa, hwb, hza]
  refine (fun (key : ∀ (D : Nat) (W : World), wb.heap.size ≤ D → (∃ (vs : List Int) (o : Option Addr) (c' : Nat), lineN l = vs ∧ Boxed W wr.heap.size 63 (.slice o vs.length c') ∧ Sl (fun j => wr.heap.size + 4 ≤ j) W 3 1 o vs.length c' (zvals vs) ∧ Keep (fun j => j = wr.heap.size ∨ j = wr.heap.size + 1) wb W) → W.heap[D]? = some (.deferred (some [])) → (?G : Nat → World → Prop) D W) => ?main) ?after
  case main =>
   refine (wpIn_wide (n := 9)).1 ?_
   refine wpIn_rangeFunc_S rfl (by omega) (gf := 51) (lb := #[.pointer (some ⟨wr.heap.size + 1 + 1, 0, none⟩), .pointer (some ⟨wr.heap.size + 1, 0, none⟩), .pointer (some ⟨wr.heap.size + 1 + 2, 0, none⟩)]) rfl trivial (enters_of Tryz.func51 (by kernel_rfl) rfl)
    (B := wr.heap.size + 1) (xs := pcz 32 l) (by omega) (sseq_runs _ _ 32 l wb (by omega) h3.1 h3.2.1 h3.2.2) (fun _ => rfl) (WdRel wb wr.heap.size) (WdStop wb wr.heap.size) (wd_own _ _ hzb) (wd_ownS _ _ hzb) ?start ?act ?assign ?body ?done ?stop
   case assign =>
    intro l' x W K hK
    gi_wp2
    exact hK
   case start => exact ⟨[], none, 0, rfl, by rw [← hwb, ← hwa]; exact (((Boxed.new wr 63 _).alloc _).alloc _).alloc _, Sl.nil _ _ _ _, Keep.refl _ _⟩
   case body =>
    rintro l' pre x post W hx hzW hW
    obtain ⟨vs, o, c', e1, hbx, hS, hkW⟩ := hW
    have hkwb : Keep Nb w wb := by rw [← hwb, ← hwa]; exact (((HR.out.keep.alloc _).alloc _).alloc _).alloc _
    have hkwW : Keep Nb w W := hkwb.trans' hkW (fun _ _ e => e) (fun j hj h => by have := HR.out.keep.size; show False; omega)
    have HLW := Lib.hid (HL.out.keep hkwW)
    have HBX := Lib.hid (And.intro e1 (And.intro hbx (And.intro hS hkW)))
    have HX := Lib.hid hx
    clear e1 hbx hS hkW hx hkwW
    gi_wp2
    refine And.intro trivial ?_
    refine (CallsIn.inRound l' ((callsIn_wide (n := 6)).2 (atoi_any W HLW.out (bstr x) (by have := pcz_mem 32 l x (by rw [HX.out]; simp); rw [bstr_size]; omega)))).mono ?_
    rintro e W1 ⟨⟨v, (⟨hv, rfl⟩ | ⟨hno, tt, p, rfl⟩)⟩, hkA⟩
    ·have hb1 : Boxed W1 wr.heap.size 63 (.slice o vs.length c') := (hkA.block _ HBX.out.2.1.lt (fun e => e)).trans HBX.out.2.1
     have hcb := hb1.cell
     have hfb := hb1.frozen
     have HV := Lib.hid hv
     have HKA := Lib.hid hkA
     have HB1 := Lib.hid hb1
     clear hv hkA hb1 hcb hfb
     obtain ⟨gq, cq, W2, r1, r2, r3, r4⟩ := run_app1 (P := Tryz.prog) 63 63 3 Tryz.underlying63 elem_int rfl (HBX.out.2.2.1.keep HKA.out (fun _ _ e => e)) (.int .i64 v) rfl (by
      have e1 : pre.length = vs.length := by simpa using congrArg List.length HBX.out.1
      have e2 := congrArg List.length HX.out
      simp only [List.length_append, List.length_cons] at e2
      omega) (by omega)
     have hkn : ∀ j, Bl o j → wr.heap.size + 4 ≤ j := by rintro j ⟨a, ha, rfl⟩; exact HBX.out.2.2.1.foot a ha
     have hb2 : Boxed W2 wr.heap.size 63 (.slice o vs.length c') := (r3.block _ HB1.out.lt (fun e => by have := hkn _ e; omega)).trans HB1.out
     have hcb := HB1.out.cell
     have hcb2 := hb2.cell
     have hfb2 := hb2.frozen
     have R1 := Lib.hid r1
     have R2 := Lib.hid r2
     have R3 := Lib.hid r3
     have HB2 := Lib.hid hb2
     clear r1 r2 r3 hb2
     gi_wp2_with (refine wpListIn_app rfl _ _ _ rfl rfl rfl R1.out ?_)
     have hkt : Keep (fun j => Bl o j ∨ j = wr.heap.size) W (W2.setCell ⟨wr.heap.size, 0, none⟩ (.slice (some ⟨gq, 0, none⟩) (vs.length + 1) cq)) :=
      (HKA.out.trans' R3.out (H := fun j => Bl o j ∨ j = wr.heap.size) (fun _ _ e => e.elim) (fun _ _ e => .inl e)).setCell (.inl (.inr rfl)) _
     have hgq : wr.heap.size + 4 ≤ gq := by
      rcases R2.out.foot _ rfl with h | h
      ·exact h
      ·have h : gq = W1.heap.size + 1 := h
       have := HKA.out.size
       omega
     refine ⟨⟨hkt.size, fun j ob hj ho hc => (hkt.block j (Array.getElem?_eq_some_iff.1 ho).1 (fun e => ?_)).trans ho⟩, Box3.of_keep hkt (by omega) (fun j h1 h2 e => ?_), vs ++ [v], some ⟨gq, 0, none⟩, cq, ?_, ?_, ?_, ?_⟩
     ·rcases e with ⟨a, ha, rfl⟩ | e
      ·rcases HBX.out.2.2.1.cases with ⟨e, _⟩ | ⟨g, e, _, _, _, ⟨cur, hrow, _⟩, _⟩
       ·rw [e] at ha; cases ha
       ·rw [e] at ha; cases ha
        rw [hrow] at ho; cases ho; cases hc
      ·omega
     ·rcases e with e | e
      ·have := hkn j e; omega
      ·omega
     ·rw [List.map_append, List.map_append, HBX.out.1, List.map_singleton, List.map_singleton]
      have : Lib.atoiAll x = .ok v := HV.out
      rw [this]
     ·rw [List.length_append]
      exact Boxed.set _ HB2.out
     ·have hk0 : Keep (fun j => j = wr.heap.size) W2 (W2.setCell ⟨wr.heap.size, 0, none⟩ (.slice (some ⟨gq, 0, none⟩) (vs.length + 1) cq)) := (Keep.refl (fun j => j = wr.heap.size) W2).setCell (.inl rfl) _
      have hS2 := (R2.out.mono (G := fun j => wr.heap.size + 4 ≤ j) (fun j hj => by
       rcases hj with hj | hj
       ·exact hj
       ·have hj : j = W1.heap.size + 1 := hj
        have := HKA.out.size
        omega)).keep hk0 (fun j h1 h2 => by omega)
      rw [List.length_append]
      unfold zvals at *
      rw [List.map_append]
      exact hS2
     ·exact HBX.out.2.2.2.trans' hkt (fun _ _ e => e) (fun j hj e => by
       rcases e with e | e
       ·have := hkn j e; omega
       ·exact .inl e)
    ·have HV := Lib.hid hno
     have HKA := Lib.hid hkA
     clear hno hkA
     gi_wp2
     refine ⟨⟨HKA.out.size, fun j ob hj ho hc => (HKA.out.block j (Array.getElem?_eq_some_iff.1 ho).1 (fun e => e)).trans ho⟩, rfl, pre, x, rfl, fun v' hv' => HV.out v' hv', vs, o, c', HBX.out.1, (HKA.out.block _ HBX.out.2.1.lt (fun e => e)).trans HBX.out.2.1, HBX.out.2.2.1.keep HKA.out (fun _ _ e => e), HBX.out.2.2.2.trans' HKA.out (fun _ _ e => e) (fun _ _ e => e.elim)⟩
   case done =>
    intro D W hD hW hDm
    obtain ⟨vs, o, c', e1, e2, e3, e4⟩ := hW
    exact key D W hD ⟨vs, o, c', numsT_all e1, e2, e3, e4⟩ hDm
   case stop =>
    intro D cd pre W hD hpre hW hDm
    obtain ⟨rfl, ws, x, rfl, hno, hR⟩ := hW
    obtain ⟨vs, o, c', e1, e2, e3, e4⟩ := hR
    obtain ⟨post, hpost⟩ := hpre
    refine wpIn_wide.2 (wp_exit ?_)
    exact key D W hD ⟨vs, o, c', by unfold lineN; rw [← hpost, List.append_assoc, List.singleton_append]; exact numsT_stop hno e1, e2, e3, e4⟩ hDm
  case after =>
   intro D W hD hnum hDm
   obtain ⟨vs, o, c', hvs, hbx, hS, hkW⟩ := hnum
   have hkwb : Keep Nb w wb := by rw [← hwb, ← hwa]; exact (((HR.out.keep.alloc _).alloc _).alloc _).alloc _
   have hkrb : Keep Nb wr wb := by rw [← hwb, ← hwa]; exact ((((Keep.refl Nb wr).alloc _).alloc _).alloc _).alloc _
   have hzw := HR.out.keep.size
   have hkwW : Keep Nb w W := hkwb.trans' hkW (fun _ _ e => e) (fun j hj h => by show False; omega)
   have hkrW : Keep (fun j => j = wr.heap.size ∨ j = wr.heap.size + 1) wr W := (hkrb.mono (fun _ _ e => e.elim)).trans hkW
   have hcb := hbx.cell
   have HV := Lib.hid hvs
   have HS := Lib.hid hS
   have HBX := Lib.hid hbx
   have HKW := Lib.hid (And.intro hkwW hkrW)
   have HD := Lib.hid (And.intro hD hDm)
   have HKB := Lib.hid (And.intro hkwb hkW)
   clear hvs hS hbx hkwW hkrW hkW hkwb hkrb hDm
   have hMk : Marks W ({ target := .collected D, args := #[] } :: ds) (D :: Ds) := by
    refine (HR.out.marks.keep HKW.out.2 (fun E hE => ?_)).cons HD.out.2 (fun hE => ?_)
    ·have := (Array.getElem?_eq_some_iff.1 (HR.out.marks.2.2 E hE)).1; omega
    ·have := (Array.getElem?_eq_some_iff.1 (HR.out.marks.2.2 D hE)).1; have := HD.out.1; omega
   have HMK := Lib.hid hMk
   have hov : ∀ E, E ∈ D :: Ds → w1.heap.size ≤ E := fun E hE => by
    rcases List.mem_cons.1 hE with rfl | hE
    ·have := HD.out.1; have := HR.out.size; omega
    ·exact HR.out.over E hE
   have HOV := Lib.hid hov
   have hz1 := HK1.out.size
   have HOW : Hid (∀ E, E ∈ D :: Ds → w.heap.size ≤ E) := Lib.hid (fun E hE => by have := HOV.out E hE; omega)
   clear hMk hov
   have hlt1 : w.heap.size < w1.heap.size := HS1.out.lt rfl
   have hzr := HR.out.size
   have HROW : Hid (Sl (fun k => k = w.heap.size) W 9 1 (some ⟨w.heap.size, 0, none⟩) M c (strs ((pcz 10 s).map bstr))) := Lib.hid (HR.out.row.keep HKW.out.2 (fun j h1 h2 => by omega))
   rcases HR.out.ix with ⟨hk0, hxv⟩ | ⟨xb, n, es, hk0, hxv, hIx, hIO, hld⟩
   ·as_aux_lemma =>
     subst hk0 hxv
     have hls : ∃ r, pcz 10 s = l :: r := by
      have := HLN.out
      cases hp : pcz 10 s with
      | nil => rw [hp] at this; simp at this
      | cons y r => rw [hp] at this; simp at this; subst this; exact ⟨r, rfl⟩
     obtain ⟨r, hr⟩ := hls
     have HLS := Lib.hid hr
     clear hr
     by_cases hv1 : vs.length = 1
     ·obtain ⟨v, rfl⟩ := List.length_eq_one_iff.1 hv1
      obtain ⟨g, rfl, _, hgc, hrow⟩ := HS.out.pos (by simp)
      have dv : W.cell? ⟨g, 0, none⟩ = some (.int .i64 v) := hrow.cell rfl
      have HC1 := Lib.hid hgc
      simp only [List.length_singleton] at hgc hcb
      clear hv1 hrow
      by_cases hin : 0 ≤ v ∧ v ≤ 40
      ·obtain ⟨n, rfl⟩ : ∃ n : Nat, v = n := ⟨v.toNat, by omega⟩
       have HIN := Lib.hid hin
       clear hin
       go_wp2_with fail
       refine (inew_any n (by have := HIN.out; omega) W).mono ?_
       rintro e wx ⟨xb, rfl, hX, hkx⟩
       have HX := Lib.hid hX
       have HKX := Lib.hid hkx
       clear hX hkx
       go_wp2_with fail
       have hzx := HKX.out.size
       refine ⟨LdInv.of 1 (.pointer (some ⟨xb, 0, none⟩)) _ (D :: Ds) (by omega) ⟨HKW.out.1.trans HKX.out, by have := HR.out.size; have := HKW.out.2.size; omega, (HROW.out.keep HKX.out (fun _ _ e => e)), HMK.out.keep HKX.out (fun _ _ e => e), HOV.out, .inr ⟨xb, n, [], by omega, rfl, HX.out.mono (fun j h _ => ⟨by have := HR.out.size; have := HKW.out.2.size; omega, fun hj => by have := (Array.getElem?_eq_some_iff.1 (HMK.out.2.2 j hj)).1; omega⟩), IOk.nil (by have := HIN.out; omega), ?_⟩⟩ rfl rfl, by simp [intOf]; omega⟩
       rw [HLS.out]
       rw [ldI_one HV.out, if_pos HIN.out]
       simp
      ·have hin2 : v < 0 ∨ 40 < v := by omega
       have HIN := Lib.hid hin
       clear hin
       go_wp2_with fail
       refine (inew_err v hin2 W).mono ?_
       rintro e wx ⟨rfl, rfl⟩
       have hE : errV 2 = .iface 47 (.int .i64 2) := rfl
       rw [hE]
       go_wp2_with fail
       refine leave_err rfl rfl HMK.out HKW.out.1 HOW.out (fun n es h => ?_)
       rw [HLS.out] at h
       rw [ldI_one HV.out, if_neg HIN.out] at h
       cases h
     ·have hb1 : (((vs.length : Nat) : Int) == 1) = false := by simp; omega
      go_wp2_with fail
      refine leave_err rfl rfl HMK.out HKW.out.1 HOW.out (fun n es h => ?_)
      rw [HLS.out] at h
      rw [ldI_else (by rw [HV.out]; exact hv1)] at h
      cases h
   ·subst hxv
    have hb0 : ((k : Int) == 0) = false := by simp; omega
    have hb2 : decide (0 < (k : Int)) = true := by simp; omega
    have HIX2 : Hid (IxAt (fun j => (w1.heap.size ≤ j ∧ j ∉ Ds) ∧ j < wr.heap.size) W xb n es (.pointer none) (.pointer none) (.pointer none)) :=
     Lib.hid ((hIx.mono (G := fun j => (w1.heap.size ≤ j ∧ j ∉ Ds) ∧ j < wr.heap.size) (fun j h h2 => ⟨h, h2⟩)).keep HKW.out.2 (fun j h1 h2 => by have := h1.2; omega))
    by_cases hv3 : vs.length = 3
    ·as_aux_lemma =>
      obtain ⟨i, a, b, rfl⟩ : ∃ i a b, vs = [i, a, b] := by
       match vs, hv3 with
       | [i, a, b], _ => exact ⟨i, a, b, rfl⟩
      obtain ⟨g, rfl, hFg, hgc, hrow⟩ := HS.out.pos (by simp)
      have dv0 : W.cell? ⟨g, 0, none⟩ = some (.int .i64 i) := hrow.cell rfl
      have dv1 : W.cell? ⟨g, 1, none⟩ = some (.int .i64 a) := hrow.cell rfl
      have dv2 : W.cell? ⟨g, 2, none⟩ = some (.int .i64 b) := hrow.cell rfl
      simp only [List.length_cons, List.length_nil, Nat.zero_add, Nat.reduceAdd] at hgc hcb
      have q1 := wrap_succ (k := k) (Nat.lt_of_lt_of_le hlt (Nat.le_trans hM5 (by decide)))
      have HLD : Hid (ldI (pcz 10 s) = if addErr n es i a b = 0 then ldGo n (addEs n es i a b) ((pcz 10 s).drop (k + 1)) else none) := Lib.hid (by rw [hld, drop_get HLN.out]; exact ldGo_add HV.out)
      have HIO := Lib.hid hIO
      clear hld hIx hIO hv3 hrow
      have HC : Hid (∀ wx, Keep Nb W wx → Calls Tryz.prog 86 #[.pointer (some ⟨xb, 0, none⟩), .int .i64 i, .int .i64 a, .int .i64 b] wx fun e w' => ∃ bv ev, e = .returned (.tuple #[.bool bv, ev]) ∧
        ((addErr n es i a b = 0 ∧ ev = .nilIface ∧ IxAt (fun j => ((w1.heap.size ≤ j ∧ j ∉ Ds) ∧ j < wr.heap.size) ∨ W.heap.size ≤ j) w' xb n (addEs n es i a b) (.pointer none) (.pointer none) (.pointer none)) ∨ (addErr n es i a b ≠ 0 ∧ ∃ r, ev = .iface 47 (.int .i64 r))) ∧
        Keep (fun j => (w1.heap.size ≤ j ∧ j ∉ Ds) ∧ j < wr.heap.size) wx w') := Lib.hid (fun wx hkx => by
       refine (iadd_any _ wx xb n es i a b _ _ _ (HIX2.out.keep hkx (fun _ _ e => e)) HIO.out).mono ?_
       intro e w' h
       unfold IAddPost at h
       have hz := hkx.size
       by_cases h0 : addErr n es i a b = 0
       ·rw [if_pos h0] at h
        exact ⟨_, _, h.1, .inl ⟨h0, rfl, h.2.1.mono (fun j hj _ => by rcases hj with hj | hj; exact .inl hj; exact .inr (Nat.le_trans hz hj))⟩, h.2.2⟩
       ·rw [if_neg h0] at h
        exact ⟨_, _, h.1, .inr ⟨h0, _, rfl⟩, h.2.2⟩)
      have DV := Lib.hid (And.intro hcb (And.intro dv0 (And.intro dv1 dv2)))
      have hg4 : wr.heap.size + 4 ≤ g := hFg
      have NB : Hid (¬ ((w1.heap.size ≤ wr.heap.size ∧ wr.heap.size ∉ Ds) ∧ wr.heap.size < wr.heap.size) ∧ ¬ ((w1.heap.size ≤ g ∧ g ∉ Ds) ∧ g < wr.heap.size)) := Lib.hid ⟨fun h => Nat.lt_irrefl _ h.2, fun h => Nat.not_lt.2 (Nat.le_trans (Nat.le_add_right _ 4) hg4) h.2⟩
      go_wp2_with fail
      go_region_held3 (fun w' => w'.cell? ⟨wr.heap.size, 0, none⟩ = some (.slice (some ⟨g, 0, none⟩) 3 c') ∧ w'.cell? ⟨g, 0, none⟩ = some (.int .i64 i) ∧ w'.cell? ⟨g, 1, none⟩ = some (.int .i64 a) ∧ w'.cell? ⟨g, 2, none⟩ = some (.int .i64 b)) (go_keep) ((first
       | (go_at_call 86; refine (HC.out _ (show Keep Nb W _ from (by (repeat (first | exact Keep.refl _ _ | refine Keep.alloc ?_ _ | refine Keep.drew ?_))))).mono ?_; rintro e1 wA ⟨bv, ev, rfl, hA, kA⟩; have a0 := kA.cell (p := ⟨wr.heap.size, 0, none⟩) DV.out.1 (NB.out.1); have a1 := kA.cell (p := ⟨g, 0, none⟩) DV.out.2.1 (NB.out.2); have a2 := kA.cell (p := ⟨g, 1, none⟩) DV.out.2.2.1 (NB.out.2); have a3 := kA.cell (p := ⟨g, 2, none⟩) DV.out.2.2.2 (NB.out.2); have HA := Lib.hid hA; have KA := Lib.hid kA; clear hA kA)))
      have hKA : Keep (fun j => (w1.heap.size ≤ j ∧ j ∉ Ds) ∧ j < wr.heap.size) W wA := ((Keep.refl (fun j => (w1.heap.size ≤ j ∧ j ∉ Ds) ∧ j < wr.heap.size) W).drew).trans KA.out
      have HKA := Lib.hid hKA
      have HKN : Hid (Keep Nb w wA) := Lib.hid (HKW.out.1.trans' hKA (fun _ _ e => e) (fun j hj e => by have := e.1.1; show False; omega))
      have HMA : Hid (Marks wA ({ target := .collected D, args := #[] } :: ds) (D :: Ds)) := Lib.hid (HMK.out.keep hKA (fun E hE h => by
       rcases List.mem_cons.1 hE with rfl | hE
       ·have := HD.out.1; have := h.2; omega
       ·exact h.1.2 hE))
      clear hKA KA a0 a1 a2 a3 HC
      have hAA := HA.out
      clear HA
      rcases hAA with ⟨h0, rfl, hA⟩ | ⟨h0, rv, rfl⟩
      ·have HA := Lib.hid hA
       have HLDS : Hid (ldI (pcz 10 s) = ldGo n (addEs n es i a b) ((pcz 10 s).drop (k + 1))) := Lib.hid (by rw [HLD.out, if_pos h0])
       clear hA h0
       go_wp2_with fail
       rw [q1]
       refine ⟨LdInv.of (k + 1) (.pointer (some ⟨xb, 0, none⟩)) _ (D :: Ds) hlt ⟨HKN.out, Nat.le_trans HR.out.size (Nat.le_trans HKW.out.2.size HKA.out.size), HROW.out.keep HKA.out (fun j h1 h2 => Nat.lt_irrefl _ (Nat.lt_of_lt_of_le hlt1 (h1 ▸ h2.1.1))), HMA.out, HOV.out, .inr ⟨xb, n, _, Nat.succ_pos k, rfl, HA.out.mono (fun j hj _ => ?_), HIO.out.add i a b, HLDS.out⟩⟩ rfl rfl, ld_less hlt⟩
       rcases hj with hj | hj
       ·refine ⟨hj.1.1, fun hm => ?_⟩
        rcases List.mem_cons.1 hm with rfl | hm
        ·have := hj.2; have := HD.out.1; omega
        ·exact hj.1.2 hm
       ·refine ⟨by have := HR.out.size; have := HKW.out.2.size; omega, fun hm => ?_⟩
        have := (Array.getElem?_eq_some_iff.1 (HMK.out.2.2 j hm)).1
        omega
      ·have H0 := Lib.hid h0
       clear h0
       go_wp2_with fail
       refine leave_err rfl rfl HMA.out HKN.out HOW.out (fun n' es' h => ?_)
       rw [HLD.out, if_neg H0.out] at h
       cases h
    ·as_aux_lemma =>
      have hb3 : (((vs.length : Nat) : Int) == 3) = false := by simp; omega
      have q1 := wrap_succ (k := k) (Nat.lt_of_lt_of_le hlt (Nat.le_trans hM5 (by decide)))
      have hld1 : ldI (pcz 10 s) = if l = [] then ldGo n es ((pcz 10 s).drop (k + 1)) else none := by
       rw [hld, drop_get HLN.out]
       exact ldGo_else (by rw [HV.out]; exact hv3)
      have HLD := Lib.hid hld1
      have HIX := Lib.hid hIx
      have HIO := Lib.hid hIO
      clear hld hld1 hIx hIO
      by_cases hle : l = []
      ·have HLDS : Hid (ldI (pcz 10 s) = ldGo n es ((pcz 10 s).drop (k + 1))) := Lib.hid (by rw [HLD.out, if_pos hle])
       subst hle
       go_wp2_with fail
       refine ⟨LdInv.of (k + 1) (.pointer (some ⟨xb, 0, none⟩)) _ (D :: Ds) hlt ⟨HKW.out.1, Nat.le_trans HR.out.size HKW.out.2.size, HROW.out, HMK.out, HOV.out, .inr ⟨xb, n, es, Nat.succ_pos k, rfl, ?_, HIO.out, HLDS.out⟩⟩ rfl rfl, ld_less hlt⟩
       exact HIX2.out.mono (fun j h _ => ⟨h.1.1, fun hm => by
        rcases List.mem_cons.1 hm with rfl | hm
        ·have := h.2; have := HD.out.1; omega
        ·exact h.1.2 hm⟩)
      ·have hld2 : ldI (pcz 10 s) = none := by rw [HLD.out, if_neg hle]
       have HL2 := Lib.hid hld2
       have hle2 : (!l.isEmpty) = true := by cases l with | nil => exact absurd rfl hle | cons _ _ => rfl
       clear hld2
       go_wp2_with fail
       refine leave_err rfl rfl HMK.out HKW.out.1 HOW.out (fun n es h => ?_)
       rw [HL2.out] at h
       cases h
 ·as_aux_lemma =>
   obtain rfl : k = M := by omega
   rcases HR.out.ix with ⟨h0, _⟩ | ⟨xb, n, es, hk0, rfl, hIx, hIO, hld⟩
   ·exfalso
    have h1 := HM.out
    rw [h0, List.length_map] at h1
    exact pcz_ne 10 s (List.length_eq_zero_iff.1 h1)
   ·have hldN : ldI (pcz 10 s) = some (n, es) := by
     have h1 := HM.out
     rw [List.length_map] at h1
     rw [hld, List.drop_eq_nil_of_le (Nat.le_of_eq h1)]
     rfl
    have HLN := Lib.hid hldN
    have HIO := Lib.hid hIO
    have HIX := Lib.hid hIx
    obtain ⟨gb, bb, Fg, Fb, fs, x1, x2, -⟩ := hIx
    have HSV := Lib.hid (isaved_any Fg wr xb gb n es _ _ _ _ x1 x2 (HL.out.keep HR.out.keep) hIO.n40 hIO.le (fun e he => ⟨hIO.ok.small e he, (hIO.ok.over e he).1, (hIO.ok.over e he).2⟩))
    have hlt1 : w.heap.size < w1.heap.size := HS1.out.lt rfl
    clear hldN hIO x1 x2 hld
    go_wp2_with fail
    refine HSV.out.mono ?_
    rintro e wS ⟨rfl, hkS⟩
    have HKS := Lib.hid (HR.out.keep.trans hkS)
    have HMS := Lib.hid (HR.out.marks.keep hkS (fun _ _ e => e))
    have HXS := Lib.hid (HIX.out.keep hkS (fun _ _ e => e))
    have HOW : Hid (∀ E, E ∈ Ds → w.heap.size ≤ E) := Lib.hid (fun E hE => by have := HR.out.over E hE; omega)
    clear hkS HSV
    obtain ⟨sv, hsv⟩ : ∃ sv, savedT n es = sv := ⟨_, rfl⟩
    have HSE := Lib.hid hsv
    rw [hsv]
    clear hsv
    by_cases hq : sv = s
    ·subst hq
     go_wp2_with fail
     exact leave_ok rfl rfl HMS.out HKS.out HOW.out HLN.out HSE.out HIO.out (Nat.le_of_lt hlt1) HXS.out
    ·have hq1 : (sv == s) = false := by simp [hq]
     have hq2 : decide (sv = s) = false := by simp [hq]
     go_wp2_with fail
     refine leave_err rfl rfl HMS.out HKS.out HOW.out (fun n' es' h => ?_)
     rw [HLN.out] at h
     cases h
     rw [HSE.out]
     exact hq
end Go.Proofs.YtfglkgkihafcpaaGreatDoor

