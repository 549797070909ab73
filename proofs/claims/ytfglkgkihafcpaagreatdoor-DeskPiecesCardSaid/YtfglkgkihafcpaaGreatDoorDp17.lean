/- Part 17 of the proof: B4. -/
import Derived.Test.YtfglkgkihafcpaaGreatDoorDp07
import Derived.Test.YtfglkgkihafcpaaGreatDoorDp09
import Derived.Test.YtfglkgkihafcpaaGreatDoorDp12
import Derived.Test.YtfglkgkihafcpaaGreatDoorDp16
import Derived.BigQuiet
import Derived.Deep.QuietTactic
set_option linter.unusedVariables false
set_option linter.unusedSimpArgs false
namespace Go.Proofs.YtfglkgkihafcpaaGreatDoor
open Go.RowKit Pl
def kp (x : Nat) (e : E) : Bool := decide (e.a = x ∨ e.b = x)
set_option maxRecDepth 100000 in
theorem del_any (w : World) (q x : Nat) (e : E) (hc : w.cell? ⟨q, 0, none⟩ = some (.int .i64 x)) :
  Calls Tryz.prog 224 #[.agg #[.int .i64 e.id, .int .i64 e.a, .int .i64 e.b], .pointer (some ⟨q, 0, none⟩)] w fun e1 w' => e1 = .returned (.bool (!kp x e)) ∧ Keep Nb w w' := by
 have hq := World.block_lt_of_cell? w _ hc
 have hq2 : q ≠ w.heap.size := by simp only at hq; omega
 by_cases h1 : e.a = x
 ·have hk : kp x e = true := by unfold kp; simp [h1]
  rw [hk]
  have hb : ((e.a : Int) != (x : Int)) = false := by rw [bne_eq_false_iff_eq]; omega
  clear h1 hk
  go_enter Tryz.func224, Tryz.ntmps224
  go_wp2_with fail
  go_ret
  exact ⟨rfl, (Keep.refl Nb w).alloc _⟩
 ·have hb : ((e.a : Int) != (x : Int)) = true := by rw [bne_iff_ne]; omega
  by_cases h2 : e.b = x
  ·have hk : kp x e = true := by unfold kp; simp [h2]
   rw [hk]
   have hb2 : ((e.b : Int) != (x : Int)) = false := by rw [bne_eq_false_iff_eq]; omega
   clear h1 h2 hk
   go_enter Tryz.func224, Tryz.ntmps224
   go_wp2_with fail
   go_ret
   exact ⟨rfl, (Keep.refl Nb w).alloc _⟩
  ·have hk : kp x e = false := by unfold kp; simp [h1, h2]
   rw [hk]
   have hb2 : ((e.b : Int) != (x : Int)) = true := by rw [bne_iff_ne]; omega
   clear h1 h2 hk
   go_enter Tryz.func224, Tryz.ntmps224
   go_wp2_with fail
   go_ret
   exact ⟨rfl, (Keep.refl Nb w).alloc _⟩
def IdxPost (w : World) (es : List E) (x : Nat) (e : Ending) (w' : World) : Prop :=
 ∃ r : Int, e = .returned (.int .i64 r) ∧ ((r = -1 ∧ ∀ e, e ∈ es → kp x e = true) ∨ ∃ j : Nat, r = j ∧ j < es.length ∧ (∀ (k : Nat) e, k < j → es[k]? = some e → kp x e = true) ∧ ∀ e, es[j]? = some e → kp x e = false) ∧ Keep Nb w w'
set_option maxRecDepth 100000 in
theorem idxf_any (F : Nat → Prop) (w : World) (o : Option Addr) (c : Nat) (es : List E) (q x : Nat) (hc : w.cell? ⟨q, 0, none⟩ = some (.int .i64 x)) (hS : Sl F w 125 3 o es.length c (ecs es)) (hn : es.length ≤ 1000) :
  Calls Tryz.prog 243 #[.slice o es.length c, .func (.func 224) #[] #[.pointer (some ⟨q, 0, none⟩)]] w (IdxPost w es x) := by
 have HS := Lib.hid hS
 have HC := Lib.hid hc
 clear hS hc
 go_enter Tryz.func243, Tryz.ntmps243
 go_wp2_with fail
 go_loopg [8] es.length (fun kx s wr => ∃ i : Nat, s = .int .i64 i ∧ i ≤ es.length ∧ es.length - i ≤ kx ∧ Hid ((∀ (k : Nat) e, k < i → es[k]? = some e → kp x e = true) ∧ Keep Nb w wr))
 case atStart => exact ⟨0, rfl, Nat.zero_le _, by omega, Lib.hid ⟨fun k e h => absurd h (by omega), Keep.refl _ _⟩⟩
 case round =>
  obtain ⟨i, rfl, hi, hg, HR⟩ := hrel
  by_cases hlt : i < es.length
  ·have hS := HS.out.keep HR.out.2 (fun _ _ e => e)
   obtain ⟨g, rfl, _, hnc, hrow⟩ := hS.pos (by omega)
   have hy := List.getElem?_eq_getElem hlt
   generalize es[i]'hlt = e at hy
   have d1 := hrow.edges.id _ _ hy
   have d2 := hrow.edges.a _ _ hy
   have d3 := hrow.edges.b _ _ hy
   have HY := Lib.hid hy
   clear hS hrow hy
   go_wp2_with fail
   refine (del_any _ q x e (HR.out.2.cell HC.out (fun e => e))).mono ?_
   rintro e1 w2 ⟨rfl, hk2⟩
   have HK2 := Lib.hid (HR.out.2.trans hk2)
   clear hk2 d1 d2 d3
   cases hkp : kp x e with
   | true =>
    have HN : Hid ((∀ (k : Nat) e, k < i + 1 → es[k]? = some e → kp x e = true) ∧ Keep Nb w w2) := Lib.hid ⟨fun k f hk hf => by
     by_cases hki : k < i
     ·exact HR.out.1 k f hki hf
     ·obtain rfl : k = i := by omega
      rw [HY.out] at hf; cases hf; exact hkp, HK2.out⟩
    clear hkp
    simp only [Bool.not_true]
    go_wp2_with fail
    go_roundg (es.length - (i + 1))
    case measure => omega
    case rel => exact ⟨i + 1, rfl, by omega, Nat.le_refl _, HN⟩
   | false =>
    have HP : Hid (IdxPost w es x (.returned (.int .i64 i)) w2) := Lib.hid
     ⟨i, rfl, .inr ⟨i, rfl, hlt, HR.out.1, fun f hf => by rw [HY.out] at hf; cases hf; exact hkp⟩, HK2.out⟩
    clear hkp
    simp only [Bool.not_false]
    go_wp2_with fail
    go_ret
    exact HP.out
  ·have HP : Hid (IdxPost w es x (.returned (.int .i64 (-1))) wr) := Lib.hid
    ⟨-1, rfl, .inl ⟨rfl, fun e he => by
     obtain ⟨k, hk⟩ := List.mem_iff_getElem?.1 he
     have := (List.getElem?_eq_some_iff.1 hk).1
     exact HR.out.1 k e (by omega) hk⟩, HR.out.2⟩
   go_wp2_with fail
   go_ret
   exact HP.out
end Go.Proofs.YtfglkgkihafcpaaGreatDoor
namespace Go.Proofs.YtfglkgkihafcpaaGreatDoor
open Go.RowKit Pl
theorem ecs_set (L : List E) (i : Nat) (e : E) (hi : i < L.length) : ecs (L.set i e) = (((ecs L).set (i * 3) (.int .i64 e.id)).set (i * 3 + 1) (.int .i64 e.a)).set (i * 3 + 2) (.int .i64 e.b) := by
 induction L generalizing i with
 | nil => simp at hi
 | cons f L ih =>
  cases i with
  | zero => rfl
  | succ i =>
   simp only [List.length_cons] at hi
   rw [List.set_cons_succ, ecs_cons, ecs_cons, ih i (by omega)]
   have e0 : (i + 1) * 3 = i * 3 + 3 := by omega
   rw [e0, show i * 3 + 3 + 1 = i * 3 + 1 + 3 by omega, show i * 3 + 3 + 2 = i * 3 + 2 + 3 by omega]
   show [_, _, _] ++ _ = _
   simp [ecells]
set_option maxRecDepth 100000 in
/-- The rest of a slice is cleared. -/
theorem clear_tail {F : Nat → Prop} {w : World} {g n c : Nat} {L : List E} (h : Sl F w 125 3 (some ⟨g, 0, none⟩) n c (ecs L)) {i : Nat} (hi : i < n) (m c' : Nat) (hm : i + m = n) :
  ∃ w', (∀ ty, (Builtin.clear_ #[117] ty #[.slice (some ⟨g, i * 3, none⟩) m c']).run Tryz.prog w = .ok (.tuple #[]) w') ∧ Sl F w' 125 3 (some ⟨g, 0, none⟩) i c (ecs (L.take i)) ∧ Keep (fun j => j = g) w w' := by
 rcases h.cases with ⟨h0, _⟩ | ⟨g', e1, hF, hnc, hcm, _, cur, hg, hcs⟩
 ·cases h0
 ·have hlen := h.len
  rw [ecs_length] at hlen
  cases e1
  obtain ⟨info, hinfo, hz, hs, hb⟩ := info_parts elem_edge
  have hzz : ∀ w, (zeroValue 125).run Tryz.prog w = .ok (.agg #[.int .i64 0, .int .i64 0, .int .i64 0]) w := fun w => by kernel_rfl
  have hzl : (Builtin.zeroCells (Value.agg #[.int .i64 0, .int .i64 0, .int .i64 0]).cells m).toList.length = m * 3 := by
   rw [Array.length_toList, size_zeroCells]; rfl
  have hz1 : ∀ v ∈ (Builtin.zeroCells (Value.agg #[.int .i64 0, .int .i64 0, .int .i64 0]).cells m).toList, v.oneCell' = true := by
   intro v hv
   have hv' : v ∈ Builtin.zeroCells (Value.agg #[.int .i64 0, .int .i64 0, .int .i64 0]).cells m := by simpa using hv
   unfold Builtin.zeroCells at hv'
   rw [Array.mem_map] at hv'
   obtain ⟨k, _, rfl⟩ := hv'
   have e : (Value.agg #[.int .i64 0, .int .i64 0, .int .i64 0]).cells = #[.int .i64 0, .int .i64 0, .int .i64 0] := rfl
   rw [e]
   have hk : k % 3 = 0 ∨ k % 3 = 1 ∨ k % 3 = 2 := by omega
   show ((#[.int .i64 0, .int .i64 0, .int .i64 0] : Array Value)[k % 3]!).oneCell' = true
   rcases hk with hk | hk | hk <;> rw [hk] <;> rfl
  have hst := run_storeCells_at Tryz.prog g (i * 3) 125 (Builtin.zeroCells (Value.agg #[.int .i64 0, .int .i64 0, .int .i64 0]).cells m).toList 0 cur w hg (by rw [hzl]; omega) hz1
  refine ⟨w.setRow g (cur.toList.take (i * 3 + 0) ++ (Builtin.zeroCells (Value.agg #[.int .i64 0, .int .i64 0, .int .i64 0]).cells m).toList ++ cur.toList.drop (i * 3 + 0 + (Builtin.zeroCells (Value.agg #[.int .i64 0, .int .i64 0, .int .i64 0]).cells m).toList.length)).toArray, fun ty => ?_, ?_, ?_⟩
  ·obtain ⟨m', rfl⟩ : ∃ m', m = m' + 1 := ⟨m - 1, by omega⟩
   simp [Builtin.clear_, run_underlying und_edges, hzz, hst]
  ·have htk : cur.toList.take (n * 3) = ecs L := by
    rcases h.own.2 with ⟨e, _⟩ | ⟨g2, cap2, cur2, e2, _, hg2, _, _, _, ht⟩
    ·simp at e
    ·simp only [Value.slice.injEq, Option.some.injEq, Addr.mk.injEq, and_true, true_and] at e2
     obtain ⟨rfl, rfl⟩ := e2
     rw [hg] at hg2
     cases hg2
     exact ht
   refine ⟨⟨by rw [ecs_length, List.length_take]; omega, .inr ⟨g, c, _, rfl, Nat.zero_le _, setRow_heap w g cur _ 125 _ hg, by omega, hcm, ?_, ?_⟩⟩, h.foot⟩
   ·simp only [List.size_toArray, List.length_append, List.length_take, List.length_drop, Array.length_toList, hzl]
    omega
   ·simp only [Nat.add_zero]
    have hl3 : (cur.toList.take (i * 3)).length = i * 3 := by rw [List.length_take, Array.length_toList]; omega
    rw [List.append_assoc, List.take_append_of_le_length (by omega), List.take_take, Nat.min_self]
    have hm3 : i * 3 ≤ n * 3 := by omega
    rw [ecs_take, ← htk, List.take_take, Nat.min_eq_left hm3]
  ·exact ⟨rfl, rfl, rfl, by simp, fun k _ hk => setRow_other w g k _ (fun e => hk e)⟩
structure DelIn (F : Nat → Prop) (w wr : World) (g n c x : Nat) (es L : List E) (i j : Nat) : Prop where
 s : Sl F wr 125 3 (some ⟨g, 0, none⟩) n c (ecs L)
 len : L.length = n
 head : L.take i = (es.take j).filter (kp x)
 rest : L.drop j = es.drop j
 lt : i < j
 keep : Keep F w wr
theorem DelIn.skip {F : Nat → Prop} {w wr w' : World} {g n c x : Nat} {es L : List E} {i j : Nat} {e : E} (h : DelIn F w wr g n c x es L i j) (he : es[j]? = some e) (hk : kp x e = false) (k : Keep Nb wr w') : DelIn F w w' g n c x es L i (j + 1) := by
 refine ⟨h.s.keep k (fun _ _ e => e), h.len, ?_, ?_, by have := h.lt; omega, h.keep.trans' k (fun _ _ e => e) (fun _ _ e => e.elim)⟩
 ·rw [h.head, take_snoc' he, List.filter_append]; simp [hk]
 ·have := congrArg (List.drop 1) h.rest
  rwa [List.drop_drop, List.drop_drop] at this
theorem DelIn.take {F : Nat → Prop} {w wr : World} {g n c x : Nat} {es L : List E} {i j : Nat} {e : E} (h : DelIn F w wr g n c x es L i j) (he : es[j]? = some e) (hk : kp x e = true) (hj : j < n) :
  DelIn F w (((wr.setCell ⟨g, i * 3, none⟩ (.int .i64 e.id)).setCell ⟨g, i * 3 + 1, none⟩ (.int .i64 e.a)).setCell ⟨g, i * 3 + 2, none⟩ (.int .i64 e.b)) g n c x es (L.set i e) (i + 1) (j + 1) := by
 have hlt := h.lt
 have hlen := h.len
 have hF : F g := h.s.foot _ rfl
 refine ⟨?_, by rw [List.length_set]; exact hlen, ?_, ?_, by omega, ((h.keep.setCell (.inl hF) _).setCell (.inl hF) _).setCell (.inl hF) _⟩
 ·rw [ecs_set L i e (by omega)]
  exact ((h.s.setN (i * 3) rfl _).setN (i * 3 + 1) rfl _).setN (i * 3 + 2) rfl _
 ·have h1 : (L.set i e)[i]? = some e := by rw [List.getElem?_set_self (by omega)]
  rw [take_snoc' h1, List.take_set, take_snoc' he, List.filter_append, List.set_eq_of_length_le (by rw [List.length_take]; omega), h.head]
  simp [hk]
 ·rw [List.drop_set_of_lt (by omega)]
  have := congrArg (List.drop 1) h.rest
  rwa [List.drop_drop, List.drop_drop] at this
def DelPost (F : Nat → Prop) (w : World) (es : List E) (x : Nat) (e : Ending) (w' : World) : Prop :=
 ∃ o c, e = .returned (.slice o (es.filter (kp x)).length c) ∧ Sl F w' 125 3 o (es.filter (kp x)).length c (ecs (es.filter (kp x))) ∧ Keep F w w'
set_option maxRecDepth 100000 in
set_option maxHeartbeats 1000000 in
theorem delf_any (F : Nat → Prop) (w : World) (o : Option Addr) (c : Nat) (es : List E) (q x : Nat) (hc : w.cell? ⟨q, 0, none⟩ = some (.int .i64 x)) (hq : ¬ F q) (hS : Sl F w 125 3 o es.length c (ecs es)) (hn : es.length ≤ 1000) :
  Calls Tryz.prog 223 #[.slice o es.length c, .func (.func 224) #[] #[.pointer (some ⟨q, 0, none⟩)]] w (DelPost F w es x) := by
 have HS := Lib.hid hS
 have HC := Lib.hid hc
 have HQ := Lib.hid hq
 clear hS hc hq
 go_enter Tryz.func223, Tryz.ntmps223
 go_wp2_with fail
 refine (idxf_any F _ o c es q x HC.out HS.out hn).mono ?_
 rintro e1 w1 ⟨r, rfl, hr, hk1⟩
 have HK1 := Lib.hid hk1
 clear hk1
 rcases hr with ⟨rfl, hall⟩ | ⟨i0, rfl, hi0, h1, h2⟩
 ·have hf : es.filter (kp x) = es := List.filter_eq_self.2 hall
  have HP : Hid (DelPost F w es x (.returned (.slice o es.length c)) w1) := Lib.hid ⟨o, c, by rw [hf], by rw [hf]; exact HS.out.keep HK1.out (fun _ _ e => e), HK1.out.of_nb⟩
  clear hall hf
  go_wp2_with fail
  go_ret
  exact HP.out
 ·have hb : ((i0 : Int) == -1) = false := by rw [beq_eq_false_iff_ne]; omega
  have hS1 := HS.out.keep HK1.out (fun _ _ e => e)
  obtain ⟨g, rfl, hFg, hnc, _⟩ := hS1.pos (by omega)
  have HFG := Lib.hid hFg
  obtain ⟨n, hnn⟩ : ∃ n, es.length = n := ⟨_, rfl⟩
  have HD0 : Hid (DelIn F w w1 g n c x es es i0 (i0 + 1)) := Lib.hid (by
   obtain ⟨e0, he0⟩ : ∃ e0, es[i0]? = some e0 := ⟨_, List.getElem?_eq_getElem hi0⟩
   refine ⟨by rw [← hnn]; exact hS1, hnn, ?_, rfl, by omega, HK1.out.of_nb⟩
   rw [take_snoc' he0, List.filter_append]
   have : (es.take i0).filter (kp x) = es.take i0 := List.filter_eq_self.2 (fun e he => by
    obtain ⟨k, hk, hke⟩ := mem_take_get he
    exact h1 k e hk hke)
   rw [this]; simp [h2 e0 he0])
  rw [hnn] at hn hi0 hnc ⊢
  have HNN := Lib.hid hnn
  clear h1 h2 hS1 HS hnn hFg
  go_wp2_with fail
  go_loopg [5, 6] n (fun kx s5 s6 wr => ∃ (i j : Nat) (L : List E), s5 = .int .i64 i ∧ s6 = .int .i64 j ∧ j ≤ n ∧ n - j ≤ kx ∧ i < j ∧ Hid (DelIn F w wr g n c x es L i j))
  case atStart => exact ⟨i0, i0 + 1, es, rfl, rfl, by omega, by omega, by omega, HD0⟩
  case round =>
   clear HD0
   obtain ⟨i, j, L, rfl, rfl, hj, hg, hij, HR⟩ := hrel
   by_cases hlt : j < n
   ·obtain ⟨e, he⟩ : ∃ e, es[j]? = some e := ⟨_, List.getElem?_eq_getElem (by have := HNN.out; omega)⟩
    have heL : L[j]? = some e := by
     have h1 := HR.out.rest
     have h2 : (L.drop j)[0]? = (es.drop j)[0]? := by rw [h1]
     simpa [he] using h2
    obtain ⟨g', hgg, _, _, hrow⟩ := HR.out.s.pos (by omega)
    cases hgg
    have d1 := hrow.edges.id _ _ heL
    have d2 := hrow.edges.a _ _ heL
    have d3 := hrow.edges.b _ _ heL
    have HE := Lib.hid he
    clear he heL hrow
    have hcq := HR.out.keep.cell HC.out HQ.out
    have lq := World.block_lt_of_cell? _ _ hcq
    go_wp2_with fail
    refine (del_any _ q x e (((Keep.refl Nb wr).alloc _).cell hcq (fun e => e))).mono ?_
    rintro e1 w3 ⟨rfl, hk3⟩
    have hk3' := ((Keep.refl Nb wr).alloc (.cells #[.int .i64 e.id, .int .i64 e.a, .int .i64 e.b] 125)).trans hk3
    have HK3 := Lib.hid hk3'
    have f1 := hk3.cell (p := ⟨wr.heap.size, 0, none⟩) (v := .int .i64 e.id) (by rw [World.cell?_alloc_at _ _ _ _ rfl]; rfl) (fun e => e)
    have f2 := hk3.cell (p := ⟨wr.heap.size, 1, none⟩) (v := .int .i64 e.a) (by rw [World.cell?_alloc_at _ _ _ _ rfl]; rfl) (fun e => e)
    have f3 := hk3.cell (p := ⟨wr.heap.size, 2, none⟩) (v := .int .i64 e.b) (by rw [World.cell?_alloc_at _ _ _ _ rfl]; rfl) (fun e => e)
    clear hk3 hk3' d1 d2 d3 hcq lq
    cases hkp : kp x e with
    | false =>
     have HN := Lib.hid (HR.out.skip HE.out hkp HK3.out)
     clear hkp
     simp only [Bool.not_false]
     go_wp2_with fail
     go_roundg (n - (j + 1))
     case measure => omega
     case rel => exact ⟨i, j + 1, L, rfl, rfl, by omega, Nat.le_refl _, by omega, HN⟩
    | true =>
     have hD3 : DelIn F w w3 g n c x es L i j := ⟨HR.out.s.keep HK3.out (fun _ _ e => e), HR.out.len, HR.out.head, HR.out.rest, HR.out.lt, HR.out.keep.trans' HK3.out (fun _ _ e => e) (fun _ _ e => e.elim)⟩
     obtain ⟨ei, hei⟩ : ∃ ei, L[i]? = some ei := ⟨_, List.getElem?_eq_getElem (by have := HR.out.len; omega)⟩
     obtain ⟨g', hgg, _, _, hrow⟩ := hD3.s.pos (by omega)
     cases hgg
     have b1 := hrow.edges.id _ _ hei
     have b2 := hrow.edges.a _ _ hei
     have b3 := hrow.edges.b _ _ hei
     have z1 := hrow.frozen (i * 3) none
     have z2 := hrow.frozen (i * 3 + 1) none
     have z3 := hrow.frozen (i * 3 + 2) none
     have HN := Lib.hid (hD3.take HE.out hkp hlt)
     clear hD3 hkp hei hrow
     simp only [Bool.not_true]
     go_wp2_with fail
     go_roundg (n - (j + 1))
     case measure => omega
     case rel => exact ⟨i + 1, j + 1, L.set i e, rfl, rfl, by omega, Nat.le_refl _, by omega, HN⟩
   ·obtain rfl : j = n := by omega
    obtain ⟨w5, q1, q2, q3⟩ := clear_tail HR.out.s (i := i) (by omega) (j - i) (c - i) (by omega)
    have Q1 := Lib.hid q1
    have hl : es.filter (kp x) = L.take i := by
     rw [HR.out.head, List.take_of_length_le (by have := HNN.out; omega)]
    have hll : (es.filter (kp x)).length = i := by rw [hl, List.length_take]; have := HR.out.len; omega
    have HP : Hid (DelPost F w es x (.returned (.slice (some ⟨g, 0, none⟩) i c)) w5) := Lib.hid
     ⟨_, c, by rw [hll], by rw [hll, hl]; exact q2, HR.out.keep.trans' q3 (fun _ _ e => e) (fun k _ e => by rw [e]; exact HFG.out)⟩
    clear q1 q2 q3 hl hll HR
    go_wp2_with (rw [Q1.out])
    go_ret
    exact HP.out
def AtPost (w : World) (es : List E) (x : Nat) (e : Ending) (w' : World) : Prop :=
 ∃ o c, e = .returned (.tuple #[.slice o (es.filter (kp x)).length c, .nilIface]) ∧ Sl (fun k => w.heap.size ≤ k) w' 125 3 o (es.filter (kp x)).length c (ecs (es.filter (kp x))) ∧ Keep Nb w w'
set_option maxRecDepth 100000 in
set_option maxHeartbeats 1000000 in
theorem at_any (F : Nat → Prop) (w : World) (b n : Nat) (es : List E) (x : Nat) (hG : Gr F w b n es) (hx : x < n) (hn : es.length ≤ 1000) :
  Calls Tryz.prog 213 #[.pointer (some ⟨b, 0, none⟩), .int .i64 x] w (AtPost w es x) := by
 have HG := Lib.hid hG
 obtain ⟨o, c, hM⟩ := hG
 have c0 := hM.head.cell (i := 0) rfl
 have hb := hM.head.lt
 have hb2 : b ≠ w.heap.size := by omega
 clear hM
 have d1 : decide ((x : Int) < 0) = false := by simp
 go_enter Tryz.func213, Tryz.ntmps213
 go_wp2_with fail
 go_quiet (fail)
 go_wp2_with fail
 obtain ⟨w1, hw1⟩ : ∃ w1, (w.alloc (.cells #[.int .i64 x] 3)).drewN nq = w1 := ⟨_, rfl⟩
 have hk1 : Keep Nb w w1 := by rw [← hw1]; exact ((Keep.refl Nb w).alloc _).drewN nq
 have f1 : w1.cell? ⟨w.heap.size, 0, none⟩ = some (.int .i64 x) := by
  rw [← hw1]
  show (w.alloc (.cells #[.int .i64 x] 3)).cell? ⟨w.heap.size, 0, none⟩ = _
  rw [World.cell?_alloc_at _ _ _ _ rfl]; rfl
 have hz1 : w1.heap.size = w.heap.size + 1 := by rw [← hw1]; simp
 rw [hw1]
 have HK1 := Lib.hid hk1
 have HZ1 := Lib.hid hz1
 clear hw1 hk1 hz1 c0 hb hb2 d1
 refine (edges_any F _ b n es (HG.out.keep HK1.out (fun _ _ e => e)) hn).mono ?_
 rintro e1 w2 ⟨o2, c2, rfl, hS2, hk2⟩
 have f2 := hk2.cell f1 (fun e => e)
 have HS2 := Lib.hid hS2
 have HK2 := Lib.hid hk2
 clear hS2 hk2 f1
 go_wp2_with fail
 refine (delf_any _ _ o2 c2 es w.heap.size x f2 (fun h => by have := HZ1.out; omega) HS2.out hn).mono ?_
 rintro e1 w3 ⟨o3, c3, rfl, hS3, hk3⟩
 have HP : Hid (AtPost w es x (.returned (.tuple #[.slice o3 (es.filter (kp x)).length c3, .nilIface])) w3) := Lib.hid (by
  have z := HZ1.out
  refine ⟨o3, c3, rfl, hS3.mono (fun k hk => by omega), (HK1.out.trans HK2.out).trans' hk3 (fun _ _ e => e) (fun k hk e => by show False; omega)⟩)
 obtain ⟨m, hm⟩ : ∃ m, (es.filter (kp x)).length = m := ⟨_, rfl⟩
 rw [hm] at HP ⊢
 clear hS3 hk3 hm f2
 go_wp2_with fail
 go_ret2
 exact HP.out
end Go.Proofs.YtfglkgkihafcpaaGreatDoor

