/- Part 29 of the proof: C2. -/
import Derived.Test.YtfglkgkihafcpaaGreatDoorDp15
import Derived.Test.YtfglkgkihafcpaaGreatDoorDp28
import Derived.ChangeKeysEq
set_option linter.unusedVariables false
set_option linter.unusedSimpArgs false
namespace Go.Proofs.YtfglkgkihafcpaaGreatDoor
open Go.RowKit Pl Go.Maps
theorem cells_u64 : (Tryz.prog).cellsOf 53 = 1 := by kernel_rfl
theorem plain_u64 : (Tryz.prog).plainKey 53 = true := by kernel_rfl
theorem info_u64 : ∃ i, (Tryz.prog).info? 53 = some i := by
 have : ((Tryz.prog).info? 53).isSome = true := by kernel_rfl
 exact Option.isSome_iff_exists.1 this
theorem und_mask : (Tryz.prog).underlying 244 = some (.array 2 53) := by kernel_rfl
theorem und_u64 : (Tryz.prog).underlying 53 = some (.int .u64) := by kernel_rfl
theorem mask_eql (x0 x1 y0 y1 : Nat) (W : World) : (binOp .eql 244 (.agg #[.int .u64 x0, .int .u64 x1]) (.agg #[.int .u64 y0, .int .u64 y1])).run Tryz.prog W = .ok (.bool (((x0 : Int) == (y0 : Int)) && ((x1 : Int) == (y1 : Int)))) W := by
 obtain ⟨i, hi⟩ := info_u64
 have p0 : ∀ (a b : Nat) W, (part 53 #[Value.int .u64 a, .int .u64 b] 0).run Tryz.prog W = .ok (.int .u64 a) W := fun a b W => run_part_plain W plain_u64 (by rfl)
 have p1 : ∀ (a b : Nat) W, (part 53 #[Value.int .u64 a, .int .u64 b] 1).run Tryz.prog W = .ok (.int .u64 b) W := fun a b W => run_part_plain W plain_u64 (by rfl)
 have q : ∀ (a b : Int) W, (Op.equalIn 9999 53 (.int .u64 a) (.int .u64 b)).run Tryz.prog W = .ok (a == b) W := fun a b W => run_equalIn_int W 9998 _ _ _ a b und_u64
 rw [run_eql_struct, show (10000 : Nat) = 9999 + 1 from rfl, run_equalIn_array W 9999 _ _ und_mask hi, cells_u64]
 simp only [show List.range 2 = [0, 1] from rfl, Op.eqItems, Sem.run_bind, Nat.zero_mul, Nat.one_mul, p0, p1, q, Result.andThen_ok]
 cases h0 : ((x0 : Int) == (y0 : Int)) <;> cases h1 : ((x1 : Int) == (y1 : Int)) <;> simp [Sem.run_pure, Result.andThen, p1, q, h1]
theorem mask_neq (x0 x1 y0 y1 : Nat) (W : World) : (binOp .neq 244 (.agg #[.int .u64 x0, .int .u64 x1]) (.agg #[.int .u64 y0, .int .u64 y1])).run Tryz.prog W = .ok (.bool (!(((x0 : Int) == (y0 : Int)) && ((x1 : Int) == (y1 : Int))))) W := by
 have h := mask_eql x0 x1 y0 y1 W
 rw [run_eql_struct] at h
 rw [run_neq_struct]
 cases hr : (Op.equalIn 10000 244 (.agg #[.int .u64 x0, .int .u64 x1]) (.agg #[.int .u64 y0, .int .u64 y1])).run Tryz.prog W with
 | ok b w' =>
  rw [hr] at h
  simp only [Result.andThen_ok, Result.ok.injEq, Value.bool.injEq] at h
  obtain ⟨rfl, rfl⟩ := h
  rfl
 | halt x w' => rw [hr] at h; simp [Result.andThen] at h
def CBridgesPost (w : World) (es : List E) (e : Ending) (w' : World) : Prop :=
 ∃ (o : Option Addr) (c : Nat), e = .returned (.slice o (brE es).length c) ∧ Sl (fun k => w.heap.size ≤ k) w' 3 1 o (brE es).length c (ints (brE es)) ∧ Keep Nb w w'
theorem brE_len (es : List E) : (brE es).length ≤ es.length := by unfold brE; rw [List.length_map]; exact List.length_filter_le _ _
def brT (M : Nat → Nat) (l : List E) : List Nat := (l.filter (fun e => decide (M e.id = 0))).map (·.id)
theorem brT_snoc (M : Nat → Nat) (l : List E) (e : E) : brT M (l ++ [e]) = brT M l ++ (if M e.id = 0 then [e.id] else []) := by
 unfold brT; rw [List.filter_append, List.map_append]
 by_cases h : M e.id = 0 <;> simp [h]
theorem brT_len (M : Nat → Nat) (l : List E) : (brT M l).length ≤ l.length := by unfold brT; rw [List.length_map]; exact List.length_filter_le _ _
set_option maxRecDepth 100000 in
set_option maxHeartbeats 1000000 in
theorem cbridges_any (F Fg : Nat → Prop) (w : World) (c gb n : Nat) (es : List E) (hC : Cov F w c gb es) (hG : Gr Fg w gb n es) (hl : es.length ≤ 120) (ho : EOk n es) :
  Calls Tryz.prog 179 #[.pointer (some ⟨c, 0, none⟩)] w (CBridgesPost w es) := by
 obtain ⟨bm, hM, _⟩ := hC
 have c0 := hM.head.cell (i := 0) rfl
 have HM := Lib.hid hM
 have HO := Lib.hid ho
 have HG := Lib.hid hG
 clear hM hG ho
 go_enter Tryz.func179, Tryz.ntmps179
 go_wp2_with fail
 refine (edges_any Fg w gb n es HG.out (by omega)).mono ?_
 rintro e1 w2 ⟨o2, c2, rfl, hS2, hk2⟩
 have HS2 := Lib.hid hS2
 have HK2 := Lib.hid hk2
 clear hS2 hk2
 go_wp2_with fail
 go_loopg [3, 12] es.length (fun kx s3 s12 wr => ∃ (i : Nat) (oo : Option Addr) (co : Nat), s12 = .int .i64 i ∧ s3 = .slice oo (brT (mk es) (es.take i)).length co ∧ i ≤ es.length ∧ es.length - i ≤ kx ∧
  Hid (Sl (fun k => w2.heap.size ≤ k) wr 3 1 oo (brT (mk es) (es.take i)).length co (ints (brT (mk es) (es.take i))) ∧ Keep Nb w2 wr))
 case atStart => exact ⟨0, none, 0, rfl, rfl, Nat.zero_le _, by omega, Lib.hid ⟨Sl.nil _ _ _ _, Keep.refl _ w2⟩⟩
 case round =>
  obtain ⟨i, oo, co, rfl, rfl, hi, hg, HR⟩ := hrel
  by_cases hlt : i < es.length
  ·obtain ⟨e, hy⟩ : ∃ e, es[i]? = some e := ⟨_, List.getElem?_eq_getElem hlt⟩
   have hS := HS2.out.keep HR.out.2 (fun _ _ e => e)
   obtain ⟨g, rfl, _, hnc, hrow⟩ := hS.pos (by omega)
   have d1 := hrow.edges.id _ _ hy
   have d2 := hrow.edges.a _ _ hy
   have d3 := hrow.edges.b _ _ hy
   have hem := List.mem_of_getElem? hy
   have hsm := HO.out.small e hem
   have kk := (HK2.out.trans HR.out.2).alloc (.cells #[.int .i64 e.id, .int .i64 e.a, .int .i64 e.b] 125)
   have hM := HM.out.keep kk (fun e => e) (fun e => e)
   have b0 := hM.head.cell (i := 1) rfl
   obtain ⟨v, hv⟩ : ∃ v, msk (trE es) (rsE es) e.id = v := ⟨_, rfl⟩
   obtain ⟨x0, hx0⟩ : ∃ x0, v % 18446744073709551616 = x0 := ⟨_, rfl⟩
   obtain ⟨x1, hx1⟩ : ∃ x1, v / 18446744073709551616 = x1 := ⟨_, rfl⟩
   have hlook : ∀ m, (Instr.lookup 240 (.map (some bm)) (.int .i64 e.id) false).run Tryz.prog ((wr.alloc (.cells #[.int .i64 e.id, .int .i64 e.a, .int .i64 e.b] 125)).drewN m) = .ok (.agg #[.int .u64 x0, .int .u64 x1]) ((wr.alloc (.cells #[.int .i64 e.id, .int .i64 e.a, .int .i64 e.b] 125)).drewN m) := fun m => by
    have := (hM.mm.keep ((Keep.refl Nb _).drewN m) (fun e => e)).look (p := e.id) (by unfold DN; omega)
    rw [hv] at this
    unfold encM at this
    rwa [hx0, hx1] at this
   have heq : ∀ W, (binOp .eql 244 (.agg #[.int .u64 x0, .int .u64 x1]) (.agg #[.int .u64 0, .int .u64 0])).run Tryz.prog W = .ok (.bool (((x0 : Int) == 0) && ((x1 : Int) == 0))) W := mask_eql x0 x1 0 0
   have hvz : (((x0 : Int) == 0) && ((x1 : Int) == 0)) = decide (v = 0) := by
    rw [Bool.eq_iff_iff]; simp only [Bool.and_eq_true, beq_iff_eq, decide_eq_true_eq]; omega
   rw [hvz] at heq
   have HV : Hid (mk es e.id = v) := Lib.hid hv
   have HY := Lib.hid hy
   clear hS hrow hy hem hM hv hx0 hx1 hvz kk
   by_cases hz : v = 0
   ·rw [decide_eq_true hz] at heq
    have HN : Hid (brT (mk es) (es.take (i + 1)) = brT (mk es) (es.take i) ++ [e.id]) := Lib.hid (by
     rw [take_snoc' HY.out, brT_snoc, HV.out, if_pos hz])
    have HK : Hid (Keep Nb w2 (wr.alloc (.cells #[.int .i64 e.id, .int .i64 e.a, .int .i64 e.b] 125))) := Lib.hid (HR.out.2.alloc _)
    have hbl : (brT (mk es) (es.take i)).length ≤ 1000 := by have := brT_len (mk es) (es.take i); rw [List.length_take] at this; omega
    have f0 : (wr.alloc (.cells #[.int .i64 e.id, .int .i64 e.a, .int .i64 e.b] 125)).cell? ⟨wr.heap.size, 0, none⟩ = some (.int .i64 e.id) := by rw [World.cell?_alloc_at _ _ _ _ rfl]; rfl
    clear hz
    go_wp2_with fail
    go_quiet (fail)
    obtain ⟨g3, c3, w3, r1, r2, r3, r4⟩ := run_app1 (P := Tryz.prog) 63 63 3 Tryz.underlying63 elem_int rfl (HR.out.1.keep (((Keep.refl Nb wr).alloc (.cells #[.int .i64 e.id, .int .i64 e.a, .int .i64 e.b] 125)).drewN nq) (fun _ _ e => e)) (.int .i64 e.id) rfl (by omega) (by omega)
    have HN2 : Hid (Sl (fun k => w2.heap.size ≤ k) w3 3 1 (some ⟨g3, 0, none⟩) ((brT (mk es) (es.take i)).length + 1) c3 (ints (brT (mk es) (es.take i) ++ [e.id])) ∧ Keep Nb w2 w3) := Lib.hid ⟨by
     rw [ints_append]
     exact r2.mono (fun k hk => by
      have := (HK.out.drewN nq).size
      rcases hk with hk | hk
      ·exact hk
      ·show w2.heap.size ≤ k; omega), (HK.out.drewN nq).trans' r3 (fun _ _ e => e) (fun x hx e => by
       obtain ⟨a, ha, hb⟩ := e
       have := HR.out.1.foot a ha
       show False; omega)⟩
    have hsz : ((wr.alloc (.cells #[.int .i64 e.id, .int .i64 e.a, .int .i64 e.b] 125)).drewN nq).heap.size = wr.heap.size + 1 := by
     show (World.alloc _ _).heap.size = _; rw [World.size_alloc]
    rw [hsz] at r1
    have R1 := Lib.hid r1
    clear r1 r2 r3 r4 hsz
    go_wp2_with (first | (at_builtin; refine wpList_app rfl _ _ _ rfl rfl rfl R1.out ?_))
    go_roundg (es.length - (i + 1))
    case measure => omega
    case rel => exact ⟨i + 1, _, _, rfl, by rw [HN.out, List.length_append]; rfl, by omega, Nat.le_refl _, Lib.hid ⟨by rw [HN.out, List.length_append]; exact HN2.out.1, HN2.out.2⟩⟩
   ·rw [decide_eq_false hz] at heq
    have HN : Hid (brT (mk es) (es.take (i + 1)) = brT (mk es) (es.take i)) := Lib.hid (by
     rw [take_snoc' HY.out, brT_snoc, HV.out, if_neg hz]; simp)
    have HK : Hid (Keep Nb w2 (wr.alloc (.cells #[.int .i64 e.id, .int .i64 e.a, .int .i64 e.b] 125))) := Lib.hid (HR.out.2.alloc _)
    clear hz
    go_wp2_with fail
    go_quiet (fail)
    go_wp2_with fail
    go_roundg (es.length - (i + 1))
    case measure => omega
    case rel => exact ⟨i + 1, oo, co, rfl, by rw [HN.out], by omega, Nat.le_refl _, Lib.hid ⟨by rw [HN.out]; exact HR.out.1.keep (((Keep.refl Nb wr).alloc _).drewN _) (fun _ _ e => e), HK.out.drewN _⟩⟩
  ·obtain rfl : i = es.length := by omega
   have HP : Hid (CBridgesPost w es (.returned (.slice oo (brE es).length co)) wr) := Lib.hid (by
    have h1 := HR.out.1
    rw [List.take_length] at h1
    exact ⟨oo, co, rfl, h1.mono (fun k hk => Nat.le_trans HK2.out.size hk), HK2.out.trans HR.out.2⟩)
   have hb : (brT (mk es) (es.take es.length)).length = (brE es).length := by rw [List.take_length]; rfl
   rw [hb]
   clear HR hb
   go_wp2_with fail
   go_ret
   exact HP.out
end Go.Proofs.YtfglkgkihafcpaaGreatDoor
namespace Go.Proofs.YtfglkgkihafcpaaGreatDoor
open Go.RowKit Pl Go.Maps
def CPairsPost (w : World) (es : List E) (e : Ending) (w' : World) : Prop :=
 ∃ (o : Option Addr) (c : Nat), e = .returned (.slice o (alikes (mk es) es).length c) ∧ Sl (fun k => w.heap.size ≤ k) w' 191 2 o (alikes (mk es) es).length c (pcs (alikes (mk es) es)) ∧ Keep Nb w w'
structure PrRel (w2 : World) (F : Nat → Prop) (rest out all : List (Nat × Nat)) (wI wr : World) (oo : Option Addr) (co : Nat) : Prop where
 sum : out ++ rest = all
 row : Sl F wr 191 2 oo out.length co (pcs out)
 keep : Keep F wI wr
set_option maxRecDepth 100000 in
set_option maxHeartbeats 2000000 in
theorem cpairs_any (F Fg : Nat → Prop) (w : World) (c gb n : Nat) (es : List E) (hC : Cov F w c gb es) (hG : Gr Fg w gb n es) (hl : es.length ≤ 120) (ho : EOk n es) :
  Calls Tryz.prog 141 #[.pointer (some ⟨c, 0, none⟩)] w (CPairsPost w es) := by
 obtain ⟨bm, hM, _⟩ := hC
 have c0 := hM.head.cell (i := 0) rfl
 have hcw := hM.head.lt
 have hbw := hM.mm.lt
 have HM := Lib.hid hM
 have HO := Lib.hid ho
 have HG := Lib.hid hG
 have hall : (alikes (mk es) es).length ≤ 120 * 120 := Nat.le_trans (alikes_len _ _) (Nat.mul_le_mul hl hl)
 obtain ⟨all, hal⟩ : ∃ all, alikes (mk es) es = all := ⟨_, rfl⟩
 rw [hal] at hall
 have HAL := Lib.hid hal
 clear hM hG ho hal
 go_enter Tryz.func141, Tryz.ntmps141
 go_wp2_with fail
 refine (edges_any Fg w gb n es HG.out (by omega)).mono ?_
 rintro e1 w2 ⟨o2, c2, rfl, hS2, hk2⟩
 have HS2 := Lib.hid hS2.tight
 have HK2 := Lib.hid hk2
 have hw2 := hk2.size
 clear hS2 hk2
 go_wp2_with fail
 go_loopg [3, 17] es.length (fun kx s3 s17 wr => ∃ (i : Nat) (out : List (Nat × Nat)) (oo : Option Addr) (co : Nat), s17 = .int .i64 i ∧ s3 = .slice oo out.length co ∧ i ≤ es.length ∧ es.length - i ≤ kx ∧
  Hid (PrRel w2 (fun k => w2.heap.size ≤ k) (alikes (mk es) (es.drop i)) out all w2 wr oo co))
 case atStart => exact ⟨0, [], none, 0, rfl, rfl, Nat.zero_le _, by omega, Lib.hid ⟨by rw [List.drop_zero, HAL.out]; rfl, Sl.nil _ _ _ _, Keep.refl _ w2⟩⟩
 case round =>
  obtain ⟨i, out, oo, co, rfl, rfl, hi, hg, HR⟩ := hrel
  by_cases hlt : i < es.length
  ·obtain ⟨e, hy⟩ : ∃ e, es[i]? = some e := ⟨_, List.getElem?_eq_getElem hlt⟩
   have hS := HS2.out.keep HR.out.keep (fun k h h' => by have := h.2; omega)
   obtain ⟨g, rfl, hFg, hnc, hrow⟩ := hS.pos (by omega)
   have d1 := hrow.edges.id _ _ hy
   have d2 := hrow.edges.a _ _ hy
   have d3 := hrow.edges.b _ _ hy
   have hem := List.mem_of_getElem? hy
   have hsm := HO.out.small e hem
   have hwz := HR.out.keep.size
   have HY : Hid (es.drop i = e :: es.drop (i + 1)) := Lib.hid (by
    rw [List.drop_eq_getElem_cons hlt]
    have := List.getElem?_eq_getElem hlt
    rw [hy] at this; cases this; rfl)
   obtain ⟨eid, heid⟩ : ∃ eid, e.id = eid := ⟨_, rfl⟩
   rw [heid] at d1 hsm
   obtain ⟨v, hv⟩ : ∃ v, mk es eid = v := ⟨_, rfl⟩
   obtain ⟨x0, hx0⟩ : ∃ x0, v % 18446744073709551616 = x0 := ⟨_, rfl⟩
   obtain ⟨x1, hx1⟩ : ∃ x1, v / 18446744073709551616 = x1 := ⟨_, rfl⟩
   have HV : Hid (mk es eid = v ∧ v % 18446744073709551616 = x0 ∧ v / 18446744073709551616 = x1 ∧ e.id = eid) := Lib.hid ⟨hv, hx0, hx1, heid⟩
   obtain ⟨wI, hwI⟩ : ∃ wI, wr.alloc (.cells #[.int .i64 eid, .int .i64 e.a, .int .i64 e.b] 125) = wI := ⟨_, rfl⟩
   have HI : Hid (Keep Nb wr wI ∧ wI.cell? ⟨wr.heap.size, 0, none⟩ = some (.int .i64 eid) ∧ wI.heap.size = wr.heap.size + 1) := Lib.hid (by
    rw [← hwI]; exact ⟨(Keep.refl Nb wr).alloc _, by rw [World.cell?_alloc_at _ _ _ _ rfl]; rfl, by simp⟩)
   have HS : Hid (Sl (fun k => w.heap.size ≤ k ∧ k < w2.heap.size) wI 125 3 (some ⟨g, 0, none⟩) es.length c2 (ecs es)) := Lib.hid (hS.keep HI.out.1 (fun _ _ e => e))
   have HR0 : Hid (PrRel w2 (fun k => w2.heap.size ≤ k ∧ k ≠ wr.heap.size) (alikeTo (mk es) eid (es.drop (i + 1)) ++ alikes (mk es) (es.drop (i + 1))) out all wI wI oo co ∧ Keep (fun k => w2.heap.size ≤ k) w2 wI) := Lib.hid ⟨⟨by
    have := HR.out.sum
    rw [HY.out] at this
    rw [← heid]
    exact this, (HR.out.row.tight.mono (fun k hk => ⟨hk.1, by have := hk.2; omega⟩)).keep HI.out.1 (fun _ _ e => e), Keep.refl _ _⟩, HR.out.keep.trans HI.out.1.of_nb⟩
   have hz1 : ((i : Int) + 1).toNat = i + 1 := by omega
   have hz2 : IntKind.i64.wrap ((i : Int) + 1) = (i : Int) + 1 := IntWalk.i64_in _ (by omega)
   have hz3 : (0 : Int) ≤ (i : Int) + 1 := by omega
   have hz4 : (i : Int) + 1 ≤ (es.length : Int) := by omega
   have hz5 : es.length ≤ c2 := hnc
   have hz6 : (es.length : Int) ≤ (c2 : Int) := by omega
   have hz7 : (i : Int) + 1 ≤ (c2 : Int) := by omega
   clear hS hrow hy hem hv hx0 hx1 HR heid
   go_upto_region 6 with (fail)
   clear hwI
   obtain ⟨q6, hq6⟩ : ∃ q6, wr.heap.size = q6 := ⟨_, rfl⟩
   rw [hq6] at HI HR0 ⊢
   go_cut [25, 26, 27] (fun v n z wc => ∃ (a : Addr) (c' : Nat), v = .slice (some a) (es.length - (i + 1)) c' ∧ n = .int .i64 (es.length - (i + 1) : Nat) ∧ z = .int .i64 0 ∧ (i + 1 < es.length → a = ⟨g, (i + 1) * 3, none⟩) ∧ es.length - (i + 1) ≤ c' ∧ wI = wc)
   case first =>
    by_cases hkc : c2 = i + 1
    ·subst hkc
     have hz9 : es.length - (i + 1) = 0 := by omega
     have hz10 : i + 1 - (i + 1) = 0 := by omega
     go_wp2_with fail
     go_meet
     exact ⟨⟨g, 0, none⟩, 0, by rw [hz9], by rw [hz9]; rfl, rfl, fun h => by omega, by omega, rfl⟩
    ·go_wp2_with fail
     go_meet
     exact ⟨_, _, rfl, by go_num, rfl, fun h => rfl, by omega, rfl⟩
   case rest =>
    obtain ⟨a, c', rfl, rfl, rfl, ha, hc', hwI⟩ := hcut
    obtain ⟨wJ, rfl⟩ : ∃ wJ : World, wJ = wc := ⟨_, rfl⟩
    subst hwI
    have HA := Lib.hid ha
    clear ha hz1 hz2 hz3 hz4 hz5 hz6 hz7
    obtain ⟨m, hm⟩ : ∃ m, es.length - (i + 1) = m := ⟨_, rfl⟩
    rw [hm] at hc' ⊢
    have HM2 : Hid (es.length - (i + 1) = m ∧ (es.drop (i + 1)).length = m) := Lib.hid ⟨hm, by rw [List.length_drop]; exact hm⟩
    have hm120 : m ≤ 120 := by omega
    clear hm
    go_wp2_with fail
    go_loopg [3, 27] m (fun ky s3 s27 wr2 => ∃ (k : Nat) (out : List (Nat × Nat)) (oo : Option Addr) (co : Nat), s27 = .int .i64 k ∧ s3 = .slice oo out.length co ∧ k ≤ m ∧ m - k ≤ ky ∧
     Hid (PrRel w2 (fun k => w2.heap.size ≤ k ∧ k ≠ q6) (alikeTo (mk es) eid ((es.drop (i + 1)).drop k) ++ alikes (mk es) (es.drop (i + 1))) out all wI wr2 oo co ∧ Keep (fun k => w2.heap.size ≤ k) w2 wr2))
    case atStart => exact ⟨0, out, oo, co, rfl, rfl, Nat.zero_le _, by omega, HR0⟩
    case round =>
     clear HR0
     obtain ⟨k, out, oo, co, rfl, rfl, hk, hgk, HR⟩ := hrel
     have hol : out.length ≤ 14400 := by
      have := congrArg List.length HR.out.1.sum
      rw [List.length_append] at this
      omega
     by_cases hkm : k < m
     ·have hax := HA.out (by have := HM2.out.1; omega)
      subst hax
      have hik : i + 1 + k < es.length := by have := HM2.out.1; omega
      obtain ⟨f, hf⟩ : ∃ f, es[i + 1 + k]? = some f := ⟨_, List.getElem?_eq_getElem hik⟩
      have HD : Hid ((es.drop (i + 1)).drop k = f :: (es.drop (i + 1)).drop (k + 1)) := Lib.hid (by
       rw [List.drop_drop, List.drop_drop, List.drop_eq_getElem_cons hik]
       have := List.getElem?_eq_getElem hik
       rw [hf] at this; cases this; rfl)
      have hS := HS.out.keep HR.out.1.keep (fun j h h' => by have := h'.1; omega)
      obtain ⟨g', hg', _, _, hrow⟩ := hS.pos (by omega)
      cases hg'
      have d1 := hrow.edges.id _ _ hf
      have d2 := hrow.edges.a _ _ hf
      have d3 := hrow.edges.b _ _ hf
      rw [show (i + 1 + k) * 3 = (i + 1) * 3 + k * 3 by omega] at d1 d2 d3
      have hfs := HO.out.small f (List.mem_of_getElem? hf)
      have c6 := HR.out.1.keep.cell HI.out.2.1 (fun h => h.2 rfl)
      have hq6l := World.block_lt_of_cell? _ _ c6
      obtain ⟨fid, hfid⟩ : ∃ fid, f.id = fid := ⟨_, rfl⟩
      rw [hfid] at d1 hfs
      obtain ⟨u, hu⟩ : ∃ u, mk es fid = u := ⟨_, rfl⟩
      obtain ⟨y0, hy0⟩ : ∃ y0, u % 18446744073709551616 = y0 := ⟨_, rfl⟩
      obtain ⟨y1, hy1⟩ : ∃ y1, u / 18446744073709551616 = y1 := ⟨_, rfl⟩
      have HU : Hid (mk es fid = u ∧ u % 18446744073709551616 = y0 ∧ u / 18446744073709551616 = y1 ∧ f.id = fid) := Lib.hid ⟨hu, hy0, hy1, hfid⟩
      obtain ⟨W, hW⟩ : ∃ W, wr.alloc (.cells #[.int .i64 fid, .int .i64 f.a, .int .i64 f.b] 125) = W := ⟨_, rfl⟩
      have kWr : Keep Nb wr W := by rw [← hW]; exact (Keep.refl Nb wr).alloc _
      have kW : Keep (fun k => w2.heap.size ≤ k) w2 W := HR.out.2.trans kWr.of_nb
      have hM := (HM.out.keep HK2.out (fun e => e) (fun e => e)).keep kW (fun h => by omega) (fun h => by omega)
      have e0 := hM.head.cell (i := 1) rfl
      have c6' := kWr.cell c6 (fun e => e)
      have f8 : W.cell? ⟨wr.heap.size, 0, none⟩ = some (.int .i64 fid) := by rw [← hW, World.cell?_alloc_at _ _ _ _ rfl]; rfl
      have hlA : (Instr.lookup 240 (.map (some bm)) (.int .i64 eid) false).run Tryz.prog (W.alloc (.cells #[.int .u64 0, .int .u64 0] 244)).drew = .ok (.agg #[.int .u64 x0, .int .u64 x1]) (W.alloc (.cells #[.int .u64 0, .int .u64 0] 244)).drew := by
       have := (hM.mm.keep (((Keep.refl Nb W).alloc (.cells #[.int .u64 0, .int .u64 0] 244)).drew) (fun e => e)).look (p := eid) (by unfold DN; omega)
       change _ = Result.ok (encM (mk es eid)) _ at this
       rw [HV.out.1] at this; unfold encM at this; rwa [HV.out.2.1, HV.out.2.2.1] at this
      have hlC : (Instr.lookup 240 (.map (some bm)) (.int .i64 eid) false).run Tryz.prog W.drew = .ok (.agg #[.int .u64 x0, .int .u64 x1]) W.drew := by
       have := (hM.mm.keep ((Keep.refl Nb W).drew) (fun e => e)).look (p := eid) (by unfold DN; omega)
       change _ = Result.ok (encM (mk es eid)) _ at this
       rw [HV.out.1] at this; unfold encM at this; rwa [HV.out.2.1, HV.out.2.2.1] at this
      have hR9 : Row (W.alloc (.cells #[.int .u64 0, .int .u64 0] 244)).drew W.heap.size 244 [.int .u64 0, .int .u64 0] := Row.new W #[.int .u64 0, .int .u64 0] 244
      have HR9 : Hid (Row (((W.alloc (.cells #[.int .u64 0, .int .u64 0] 244)).drew.setCell ⟨W.heap.size, 0, none⟩ (.int .u64 x0)).setCell ⟨W.heap.size, 1, none⟩ (.int .u64 x1)) W.heap.size 244 [.int .u64 x0, .int .u64 x1] ∧ Keep Nb W (((W.alloc (.cells #[.int .u64 0, .int .u64 0] 244)).drew.setCell ⟨W.heap.size, 0, none⟩ (.int .u64 x0)).setCell ⟨W.heap.size, 1, none⟩ (.int .u64 x1))) := Lib.hid
       ⟨(hR9.set (i := 0) (by simp) _).set (i := 1) (by simp) _, ((((Keep.refl Nb W).alloc _).drew).setCell (p := ⟨W.heap.size, 0, none⟩) (.inr (Nat.le_refl _)) _).setCell (p := ⟨W.heap.size, 1, none⟩) (.inr (Nat.le_refl _)) _⟩
      have hq6W := World.block_lt_of_cell? _ _ c6'
      have hcW := World.block_lt_of_cell? _ _ e0
      clear hR9
      have HMW := Lib.hid hM
      have HKW := Lib.hid (And.intro kW kWr)
      clear hS hrow hf hfid hu hy0 hy1 kWr kW hM c6
      go_wp2_with fail
      clear hW
      obtain ⟨q8, hq8⟩ : ∃ q8, wr.heap.size = q8 := ⟨_, rfl⟩
      rw [hq8] at f8 ⊢
      go_cut [9] (fun p wc => ∃ q9, p = .pointer (some ⟨q9, 0, none⟩) ∧ Hid (Row wc q9 244 [.int .u64 x0, .int .u64 x1] ∧ Keep Nb W wc))
      case first =>
       go_region
       all_goals
        go_wp2_with fail
        go_meet
        exact ⟨_, rfl, Lib.hid ⟨Row.new W #[.int .u64 x0, .int .u64 x1] 244, ((Keep.refl Nb W).alloc _).drew⟩⟩
      case rest =>
       obtain ⟨q9, rfl, HX⟩ := hcut
       obtain ⟨wK, rfl⟩ : ∃ wK : World, wK = wc := ⟨_, rfl⟩
       have g0 := HX.out.1.cell (i := 0) rfl
       have g1 := HX.out.1.cell (i := 1) rfl
       have g6 := HX.out.2.cell c6' (fun e => e)
       have g8 := HX.out.2.cell f8 (fun e => e)
       have ge := HX.out.2.cell e0 (fun e => e)
       have hMK := HMW.out.keep HX.out.2 (fun e => e) (fun e => e)
       have HKK : Hid (Keep (fun k => w2.heap.size ≤ k) w2 wK ∧ Keep Nb wr wK) := Lib.hid ⟨HKW.out.1.trans HX.out.2.of_nb, HKW.out.2.trans HX.out.2⟩
       have hlk : ∀ z, (Instr.lookup 240 (.map (some bm)) (.int .i64 fid) false).run Tryz.prog (wK.drewN z) = .ok (.agg #[.int .u64 y0, .int .u64 y1]) (wK.drewN z) := fun z => by
        have := (hMK.mm.keep ((Keep.refl Nb wK).drewN z) (fun e => e)).look (p := fid) (by unfold DN; omega)
        change _ = Result.ok (encM (mk es fid)) _ at this
        rw [HU.out.1] at this; unfold encM at this; rwa [HU.out.2.1, HU.out.2.2.1] at this
       have hneq : ∀ W, (binOp .neq 244 (.agg #[.int .u64 x0, .int .u64 x1]) (.agg #[.int .u64 0, .int .u64 0])).run Tryz.prog W = .ok (.bool (!(((x0 : Int) == 0) && ((x1 : Int) == 0)))) W := mask_neq x0 x1 0 0
       have hvz : (!(((x0 : Int) == 0) && ((x1 : Int) == 0))) = decide (v ≠ 0) := by
        obtain ⟨_, h2, h3, _⟩ := HV.out
        rw [Bool.eq_iff_iff]; simp only [Bool.not_eq_true', Bool.and_eq_false_iff, beq_eq_false_iff_ne, decide_eq_true_eq]; omega
       rw [hvz] at hneq
       have heq := mask_eql x0 x1 y0 y1
       have hvu : (((x0 : Int) == (y0 : Int)) && ((x1 : Int) == (y1 : Int))) = decide (v = u) := by
        obtain ⟨_, h2, h3, _⟩ := HV.out
        obtain ⟨_, h4, h5, _⟩ := HU.out
        rw [Bool.eq_iff_iff]; simp only [Bool.and_eq_true, beq_iff_eq, decide_eq_true_eq]; omega
       rw [hvu] at heq
       have HTO : Hid (alikeTo (mk es) eid ((es.drop (i + 1)).drop k) = (if v ≠ 0 ∧ v = u then [(eid, fid)] else []) ++ alikeTo (mk es) eid ((es.drop (i + 1)).drop (k + 1))) := Lib.hid (by
        rw [HD.out, alikeTo_cons, HU.out.2.2.2, HV.out.1, HU.out.1])
       clear hvz hvu hMK HMW HKW hlA hlC HR9 c6' f8 e0 hq8
       by_cases hz : v ≠ 0 ∧ v = u
       ·rw [decide_eq_true hz.1] at hneq
        rw [decide_eq_true hz.2] at heq
        have HN0 : Hid (out ++ [(eid, fid)] ++ (alikeTo (mk es) eid ((es.drop (i + 1)).drop (k + 1)) ++ alikes (mk es) (es.drop (i + 1))) = all) := Lib.hid (by
         have := HR.out.1.sum
         rw [HTO.out, if_pos hz] at this
         rw [← this]; simp)
        clear hz
        go_wp2_with fail
        go_quiet (fail)
        have hSQ := HR.out.1.row.keep (HKK.out.2.drewN nq) (fun _ _ e => e)
        obtain ⟨g3, c3, w3, r1, r2, r3, r4⟩ := run_appN (P := Tryz.prog) 140 140 191 und_pairs elem_pair (by rfl) (by omega) hSQ (pcells (eid, fid)) 1 (pcells_one _) rfl (by omega) (by omega) (by omega)
        have HN : Hid (PrRel w2 (fun k => w2.heap.size ≤ k ∧ k ≠ q6) (alikeTo (mk es) eid ((es.drop (i + 1)).drop (k + 1)) ++ alikes (mk es) (es.drop (i + 1))) (out ++ [(eid, fid)]) all wI w3 (some ⟨g3, 0, none⟩) c3 ∧ Keep (fun k => w2.heap.size ≤ k) w2 w3) := Lib.hid (by
         have z1 := HKK.out.2.size
         have z2 : (wK.drewN nq).heap.size = wK.heap.size := rfl
         have z3 := HR.out.2.size
         have k3 : Keep (fun k => w2.heap.size ≤ k ∧ k ≠ q6) wr w3 := (HKK.out.2.drewN nq).trans' r3 (fun _ _ e => e.elim) (fun x hx e => by obtain ⟨a, ha, rfl⟩ := e; exact hSQ.foot a ha)
         refine ⟨⟨HN0.out, ?_, HR.out.1.keep.trans k3⟩, HR.out.2.trans' k3 (fun _ _ e => e) (fun _ _ e => e.1)⟩
         rw [List.length_append, pcs_snoc]
         exact r2.mono (fun x hx => by
          rcases hx with hx | hx
          ·exact hx
          ·exact ⟨by omega, by omega⟩))
        have hz2 : (wK.drewN nq).heap.size = wK.heap.size := rfl
        rw [hz2] at r1
        have R1 := Lib.hid r1
        clear r1 r2 r3 r4 hSQ hz2 hlk hneq heq
        go_wp2_with (first | (at_builtin; refine wpList_app rfl _ _ _ rfl rfl rfl R1.out ?_))
        go_roundg (m - (k + 1))
        case measure => omega
        case rel => exact ⟨k + 1, out ++ [(eid, fid)], _, _, rfl, by rw [List.length_append]; rfl, by omega, Nat.le_refl _, HN⟩
       ·have HN0 : Hid (∀ z, PrRel w2 (fun k => w2.heap.size ≤ k ∧ k ≠ q6) (alikeTo (mk es) eid ((es.drop (i + 1)).drop (k + 1)) ++ alikes (mk es) (es.drop (i + 1))) out all wI (wK.drewN z) oo co ∧ Keep (fun k => w2.heap.size ≤ k) w2 (wK.drewN z)) := Lib.hid (fun z => by
         have := HR.out.1.sum
         rw [HTO.out, if_neg hz, List.nil_append] at this
         exact ⟨⟨this, HR.out.1.row.keep (HKK.out.2.drewN z) (fun _ _ e => e), HR.out.1.keep.trans (HKK.out.2.drewN z).of_nb⟩, HKK.out.1.drewN z⟩)
        by_cases hv0 : v = 0
        ·have hv0' : ¬ v ≠ 0 := fun h => h hv0
         rw [decide_eq_false hv0'] at hneq
         clear hz hv0 hv0' heq
         go_wp2_with fail
         go_quiet (fail)
         go_wp2_with fail
         go_roundg (m - (k + 1))
         case measure => omega
         case rel => exact ⟨k + 1, out, oo, co, rfl, rfl, by omega, Nat.le_refl _, Lib.hid (HN0.out _)⟩
        ·have hvu : ¬ v = u := fun h => hz ⟨hv0, h⟩
         rw [decide_eq_true hv0] at hneq
         rw [decide_eq_false hvu] at heq
         clear hz hv0 hvu
         go_wp2_with fail
         go_quiet (fail)
         go_wp2_with fail
         go_roundg (m - (k + 1))
         case measure => omega
         case rel => exact ⟨k + 1, out, oo, co, rfl, rfl, by omega, Nat.le_refl _, Lib.hid (HN0.out _)⟩
     ·obtain rfl : k = m := by omega
      have HN : Hid (PrRel w2 (fun k => w2.heap.size ≤ k) (alikes (mk es) (es.drop (i + 1))) out all w2 wr oo co) := Lib.hid (by
       have := HR.out.1.sum
       rw [List.drop_of_length_le (by rw [HM2.out.2]; exact Nat.le_refl _)] at this
       exact ⟨by simpa [alikeTo] using this, HR.out.1.row.mono (fun _ h => h.1), HR.out.2⟩)
      clear HR
      go_wp2_with fail
      go_roundg (es.length - (i + 1))
      case measure => omega
      case rel => exact ⟨i + 1, out, oo, co, rfl, rfl, by omega, Nat.le_refl _, HN⟩
  ·obtain rfl : i = es.length := by omega
   have HP : Hid (CPairsPost w es (.returned (.slice oo out.length co)) wr) := Lib.hid (by
    have h1 := HR.out.sum
    rw [List.drop_length, alikes, List.append_nil] at h1
    subst h1
    refine ⟨oo, co, by rw [HAL.out], ?_, HK2.out.trans' HR.out.keep (fun _ _ e => e) (fun k hk e => by show False; omega)⟩
    rw [HAL.out]
    exact HR.out.row.mono (fun k hk => by omega))
   clear HR
   go_wp2_with fail
   go_ret
   exact HP.out
end Go.Proofs.YtfglkgkihafcpaaGreatDoor
namespace Go.Proofs.YtfglkgkihafcpaaGreatDoor
open Go.RowKit Pl Go.Maps
theorem Mat.cat_ {F : Nat → Prop} {w : World} {T e : TypeId} {o : Option Addr} {n c : Nat} {rows : List Rw} {ll : List (List Nat)} (h : Mat F w T e o n c rows ll) {i : Nat} {l : List Nat} (hl : ll[i]? = some l) :
  ∃ (go : Nat) (r : Rw), o = some ⟨go, 0, none⟩ ∧ n ≤ c ∧ w.cell? ⟨go, i, none⟩ = some (.slice r.o r.n r.c) ∧ Sl F w e 1 r.o r.n r.c (ints l) := by
 have hi := (List.getElem?_eq_some_iff.1 hl).1
 obtain ⟨go, h1, h2, h3, h4⟩ := h.out.pos (by rw [h.n_eq]; omega)
 obtain ⟨r, hr⟩ : ∃ r, rows[i]? = some r := ⟨_, List.getElem?_eq_getElem (by rw [h.len]; exact hi)⟩
 exact ⟨go, r, h1, h3, h4.cell (i := i) (v := r.val) (by simp [hr]), h.row i r l hr hl⟩
theorem withoutE_eq2 (ed : List Nat) (es : List E) : withoutEs ed [] es = sans es ed := by
 unfold withoutEs sans keeps
 exact List.filter_congr fun e _ => by simp
theorem Mat.addRow {z : Nat} {w : World} {o : Option Addr} {n c : Nat} {rows : List Rw} {ll : List (List Nat)} (h : Mat (fun k => z ≤ k) w 63 3 o n c rows ll) (hz : z ≤ w.heap.size) (hn : n ≤ 100000) (l : List Nat) (hl : l.length ≤ 1000) :
  ∃ g c' w', (Builtin.append_ #[134, 134] 134 #[.slice o n c, .slice (some ⟨w.heap.size + 1, 0, none⟩) 1 1]).run Tryz.prog ((w.alloc (.cells (ints l).toArray 3)).alloc (.cells #[.slice (some ⟨w.heap.size, 0, none⟩) l.length l.length] 63)) = .ok (.slice (some ⟨g, 0, none⟩) (n + 1) c') w' ∧
   Mat (fun k => z ≤ k) w' 63 3 (some ⟨g, 0, none⟩) (n + 1) c' (rows ++ [⟨some ⟨w.heap.size, 0, none⟩, l.length, l.length⟩]) (ll ++ [l]) ∧ Keep (Bl o) w w' ∧ (o = some ⟨g, 0, none⟩ ∨ w.heap.size ≤ g) := by
 have hb : Sl (fun k => k = w.heap.size) (w.alloc (.cells (ints l).toArray 3)) 3 1 (some ⟨w.heap.size, 0, none⟩) l.length l.length (ints l) := Sl.built w 3 1 l.length (ints l) (by simp) (by simp only [maxLen]; omega)
 have hA := h.alloc (.cells (ints l).toArray 3)
 obtain ⟨g, c', w', r1, r2, r3, r4⟩ := run_app1 (P := Tryz.prog) 134 134 63 Tryz.underlying134 elem_ints rfl hA.out (.slice (some ⟨w.heap.size, 0, none⟩) l.length l.length) rfl (by omega) (by omega)
 rw [World.size_alloc] at r1 r2 r4
 have hol : ∀ a, o = some a → a.block < w.heap.size := fun a ha => h.out.lt ha
 have hk : Keep (Bl o) w w' := ((Keep.refl (Bl o) w).alloc _).trans r3
 have hrl : ∀ (i : Nat) r a, rows[i]? = some r → r.o = some a → a.block < w.heap.size := fun i r a h1 ha => h.rowLt h1 ha
 have hbl : ¬ Bl o w.heap.size := by rintro ⟨a, ha, hb⟩; have := hol a ha; omega
 have hlen := h.len
 refine ⟨g, c', w', r1, ⟨?_, by simp [hlen], fun i r l' h1 h2 => ?_, fun i r a h1 ha => ?_, fun i j r s a b hij h1 h2 ha hb' => ?_⟩, hk, r4.imp (fun e => e) (fun e => by omega)⟩
 ·rw [List.map_append]
  exact r2.mono (fun k hk => by
   rcases hk with hk | hk
   ·exact hk
   ·show z ≤ k; omega)
 ·by_cases hi : i < rows.length
  ·rw [List.getElem?_append_left hi] at h1
   rw [List.getElem?_append_left (by rw [← hlen]; exact hi)] at h2
   exact (h.row i r l' h1 h2).of_block fun a ha => hk.block _ (h.rowLt h1 ha) (h.ne i r a h1 ha)
  ·have hi' : i = rows.length := by
    have := (List.getElem?_eq_some_iff.1 h1).1
    simp at this; omega
   subst hi'
   simp at h1
   subst h1
   rw [hlen] at h2
   simp at h2
   subst h2
   exact (hb.mono (G := fun k => z ≤ k) (fun k hk => by show z ≤ k; omega)).of_block fun a ha => r3.block _ (by simp at ha; subst ha; simp) (by simp at ha; subst ha; exact hbl)
 ·rintro ⟨a', ha', hb'⟩
  cases ha'
  by_cases hi : i < rows.length
  ·rw [List.getElem?_append_left hi] at h1
   rcases r4 with r4 | r4
   ·exact h.ne i r a h1 ha ⟨_, r4, hb'⟩
   ·have := hrl i r a h1 ha
    have hb2 : g = a.block := hb'
    omega
  ·have hi' : i = rows.length := by
    have := (List.getElem?_eq_some_iff.1 h1).1
    simp at this; omega
   subst hi'
   simp at h1
   subst h1
   cases ha
   have hb2 : g = w.heap.size := hb'
   rcases r4 with r4 | r4
   ·have := hol _ r4; have h3 : g < w.heap.size := this; omega
   ·omega
 ·have last : ∀ {i : Nat} {r : Rw} {a : Addr}, ¬ i < rows.length → (rows ++ [(⟨some ⟨w.heap.size, 0, none⟩, l.length, l.length⟩ : Rw)])[i]? = some r → r.o = some a → i = rows.length ∧ a.block = w.heap.size := fun {i r a} hi h1 ha => by
   have hi' : i = rows.length := by
    have := (List.getElem?_eq_some_iff.1 h1).1
    simp at this; omega
   subst hi'
   simp at h1
   subst h1
   cases ha
   exact ⟨rfl, rfl⟩
  by_cases hi : i < rows.length
  ·by_cases hj : j < rows.length
   ·rw [List.getElem?_append_left hi] at h1
    rw [List.getElem?_append_left hj] at h2
    exact h.nn i j r s a b hij h1 h2 ha hb'
   ·rw [List.getElem?_append_left hi] at h1
    have h3 := hrl i r a h1 ha
    have h4 := (last hj h2 hb').2
    omega
  ·by_cases hj : j < rows.length
   ·rw [List.getElem?_append_left hj] at h2
    have h3 := hrl j s b h2 hb'
    have h4 := (last hi h1 ha).2
    omega
   ·have h3 := (last hi h1 ha).1
    have h4 := (last hj h2 hb').1
    omega
theorem Mat.first (w : World) : Mat (fun k => w.heap.size ≤ k) (w.alloc (.cells #[.slice none 0 0] 63)) 63 3 (some ⟨w.heap.size, 0, none⟩) 1 1 [⟨none, 0, 0⟩] [[]] := by
 have hb : Sl (fun k => k = w.heap.size) (w.alloc (.cells #[.slice none 0 0] 63)) 63 1 (some ⟨w.heap.size, 0, none⟩) 1 1 [.slice none 0 0] := Sl.built w 63 1 1 [.slice none 0 0] rfl (by simp only [maxLen]; omega)
 refine ⟨hb.mono (fun k hk => by show w.heap.size ≤ k; omega), rfl, fun i r l h1 h2 => ?_, fun i r a h1 ha => ?_, fun i j r s a b hij h1 h2 ha _ => ?_⟩
 ·cases i with
  | zero => simp at h1 h2; subst h1; subst h2; exact Sl.nil _ _ _ _
  | succ i => simp at h1
 ·cases i with
  | zero => simp at h1; subst h1; cases ha
  | succ i => simp at h1
 ·cases i with
  | zero => simp at h1; subst h1; cases ha
  | succ i => simp at h1
def TkRel (z : Nat) (K : Nat → Prop) (wB wr : World) (o : Option Addr) (c : Nat) (ll : List (List Nat)) : Prop :=
 ∃ rows, Mat (fun k => z ≤ k) wr 63 3 o ll.length c rows ll ∧ (∀ a, o = some a → K a.block) ∧ Keep K wB wr
theorem TkRel.alloc {z : Nat} {K : Nat → Prop} {wB wr : World} {o : Option Addr} {c : Nat} {ll : List (List Nat)} (h : TkRel z K wB wr o c ll) (ob : Obj) : TkRel z K wB (wr.alloc ob) o c ll := by
 obtain ⟨rows, h1, h2, h3⟩ := h
 exact ⟨rows, h1.alloc ob, h2, h3.alloc ob⟩
theorem TkRel.add {z : Nat} {K : Nat → Prop} {wB wr : World} {o : Option Addr} {c : Nat} {ll : List (List Nat)} (h : TkRel z K wB wr o c ll) (hz : z ≤ wr.heap.size) (hK : ∀ k, wr.heap.size ≤ k → K k) (hn : ll.length ≤ 100000) (l : List Nat) (hl : l.length ≤ 1000) :
  ∃ g c' w', (Builtin.append_ #[134, 134] 134 #[.slice o ll.length c, .slice (some ⟨wr.heap.size + 1, 0, none⟩) 1 1]).run Tryz.prog ((wr.alloc (.cells (ints l).toArray 3)).alloc (.cells #[.slice (some ⟨wr.heap.size, 0, none⟩) l.length l.length] 63)) = .ok (.slice (some ⟨g, 0, none⟩) (ll.length + 1) c') w' ∧
   TkRel z K wB w' (some ⟨g, 0, none⟩) c' (ll ++ [l]) := by
 obtain ⟨rows, h1, h2, h3⟩ := h
 obtain ⟨g, c', w', r1, r2, r3, r4⟩ := h1.addRow hz hn l hl
 refine ⟨g, c', w', r1, _, by rw [List.length_append]; exact r2, fun a ha => ?_, h3.trans' r3 (fun _ _ e => e) (fun k hk hb => ?_)⟩
 ·cases ha
  rcases r4 with r4 | r4
  ·exact h2 _ r4
  ·exact hK _ r4
 ·obtain ⟨a, ha, rfl⟩ := hb
  exact h2 a ha
theorem zero_bool (w : World) : (zeroValue 4).run Tryz.prog w = .ok (.bool false) w := by kernel_rfl
def AMap (wr : World) (mb : Nat) (A : Nat × Nat → Bool) : Prop := ∃ mB, MapAt encP DP wr mb mB ∧ ∀ p, (mget mB p).getD (.bool false) = .bool (A p)
theorem AMap.keep {G : Nat → Prop} {w w' : World} {mb : Nat} {A : Nat × Nat → Bool} (h : AMap w mb A) (k : Keep G w w') (hn : ¬ G mb) : AMap w' mb A := by
 obtain ⟨mB, h1, h2⟩ := h; exact ⟨mB, h1.keep k hn, h2⟩
theorem AMap.made (w : World) : AMap (w.alloc (.map #[] 0)) w.heap.size (fun _ => false) := ⟨[], MapAt.made encP DP w, fun p => rfl⟩
theorem AMap.look {wr : World} {mb : Nat} {A : Nat × Nat → Bool} (h : AMap wr mb A) {a b : Nat} (ha : DN a) (hb : DN b) :
  (Instr.lookup 249 (.map (some mb)) (.agg #[.int .i64 a, .int .i64 b]) false).run Tryz.prog wr = .ok (.bool (A (a, b))) wr := by
 obtain ⟨mB, h1, h2⟩ := h
 have hl := h1.look encP_enc Tryz.underlying249 (zero_bool wr) (a := (a, b)) ⟨ha, hb⟩ false
 rw [if_neg (by simp), h2] at hl
 exact hl
theorem AMap.store {wr : World} {mb : Nat} {A : Nat × Nat → Bool} (h : AMap wr mb A) {a b : Nat} (ha : DN a) (hb : DN b) :
  ∃ w', (Instr.mapUpdate 249 (.map (some mb)) (.agg #[.int .i64 a, .int .i64 b]) (.bool true)).run Tryz.prog wr = .ok () w' ∧ AMap w' mb (fun p => if p = (a, b) then true else A p) ∧ Keep (fun j => j = mb) wr w' := by
 obtain ⟨mB, h1, h2⟩ := h
 obtain ⟨w', q1, q2, q3⟩ := h1.store encP_enc Tryz.underlying249 (a := (a, b)) ⟨ha, hb⟩ (.bool true)
 refine ⟨w', q1, ⟨_, q2, fun p => ?_⟩, q3⟩
 rw [mget_mset]
 by_cases e : p = (a, b)
 ·simp [e]
 ·simp [e, h2]
def CThricePost (w : World) (n : Nat) (es : List E) (e : Ending) (w' : World) : Prop :=
 ∃ (L : Nat → Nat) (o : Option Addr) (m c : Nat) (rows : List Rw), Canon n L ∧ (∀ x y, x < n → y < n → (L x = L y ↔ Thr es x y)) ∧ e = .returned (.slice o m c) ∧ Mat (Iv w.heap.size w'.heap.size) w' 63 3 o m c rows (parts n L) ∧ Keep Nb w w'
set_option maxRecDepth 100000 in
set_option maxHeartbeats 4000000 in
theorem cthrice_any (F Fg : Nat → Prop) (w : World) (c gb n : Nat) (es : List E) (hC : Cov F w c gb es) (hG : Gr Fg w gb n es) (hn : n ≤ 40) (hl : es.length ≤ 120) (ho : EOk n es) :
  Calls Tryz.prog 144 #[.pointer (some ⟨c, 0, none⟩)] w (CThricePost w n es) := by
 have HCV := Lib.hid hC
 have HO := Lib.hid ho
 have HG := Lib.hid hG
 have hmm := @run_makeMap Tryz.prog
 obtain ⟨bm, hM, _⟩ := hC
 have c0 := hM.head.cell (i := 0) rfl
 have hcw := hM.head.lt
 clear hM hG ho
 go_enter Tryz.func144, Tryz.ntmps144
 go_wp2_with fail
 refine (nodes_any Fg w gb n es HG.out).mono ?_
 rintro e1 w0 ⟨rfl, rfl⟩
 go_wp2_with fail
 refine (new_any n hn _).mono ?_
 rintro e1 w1 ⟨s, rfl, hS1, hk1⟩
 have HS1 := Lib.hid (hS1.monoF (G := fun k => w0.heap.size ≤ k ∧ k < w1.heap.size) (fun _ e => e))
 have HK1 := Lib.hid hk1
 have hz1 := hk1.size
 clear hS1 hk1
 have HF1 := Lib.hid (Mat.first w1)
 obtain ⟨wA, hwA⟩ : ∃ wA, w1.alloc (.cells #[.slice none 0 0] 63) = wA := ⟨_, rfl⟩
 rw [hwA] at HF1
 have hkA : Hid (Keep Nb w1 wA ∧ wA.heap.size = w1.heap.size + 1) := Lib.hid (by rw [← hwA]; exact ⟨(Keep.refl Nb w1).alloc _, by simp⟩)
 have hzA : w1.heap.size < wA.heap.size := by have := hkA.out.2; omega
 go_wp2_with fail
 clear hwA
 refine (cbridges_any F Fg _ c gb n es (HCV.out.keep (HK1.out.trans hkA.out.1) (fun _ _ e => e)) (HG.out.keep (HK1.out.trans hkA.out.1) (fun _ _ e => e)) hl HO.out).mono ?_
 rintro e1 wB ⟨oB, cB, rfl, hSB, hkB⟩
 have HSB := Lib.hid hSB.tight
 have HKB := Lib.hid hkB
 have hzB := hkB.size
 have hlB := brE_len es
 clear hSB hkB
 go_wp2_with fail
 go_loopg [5, 33] (brE es).length (fun kx s5 s33 wr => ∃ (i : Nat) (o : Option Addr) (c : Nat), s33 = .int .i64 i ∧ s5 = .slice o (i + 1) c ∧ i ≤ (brE es).length ∧ (brE es).length - i ≤ kx ∧
  Hid (TkRel w1.heap.size (fun k => k = w1.heap.size ∨ wB.heap.size ≤ k) wB wr o c ([[]] ++ ((brE es).take i).map (fun id => [id]))))
 case atStart => exact ⟨0, _, _, rfl, rfl, Nat.zero_le _, by omega, Lib.hid ⟨_, HF1.out.keep HKB.out (fun _ _ e => e), fun a ha => .inl (by cases ha; rfl), Keep.refl _ _⟩⟩
 case round =>
  obtain ⟨i, o, c3, rfl, rfl, hi, hg, HR⟩ := hrel
  have hzr : wB.heap.size ≤ wr.heap.size := by obtain ⟨_, _, _, h⟩ := HR.out; exact h.size
  by_cases hlt : i < (brE es).length
  ·obtain ⟨id, hid⟩ : ∃ id, (brE es)[i]? = some id := ⟨_, List.getElem?_eq_getElem hlt⟩
   have hS : Sl (fun k => wA.heap.size ≤ k ∧ k < wB.heap.size) wr 3 1 oB (brE es).length cB (ints (brE es)) := by
    obtain ⟨_, _, _, h⟩ := HR.out
    exact HSB.out.keep h (fun k h1 h2 => by have := hkA.out.2; omega)
   obtain ⟨g, rfl, _, hnc, hrow⟩ := hS.pos (by omega)
   have d1 := hrow.cell (ints_get hid)
   have hll : ([[]] ++ ((brE es).take i).map (fun id => [id])).length = i + 1 := by simp; omega
   obtain ⟨g9, c9, w9, r1, r2⟩ := HR.out.add (by omega) (fun k hk => .inr (by omega)) (by rw [hll]; omega) [id] (by simp)
   rw [hll] at r1
   have HN : Hid (TkRel w1.heap.size (fun k => k = w1.heap.size ∨ wB.heap.size ≤ k) wB w9 (some ⟨g9, 0, none⟩) c9 ([[]] ++ ((brE es).take (i + 1)).map (fun id => [id]))) := Lib.hid (by
    rw [take_snoc' hid, List.map_append, ← List.append_assoc]; exact r2)
   have R1 : Hid ((Builtin.append_ #[134, 134] 134 #[.slice o (i + 1) c3, .slice (some ⟨wr.heap.size + 1, 0, none⟩) 1 1]).run Tryz.prog ((wr.alloc (.cells #[.int .i64 id] 3)).alloc (.cells #[.slice (some ⟨wr.heap.size, 0, none⟩) 1 1] 63)) = .ok (.slice (some ⟨g9, 0, none⟩) (i + 1 + 1) c9) w9) := Lib.hid r1
   clear hS hrow hid r1 r2 hll HR
   go_wp2_with (first | (at_builtin; refine wpList_app rfl _ _ _ rfl rfl rfl R1.out ?_))
   go_roundg ((brE es).length - (i + 1))
   case measure => omega
   case rel => exact ⟨i + 1, _, _, rfl, rfl, by omega, Nat.le_refl _, HN⟩
  ·obtain rfl : i = (brE es).length := by omega
   have HR1 : Hid (TkRel w1.heap.size (fun k => k = w1.heap.size ∨ wB.heap.size ≤ k) wB wr o c3 ([[]] ++ (brE es).map (fun id => [id]))) := Lib.hid (by
    have := HR.out; rwa [List.take_length] at this)
   have hk1C : Hid (Keep Nb w1 wr) := Lib.hid (by
    obtain ⟨_, _, _, h⟩ := HR.out
    exact (hkA.out.1.trans HKB.out).trans' h (fun _ _ e => e) (fun k hk e => by have e' : k = w1.heap.size ∨ wB.heap.size ≤ k := e; have := hkA.out.2; show False; omega))
   have hkC : Hid (Keep Nb w0 wr) := Lib.hid (by
    obtain ⟨_, _, _, h⟩ := HR.out
    exact ((HK1.out.trans hkA.out.1).trans HKB.out).trans' h (fun _ _ e => e) (fun k hk e => by have e' : k = w1.heap.size ∨ wB.heap.size ≤ k := e; have := hkA.out.2; show False; omega))
   obtain ⟨wC, rfl⟩ : ∃ wC : World, wC = wr := ⟨_, rfl⟩
   clear HR HF1
   go_wp2_with fail
   refine (cpairs_any F Fg _ c gb n es (HCV.out.keep hkC.out (fun _ _ e => e)) (HG.out.keep hkC.out (fun _ _ e => e)) hl HO.out).mono ?_
   rintro e1 wD ⟨oD, cD, rfl, hSD, hkD⟩
   have HSD := Lib.hid hSD.tight
   have HKD := Lib.hid hkD
   have hzD := hkD.size
   have hlD : (alikes (mk es) es).length ≤ 120 * 120 := Nat.le_trans (alikes_len _ _) (Nat.mul_le_mul hl hl)
   clear hSD hkD
   go_wp2_with fail
   obtain ⟨ps, hps⟩ : ∃ ps, alikes (mk es) es = ps := ⟨_, rfl⟩
   rw [hps] at HSD hlD ⊢
   have HPS := Lib.hid hps
   clear hps
   have HR2 : Hid (TkRel w1.heap.size (fun k => (w1.heap.size ≤ k ∧ k < wC.heap.size) ∨ wD.heap.size ≤ k) wD wD o c3 (([[]] ++ (brE es).map (fun id => [id])) ++ (ps.take 0).map (fun p => [p.1, p.2]))) := Lib.hid (by
    obtain ⟨rows, h1, h2, h3⟩ := HR1.out
    rw [List.take_zero, List.map_nil, List.append_nil]
    refine ⟨rows, h1.keep HKD.out (fun _ _ e => e), fun a ha => .inl ⟨?_, h1.out.lt ha⟩, Keep.refl _ _⟩
    exact h1.out.foot a ha)
   have hl0 : (([[]] ++ (brE es).map (fun id => [id])) : List (List Nat)).length = (brE es).length + 1 := by simp
   have HK0D : Hid (Keep Nb w0 wD) := Lib.hid (hkC.out.trans HKD.out)
   obtain ⟨nb, hnb⟩ : ∃ nb, (brE es).length = nb := ⟨_, rfl⟩
   rw [hnb] at hlB hl0 ⊢
   have HL0 := Lib.hid hl0
   have hnb120 : nb ≤ 120 := by omega
   clear hl0 hlB hnb HR1 HSB HKB hi hg hlt
   go_loopg [5, 46] ps.length (fun kx s5 s46 wr => ∃ (i : Nat) (o : Option Addr) (c : Nat), s46 = .int .i64 i ∧ s5 = .slice o (nb + 1 + i) c ∧ i ≤ ps.length ∧ ps.length - i ≤ kx ∧
    Hid (TkRel w1.heap.size (fun k => (w1.heap.size ≤ k ∧ k < wC.heap.size) ∨ wD.heap.size ≤ k) wD wr o c (([[]] ++ (brE es).map (fun id => [id])) ++ (ps.take i).map (fun p => [p.1, p.2]))))
   case atStart => exact ⟨0, o, c3, rfl, rfl, Nat.zero_le _, by omega, HR2⟩
   case round =>
    clear HR2
    obtain ⟨i, o, c3, rfl, rfl, hi, hg, HR⟩ := hrel
    have hzr : wD.heap.size ≤ wr.heap.size := by obtain ⟨_, _, _, h⟩ := HR.out; exact h.size
    by_cases hlt : i < ps.length
    ·obtain ⟨p, hp⟩ : ∃ p, ps[i]? = some p := ⟨_, List.getElem?_eq_getElem hlt⟩
     obtain ⟨x, y⟩ := p
     have hS : Sl (fun k => wC.heap.size ≤ k ∧ k < wD.heap.size) wr 191 2 oD ps.length cD (pcs ps) := by
      obtain ⟨_, _, _, h⟩ := HR.out
      exact HSD.out.keep h (fun k h1 h2 => by omega)
     obtain ⟨g, rfl, _, hnc, _⟩ := hS.pos (by omega)
     obtain ⟨d1, d2⟩ := hS.pairs hp
     have hll : ((([[]] ++ (brE es).map (fun id => [id])) : List (List Nat)) ++ (ps.take i).map (fun p => [p.1, p.2])).length = nb + 1 + i := by rw [List.length_append, HL0.out]; simp; omega
     have hal := HR.out.alloc (.cells #[.int .i64 x, .int .i64 y] 191)
     obtain ⟨g9, c9, w9, r1, r2⟩ := hal.add (by simp; omega) (fun k hk => .inr (by simp at hk; omega)) (by rw [hll]; omega) [x, y] (by simp)
     rw [hll] at r1
     rw [World.size_alloc] at r1
     have HN : Hid (TkRel w1.heap.size (fun k => (w1.heap.size ≤ k ∧ k < wC.heap.size) ∨ wD.heap.size ≤ k) wD w9 (some ⟨g9, 0, none⟩) c9 (([[]] ++ (brE es).map (fun id => [id])) ++ (ps.take (i + 1)).map (fun p => [p.1, p.2]))) := Lib.hid (by
      rw [take_snoc' hp, List.map_append, ← List.append_assoc]; exact r2)
     have R1 : Hid ((Builtin.append_ #[134, 134] 134 #[.slice o (nb + 1 + i) c3, .slice (some ⟨wr.heap.size + 1 + 1, 0, none⟩) 1 1]).run Tryz.prog (((wr.alloc (.cells #[.int .i64 x, .int .i64 y] 191)).alloc (.cells #[.int .i64 x, .int .i64 y] 3)).alloc (.cells #[.slice (some ⟨wr.heap.size + 1, 0, none⟩) 2 2] 63)) = .ok (.slice (some ⟨g9, 0, none⟩) (nb + 1 + i + 1) c9) w9) := Lib.hid r1
     clear hS hp r1 r2 hll hal HR
     go_wp2_with (first | (at_builtin; refine wpList_app rfl _ _ _ rfl rfl rfl R1.out ?_))
     go_roundg (ps.length - (i + 1))
     case measure => omega
     case rel => exact ⟨i + 1, _, _, rfl, rfl, by omega, Nat.le_refl _, HN⟩
    ·obtain rfl : i = ps.length := by omega
     have HTK : Hid (([[]] ++ (brE es).map (fun id => [id])) ++ (ps.take ps.length).map (fun p => [p.1, p.2]) = took es) := Lib.hid (by
      rw [List.take_length, ← HPS.out]; rfl)
     have hltk : (took es).length = nb + 1 + ps.length := by rw [← HTK.out, List.length_append, HL0.out]; simp
     have HR3 : Hid (TkRel w1.heap.size (fun k => (w1.heap.size ≤ k ∧ k < wC.heap.size) ∨ wD.heap.size ≤ k) wD wr o c3 (took es)) := Lib.hid (by
      have := HR.out; rwa [HTK.out] at this)
     have HKE : Hid (Keep Nb w0 wr ∧ w1.heap.size ≤ wr.heap.size) := Lib.hid (by
      obtain ⟨_, _, _, h⟩ := HR.out
      exact ⟨HK0D.out.trans' h (fun _ _ e => e) (fun k hk e => by have e' : (w1.heap.size ≤ k ∧ k < wC.heap.size) ∨ wD.heap.size ≤ k := e; show False; omega), by omega⟩)
     have HSs : Hid (Sets (fun k => w0.heap.size ≤ k ∧ k < w1.heap.size) wr s n (fun x => x)) := Lib.hid (by
      obtain ⟨_, _, _, h⟩ := HR.out
      have kk : Keep Nb w1 wD := hk1C.out.trans HKD.out
      exact (HS1.out.keepG kk (fun _ _ e => e)).keepG h (fun k h1 h2 => by have e' : (w1.heap.size ≤ k ∧ k < wC.heap.size) ∨ wD.heap.size ≤ k := h2; omega))
     rw [← hltk]
     clear HR HTK HL0 hltk HSD HPS
     obtain ⟨wE, rfl⟩ : ∃ wE : World, wE = wr := ⟨_, rfl⟩
     obtain ⟨wF, hwF⟩ : ∃ wF, wE.alloc (.map #[] 0) = wF := ⟨_, rfl⟩
     have HF : Hid (AMap wF wE.heap.size (fun _ => false) ∧ Keep Nb wE wF ∧ wF.heap.size = wE.heap.size + 1) := Lib.hid (by rw [← hwF]; exact ⟨AMap.made wE, (Keep.refl Nb wE).alloc _, by simp⟩)
     have hzF : wE.heap.size < wF.heap.size := by have := HF.out.2.2; omega
     obtain ⟨tk, htk⟩ : ∃ tk, took es = tk := ⟨_, rfl⟩
     rw [htk] at HR3 ⊢
     have hten : ∀ l, l ∈ tk → l.length ≤ 2 := fun l hl => by
      rw [← htk] at hl
      simp only [took, List.mem_append, List.mem_map, List.mem_singleton] at hl
      rcases hl with (rfl | ⟨id, _, rfl⟩) | ⟨p, _, rfl⟩ <;> simp
     have HTEN := Lib.hid hten
     have HTKE := Lib.hid htk
     clear htk hten
     have htkl : tk.length ≤ 14600 := by
      rw [← HTKE.out]
      simp only [took, List.length_append, List.length_map, List.length_singleton]
      have h1 := brE_len es
      have h2 := alikes_len (mk es) es
      have h3 : es.length * es.length ≤ 120 * 120 := Nat.mul_le_mul hl hl
      omega
     go_wp2_with fail
     clear hwF
     obtain ⟨mb, hmb⟩ : ∃ mb, wE.heap.size = mb := ⟨_, rfl⟩
     rw [hmb] at HF ⊢
     have HT3 : Hid (∃ rows, Mat (fun k => w1.heap.size ≤ k ∧ k < mb) wF 63 3 o tk.length c3 rows tk) := Lib.hid (by
      obtain ⟨rows, h1, _⟩ := HR3.out
      exact ⟨rows, (h1.tight.mono (fun k hk => ⟨hk.1, by omega⟩)).keep HF.out.2.1 (fun _ _ e => e)⟩)
     have HKF : Hid (Keep Nb w0 wF) := Lib.hid (HKE.out.1.trans HF.out.2.1)
     have HSF : Hid (Sets (fun k => w0.heap.size ≤ k ∧ k < w1.heap.size) wF s n (fun x => x)) := Lib.hid (HSs.out.keepG HF.out.2.1 (fun _ _ e => e))
     have hmbz : w1.heap.size ≤ mb ∧ mb < wF.heap.size := ⟨by have := HKE.out.2; omega, by omega⟩
     clear HR3 HKE HSs
     go_loopg [62] tk.length (fun kx s62 wr => ∃ (t : Nat), s62 = .int .i64 t ∧ t ≤ tk.length ∧ tk.length - t ≤ kx ∧ Hid (∃ A, AMap wr mb A ∧ ApI n es tk A t 0 0 ∧ Keep (fun k => k = mb) wF wr))
     case atStart => exact ⟨0, rfl, Nat.zero_le _, by omega, Lib.hid ⟨_, HF.out.1, ApI.start n es tk, Keep.refl _ _⟩⟩
     case round =>
      obtain ⟨t, rfl, ht, hgt, HR⟩ := hrel
      by_cases htl : t < tk.length
      ·as_aux_lemma =>
       obtain ⟨l, hl'⟩ : ∃ l, tk[t]? = some l := ⟨_, List.getElem?_eq_getElem htl⟩
       have hl2 := HTEN.out l (List.mem_of_getElem? hl')
       have HLT := Lib.hid hl'
       have hkr : Keep (fun k => k = mb) wF wr := by obtain ⟨_, _, _, h⟩ := HR.out; exact h
       have hzr2 := hkr.size
       obtain ⟨rows, hMt⟩ := HT3.out
       have hMt2 := hMt.keep hkr (fun k h1 h2 => by omega)
       obtain ⟨go, r, rfl, hnc, d1, hrow⟩ := hMt2.cat_ hl'
       have hrn : r.n = l.length := by have := hrow.len; simpa using this.symm
       rw [hrn] at hrow
       have HROW := Lib.hid hrow
       have HGr : Hid (Gr Fg wr gb n es) := Lib.hid ((HG.out.tight).keep (HKF.out.trans' hkr (H := fun k => k = mb) (fun _ _ e => e.elim) (fun _ _ e => e)) (fun k h1 h2 => by have := h1.2; omega) |>.mono (fun _ h => h.1))
       have HCr : Hid (wr.cell? ⟨c, 0, none⟩ = some (.pointer (some ⟨gb, 0, none⟩))) := Lib.hid ((HKF.out.trans' hkr (H := fun k => k = mb) (fun _ _ e => e.elim) (fun _ _ e => e)).cell c0 (fun h => by have h' : c = mb := h; omega))
       rw [hrn] at d1
       obtain ⟨ro, hro⟩ : ∃ ro, r.o = ro := ⟨_, rfl⟩
       obtain ⟨rc, hrc⟩ : ∃ rc, r.c = rc := ⟨_, rfl⟩
       rw [hro, hrc] at d1 HROW
       have c0r := HCr.out
       clear hl' hkr hMt hMt2 hrow hrn hro hrc
       go_wp2_with fail
       refine (without_any Fg _ Nb wr gb n es ro none rc 0 l [] HGr.out (by omega) HROW.out (Sl.nil _ _ _ _) (by omega) (by simp)).mono ?_
       rintro e1 w3 ⟨rfl, hg3, hk3⟩
       rw [withoutE_eq2] at hg3
       have HG3 := Lib.hid hg3
       have HK3 := Lib.hid hk3
       have hsl : (sans es l).length ≤ 120 := Nat.le_trans (List.length_filter_le _ _) hl
       clear hg3 hk3
       go_wp2_with fail
       refine (cparts_any _ w3 wr.heap.size n (sans es l) HG3.out hn (by omega) (fun e he => HO.out.over e (mem_sansL.1 he).1)).mono ?_
       rintro e1 w4 ⟨s2, rfl, hS4, hk4⟩
       have HS4 := Lib.hid hS4
       have HK4 := Lib.hid hk4
       have hz3 := HK3.out.size
       have hz4 := hk4.size
       have c0q := (HK3.out.trans hk4).cell HCr.out (fun e => e)
       have HG4 : Hid (Gr Fg w4 gb n es) := Lib.hid (HGr.out.keep (HK3.out.trans hk4) (fun _ _ e => e))
       clear hS4 hk4 c0r
       go_wp2_with fail
       refine (nodes_any Fg w4 gb n es HG4.out).mono ?_
       rintro e1 w4 ⟨rfl, rfl⟩
       go_wp2_with fail
       go_loopg [78] n (fun ky s78 wr2 => ∃ (b : Nat), s78 = .int .i64 b ∧ b ≤ n ∧ n - b ≤ ky ∧ Hid (∃ A, AMap wr2 mb A ∧ ApI n es tk A t b 0 ∧ Sets (fun k => w3.heap.size ≤ k ∧ k < w4.heap.size) wr2 s2 n (labs (ends (sans es l))) ∧ Keep (fun k => k = mb ∨ (w3.heap.size ≤ k ∧ k < w4.heap.size)) w4 wr2))
       case atStart =>
        refine ⟨0, rfl, Nat.zero_le _, by omega, Lib.hid ?_⟩
        obtain ⟨A, h1, h2, h3⟩ := HR.out
        exact ⟨A, h1.keep (HK3.out.trans HK4.out) (fun e => e), h2, HS4.out, Keep.refl _ _⟩
       case round =>
        obtain ⟨b, rfl, hb, hgb, HR2⟩ := hrel
        by_cases hbn : b < n
        ·go_wp2_with fail
         go_loopg [82] b (fun kz s82 wr3 => ∃ (a : Nat), s82 = .int .i64 a ∧ a ≤ b ∧ b - a ≤ kz ∧ Hid (∃ A, AMap wr3 mb A ∧ ApI n es tk A t b a ∧ Sets (fun k => w3.heap.size ≤ k ∧ k < w4.heap.size) wr3 s2 n (labs (ends (sans es l))) ∧ Keep (fun k => k = mb ∨ (w3.heap.size ≤ k ∧ k < w4.heap.size)) w4 wr3))
         case atStart => exact ⟨0, rfl, Nat.zero_le _, by omega, HR2⟩
         case round =>
          clear HR2
          obtain ⟨a, rfl, ha, hga, HR3⟩ := hrel
          by_cases hab : a < b
          ·obtain ⟨A, hA1, hA2, hA3, hA4⟩ := HR3.out
           have HA1 := Lib.hid hA1
           have HA2 := Lib.hid hA2
           have HA4 := Lib.hid hA4
           have hz5 := hA4.size
           go_wp2_with fail
           refine (same_any _ _ s2 n _ a b (by omega) hbn hA3).mono ?_
           rintro e1 w6 ⟨rfl, hs6, hk6⟩
           have hmbn : ¬ (w3.heap.size ≤ mb ∧ mb < w4.heap.size) := by omega
           have HS6 := Lib.hid hs6
           have HK6 := Lib.hid (HA4.out.trans' hk6 (H := fun k => k = mb ∨ (w3.heap.size ≤ k ∧ k < w4.heap.size)) (fun _ _ e => e) (fun _ _ e => .inr e))
           have HA6 := Lib.hid (HA1.out.keep hk6 (fun h => hmbn h))
           clear hA1 hA2 hA3 hA4 hs6 hk6 HR3 HA1 HA4
           by_cases hc : labs (ends (sans es l)) a = labs (ends (sans es l)) b
           ·rw [decide_eq_true hc]
            have HN : Hid (∃ A, AMap w6 mb A ∧ ApI n es tk A t b (a + 1) ∧ Sets (fun k => w3.heap.size ≤ k ∧ k < w4.heap.size) w6 s2 n (labs (ends (sans es l))) ∧ Keep (fun k => k = mb ∨ (w3.heap.size ≤ k ∧ k < w4.heap.size)) w4 w6) := Lib.hid ⟨A, HA6.out, HA2.out.skip HLT.out hc, HS6.out, HK6.out⟩
            clear hc
            go_wp2_with fail
            go_roundg (b - (a + 1))
            case measure => omega
            case rel => exact ⟨a + 1, rfl, by omega, Nat.le_refl _, HN⟩
           ·rw [decide_eq_false hc]
            obtain ⟨w7, q1, q2, q3⟩ := HA6.out.store (a := a) (b := b) (by unfold DN; omega) (by unfold DN; omega)
            have HN : Hid (∃ A, AMap w7 mb A ∧ ApI n es tk A t b (a + 1) ∧ Sets (fun k => w3.heap.size ≤ k ∧ k < w4.heap.size) w7 s2 n (labs (ends (sans es l))) ∧ Keep (fun k => k = mb ∨ (w3.heap.size ≤ k ∧ k < w4.heap.size)) w4 w7) := Lib.hid ⟨_, q2, HA2.out.store HLT.out hc hab hbn, HS6.out.keepG q3 (fun k h1 h2 => hmbn (by rw [← h2]; exact h1)), HK6.out.trans' q3 (fun _ _ e => e) (fun _ _ e => .inl e)⟩
            have R1 := Lib.hid q1
            clear hc q1 q2 q3
            go_wp2_with (first | (at_mapUpdate; refine wpList_mapset rfl _ _ _ _ rfl rfl rfl rfl R1.out ?_))
            go_roundg (b - (a + 1))
            case measure => omega
            case rel => exact ⟨a + 1, rfl, by omega, Nat.le_refl _, HN⟩
          ·obtain rfl : a = b := by omega
           have HN : Hid (∃ A, AMap wr mb A ∧ ApI n es tk A t (a + 1) 0 ∧ Sets (fun k => w3.heap.size ≤ k ∧ k < w4.heap.size) wr s2 n (labs (ends (sans es l))) ∧ Keep (fun k => k = mb ∨ (w3.heap.size ≤ k ∧ k < w4.heap.size)) w4 wr) := Lib.hid (by
            obtain ⟨A, h1, h2, h3, h4⟩ := HR3.out
            exact ⟨A, h1, h2.row, h3, h4⟩)
           clear HR3
           go_wp2_with fail
           go_roundg (n - (a + 1))
           case measure => omega
           case rel => exact ⟨a + 1, rfl, by omega, Nat.le_refl _, HN⟩
        ·obtain rfl : b = n := by omega
         have HN : Hid (∃ A, AMap wr mb A ∧ ApI b es tk A (t + 1) 0 0 ∧ Keep (fun k => k = mb) wF wr) := Lib.hid (by
          obtain ⟨A, h1, h2, h3, h4⟩ := HR2.out
          obtain ⟨_, _, _, h5⟩ := HR.out
          have k5 := (h5.trans' (HK3.out.trans HK4.out) (H := fun k => k = mb) (fun _ _ e => e) (fun _ _ e => e.elim))
          exact ⟨A, h1, h2.list HLT.out, k5.trans' h4 (fun _ _ e => e) (fun k hk e => by
           have e' : k = mb ∨ (w3.heap.size ≤ k ∧ k < w4.heap.size) := e
           show k = mb; omega)⟩)
         clear HR2
         go_wp2_with fail
         go_roundg (tk.length - (t + 1))
         case measure => omega
         case rel => exact ⟨t + 1, rfl, by omega, Nat.le_refl _, HN⟩
      ·obtain rfl : t = tk.length := by omega
       obtain ⟨A, hA1, hA2, hA3⟩ := HR.out
       have HA1 := Lib.hid hA1
       have HA2 : Hid (∀ a b, a < b → b < n → (A (a, b) = false ↔ Thr es a b)) := Lib.hid (fun a b h1 h2 => by
        have h3 := hA2
        rw [← HTKE.out] at h3
        exact h3.done h1 h2)
       have k5 : Keep (fun k => k = mb) w0 wr := HKF.out.trans' hA3 (fun _ _ e => e.elim) (fun _ _ e => e)
       have HKW : Hid (Keep Nb w0 wr) := Lib.hid (HKF.out.trans' hA3 (fun _ _ e => e) (fun k hk e => by have e' : k = mb := e; show False; omega))
       have HGr : Hid (Gr Fg wr gb n es) := Lib.hid (HG.out.keep HKW.out (fun _ _ e => e))
       have HSr : Hid (Sets (fun k => w0.heap.size ≤ k ∧ k < w1.heap.size) wr s n (fun x => x)) := Lib.hid (HSF.out.keepG hA3 (fun k h1 h2 => by have e' : k = mb := h2; omega))
       have hzr2 := hA3.size
       have c0r := HKW.out.cell c0 (fun e => e)
       have C0 := Lib.hid c0r
       clear HR hA1 hA2 hA3 k5 HTKE HT3 htkl ht hgt htl
       obtain ⟨wG, rfl⟩ : ∃ wG : World, wG = wr := ⟨_, rfl⟩
       go_wp2_with fail
       refine (nodes_any Fg wG gb n es HGr.out).mono ?_
       rintro e1 wG ⟨rfl, rfl⟩
       clear c0r
       go_wp2_with fail
       go_loopg [106] n (fun ky s106 wr2 => ∃ (b : Nat), s106 = .int .i64 b ∧ b ≤ n ∧ n - b ≤ ky ∧ Hid (∃ js, JnI n es js b 0 ∧ Sets (fun k => w0.heap.size ≤ k ∧ k < w1.heap.size) wr2 s n (labs js) ∧ Keep (fun k => w0.heap.size ≤ k ∧ k < w1.heap.size) wG wr2))
       case atStart => exact ⟨0, rfl, Nat.zero_le _, by omega, Lib.hid ⟨[], JnI.start n es, HSr.out, Keep.refl _ _⟩⟩
       case round =>
        obtain ⟨b, rfl, hb, hgb, HR2⟩ := hrel
        by_cases hbn : b < n
        ·go_wp2_with fail
         go_loopg [110] b (fun kz s110 wr3 => ∃ (a : Nat), s110 = .int .i64 a ∧ a ≤ b ∧ b - a ≤ kz ∧ Hid (∃ js, JnI n es js b a ∧ Sets (fun k => w0.heap.size ≤ k ∧ k < w1.heap.size) wr3 s n (labs js) ∧ Keep (fun k => w0.heap.size ≤ k ∧ k < w1.heap.size) wG wr3))
         case atStart => exact ⟨0, rfl, Nat.zero_le _, by omega, HR2⟩
         case round =>
          clear HR2
          obtain ⟨a, rfl, ha, hga, HR3⟩ := hrel
          by_cases hab : a < b
          ·obtain ⟨js, hj1, hj2, hj3⟩ := HR3.out
           have hlook := (HA1.out.keep hj3 (fun h => by have := h.2; omega)).look (a := a) (b := b) (by unfold DN; omega) (by unfold DN; omega)
           have HJ1 := Lib.hid hj1
           have HJ2 := Lib.hid hj2
           have HJ3 := Lib.hid hj3
           clear hj1 hj2 hj3 HR3
           by_cases hA : A (a, b) = false
           ·rw [hA] at hlook
            have hT := (HA2.out a b hab hbn).1 hA
            have HT := Lib.hid hT
            clear hA hT
            go_wp2_with fail
            refine (join_any _ _ s n _ a b (by omega) hbn HJ2.out).mono ?_
            rintro e1 w6 ⟨rfl, hs6, hk6⟩
            have HN : Hid (∃ js, JnI n es js b (a + 1) ∧ Sets (fun k => w0.heap.size ≤ k ∧ k < w1.heap.size) w6 s n (labs js) ∧ Keep (fun k => w0.heap.size ≤ k ∧ k < w1.heap.size) wG w6) := Lib.hid ⟨js ++ [(a, b)], HJ1.out.join HT.out (by omega) hbn, by rw [labs_snoc]; exact hs6, HJ3.out.trans hk6⟩
            obtain ⟨r, hr⟩ : ∃ r, decide (labs js a ≠ labs js b) = r := ⟨_, rfl⟩
            rw [hr]
            clear hs6 hk6 hr
            go_wp2_with fail
            go_roundg (b - (a + 1))
            case measure => omega
            case rel => exact ⟨a + 1, rfl, by omega, Nat.le_refl _, HN⟩
           ·have hA' : A (a, b) = true := by simpa using hA
            rw [hA'] at hlook
            have HN : Hid (∃ js, JnI n es js b (a + 1) ∧ Sets (fun k => w0.heap.size ≤ k ∧ k < w1.heap.size) wr s n (labs js) ∧ Keep (fun k => w0.heap.size ≤ k ∧ k < w1.heap.size) wG wr) := Lib.hid ⟨js, HJ1.out.skip (fun h => hA ((HA2.out a b hab hbn).2 h)), HJ2.out, HJ3.out⟩
            clear hA hA'
            go_wp2_with fail
            go_roundg (b - (a + 1))
            case measure => omega
            case rel => exact ⟨a + 1, rfl, by omega, Nat.le_refl _, HN⟩
          ·obtain rfl : a = b := by omega
           have HN : Hid (∃ js, JnI n es js (a + 1) 0 ∧ Sets (fun k => w0.heap.size ≤ k ∧ k < w1.heap.size) wr s n (labs js) ∧ Keep (fun k => w0.heap.size ≤ k ∧ k < w1.heap.size) wG wr) := Lib.hid (by
            obtain ⟨js, h1, h2⟩ := HR3.out
            exact ⟨js, h1.row, h2⟩)
           clear HR3
           go_wp2_with fail
           go_roundg (n - (a + 1))
           case measure => omega
           case rel => exact ⟨a + 1, rfl, by omega, Nat.le_refl _, HN⟩
        ·obtain rfl : b = n := by omega
         obtain ⟨js, hj1, hj2, hj3⟩ := HR2.out
         have HJ1 := Lib.hid hj1
         have HJ2 := Lib.hid hj2
         have HJ3 := Lib.hid hj3
         clear hj1 hj2 hj3 HR2
         go_wp2_with fail
         refine (all_any _ _ s b _ HJ2.out).mono ?_
         rintro e1 w7 ⟨o7, m7, c7, rows7, rfl, hM7, hs7, hk7⟩
         have HP : Hid (CThricePost w0 b es (.returned (.slice o7 m7 c7)) w7) := Lib.hid (by
          have z1 := HKW.out.size
          have z2 := HJ3.out.size
          refine ⟨labs js, o7, m7, c7, rows7, labs_canon js b, fun x y hx hy => HJ1.out.done hx hy, rfl, hM7.mono (fun k hk => ⟨by have := hk.1; omega, hk.2⟩), ?_⟩
          exact HKW.out.trans' (HJ3.out.trans hk7) (fun _ _ e => e) (fun k hk e => by have := e.1; show False; omega))
         clear hM7 hs7 hk7
         go_wp2_with fail
         go_ret
         exact HP.out
end Go.Proofs.YtfglkgkihafcpaaGreatDoor

