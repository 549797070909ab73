/- isthmusref: Pairs. -/
import Derived.Test.YtkpoobnldgfapabGreatDoorRCnt
import Derived.Test.YtkpoobnldgfapabGreatDoorRBr
import Derived.Test.YtkpoobnldgfapabGreatDoorC2
import Derived.Test.YtkpoobnldgfapabGreatDoorRTake
set_option linter.unusedVariables false
set_option linter.unusedSimpArgs false
namespace Go.Proofs.YtkpoobnldgfapabGreatDoor
open Go.RowKit Pl

set_option maxRecDepth 100000 in
set_option maxHeartbeats 2000000 in
theorem rpairs_any (F : Nat → Prop) (w : World) (g n : Nat) (es fs : List E) (hG : RGr F w g n fs) (hn : n ≤ 40) (hl : fs.length ≤ 120) (hs : Sorted es) (hp : es.Perm fs) (ho : Over n fs) :
    Calls Tryz.prog 20 #[.pointer (some ⟨g, 0, none⟩)] w (CPairsPost w es) := by
  have HG := Lib.hid hG
  have HS := Lib.hid hs
  have HP := Lib.hid hp
  have HO := Lib.hid ho
  have hle : es.length ≤ 120 := by rw [hp.length_eq]; exact hl
  have hcz : cntP n fs = cntP n es := cntP_mem n (fun e => hp.mem_iff.symm)
  obtain ⟨kn, hkn⟩ : ∃ kn, cntP n es = kn := ⟨_, rfl⟩
  have hk40 : kn ≤ 40 := by rw [← hkn]; exact Nat.le_trans (cnt_le _ _) hn
  have HKN : Hid (cntP n fs = kn ∧ cntP n es = kn) := Lib.hid ⟨by rw [hcz, hkn], hkn⟩
  have hall : (alikes (mk es) es).length ≤ 120 * 120 := Nat.le_trans (alikes_len _ _) (Nat.mul_le_mul hle hle)
  obtain ⟨all, hal⟩ : ∃ all, alikes (mk es) es = all := ⟨_, rfl⟩
  rw [hal] at hall
  have HAL := Lib.hid hal
  obtain ⟨B, hB⟩ : ∃ B, w.heap.size = B := ⟨_, rfl⟩
  obtain ⟨wb, hwb⟩ : ∃ wb, w.alloc (.cells #[.pointer (some ⟨g, 0, none⟩)] 24) = wb := ⟨_, rfl⟩
  have kb : Keep Nb w wb := by rw [← hwb]; exact (Keep.refl Nb w).alloc _
  have cb : wb.cell? ⟨B, 0, none⟩ = some (.pointer (some ⟨g, 0, none⟩)) := by
    rw [← hwb, ← hB]; exact (Row.new w #[.pointer (some ⟨g, 0, none⟩)] 24).cell (i := 0) rfl
  have hgb := hG.keep kb (fun _ _ e => e)
  have HL : Hid (Calls Tryz.prog 78 #[.pointer (some ⟨g, 0, none⟩)] wb (RLabelsPost wb n fs)) := Lib.hid (rlabels_any F wb g n fs hgb hn (by omega) ho)
  have HWB := Lib.hid hwb
  have KB := Lib.hid kb
  have CB := Lib.hid cb
  have hB' := Lib.hid hB
  clear hG hs hp ho hcz hkn hal hwb kb hgb
  go_enter Tryz.func20, Tryz.ntmps20
  go_wp2_with fail
  rw [HWB.out]
  refine HL.out.mono ?_
  rintro e1 w1 ⟨q, rfl, hs1, hk1⟩
  have HC : Hid (Calls Tryz.prog 80 #[.slice (some ⟨q, 0, none⟩) n n] w1 fun e w' => e = .returned (.int .i64 (kn : Nat)) ∧ w' = w1) := Lib.hid (by
    refine (rcnt_any _ w1 _ n n (labG fs) hs1 hn).mono ?_
    rintro e w' ⟨rfl, h2⟩
    refine ⟨?_, h2⟩
    show Ending.returned (.int .i64 (cntP n fs : Nat)) = _
    rw [HKN.out.1])
  have K1 := Lib.hid (KB.out.trans hk1)
  have C1 := Lib.hid (hk1.cell cb (fun e => e))
  clear hs1 hk1 hB cb HL
  go_wp2_with fail
  refine HC.out.mono ?_
  rintro e1 w2 ⟨rfl, rfl⟩
  clear HC
  go_upto_region 2 with (fail)
  obtain ⟨Q, hQ⟩ : ∃ Q, w2.heap.size = Q := ⟨_, rfl⟩
  obtain ⟨w3, hw3⟩ : ∃ w3, w2.alloc (.cells #[.int .i64 (kn : Nat)] 3) = w3 := ⟨_, rfl⟩
  have k3 : Keep Nb w w3 := by rw [← hw3]; exact K1.out.alloc _
  have cb : w3.cell? ⟨B, 0, none⟩ = some (.pointer (some ⟨g, 0, none⟩)) := by rw [← hw3]; exact ((Keep.refl Nb w2).alloc _).cell C1.out (fun e => e)
  have cq : w3.cell? ⟨Q, 0, none⟩ = some (.int .i64 (kn : Nat)) := by rw [← hw3, ← hQ]; exact (Row.new w2 #[.int .i64 (kn : Nat)] 3).cell (i := 0) rfl
  have hRS : Calls Tryz.prog 24 #[.pointer (some ⟨g, 0, none⟩)] w3 (RSortPost w3 fs) := rsorted_any F w3 g n fs (HG.out.keep k3 (fun _ _ e => e)) (by omega)
  have HRS := Lib.hid hRS
  have K3 := Lib.hid k3
  have CQ := Lib.hid cq
  have CB3 := Lib.hid cb
  have hBQ : B < Q := by have := K1.out.size; have := (World.block_lt_of_cell? _ _ C1.out); rw [← hQ]; exact this
  rw [hw3, hQ]
  clear k3 hRS hw3 hQ K1 C1 cq
  go_wp2_with fail
  refine HRS.out.mono ?_
  rintro e w4 ⟨ds, o1, c1, rfl, hp1, hs1, hS1, hk1⟩
  have hds := sorted_of HS.out HP.out hp1 hs1
  subst hds
  obtain ⟨m, hm⟩ : ∃ m, fs.length = m := ⟨_, rfl⟩
  rw [hm] at hS1 ⊢
  have hm120 : m ≤ 120 := by omega
  have HM : Hid (ds.length = m) := Lib.hid (by rw [HP.out.length_eq]; exact hm)
  have HS1 := Lib.hid hS1.tight
  have HK4 := Lib.hid (K3.out.trans hk1)
  have CB4 := Lib.hid (hk1.cell cb (fun e => e))
  have CQ4 := Lib.hid (hk1.cell CQ.out (fun e => e))
  have z4 := hk1.size
  have zQ := World.block_lt_of_cell? _ _ CQ.out
  clear hp1 hs1 hS1 hk1 hm cb K3 CQ CB3 HRS
  go_wp2_with fail
  go_loopg [5, 19] m (fun kx s5 s19 wr => ∃ (i : Nat) (out : List (Nat × Nat)) (oo : Option Addr) (co : Nat), s19 = .int .i64 i ∧ s5 = .slice oo out.length co ∧ i ≤ m ∧ m - i ≤ kx ∧
    Hid (PrRel w4 (fun k => w4.heap.size ≤ k) (alikes (mk ds) (ds.drop i)) out all w4 wr oo co))
  case atStart => exact ⟨0, [], none, 0, rfl, rfl, Nat.zero_le _, by omega, Lib.hid ⟨by rw [List.drop_zero, HAL.out]; rfl, Sl.nil _ _ _ _, Keep.refl _ w4⟩⟩
  case round =>
    obtain ⟨i, out, oo, co, rfl, rfl, hi, hg, HR⟩ := hrel
    by_cases hlt : i < m
    · obtain ⟨e, hy⟩ : ∃ e, ds[i]? = some e := ⟨_, List.getElem?_eq_getElem (by rw [HM.out]; exact hlt)⟩
      have hS := HS1.out.keep HR.out.keep (fun k h h' => by have := h.2; omega)
      obtain ⟨ge, rfl, hFg, hnc, hrow⟩ := hS.pos (by omega)
      have d1 := hrow.edges.id _ _ hy
      have d2 := hrow.edges.a _ _ hy
      have d3 := hrow.edges.b _ _ hy
      have hem := List.mem_of_getElem? hy
      have hwz := HR.out.keep.size
      have HY : Hid (ds[i]? = some e ∧ ds.drop i = e :: ds.drop (i + 1)) := Lib.hid ⟨hy, by
        have hlt' : i < ds.length := by rw [HM.out]; exact hlt
        rw [List.drop_eq_getElem_cons hlt']
        have := List.getElem?_eq_getElem hlt'
        rw [hy] at this; cases this; rfl⟩
      obtain ⟨X, hX⟩ : ∃ X, wr.heap.size = X := ⟨_, rfl⟩
      obtain ⟨wI, hwI⟩ : ∃ wI, wr.alloc (.cells #[.int .i64 e.id, .int .i64 e.a, .int .i64 e.b] 42) = wI := ⟨_, rfl⟩
      have HI : Hid (Keep Nb wr wI ∧ wI.cell? ⟨X, 0, none⟩ = some (.int .i64 e.id) ∧ wI.heap.size = X + 1) := Lib.hid (by
        rw [← hwI, ← hX]; exact ⟨(Keep.refl Nb wr).alloc _, by rw [World.cell?_alloc_at _ _ _ _ rfl]; rfl, by simp⟩)
      have HS2 : Hid (Sl (fun k => w3.heap.size ≤ k ∧ k < w4.heap.size) wI 42 3 (some ⟨ge, 0, none⟩) m c1 (ecs ds)) := Lib.hid (hS.keep HI.out.1 (fun _ _ e => e))
      have HR0 : Hid (PrRel w4 (fun k => w4.heap.size ≤ k ∧ k ≠ X) (alikeTo (mk ds) e.id (ds.drop (i + 1)) ++ alikes (mk ds) (ds.drop (i + 1))) out all wI wI oo co ∧ Keep (fun k => w4.heap.size ≤ k) w4 wI) := Lib.hid ⟨⟨by
        have := HR.out.sum
        rw [HY.out.2] at this
        exact this, (HR.out.row.tight.mono (fun k hk => ⟨hk.1, by have := hk.2; omega⟩)).keep HI.out.1 (fun _ _ e => e), Keep.refl _ _⟩, HR.out.keep.trans HI.out.1.of_nb⟩
      have hz1 : ((i : Int) + 1).toNat = i + 1 := by omega
      have hz2 : IntKind.i64.wrap ((i : Int) + 1) = (i : Int) + 1 := IntWalk.i64_in _ (by omega)
      have hz3 : (0 : Int) ≤ (i : Int) + 1 := by omega
      have hz4 : (i : Int) + 1 ≤ (m : Int) := by omega
      have hz5 : m ≤ c1 := hnc
      have hz6 : (m : Int) ≤ (c1 : Int) := by omega
      have hz7 : (i : Int) + 1 ≤ (c1 : Int) := by omega
      have hXw : w4.heap.size ≤ X := by omega
      clear hS hrow hy hwz HR
      go_upto_region 8 with (fail)
      clear hwI hX d1 d2 d3
      go_cut [27, 28, 29] (fun v n z wc => ∃ (a : Addr) (c' : Nat), v = .slice (some a) (m - (i + 1)) c' ∧ n = .int .i64 (m - (i + 1) : Nat) ∧ z = .int .i64 0 ∧ (i + 1 < m → a = ⟨ge, (i + 1) * 3, none⟩) ∧ m - (i + 1) ≤ c' ∧ wI = wc)
      case first =>
        by_cases hkc : c1 = i + 1
        · subst hkc
          have hz9 : m - (i + 1) = 0 := by omega
          have hz10 : i + 1 - (i + 1) = 0 := by omega
          go_wp2_with fail
          go_meet
          exact ⟨⟨ge, 0, none⟩, 0, by rw [hz9], by rw [hz9]; rfl, rfl, fun h => by omega, by omega, rfl⟩
        · go_wp2_with fail
          go_meet
          exact ⟨_, _, rfl, by go_num, rfl, fun h => rfl, by omega, rfl⟩
      case rest =>
        obtain ⟨a, c', rfl, rfl, rfl, ha, hc', hwI⟩ := hcut
        obtain ⟨wJ, rfl⟩ : ∃ wJ : World, wJ = wc := ⟨_, rfl⟩
        subst hwI
        have HA := Lib.hid ha
        clear ha hz1 hz2 hz3 hz4 hz5 hz6 hz7
        obtain ⟨j, hj⟩ : ∃ j, m - (i + 1) = j := ⟨_, rfl⟩
        rw [hj] at hc' ⊢
        have HM2 : Hid (m - (i + 1) = j ∧ (ds.drop (i + 1)).length = j) := Lib.hid ⟨hj, by rw [List.length_drop, HM.out]; exact hj⟩
        have hj120 : j ≤ 120 := by omega
        clear hj
        go_wp2_with fail
        go_loopg [5, 29] j (fun ky s3 s27 wr2 => ∃ (k : Nat) (out : List (Nat × Nat)) (oo : Option Addr) (co : Nat), s27 = .int .i64 k ∧ s3 = .slice oo out.length co ∧ k ≤ j ∧ j - k ≤ ky ∧
          Hid (PrRel w4 (fun k => w4.heap.size ≤ k ∧ k ≠ X) (alikeTo (mk ds) e.id ((ds.drop (i + 1)).drop k) ++ alikes (mk ds) (ds.drop (i + 1))) out all wI wr2 oo co ∧ Keep (fun k => w4.heap.size ≤ k) w4 wr2))
        case atStart => exact ⟨0, out, oo, co, rfl, rfl, Nat.zero_le _, by omega, HR0⟩
        case round =>
          clear HR0
          obtain ⟨k, out, oo, co, rfl, rfl, hk, hgk, HR⟩ := hrel
          have hol : out.length ≤ 14400 := by
            have := congrArg List.length HR.out.1.sum
            rw [List.length_append] at this
            omega
          by_cases hkm : k < j
          · have hax := HA.out (by have := HM2.out.1; omega)
            subst hax
            have hik : i + 1 + k < m := by have := HM2.out.1; omega
            have hik' : i + 1 + k < ds.length := by rw [HM.out]; exact hik
            obtain ⟨f, hf⟩ : ∃ f, ds[i + 1 + k]? = some f := ⟨_, List.getElem?_eq_getElem hik'⟩
            have HD : Hid (ds[i + 1 + k]? = some f ∧ (ds.drop (i + 1)).drop k = f :: (ds.drop (i + 1)).drop (k + 1)) := Lib.hid ⟨hf, by
              rw [List.drop_drop, List.drop_drop, List.drop_eq_getElem_cons hik']
              have := List.getElem?_eq_getElem hik'
              rw [hf] at this; cases this; rfl⟩
            have hS := HS2.out.keep HR.out.1.keep (fun j h h' => by have := h'.1; omega)
            obtain ⟨g', hg', _, _, hrow⟩ := hS.pos (by omega)
            cases hg'
            have d1 := hrow.edges.id _ _ hf
            have d2 := hrow.edges.a _ _ hf
            have d3 := hrow.edges.b _ _ hf
            rw [show (i + 1 + k) * 3 = (i + 1) * 3 + k * 3 by omega] at d1 d2 d3
            have hfem := List.mem_of_getElem? hf
            have hkr := HR.out.2
            have c0 := hkr.cell CB4.out (fun h => by have : w4.heap.size ≤ B := h; omega)
            have c1' := hkr.cell CQ4.out (fun h => by have : w4.heap.size ≤ Q := h; omega)
            have c2 := HR.out.1.keep.cell HI.out.2.1 (fun h => h.2 rfl)
            have hgr := (HG.out.keep HK4.out (fun _ _ e => e)).tight.keep hkr (fun k h1 h2 => by have := h1.2; have : w4.heap.size ≤ k := h2; omega)
            obtain ⟨Y, hY⟩ : ∃ Y, wr.heap.size = Y := ⟨_, rfl⟩
            obtain ⟨W, hW⟩ : ∃ W, wr.alloc (.cells #[.int .i64 f.id, .int .i64 f.a, .int .i64 f.b] 42) = W := ⟨_, rfl⟩
            have kW : Keep Nb wr W := by rw [← hW]; exact (Keep.refl Nb wr).alloc _
            have f3 : W.cell? ⟨Y, 0, none⟩ = some (.int .i64 f.id) := by rw [← hW, ← hY, World.cell?_alloc_at _ _ _ _ rfl]; rfl
            have f0 := kW.cell c0 (fun e => e)
            have f1 := kW.cell c1' (fun e => e)
            have f2 := kW.cell c2 (fun e => e)
            have hgW := hgr.keep kW (fun _ _ e => e)
            have HFF : Hid (W.cell? ⟨B, 0, none⟩ = some (.pointer (some ⟨g, 0, none⟩)) ∧ W.cell? ⟨Q, 0, none⟩ = some (.int .i64 (kn : Nat)) ∧ W.cell? ⟨X, 0, none⟩ = some (.int .i64 e.id) ∧ W.cell? ⟨Y, 0, none⟩ = some (.int .i64 f.id)) := Lib.hid ⟨f0, f1, f2, f3⟩
            have HGW := Lib.hid hgW
            have HKW := Lib.hid kW
            clear hS hrow hf hkr c0 c1' c2 hgr kW hgW
            have hcl : ∀ l, cntP n (withoutEs l [] fs) = cntP n (sans ds l) := fun l => cntP_mem n (fun x => by rw [mem_withoutE, mem_sansL, HP.out.mem_iff]; simp)
            have HF : Hid (∀ (id : Nat) wx, Keep Nb W wx → Calls Tryz.prog 81 #[.int .i64 id, .pointer (some ⟨B, 0, none⟩), .pointer (some ⟨Q, 0, none⟩)] wx fun e w' => e = .returned (.bool (decide (cntP n (sans ds [id]) = kn))) ∧ Keep Nb W w') := Lib.hid (fun id wx k => by
              have := rfine_any _ wx B Q g n kn id fs (k.cell HFF.out.1 (fun e => e)) (k.cell HFF.out.2.1 (fun e => e)) (HGW.out.keep k (fun _ _ e => e)) hn hl HO.out hk40
              rw [hcl] at this
              exact this.mono (fun _ _ ⟨h1, h2⟩ => ⟨h1, k.trans h2⟩))
            have htw : twoB n ds e f = (decide (cntP n (sans ds [e.id]) = kn) && decide (cntP n (sans ds [f.id]) = kn) && decide (kn < cntP n (sans ds [e.id, f.id]))) := by unfold twoB; rw [HKN.out.2]
            obtain ⟨tw, htw'⟩ : ∃ tw, twoB n ds e f = tw := ⟨_, rfl⟩
            obtain ⟨fe, hfe⟩ : ∃ fe, decide (cntP n (sans ds [e.id]) = kn) = fe := ⟨_, rfl⟩
            obtain ⟨ff, hff⟩ : ∃ ff, decide (cntP n (sans ds [f.id]) = kn) = ff := ⟨_, rfl⟩
            obtain ⟨k2, hk2⟩ : ∃ k2, cntP n (sans ds [e.id, f.id]) = k2 := ⟨_, rfl⟩
            have hk240 : k2 ≤ 40 := by rw [← hk2]; exact Nat.le_trans (cnt_le _ _) hn
            have HF1 := Lib.hid (HF.out e.id)
            have HF2 := Lib.hid (HF.out f.id)
            rw [hfe] at htw HF1
            rw [hff] at htw HF2
            rw [hk2] at htw
            rw [htw'] at htw
            have HTW := Lib.hid htw'
            obtain ⟨ls, hls⟩ : ∃ ls, withoutEs [e.id, f.id] [] fs = ls := ⟨_, rfl⟩
            have hlk : cntP n ls = k2 := by rw [← hls, hcl, hk2]
            have hlo : Over n ls := fun x hx => HO.out x (by rw [← hls] at hx; exact (List.mem_filter.1 hx).1)
            have hll : ls.length ≤ 1000 := by rw [← hls]; exact Nat.le_trans (List.length_filter_le _ _) (by omega)
            have HW : Hid (∀ wz q, Sl (fun k => k = q) wz 3 1 (some ⟨q, 0, none⟩) 2 2 (ints [e.id, f.id]) → Keep Nb W wz → Calls Tryz.prog 79 #[.pointer (some ⟨g, 0, none⟩), .slice (some ⟨q, 0, none⟩) 2 2, .slice none 0 0] wz fun e w' => ∃ rb, e = .returned (.pointer (some ⟨rb, 0, none⟩)) ∧ RGr (fun k => W.heap.size ≤ k) w' rb n ls ∧ Keep Nb W w') := Lib.hid (fun wz q h k => by
              refine (rwithout_any _ (fun k => k = q) (fun _ => False) wz g n fs (some ⟨q, 0, none⟩) none 2 0 [e.id, f.id] [] (HGW.out.keep k (fun _ _ e => e)) (by omega) h (Sl.nil _ _ _ _) (by simp) (by simp)).mono ?_
              rintro e w' ⟨rfl, h2, h3⟩
              rw [hls] at h2
              exact ⟨_, rfl, h2.mono (fun j hj => by have := k.size; omega), k.trans h3⟩)
            have HL : Hid (∀ wx rb, RGr (fun k => W.heap.size ≤ k) wx rb n ls → Calls Tryz.prog 78 #[.pointer (some ⟨rb, 0, none⟩)] wx (RLabelsPost wx n ls)) := Lib.hid (fun wx rb h => rlabels_any _ wx rb n ls h hn hll hlo)
            have HC : Hid (∀ z wx q, Sl (fun k => z ≤ k) wx 3 1 (some ⟨q, 0, none⟩) n n (fints n (labG ls)) → Calls Tryz.prog 80 #[.slice (some ⟨q, 0, none⟩) n n] wx fun e w' => e = .returned (.int .i64 (k2 : Nat)) ∧ w' = wx) := Lib.hid (fun z wx q h => by
              rw [← hlk]
              exact rcnt_any _ wx _ n n (labG ls) h hn)
            clear hcl HF hfe hff hk2 htw' hls hlk hlo hll
            go_upto_region 11 with (fail)
            clear hY hW d1 d2 d3
            go_cut [55] (fun v wc => v = .bool tw ∧ Hid (Keep Nb W wc))
            case first =>
              cases fe with
              | false =>
                have htf : tw = false := by rw [htw]; rfl
                subst htf
                clear htw
                go_wp2_with fail
                refine wp_region_held_drew (S := (fun w' => w'.cell? ⟨B, 0, none⟩ = some (.pointer (some ⟨g, 0, none⟩)) ∧ w'.cell? ⟨Q, 0, none⟩ = some (.int .i64 (kn : Nat)) ∧ w'.cell? ⟨X, 0, none⟩ = some (.int .i64 e.id) ∧ w'.cell? ⟨Y, 0, none⟩ = some (.int .i64 f.id))) (by kernel_rfl) ?_ (fun hHeld => ?_)
                · go_keep
                refine take_yes (i := 0) (d := some 33) (v := ?_) rfl (by kernel_rfl) (by kernel_rfl) (by kernel_rfl) (by kernel_rfl) (fun _ _ _ h => h) (by kernel_rfl) ?_ (by assumption) ?_
                rotate_left
                · (intro w hSw; (try dsimp only at hSw); go_simp; try (with_reducible rfl))
                try simp only [Act.put, List.setIfInBounds_toArray, List.set_cons_zero, List.set_cons_succ]
                refine take_yes (i := 1) (d := some 34) (v := ?_) rfl (by kernel_rfl) (by kernel_rfl) (by kernel_rfl) (by kernel_rfl) (fun _ _ _ h => h) (by kernel_rfl) ?_ (by assumption) ?_
                rotate_left
                · (intro w hSw; (try dsimp only at hSw); go_simp; try (with_reducible rfl))
                try simp only [Act.put, List.setIfInBounds_toArray, List.set_cons_zero, List.set_cons_succ]
                refine take_yes (i := 2) (d := some 35) (v := ?_) rfl (by kernel_rfl) (by kernel_rfl) (by kernel_rfl) (by kernel_rfl) (fun _ _ _ h => h) (by kernel_rfl) ?_ (by assumption) ?_
                rotate_left
                · (intro w hSw; (try dsimp only at hSw); go_simp; try (with_reducible rfl))
                try simp only [Act.put, List.setIfInBounds_toArray, List.set_cons_zero, List.set_cons_succ]
                refine wpAnyH_ready (rs := [3]) (by kernel_rfl) (by simp) ?_
                refine AllReadyH.cons rfl (fun K hK => ?_) AllReadyH.nil
                go_simp
                (go_at_call 81; refine (HF1.out _ (show Keep Nb W _ from (by (repeat (first | exact Keep.refl _ _ | refine Keep.alloc ?_ _ | refine Keep.drew ?_))))).mono ?_; rintro e1 wA ⟨rfl, kA⟩; have a0 := kA.cell (p := ⟨B, 0, none⟩) HFF.out.1 (fun e => e); have a1 := kA.cell (p := ⟨Q, 0, none⟩) HFF.out.2.1 (fun e => e); have a2 := kA.cell (p := ⟨X, 0, none⟩) HFF.out.2.2.1 (fun e => e); have a3 := kA.cell (p := ⟨Y, 0, none⟩) HFF.out.2.2.2 (fun e => e); have KA := Lib.hid kA; clear kA HF1)
                refine hK.out _ _ ?_ (fun hHeld => ?_)
                · go_keep
                clear hK K
                try simp only [Act.put, List.setIfInBounds_toArray, List.set_cons_zero, List.set_cons_succ]
                refine take_yes (i := 4) (d := some 37) (v := ?_) rfl (by kernel_rfl) (by kernel_rfl) (by kernel_rfl) (by kernel_rfl) (fun _ _ _ h => h) (by kernel_rfl) ?_ (by assumption) ?_
                rotate_left
                · (intro w hSw; (try dsimp only at hSw); go_simp; try (with_reducible rfl))
                try simp only [Act.put, List.setIfInBounds_toArray, List.set_cons_zero, List.set_cons_succ]
                refine take_no (i := 5) (d := some 38) rfl (by kernel_rfl) (by kernel_rfl) (by kernel_rfl) (by kernel_rfl) (fun _ _ _ h => h) (by kernel_rfl) (by assumption) ?_
                try simp only [Act.put, List.setIfInBounds_toArray, List.set_cons_zero, List.set_cons_succ]
                refine take_no (i := 6) (d := some 39) rfl (by kernel_rfl) (by kernel_rfl) (by kernel_rfl) (by kernel_rfl) (fun _ _ _ h => h) (by kernel_rfl) (by assumption) ?_
                try simp only [Act.put, List.setIfInBounds_toArray, List.set_cons_zero, List.set_cons_succ]
                refine take_no (i := 7) (d := some 40) rfl (by kernel_rfl) (by kernel_rfl) (by kernel_rfl) (by kernel_rfl) (fun _ _ _ h => h) (by kernel_rfl) (by assumption) ?_
                try simp only [Act.put, List.setIfInBounds_toArray, List.set_cons_zero, List.set_cons_succ]
                refine take_no (i := 8) (d := some 41) rfl (by kernel_rfl) (by kernel_rfl) (by kernel_rfl) (by kernel_rfl) (fun _ _ _ h => h) (by kernel_rfl) (by assumption) ?_
                try simp only [Act.put, List.setIfInBounds_toArray, List.set_cons_zero, List.set_cons_succ]
                refine take_yes (i := 9) (d := some 42) (v := ?_) rfl (by kernel_rfl) (by kernel_rfl) (by kernel_rfl) (by kernel_rfl) (fun _ _ _ h => h) (by kernel_rfl) ?_ (by assumption) ?_
                rotate_left
                · (intro w hSw; (try dsimp only at hSw); go_simp; try (with_reducible rfl))
                try simp only [Act.put, List.setIfInBounds_toArray, List.set_cons_zero, List.set_cons_succ]
                refine take_yes (i := 10) (d := some 43) (v := ?_) rfl (by kernel_rfl) (by kernel_rfl) (by kernel_rfl) (by kernel_rfl) (fun _ _ _ h => h) (by kernel_rfl) ?_ (by assumption) ?_
                rotate_left
                · (intro w hSw; (try dsimp only at hSw); go_simp; try (with_reducible rfl))
                try simp only [Act.put, List.setIfInBounds_toArray, List.set_cons_zero, List.set_cons_succ]
                refine take_no (i := 11) (d := some 44) rfl (by kernel_rfl) (by kernel_rfl) (by kernel_rfl) (by kernel_rfl) (fun _ _ _ h => h) (by kernel_rfl) (by assumption) ?_
                try simp only [Act.put, List.setIfInBounds_toArray, List.set_cons_zero, List.set_cons_succ]
                refine take_no (i := 12) (d := some 45) rfl (by kernel_rfl) (by kernel_rfl) (by kernel_rfl) (by kernel_rfl) (fun _ _ _ h => h) (by kernel_rfl) (by assumption) ?_
                try simp only [Act.put, List.setIfInBounds_toArray, List.set_cons_zero, List.set_cons_succ]
                refine take_no (i := 13) (d := some 46) rfl (by kernel_rfl) (by kernel_rfl) (by kernel_rfl) (by kernel_rfl) (fun _ _ _ h => h) (by kernel_rfl) (by assumption) ?_
                try simp only [Act.put, List.setIfInBounds_toArray, List.set_cons_zero, List.set_cons_succ]
                refine take_no (i := 14) (d := some 47) rfl (by kernel_rfl) (by kernel_rfl) (by kernel_rfl) (by kernel_rfl) (fun _ _ _ h => h) (by kernel_rfl) (by assumption) ?_
                try simp only [Act.put, List.setIfInBounds_toArray, List.set_cons_zero, List.set_cons_succ]
                refine take_no (i := 15) (d := some 48) rfl (by kernel_rfl) (by kernel_rfl) (by kernel_rfl) (by kernel_rfl) (fun _ _ _ h => h) (by kernel_rfl) (by assumption) ?_
                try simp only [Act.put, List.setIfInBounds_toArray, List.set_cons_zero, List.set_cons_succ]
                refine take_no (i := 16) (d := some 49) rfl (by kernel_rfl) (by kernel_rfl) (by kernel_rfl) (by kernel_rfl) (fun _ _ _ h => h) (by kernel_rfl) (by assumption) ?_
                try simp only [Act.put, List.setIfInBounds_toArray, List.set_cons_zero, List.set_cons_succ]
                refine take_no (i := 17) (d := some 50) rfl (by kernel_rfl) (by kernel_rfl) (by kernel_rfl) (by kernel_rfl) (fun _ _ _ h => h) (by kernel_rfl) (by assumption) ?_
                try simp only [Act.put, List.setIfInBounds_toArray, List.set_cons_zero, List.set_cons_succ]
                refine take_no (i := 18) (d := some 51) rfl (by kernel_rfl) (by kernel_rfl) (by kernel_rfl) (by kernel_rfl) (fun _ _ _ h => h) (by kernel_rfl) (by assumption) ?_
                try simp only [Act.put, List.setIfInBounds_toArray, List.set_cons_zero, List.set_cons_succ]
                refine take_no (i := 19) (d := some 52) rfl (by kernel_rfl) (by kernel_rfl) (by kernel_rfl) (by kernel_rfl) (fun _ _ _ h => h) (by kernel_rfl) (by assumption) ?_
                try simp only [Act.put, List.setIfInBounds_toArray, List.set_cons_zero, List.set_cons_succ]
                refine take_no (i := 20) (d := some 53) rfl (by kernel_rfl) (by kernel_rfl) (by kernel_rfl) (by kernel_rfl) (fun _ _ _ h => h) (by kernel_rfl) (by assumption) ?_
                try simp only [Act.put, List.setIfInBounds_toArray, List.set_cons_zero, List.set_cons_succ]
                refine take_no (i := 21) (d := some 54) rfl (by kernel_rfl) (by kernel_rfl) (by kernel_rfl) (by kernel_rfl) (fun _ _ _ h => h) (by kernel_rfl) (by assumption) ?_
                try simp only [Act.put, List.setIfInBounds_toArray, List.set_cons_zero, List.set_cons_succ]
                refine take_yes (i := 22) (d := some 55) (v := ?_) rfl (by kernel_rfl) (by kernel_rfl) (by kernel_rfl) (by kernel_rfl) (fun _ _ _ h => h) (by kernel_rfl) ?_ (by assumption) ?_
                rotate_left
                · (intro w hSw; (try dsimp only at hSw); go_simp; try (with_reducible rfl))
                try simp only [Act.put, List.setIfInBounds_toArray, List.set_cons_zero, List.set_cons_succ]
                refine wpAnyH_done (by kernel_rfl) ?_ _
                clear HFF HF2 HW HL HC HGW
                go_wp2_with fail
                go_meet
                exact ⟨rfl, KA⟩
              | true =>
                cases ff with
                | false =>
                  have htf : tw = false := by rw [htw]; rfl
                  subst htf
                  clear htw
                  go_wp2_with fail
                  refine wp_region_held_drew (S := (fun w' => w'.cell? ⟨B, 0, none⟩ = some (.pointer (some ⟨g, 0, none⟩)) ∧ w'.cell? ⟨Q, 0, none⟩ = some (.int .i64 (kn : Nat)) ∧ w'.cell? ⟨X, 0, none⟩ = some (.int .i64 e.id) ∧ w'.cell? ⟨Y, 0, none⟩ = some (.int .i64 f.id))) (by kernel_rfl) ?_ (fun hHeld => ?_)
                  · go_keep
                  refine take_yes (i := 0) (d := some 33) (v := ?_) rfl (by kernel_rfl) (by kernel_rfl) (by kernel_rfl) (by kernel_rfl) (fun _ _ _ h => h) (by kernel_rfl) ?_ (by assumption) ?_
                  rotate_left
                  · (intro w hSw; (try dsimp only at hSw); go_simp; try (with_reducible rfl))
                  try simp only [Act.put, List.setIfInBounds_toArray, List.set_cons_zero, List.set_cons_succ]
                  refine take_yes (i := 1) (d := some 34) (v := ?_) rfl (by kernel_rfl) (by kernel_rfl) (by kernel_rfl) (by kernel_rfl) (fun _ _ _ h => h) (by kernel_rfl) ?_ (by assumption) ?_
                  rotate_left
                  · (intro w hSw; (try dsimp only at hSw); go_simp; try (with_reducible rfl))
                  try simp only [Act.put, List.setIfInBounds_toArray, List.set_cons_zero, List.set_cons_succ]
                  refine take_yes (i := 2) (d := some 35) (v := ?_) rfl (by kernel_rfl) (by kernel_rfl) (by kernel_rfl) (by kernel_rfl) (fun _ _ _ h => h) (by kernel_rfl) ?_ (by assumption) ?_
                  rotate_left
                  · (intro w hSw; (try dsimp only at hSw); go_simp; try (with_reducible rfl))
                  try simp only [Act.put, List.setIfInBounds_toArray, List.set_cons_zero, List.set_cons_succ]
                  refine wpAnyH_ready (rs := [3]) (by kernel_rfl) (by simp) ?_
                  refine AllReadyH.cons rfl (fun K hK => ?_) AllReadyH.nil
                  go_simp
                  (go_at_call 81; refine (HF1.out _ (show Keep Nb W _ from (by (repeat (first | exact Keep.refl _ _ | refine Keep.alloc ?_ _ | refine Keep.drew ?_))))).mono ?_; rintro e1 wA ⟨rfl, kA⟩; have a0 := kA.cell (p := ⟨B, 0, none⟩) HFF.out.1 (fun e => e); have a1 := kA.cell (p := ⟨Q, 0, none⟩) HFF.out.2.1 (fun e => e); have a2 := kA.cell (p := ⟨X, 0, none⟩) HFF.out.2.2.1 (fun e => e); have a3 := kA.cell (p := ⟨Y, 0, none⟩) HFF.out.2.2.2 (fun e => e); have KA := Lib.hid kA; clear kA HF1)
                  refine hK.out _ _ ?_ (fun hHeld => ?_)
                  · go_keep
                  clear hK K
                  try simp only [Act.put, List.setIfInBounds_toArray, List.set_cons_zero, List.set_cons_succ]
                  refine take_yes (i := 4) (d := some 37) (v := ?_) rfl (by kernel_rfl) (by kernel_rfl) (by kernel_rfl) (by kernel_rfl) (fun _ _ _ h => h) (by kernel_rfl) ?_ (by assumption) ?_
                  rotate_left
                  · (intro w hSw; (try dsimp only at hSw); go_simp; try (with_reducible rfl))
                  try simp only [Act.put, List.setIfInBounds_toArray, List.set_cons_zero, List.set_cons_succ]
                  refine take_yes (i := 5) (d := some 38) (v := ?_) rfl (by kernel_rfl) (by kernel_rfl) (by kernel_rfl) (by kernel_rfl) (fun _ _ _ h => h) (by kernel_rfl) ?_ (by assumption) ?_
                  rotate_left
                  · (intro w hSw; (try dsimp only at hSw); go_simp; try (with_reducible rfl))
                  try simp only [Act.put, List.setIfInBounds_toArray, List.set_cons_zero, List.set_cons_succ]
                  refine take_yes (i := 6) (d := some 39) (v := ?_) rfl (by kernel_rfl) (by kernel_rfl) (by kernel_rfl) (by kernel_rfl) (fun _ _ _ h => h) (by kernel_rfl) ?_ (by assumption) ?_
                  rotate_left
                  · (intro w hSw; (try dsimp only at hSw); go_simp; try (with_reducible rfl))
                  try simp only [Act.put, List.setIfInBounds_toArray, List.set_cons_zero, List.set_cons_succ]
                  refine take_yes (i := 7) (d := some 40) (v := ?_) rfl (by kernel_rfl) (by kernel_rfl) (by kernel_rfl) (by kernel_rfl) (fun _ _ _ h => h) (by kernel_rfl) ?_ (by assumption) ?_
                  rotate_left
                  · (intro w hSw; (try dsimp only at hSw); go_simp; try (with_reducible rfl))
                  try simp only [Act.put, List.setIfInBounds_toArray, List.set_cons_zero, List.set_cons_succ]
                  refine wpAnyH_ready (rs := [8]) (by kernel_rfl) (by simp) ?_
                  refine AllReadyH.cons rfl (fun K hK => ?_) AllReadyH.nil
                  go_simp
                  (go_at_call 81; refine (HF2.out _ (KA.out.trans (show Keep Nb wA _ from (by (repeat (first | exact Keep.refl _ _ | refine Keep.alloc ?_ _ | refine Keep.drew ?_)))))).mono ?_; rintro e2 wB ⟨rfl, kB⟩; have b0 := kB.cell (p := ⟨B, 0, none⟩) HFF.out.1 (fun e => e); have b1 := kB.cell (p := ⟨Q, 0, none⟩) HFF.out.2.1 (fun e => e); have b2 := kB.cell (p := ⟨X, 0, none⟩) HFF.out.2.2.1 (fun e => e); have b3 := kB.cell (p := ⟨Y, 0, none⟩) HFF.out.2.2.2 (fun e => e); have KB2 := Lib.hid kB; clear kB HF2)
                  refine hK.out _ _ ?_ (fun hHeld => ?_)
                  · go_keep
                  clear hK K
                  try simp only [Act.put, List.setIfInBounds_toArray, List.set_cons_zero, List.set_cons_succ]
                  refine take_yes (i := 9) (d := some 42) (v := ?_) rfl (by kernel_rfl) (by kernel_rfl) (by kernel_rfl) (by kernel_rfl) (fun _ _ _ h => h) (by kernel_rfl) ?_ (by assumption) ?_
                  rotate_left
                  · (intro w hSw; (try dsimp only at hSw); go_simp; try (with_reducible rfl))
                  try simp only [Act.put, List.setIfInBounds_toArray, List.set_cons_zero, List.set_cons_succ]
                  refine take_yes (i := 10) (d := some 43) (v := ?_) rfl (by kernel_rfl) (by kernel_rfl) (by kernel_rfl) (by kernel_rfl) (fun _ _ _ h => h) (by kernel_rfl) ?_ (by assumption) ?_
                  rotate_left
                  · (intro w hSw; (try dsimp only at hSw); go_simp; try (with_reducible rfl))
                  try simp only [Act.put, List.setIfInBounds_toArray, List.set_cons_zero, List.set_cons_succ]
                  refine take_no (i := 11) (d := some 44) rfl (by kernel_rfl) (by kernel_rfl) (by kernel_rfl) (by kernel_rfl) (fun _ _ _ h => h) (by kernel_rfl) (by assumption) ?_
                  try simp only [Act.put, List.setIfInBounds_toArray, List.set_cons_zero, List.set_cons_succ]
                  refine take_no (i := 12) (d := some 45) rfl (by kernel_rfl) (by kernel_rfl) (by kernel_rfl) (by kernel_rfl) (fun _ _ _ h => h) (by kernel_rfl) (by assumption) ?_
                  try simp only [Act.put, List.setIfInBounds_toArray, List.set_cons_zero, List.set_cons_succ]
                  refine take_no (i := 13) (d := some 46) rfl (by kernel_rfl) (by kernel_rfl) (by kernel_rfl) (by kernel_rfl) (fun _ _ _ h => h) (by kernel_rfl) (by assumption) ?_
                  try simp only [Act.put, List.setIfInBounds_toArray, List.set_cons_zero, List.set_cons_succ]
                  refine take_no (i := 14) (d := some 47) rfl (by kernel_rfl) (by kernel_rfl) (by kernel_rfl) (by kernel_rfl) (fun _ _ _ h => h) (by kernel_rfl) (by assumption) ?_
                  try simp only [Act.put, List.setIfInBounds_toArray, List.set_cons_zero, List.set_cons_succ]
                  refine take_no (i := 15) (d := some 48) rfl (by kernel_rfl) (by kernel_rfl) (by kernel_rfl) (by kernel_rfl) (fun _ _ _ h => h) (by kernel_rfl) (by assumption) ?_
                  try simp only [Act.put, List.setIfInBounds_toArray, List.set_cons_zero, List.set_cons_succ]
                  refine take_no (i := 16) (d := some 49) rfl (by kernel_rfl) (by kernel_rfl) (by kernel_rfl) (by kernel_rfl) (fun _ _ _ h => h) (by kernel_rfl) (by assumption) ?_
                  try simp only [Act.put, List.setIfInBounds_toArray, List.set_cons_zero, List.set_cons_succ]
                  refine take_no (i := 17) (d := some 50) rfl (by kernel_rfl) (by kernel_rfl) (by kernel_rfl) (by kernel_rfl) (fun _ _ _ h => h) (by kernel_rfl) (by assumption) ?_
                  try simp only [Act.put, List.setIfInBounds_toArray, List.set_cons_zero, List.set_cons_succ]
                  refine take_no (i := 18) (d := some 51) rfl (by kernel_rfl) (by kernel_rfl) (by kernel_rfl) (by kernel_rfl) (fun _ _ _ h => h) (by kernel_rfl) (by assumption) ?_
                  try simp only [Act.put, List.setIfInBounds_toArray, List.set_cons_zero, List.set_cons_succ]
                  refine take_no (i := 19) (d := some 52) rfl (by kernel_rfl) (by kernel_rfl) (by kernel_rfl) (by kernel_rfl) (fun _ _ _ h => h) (by kernel_rfl) (by assumption) ?_
                  try simp only [Act.put, List.setIfInBounds_toArray, List.set_cons_zero, List.set_cons_succ]
                  refine take_no (i := 20) (d := some 53) rfl (by kernel_rfl) (by kernel_rfl) (by kernel_rfl) (by kernel_rfl) (fun _ _ _ h => h) (by kernel_rfl) (by assumption) ?_
                  try simp only [Act.put, List.setIfInBounds_toArray, List.set_cons_zero, List.set_cons_succ]
                  refine take_no (i := 21) (d := some 54) rfl (by kernel_rfl) (by kernel_rfl) (by kernel_rfl) (by kernel_rfl) (fun _ _ _ h => h) (by kernel_rfl) (by assumption) ?_
                  try simp only [Act.put, List.setIfInBounds_toArray, List.set_cons_zero, List.set_cons_succ]
                  refine take_yes (i := 22) (d := some 55) (v := ?_) rfl (by kernel_rfl) (by kernel_rfl) (by kernel_rfl) (by kernel_rfl) (fun _ _ _ h => h) (by kernel_rfl) ?_ (by assumption) ?_
                  rotate_left
                  · (intro w hSw; (try dsimp only at hSw); go_simp; try (with_reducible rfl))
                  try simp only [Act.put, List.setIfInBounds_toArray, List.set_cons_zero, List.set_cons_succ]
                  refine wpAnyH_done (by kernel_rfl) ?_ _
                  clear HFF HW HL HC HGW
                  go_wp2_with fail
                  go_meet
                  exact ⟨rfl, KB2⟩
                | true =>
                  have HTT : Hid (tw = decide (kn < k2)) := Lib.hid (by rw [htw]; rfl)
                  clear htw
                  go_wp2_with fail
                  go_region_held3 (fun w' => w'.cell? ⟨B, 0, none⟩ = some (.pointer (some ⟨g, 0, none⟩)) ∧ w'.cell? ⟨Q, 0, none⟩ = some (.int .i64 (kn : Nat)) ∧ w'.cell? ⟨X, 0, none⟩ = some (.int .i64 e.id) ∧ w'.cell? ⟨Y, 0, none⟩ = some (.int .i64 f.id)) (go_keep) ((first
                    | (go_at_call 81; refine (HF1.out _ (show Keep Nb W _ from (by (repeat (first | exact Keep.refl _ _ | refine Keep.alloc ?_ _ | refine Keep.drew ?_))))).mono ?_; rintro e1 wA ⟨rfl, kA⟩; have a0 := kA.cell (p := ⟨B, 0, none⟩) HFF.out.1 (fun e => e); have a1 := kA.cell (p := ⟨Q, 0, none⟩) HFF.out.2.1 (fun e => e); have a2 := kA.cell (p := ⟨X, 0, none⟩) HFF.out.2.2.1 (fun e => e); have a3 := kA.cell (p := ⟨Y, 0, none⟩) HFF.out.2.2.2 (fun e => e); have KA := Lib.hid kA; clear kA HF1)
                    | (go_at_call 81; refine (HF2.out _ (KA.out.trans (show Keep Nb wA _ from (by (repeat (first | exact Keep.refl _ _ | refine Keep.alloc ?_ _ | refine Keep.drew ?_)))))).mono ?_; rintro e2 wB ⟨rfl, kB⟩; have b0 := kB.cell (p := ⟨B, 0, none⟩) HFF.out.1 (fun e => e); have b1 := kB.cell (p := ⟨Q, 0, none⟩) HFF.out.2.1 (fun e => e); have b2 := kB.cell (p := ⟨X, 0, none⟩) HFF.out.2.2.1 (fun e => e); have b3 := kB.cell (p := ⟨Y, 0, none⟩) HFF.out.2.2.2 (fun e => e); have KB2 := Lib.hid kB; clear kB HF2)
                    | (go_at_call 79; refine (HW.out _ _ (Sl.built wB 3 1 2 [.int .i64 (e.id : Nat), .int .i64 (f.id : Nat)] rfl (by simp only [maxLen]; omega)) (KB2.out.alloc _)).mono ?_; rintro e3 wC ⟨rb, rfl, hC, kC⟩; have c0 := kC.cell (p := ⟨B, 0, none⟩) HFF.out.1 (fun e => e); have c1 := kC.cell (p := ⟨Q, 0, none⟩) HFF.out.2.1 (fun e => e); have c2 := kC.cell (p := ⟨X, 0, none⟩) HFF.out.2.2.1 (fun e => e); have c3 := kC.cell (p := ⟨Y, 0, none⟩) HFF.out.2.2.2 (fun e => e); have HC3 := Lib.hid hC; have KC := Lib.hid kC; clear hC kC)
                    | (go_at_call 78; refine (HL.out _ _ (HC3.out.keep (show Keep Nb wC _ from (by (repeat (first | exact Keep.refl _ _ | refine Keep.alloc ?_ _ | refine Keep.drew ?_)))) (fun _ _ e => e))).mono ?_; rintro e4 wD ⟨qd, rfl, hD, kD⟩; have kD' := KC.out.trans (Keep.trans (show Keep Nb wC _ from (by (repeat (first | exact Keep.refl _ _ | refine Keep.alloc ?_ _ | refine Keep.drew ?_)))) kD); have d0 := kD'.cell (p := ⟨B, 0, none⟩) HFF.out.1 (fun e => e); have d1 := kD'.cell (p := ⟨Q, 0, none⟩) HFF.out.2.1 (fun e => e); have d2 := kD'.cell (p := ⟨X, 0, none⟩) HFF.out.2.2.1 (fun e => e); have d3 := kD'.cell (p := ⟨Y, 0, none⟩) HFF.out.2.2.2 (fun e => e); have HD3 := Lib.hid hD; have KD := Lib.hid kD'; clear hD kD kD')
                    | (go_at_call 80; refine (HC.out _ _ _ (HD3.out.keep (show Keep Nb wD _ from (by (repeat (first | exact Keep.refl _ _ | refine Keep.alloc ?_ _ | refine Keep.drew ?_)))) (fun _ _ e => e))).mono ?_; rintro e5 wE ⟨rfl, rfl⟩)))
                  have hKE : Hid (Keep Nb W wE) := KD
                  clear HFF HW HL HC HGW HC3 HD3 KC KD KA KB2
                  go_wp2_with fail
                  go_meet
                  exact ⟨by rw [HTT.out], hKE⟩
            case rest =>
              obtain ⟨rfl, HX⟩ := hcut
              obtain ⟨wK, rfl⟩ : ∃ wK : World, wK = wc := ⟨_, rfl⟩
              have g2 := HX.out.cell HFF.out.2.2.1 (fun e => e)
              have g3 := HX.out.cell HFF.out.2.2.2 (fun e => e)
              have HKK : Hid (Keep (fun k => w4.heap.size ≤ k) w4 wK ∧ Keep Nb wr wK) := Lib.hid ⟨HR.out.2.trans (HKW.out.trans HX.out).of_nb, HKW.out.trans HX.out⟩
              have hne : e ≠ f := by
                have h1 := List.pairwise_iff_getElem.1 HS.out i (i + 1 + k) (by rw [HM.out]; exact hlt) hik' (by omega)
                obtain ⟨h2, h3⟩ := List.getElem?_eq_some_iff.1 HY.out.1
                obtain ⟨h4, h5⟩ := List.getElem?_eq_some_iff.1 HD.out.1
                rw [h3, h5] at h1
                intro e; rw [e] at h1; exact Nat.lt_irrefl _ h1
              have htz : tw = decide (mk ds e.id ≠ 0 ∧ mk ds e.id = mk ds f.id) := by
                rw [← HTW.out]; exact twoB_iff HS.out (fun x hx => HO.out x (HP.out.mem_iff.1 hx)) hem hfem hne
              have HTO : Hid (alikeTo (mk ds) e.id ((ds.drop (i + 1)).drop k) = (if tw = true then [(e.id, f.id)] else []) ++ alikeTo (mk ds) e.id ((ds.drop (i + 1)).drop (k + 1))) := Lib.hid (by
                rw [HD.out.2, alikeTo_cons, htz]; simp only [decide_eq_true_eq])
              clear htz hne HFF HW HL HC HGW HF1 HF2 HTW htw f0 f1 f2 f3
              cases tw with
              | true =>
                have HN0 : Hid (out ++ [(e.id, f.id)] ++ (alikeTo (mk ds) e.id ((ds.drop (i + 1)).drop (k + 1)) ++ alikes (mk ds) (ds.drop (i + 1))) = all) := Lib.hid (by
                  have := HR.out.1.sum
                  rw [HTO.out, if_pos rfl] at this
                  rw [← this]; simp)
                have hSQ := HR.out.1.row.keep HKK.out.2 (fun _ _ e => e)
                obtain ⟨g3, c3, w6, r1, r2, r3, r4⟩ := run_appN (P := Tryz.prog) 22 22 58 und_pairs elem_pair (by rfl) (by omega) hSQ (pcells (e.id, f.id)) 1 (pcells_one _) rfl (by omega) (by omega) (by omega)
                have HN : Hid (PrRel w4 (fun k => w4.heap.size ≤ k ∧ k ≠ X) (alikeTo (mk ds) e.id ((ds.drop (i + 1)).drop (k + 1)) ++ alikes (mk ds) (ds.drop (i + 1))) (out ++ [(e.id, f.id)]) all wI w6 (some ⟨g3, 0, none⟩) c3 ∧ Keep (fun k => w4.heap.size ≤ k) w4 w6) := Lib.hid (by
                  have z1 := HKK.out.2.size
                  have z3 := HR.out.2.size
                  have z5 := HR.out.1.keep.size
                  have z6 := HI.out.2.2
                  have k3 : Keep (fun k => w4.heap.size ≤ k ∧ k ≠ X) wr w6 := HKK.out.2.trans' r3 (fun _ _ e => e.elim) (fun x hx e => by obtain ⟨a, ha, rfl⟩ := e; exact hSQ.foot a ha)
                  refine ⟨⟨HN0.out, ?_, HR.out.1.keep.trans k3⟩, HR.out.2.trans' k3 (fun _ _ e => e) (fun _ _ e => e.1)⟩
                  rw [List.length_append, pcs_snoc]
                  exact r2.mono (fun x hx => by
                    rcases hx with hx | hx
                    · exact hx
                    · exact ⟨by omega, by omega⟩))
                have R1 := Lib.hid r1
                clear r1 r2 r3 r4 hSQ
                go_wp2_with (first | (at_builtin; refine wpList_app rfl _ _ _ rfl rfl rfl R1.out ?_))
                go_roundg (j - (k + 1))
                case measure => omega
                case rel => exact ⟨k + 1, out ++ [(e.id, f.id)], _, _, rfl, by rw [List.length_append]; rfl, by omega, Nat.le_refl _, HN⟩
              | false =>
                have HN0 : Hid (PrRel w4 (fun k => w4.heap.size ≤ k ∧ k ≠ X) (alikeTo (mk ds) e.id ((ds.drop (i + 1)).drop (k + 1)) ++ alikes (mk ds) (ds.drop (i + 1))) out all wI wK oo co ∧ Keep (fun k => w4.heap.size ≤ k) w4 wK) := Lib.hid (by
                  have := HR.out.1.sum
                  rw [HTO.out, if_neg (by simp), List.nil_append] at this
                  exact ⟨⟨this, HR.out.1.row.keep HKK.out.2 (fun _ _ e => e), HR.out.1.keep.trans HKK.out.2.of_nb⟩, HKK.out.1⟩)
                clear HTO
                go_wp2_with fail
                go_roundg (j - (k + 1))
                case measure => omega
                case rel => exact ⟨k + 1, out, oo, co, by go_num, rfl, by omega, Nat.le_refl _, HN0⟩
          · obtain rfl : k = j := by omega
            have HN : Hid (PrRel w4 (fun k => w4.heap.size ≤ k) (alikes (mk ds) (ds.drop (i + 1))) out all w4 wr oo co) := Lib.hid (by
              have := HR.out.1.sum
              rw [List.drop_of_length_le (by rw [HM2.out.2]; exact Nat.le_refl _)] at this
              exact ⟨by simpa [alikeTo] using this, HR.out.1.row.mono (fun _ h => h.1), HR.out.2⟩)
            clear HR
            go_wp2_with fail
            go_roundg (m - (i + 1))
            case measure => omega
            case rel => exact ⟨i + 1, out, oo, co, by go_num, rfl, by omega, Nat.le_refl _, HN⟩
    · obtain rfl : i = m := by omega
      have HF : Hid (CPairsPost w ds (.returned (.slice oo out.length co)) wr) := Lib.hid (by
        have h1 := HR.out.sum
        rw [List.drop_of_length_le (by rw [HM.out]; exact Nat.le_refl _)] at h1
        have h2 : out = alikes (mk ds) ds := by rw [HAL.out]; simpa [alikes] using h1
        have z0 := HK4.out.size
        refine ⟨oo, co, by rw [← h2], ?_, HK4.out.trans' HR.out.keep (fun _ _ e => e.elim) (fun x hx e => by have : w4.heap.size ≤ x := e; omega)⟩
        rw [← h2]
        exact HR.out.row.mono (fun x hx => by omega))
      clear HR
      go_wp2_with fail
      go_ret
      exact HF.out

end Go.Proofs.YtkpoobnldgfapabGreatDoor
