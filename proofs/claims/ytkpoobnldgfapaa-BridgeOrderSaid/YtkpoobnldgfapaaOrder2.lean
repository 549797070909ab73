/- isthmuskeep.BridgeOrder: the walk. -/
import Derived.Test.YtkpoobnldgfapaaCrossed
import Derived.Test.YtkpoobnldgfapaaA9
import Derived.Test.YtkpoobnldgfapaaCutOne
import Derived.Test.YtkpoobnldgfapaaPlStep
import Derived.Test.YtkpoobnldgfapaaB5
import Derived.Deep.DeepCutAuto
set_option linter.unusedVariables false
set_option linter.unusedSimpArgs false
namespace Go.Proofs.Ytkpoobnldgfapaa
open Go.RowKit Pl

set_option maxRecDepth 100000 in
theorem bridgeOrder_long (n : Int) (oa ob : Option Addr) (len cap len2 cap2 : Nat) (h : 60 < len ∨ 100 < len2) (w : World) :
    Calls Try.prog 8 #[.int .i64 n, .slice oa len cap, .slice ob len2 cap2] w fun e w' => e = .returned (.bool true) ∧ Keep Nb w w' := by
  by_cases h1 : 60 < len
  · clear h
    go_enter Try.func8, Try.ntmps8
    go_wp2_with fail
    go_ret
    exact ⟨rfl, Keep.refl _ _⟩
  · have h2 : 100 < len2 := by omega
    clear h
    go_enter Try.func8, Try.ntmps8
    go_wp2_with fail
    go_ret
    exact ⟨rfl, Keep.refl _ _⟩

/-- In the midst: these edges have come into b (from the other end), those are left. -/
structure BoRel (w4 : World) (Fb : Nat → Prop) (bb N : Nat) (es took left : List E) (oL : Option Addr) (cL : Nat) (wr : World) : Prop where
  come : Come es took left
  brs : Brs Fb wr bb N (took.map sw)
  row : Sl (fun k => w4.heap.size ≤ k) wr 54 3 oL left.length cL (ecs left)
  keep : Keep Fb w4 wr

set_option maxRecDepth 100000 in
set_option maxHeartbeats 4000000 in
theorem bridgeOrder_short (n0 : Int) (b off len cap : Nat) (oa : Option Addr) (hoa : 0 < len → oa = some ⟨b, off, none⟩) (A B : Nat → Int) (hlen : len ≤ 60) (hcap : len ≤ cap) (w : World) (hb : 0 < len → b < w.heap.size) (hP : Prs w b off len A B)
    (ob : Option Addr) (b2 off2 len2 cap2 : Nat) (C : Nat → Int) (hob : 0 < len2 → ob = some ⟨b2, off2, none⟩) (hlen2 : len2 ≤ 100) (hcap2 : len2 ≤ cap2) (hC : ∀ i, i < len2 → w.cell? ⟨b2, off2 + i, none⟩ = some (.int .i64 (C i))) :
    Calls Try.prog 8 #[.int .i64 n0, .slice oa len cap, .slice ob len2 cap2] w fun e w' => e = .returned (.bool true) ∧ Keep Nb w w' := by
  have HOA := Lib.hid hoa
  have HP := Lib.hid hP
  have HB := Lib.hid hb
  have HOB := Lib.hid hob
  have HC := Lib.hid hC
  have hlen' : ¬ (60 : Int) < (len : Int) := by omega
  have hlen2' : ¬ (100 : Int) < (len2 : Int) := by omega
  clear hoa hP hb hob hC
  go_enter Try.func8, Try.ntmps8
  go_wp2_with fail
  refine (crossed_any _).mono ?_
  rintro e w1 ⟨rfl, hk1⟩
  have HK1 := Lib.hid hk1
  clear hk1
  obtain ⟨N, hN⟩ : ∃ N, N = 2 + pickN n0 13 := ⟨_, rfl⟩
  have hN14 : N ≤ 14 := by have := pickN_lt n0 (n := 13) (by omega); omega
  have hN2 : 2 ≤ N := by omega
  have HNN := Lib.hid hN
  clear hN
  obtain ⟨m0, hm0⟩ : ∃ m0, m0 = min len 50 := ⟨_, rfl⟩
  go_wp2_with fail
  refine (kmade_any n0 b off len cap oa HOA.out A B N m0 HNN.out hm0 (by omega) hcap _ (fun h => Nat.lt_of_lt_of_le (HB.out h) HK1.out.size) (HP.out.keep HK1.out (fun e => e))).mono ?_
  rintro e w2 ⟨gb, rfl, hG, hk2⟩
  obtain ⟨es, hes⟩ : ∃ es, madeK N A B m0 = es := ⟨_, rfl⟩
  have hok : EOk N es := by rw [← hes]; exact madeK_ok (by omega) (by omega)
  have hel : es.length ≤ 50 := by rw [← hes]; have := madeK_len N A B m0; omega
  rw [hes] at hG
  have HG := Lib.hid hG
  have HK2 := Lib.hid (HK1.out.trans hk2)
  have HOK := Lib.hid hok
  clear hG hk2 hes hok hm0
  go_wp2_with fail
  refine (bof_any _ _ gb N es HG.out (by omega) (by omega) HOK.out).mono ?_
  rintro e1 w3 ⟨ba, rfl, hA, hk3⟩
  have HA := Lib.hid hA
  have HK3 := Lib.hid hk3
  clear hA hk3
  go_wp2_with fail
  refine (nodes_any _ _ gb N es (HG.out.keep HK3.out (fun _ _ e => e))).mono ?_
  rintro e1 w3 ⟨rfl, rfl⟩
  go_wp2_with fail
  refine (bnew_any N (by omega) _).mono ?_
  rintro e1 w4 ⟨bb, rfl, hB, hk4⟩
  have HBB := Lib.hid hB
  have HK4 := Lib.hid hk4
  clear hB hk4
  go_wp2_with fail
  refine (edges_any _ _ gb N es (HG.out.keep (HK3.out.trans HK4.out) (fun _ _ e => e)) (by omega)).mono ?_
  rintro e1 w5 ⟨oL, cL, rfl, hSL, hk5⟩
  have HK5 := Lib.hid hk5
  have H0 : Hid (BoRel w4 (fun k => w3.heap.size ≤ k ∧ k < w4.heap.size) bb N es [] es oL cL w5) := Lib.hid ⟨Come.start es, HBB.out.keep hk5 (fun _ _ e => e), hSL, hk5.of_nb⟩
  clear hSL hk5
  go_wp2_with fail
  go_loopg [11, 12] es.length (fun kx s11 s12 wr => ∃ (i : Nat) (took left : List E) (o : Option Addr) (c : Nat), s11 = .slice o left.length c ∧ s12 = .int .i64 i ∧ i ≤ 1000 ∧ i + left.length = es.length ∧ left.length ≤ kx ∧ Hid (BoRel w4 (fun k => w3.heap.size ≤ k ∧ k < w4.heap.size) bb N es took left o c wr))
  case atStart => exact ⟨0, [], es, oL, cL, rfl, rfl, by omega, by omega, Nat.le_refl _, H0⟩
  case round =>
    clear H0
    obtain ⟨i, took, left, oL, cL, rfl, rfl, hi, hil, hg, HR⟩ := hrel
    by_cases hpos : 0 < left.length
    · go_upto_if 64 with (fail)
      go_cut [13] (fun v wc => ∃ k : Nat, v = .int .i64 k ∧ k < left.length ∧ Keep Nb wr wc)
      case first =>
        by_cases h2 : 0 < len2
        · obtain ⟨j, hj⟩ : ∃ j, j = i % len2 := ⟨_, rfl⟩
          have hjl : j < len2 := by rw [hj]; exact Nat.mod_lt _ h2
          have hje : (i : Int) % (len2 : Int) = (j : Nat) := by rw [hj, Int.natCast_emod]
          have ho := HOB.out h2
          subst ho
          have kw : Keep Nb w wr := ((HK2.out.trans (HK3.out.trans HK4.out))).trans' HR.out.keep (fun _ _ e => e) (fun x hx e => by
            have a1 := HK2.out.size
            have a2 := HK3.out.size
            show False; omega)
          have d1 := kw.cell (HC.out j hjl) (fun e => e)
          obtain ⟨k, hk⟩ : ∃ k, pickN (C j) left.length = k := ⟨_, rfl⟩
          have HX := Lib.hid (pick_tt (C j) left.length k hk (by omega) (by omega))
          have hkl : k < left.length := by rw [← hk]; exact pickN_lt _ hpos
          clear hj kw hk
          go_wp2_with (go_at_call 11; refine (HX.out _).mono ?_; rintro e w' ⟨rfl, rfl⟩)
          go_meet
          exact ⟨k, rfl, hkl, Keep.refl _ _⟩
        · go_wp2_with fail
          go_meet
          exact ⟨left.length - 1, by go_num, by omega, Keep.refl _ _⟩
      case rest =>
        obtain ⟨k, rfl, hk, hkc⟩ := hcut
        obtain ⟨wd, rfl⟩ : ∃ wd : World, wd = wc := ⟨_, rfl⟩
        obtain ⟨e, he⟩ : ∃ e, left[k]? = some e := ⟨_, List.getElem?_eq_getElem hk⟩
        have hem : e ∈ es := HR.out.come.mem (List.mem_of_getElem? he)
        obtain ⟨hea, heb⟩ := HOK.out.over e hem
        have hne := HOK.out.ne e hem
        have hsm := HOK.out.small e hem
        have HFR := Lib.hid (HR.out.come.fresh HOK.out.sorted (List.mem_of_getElem? he))
        have hcl := HR.out.come.len
        have hS := HR.out.row.keep hkc (fun _ _ e => e)
        obtain ⟨gL, rfl, _, hcL, hrow⟩ := hS.pos hpos
        have d1 := hrow.edges.id _ _ he
        have d2 := hrow.edges.a _ _ he
        have d3 := hrow.edges.b _ _ he
        have HS := Lib.hid hS
        have HCM := Lib.hid (HR.out.come.next he)
        have HBR := Lib.hid (HR.out.brs.keep hkc (fun _ _ e => e))
        have HK6 := Lib.hid (HR.out.keep.trans hkc.of_nb)
        have htl : (took.map sw).length ≤ 60 := by rw [List.length_map]; omega
        clear hem he hkc hS hrow HR
        go_upto_region 20 with (fail)
        obtain ⟨wB, hwB⟩ : ∃ wB, wd.alloc (.cells #[.int .i64 e.id, .int .i64 e.a, .int .i64 e.b] 54) = wB := ⟨_, rfl⟩
        have kB : Keep Nb wd wB := by rw [← hwB]; exact (Keep.refl Nb wd).alloc _
        have p1 : wB.cell? ⟨wd.heap.size, 0, none⟩ = some (.int .i64 e.id) := by rw [← hwB, World.cell?_alloc_at _ _ _ _ rfl]; rfl
        have p2 : wB.cell? ⟨wd.heap.size, 1, none⟩ = some (.int .i64 e.a) := by rw [← hwB, World.cell?_alloc_at _ _ _ _ rfl]; rfl
        have p3 : wB.cell? ⟨wd.heap.size, 2, none⟩ = some (.int .i64 e.b) := by rw [← hwB, World.cell?_alloc_at _ _ _ _ rfl]; rfl
        rw [hwB]
        have KB := Lib.hid kB
        obtain ⟨bx, hbx⟩ : ∃ bx, wd.heap.size = bx := ⟨_, rfl⟩
        have hbx4 : w4.heap.size ≤ bx := by rw [← hbx]; exact HK6.out.size
        rw [hbx] at p1 p2 p3 ⊢
        have HP1 := Lib.hid p1
        have HP2 := Lib.hid p2
        have HP3 := Lib.hid p3
        clear hwB kB d1 d2 d3 p1 p2 p3
        go_wp2_with fail
        refine (ids_any _ _ bb N _ (HBR.out.keep KB.out (fun _ _ e => e)) (by omega)).mono ?_
        rintro e1 w6 ⟨l1, o6, c6, rfl, _, hI1, hB1, hk6, hl1⟩
        obtain ⟨q, hq⟩ : ∃ q, l1.length = q := ⟨_, rfl⟩
        rw [hq] at hl1 ⊢
        have HI1 := Lib.hid hI1
        have HB1 := Lib.hid hB1
        have HKa := Lib.hid hk6
        have HQ := Lib.hid hq
        clear hI1 hB1 hk6 hq
        go_wp2_with fail
        refine (bparts_any _ _ bb N _ HB1.out).mono ?_
        rintro e1 w7 ⟨T1, up1, hV1, o7, m1, c7, rows7, rfl, hM1, hB2, hk7⟩
        have HM1 := Lib.hid hM1.n_eq
        have HV1 := Lib.hid hV1
        have HB2 := Lib.hid hB2
        have HKb := Lib.hid ((HKa.out.of_nb (F := fun k => w3.heap.size ≤ k ∧ k < w4.heap.size)).trans hk7)
        have hm1 : m1 ≤ 60 := by rw [hM1.n_eq]; exact Nat.le_trans (parts_len_le _ _) (by omega)
        have p1 := HKb.out.cell HP1.out (fun h => Nat.not_lt.2 hbx4 h.2)
        have p2 := HKb.out.cell HP2.out (fun h => Nat.not_lt.2 hbx4 h.2)
        have p3 := HKb.out.cell HP3.out (fun h => Nat.not_lt.2 hbx4 h.2)
        clear hM1 hV1 hB2 hk7
        go_wp2_with fail
        refine (badd_any _ w7 bb N (took.map sw) e.id e.b e.a heb hea (fun h => hne h.symm) HFR.out hsm HB2.out (fun x hx => by
          have a1 := HK6.out.size
          have a2 := KB.out.size
          have a3 := HKb.out.size
          have a4 : x < w4.heap.size := hx.2
          omega)).mono ?_
        rintro e1 w8 ⟨rfl, hB3, hk8⟩
        obtain ⟨gs, hgs⟩ : ∃ gs, took.map sw ++ [⟨e.id, e.b, e.a⟩] = gs := ⟨_, rfl⟩
        rw [hgs] at hB3
        have HGS := Lib.hid hgs
        have hgl : gs.length ≤ 61 := by rw [← hgs, List.length_append]; simp only [List.length_cons, List.length_nil]; omega
        have HB3 := Lib.hid hB3
        have HK8 := Lib.hid hk8
        clear hgs hB3 hk8 p1 p2 p3
        obtain ⟨ok, hok⟩ : ∃ ok, (!decide (Conn (ends (took.map sw)) e.b e.a)) = ok := ⟨_, rfl⟩
        rw [hok]
        have HOKK := Lib.hid hok
        clear hok
        go_upto_region 24 with (fail)
        go_cut [130] (fun v wc => v = .bool false ∧ Brs (fun k => w3.heap.size ≤ k ∧ k < w4.heap.size) wc bb N gs ∧ Keep (fun k => w3.heap.size ≤ k ∧ k < w4.heap.size) w8 wc)
        case first =>
          cases ok with
          | true =>
            go_wp2_with fail
            refine (ids_any _ _ bb N gs HB3.out (by omega)).mono ?_
            rintro e1 w9 ⟨l2, o9, c9, rfl, _, hI2, hB4, hk9, hl2⟩
            obtain ⟨q2, hq2⟩ : ∃ q2, l2.length = q2 := ⟨_, rfl⟩
            rw [hq2] at hl2 ⊢
            have HI2 := Lib.hid hI2
            have HB4 := Lib.hid hB4
            have HKc := Lib.hid (hk9.of_nb (F := fun k => w3.heap.size ≤ k ∧ k < w4.heap.size))
            have HQ2 := Lib.hid hq2
            clear hI2 hB4 hk9 hq2
            obtain ⟨_, _, _, _, _, _, T0, _, _, up0, _, _, _, hV0, _⟩ := HB4.out
            obtain ⟨s1, _⟩ := step_new HGS.out.symm HV1.out hV0 HI1.out HI2.out heb hea HFR.out (by have := HOKK.out; simpa using this)
            have g1 : q2 ≤ q + 1 := by rw [← HQ2.out, ← HQ.out]; omega
            have g2 : q + 1 ≤ q2 := by rw [← HQ2.out, ← HQ.out]; omega
            clear s1 hV0
            go_wp2_with fail
            all_goals first
              | (exfalso; omega)
              | skip
            refine (bparts_any _ _ bb N gs HB4.out).mono ?_
            rintro e1 w10 ⟨T2, up2, hV2, o10, m2, c10, rows10, rfl, hM2, hB5, hk10⟩
            obtain ⟨s1, s2⟩ := step_new HGS.out.symm HV1.out hV2 HI1.out HI2.out heb hea HFR.out (by have := HOKK.out; simpa using this)
            have e2 : m2 = m1 := by rw [hM2.n_eq, HM1.out]; exact s2
            subst e2
            have HB5 := Lib.hid hB5
            have HKd := Lib.hid (HKc.out.trans hk10)
            clear hM2 hV2 hB5 hk10 s1 s2
            go_wp2_with fail
            all_goals first
              | (exfalso; omega)
              | (go_meet; exact ⟨rfl, HB5.out, HKd.out⟩)
              | (go_meet; exact ⟨by congr 1; simp; omega, HB5.out, HKd.out⟩)
          | false =>
            go_wp2_with fail
            refine (ids_any _ _ bb N gs HB3.out (by omega)).mono ?_
            rintro e1 w9 ⟨l2, o9, c9, rfl, _, hI2, hB4, hk9, hl2⟩
            obtain ⟨q2, hq2⟩ : ∃ q2, l2.length = q2 := ⟨_, rfl⟩
            rw [hq2] at hl2 ⊢
            have HI2 := Lib.hid hI2
            have HB4 := Lib.hid hB4
            have HKc := Lib.hid (hk9.of_nb (F := fun k => w3.heap.size ≤ k ∧ k < w4.heap.size))
            have HQ2 := Lib.hid hq2
            clear hI2 hB4 hk9 hq2
            go_wp2_with fail
            refine (bparts_any _ _ bb N gs HB4.out).mono ?_
            rintro e1 w10 ⟨T2, up2, hV2, o10, m2, c10, rows10, rfl, hM2, hB5, hk10⟩
            obtain ⟨W, s1, s2⟩ := step_ring HGS.out.symm HV1.out hV2 HI1.out HI2.out (by have := HOKK.out; simpa using this)
            have hm2 : m2 ≤ 60 := by rw [hM2.n_eq]; exact Nat.le_trans (parts_len_le _ _) (by omega)
            have g1 : q + m2 ≤ m1 + q2 := by rw [HM1.out, hM2.n_eq, s1, s2, HQ.out, HQ2.out]; omega
            have g2 : m1 + q2 ≤ q + m2 := by rw [HM1.out, hM2.n_eq, s1, s2, HQ.out, HQ2.out]; omega
            have HB5 := Lib.hid hB5
            have HKd := Lib.hid (HKc.out.trans hk10)
            clear hM2 hV2 hB5 hk10 s1 s2
            go_wp2_with fail
            all_goals first
              | (exfalso; omega)
              | (go_meet; exact ⟨rfl, HB5.out, HKd.out⟩)
              | (go_meet; exact ⟨by congr 1; simp; omega, HB5.out, HKd.out⟩)
        case rest =>
          obtain ⟨rfl, hB5, hkd⟩ := hcut
          obtain ⟨w9, rfl⟩ : ∃ w9 : World, w9 = wc := ⟨_, rfl⟩
          have HKe : Hid (Keep (fun k => w3.heap.size ≤ k ∧ k < w4.heap.size) wd w9) := Lib.hid ((((KB.out.of_nb).trans HKb.out).trans HK8.out).trans hkd)
          have HS9 := Lib.hid (HS.out.keep HKe.out (fun x hx h => Nat.not_lt.2 hx h.2))
          have HB6 := Lib.hid hB5
          have hgt : gs = (took ++ [e]).map sw := by rw [← HGS.out, List.map_append]; rfl
          have HGT := Lib.hid hgt
          clear hB5 hkd hgt
          have hz1 : ((k : Int) + 1).toNat = k + 1 := by omega
          have hz2 : IntKind.i64.wrap ((k : Int) + 1) = (k : Int) + 1 := IntWalk.i64_in _ (by omega)
          have hz3 : (0 : Int) ≤ (k : Int) + 1 := by omega
          have hz4 : (k : Int) + 1 ≤ (left.length : Int) := by omega
          have hz5 : k ≤ cL := by omega
          have hz6 : (k : Int) ≤ (cL : Int) := by omega
          have hz7 : ¬ cL = 0 := by omega
          have mixed : (Try.prog).follows Departure.mixedOrders = true := by kernel_rfl
          have HLN : Hid ((left.take k ++ left.drop (k + 1)).length = left.length - 1) := Lib.hid (by simp; omega)
          have HN : Hid (∀ (v2 : World) (a2 : Nat) (o2 : Addr), Sl (fun j => w9.heap.size ≤ j) v2 54 3 (some o2) (left.length - 1) a2 (ecs (left.take k ++ left.drop (k + 1))) → Keep Nb w9.drew v2 → Hid (BoRel w4 (fun k => w3.heap.size ≤ k ∧ k < w4.heap.size) bb N es (took ++ [e]) (left.take k ++ left.drop (k + 1)) (some o2) a2 v2)) := Lib.hid (fun v2 a2 o2 h3 h4 => by
            have k9 : Keep Nb w9 v2 := ((Keep.refl Nb w9).drew).trans h4
            have a1 := HK6.out.size
            have a2 := HKe.out.size
            refine Lib.hid ⟨HCM.out, ?_, ?_, (HK6.out.trans HKe.out).trans k9.of_nb⟩
            · rw [← HGT.out]; exact HB6.out.keep k9 (fun _ _ e => e)
            · rw [HLN.out]; exact h3.mono (fun j hj => by omega))
          by_cases hkc : cL = k + 1
          · obtain ⟨o1, a1, v1, o2, a2, v2, H1, H2, H3, H4⟩ := cut_one (HS9.out.keep ((Keep.refl Nb w9).drew) (fun _ _ e => e)) hk (by omega) ⟨gL, 0, none⟩ (fun h => by omega) cL (cL - (k + 1))
            simp only [World.size_drew] at H1 H3
            have hz9 : left.length - (k + 1) = 0 := by omega
            have hz10 : cL - (k + 1) = 0 := by omega
            rw [hz9, hz10] at H2
            have H1 := Lib.hid H1
            have H2 := Lib.hid H2
            have H3 := Lib.hid H3
            have H4 := Lib.hid H4
            clear hz10
            subst hkc
            have hz8 : (k : Int) ≤ (k : Int) + 1 := by omega
            go_wp2_with fail
            go_region_law_o (first | (refine step_app_run rfl _ _ 51 51 rfl (.slice (some ⟨w9.heap.size, 0, none⟩) 0 0) (.slice (some ⟨gL, 0, none⟩) k (k + 1)) (by simp [Act.eval, Act.put]) (by simp [Act.eval, Act.put]) H1.out ?_) | (refine step_app_run rfl _ _ 51 51 rfl (.slice (some o1) k a1) (.slice (some ⟨gL, 0, none⟩) 0 0) (by simp [Act.eval, Act.put]) (by simp [Act.eval, Act.put]) H2.out ?_))
            all_goals
              (try go_wp2)
              go_roundg (left.length - 1)
              case measure => omega
              case rel => exact ⟨i + 1, took ++ [e], left.take k ++ left.drop (k + 1), some o2, a2, by rw [HLN.out], by simp, by omega, by rw [HLN.out]; omega, by rw [HLN.out]; exact Nat.le_refl _, HN.out v2 a2 o2 H3.out H4.out⟩
          · obtain ⟨o1, a1, v1, o2, a2, v2, H1, H2, H3, H4⟩ := cut_one (HS9.out.keep ((Keep.refl Nb w9).drew) (fun _ _ e => e)) hk (by omega) ⟨gL, (k + 1) * 3, none⟩ (fun _ => rfl) cL (cL - (k + 1))
            simp only [World.size_drew] at H1 H3
            have H1 := Lib.hid H1
            have H2 := Lib.hid H2
            have H3 := Lib.hid H3
            have H4 := Lib.hid H4
            go_wp2_with fail
            go_region_law_o (first | (refine step_app_run rfl _ _ 51 51 rfl (.slice (some ⟨w9.heap.size, 0, none⟩) 0 0) (.slice (some ⟨gL, 0, none⟩) k cL) (by simp [Act.eval, Act.put]) (by simp [Act.eval, Act.put]) H1.out ?_) | (refine step_app_run rfl _ _ 51 51 rfl (.slice (some o1) k a1) (.slice (some ⟨gL, (k + 1) * 3, none⟩) (left.length - (k + 1)) (cL - (k + 1))) (by simp [Act.eval, Act.put]) (by simp [Act.eval, Act.put]) H2.out ?_))
            all_goals
              (try go_wp2)
              go_roundg (left.length - 1)
              case measure => omega
              case rel => exact ⟨i + 1, took ++ [e], left.take k ++ left.drop (k + 1), some o2, a2, by rw [HLN.out], by simp, by omega, by rw [HLN.out]; omega, by rw [HLN.out]; exact Nat.le_refl _, HN.out v2 a2 o2 H3.out H4.out⟩
    · have hl0 : left = [] := List.eq_nil_of_length_eq_zero (by omega)
      subst hl0
      have HAL := Lib.hid (HR.out.come.done)
      have HBA := Lib.hid ((HA.out.keep HK4.out (fun _ _ e => e)).keep HR.out.keep (fun x hx h => Nat.not_lt.2 h.1 hx.2))
      have HBE := Lib.hid HR.out.brs
      have htl : (took.map sw).length ≤ 60 := by
        have := HR.out.come.len
        rw [List.length_map]; simp only [List.length_nil] at this; omega
      have HKF : Hid (Keep Nb w wr) := Lib.hid (((HK2.out.trans (HK3.out.trans HK4.out))).trans' HR.out.keep (fun _ _ e => e) (fun x hx e => by
            have a1 := HK2.out.size
            have a2 := HK3.out.size
            show False; omega))
      have h4r : Hid (w4.heap.size ≤ wr.heap.size) := Lib.hid HR.out.keep.size
      clear HR
      go_wp2_with fail
      refine (ids_any _ _ ba N es HBA.out (by omega)).mono ?_
      rintro e1 x1 ⟨l1, o1, c1, rfl, hS1, hI1, hB1, hk1, _⟩
      have HS1 := Lib.hid hS1
      have HI1 := Lib.hid hI1
      have HB1 := Lib.hid hB1
      have HX1 := Lib.hid hk1
      clear hS1 hI1 hB1 hk1
      go_wp2_with fail
      refine (ids_any _ _ bb N _ (HBE.out.keep HX1.out (fun _ _ e => e)) (by omega)).mono ?_
      rintro e1 x2 ⟨l2, o2, c2, rfl, hS2, hI2, hB2, hk2, hl2⟩
      have hll := end_ids HAL.out HI1.out hI2
      subst hll
      have HS2 := Lib.hid hS2
      have HB2 := Lib.hid hB2
      have HX2 := Lib.hid hk2
      clear hS2 hI2 hB2 hk2
      go_wp2_with fail
      refine (same_q _ _ x2 o1 o2 _ _ c1 c2 l1 (HS1.out.keep HX2.out (fun _ _ e => e)) HS2.out (by omega)).mono ?_
      rintro e1 x3 ⟨rfl, m3, rfl⟩
      have HB3 := Lib.hid (HB1.out.keep HX2.out (fun _ _ e => e))
      have hsz : Hid (w4.heap.size ≤ x2.heap.size) := Lib.hid (Nat.le_trans h4r.out (HX1.out.trans HX2.out).size)
      have HKG : Hid (Keep Nb w x2) := Lib.hid (HKF.out.trans (HX1.out.trans HX2.out))
      clear HB1 HBA HBE HS1 HS2 HX1 HX2
      have HB4 := Lib.hid (HB3.out.keep ((Keep.refl Nb x2).drewN m3) (fun _ _ e => e))
      have HB5 := Lib.hid (HB2.out.keep ((Keep.refl Nb x2).drewN m3) (fun _ _ e => e))
      obtain ⟨y2, hy2⟩ : ∃ y2, x2.drewN m3 = y2 := ⟨_, rfl⟩
      have hKy : Keep Nb x2 y2 := by rw [← hy2]; exact (Keep.refl Nb x2).drewN m3
      have HKy := Lib.hid (HKG.out.trans hKy)
      have hsy : Hid (w4.heap.size ≤ y2.heap.size) := Lib.hid (Nat.le_trans hsz.out hKy.size)
      rw [hy2] at HB4 HB5 ⊢
      clear HB3 HB2 hKy hy2 hsz HKG
      go_wp2_with fail
      refine (wholes_any _ _ ba N es HB4.out).mono ?_
      rintro e1 x3 ⟨o3, n3, c3, rows3, rfl, hM3, hB6, hk3⟩
      have HM3 := Lib.hid hM3
      have HB6 := Lib.hid hB6
      have HX3 := Lib.hid hk3
      clear hM3 hB6 hk3
      go_wp2_with fail
      refine (wholes_any _ _ bb N _ (HB5.out.keep HX3.out (fun x hx h => Nat.not_lt.2 hx.1 h.2))).mono ?_
      rintro e1 x4 ⟨o4, n4, c4, rows4, rfl, hM4, hB7, hk4⟩
      have hE : Hid (parts N (labs (ends (took.map sw))) = parts N (labs (ends es))) := Lib.hid (end_wholes HAL.out).symm
      rw [hE.out] at hM4
      have HM4 := Lib.hid hM4
      have HM3' := Lib.hid (HM3.out.keep hk4 (fun x hx h => by
        have a1 := hsy.out
        have a2 : y2.heap.size ≤ x := hx.1
        have a3 : x < w4.heap.size := h.2
        omega))
      have HB7 := Lib.hid hB7
      have HB8 := Lib.hid (HB6.out.keep hk4 (fun x hx h => Nat.not_lt.2 h.1 hx.2))
      have hw3 : Hid (w3.heap.size ≤ w4.heap.size) := Lib.hid HK4.out.size
      have HKz : Hid (Keep Nb w x4) := Lib.hid ((HKy.out.trans' HX3.out (fun _ _ e => e) (fun x hx h => by
        have a1 := HK2.out.size
        have a4 : w2.heap.size ≤ x := h.1
        show False; omega)).trans' hk4 (fun _ _ e => e) (fun x hx h => by
        have a1 := HK2.out.size
        have a2 := HK3.out.size
        have a4 : w3.heap.size ≤ x := h.1
        show False; omega))
      have hsx : Hid (w4.heap.size ≤ x4.heap.size) := Lib.hid (Nat.le_trans hsy.out (Nat.le_trans HX3.out.size hk4.size))
      clear hM4 hB7 hk4 HB4 HB5 HB6 HM3 HX3 HKy
      go_wp2_with fail
      refine (sames_q _ _ x4 o3 o4 _ _ c3 c4 rows3 rows4 (parts N (labs (ends es))) HM3'.out HM4.out (by have := parts_len_le N (labs (ends es)); omega) (fun l hl => by
        obtain ⟨i, hi⟩ := List.getElem?_of_mem hl
        have := parts_part_le hi
        omega)).mono ?_
      rintro e1 x5 ⟨rfl, m5, rfl⟩
      have HB9 := Lib.hid (HB8.out.keep ((Keep.refl Nb x4).drewN m5) (fun _ _ e => e))
      have HB10 := Lib.hid (HB7.out.keep ((Keep.refl Nb x4).drewN m5) (fun _ _ e => e))
      obtain ⟨y4, hy4⟩ : ∃ y4, x4.drewN m5 = y4 := ⟨_, rfl⟩
      have hKy : Keep Nb x4 y4 := by rw [← hy4]; exact (Keep.refl Nb x4).drewN m5
      have HKy := Lib.hid (HKz.out.trans hKy)
      have hsy4 : Hid (w4.heap.size ≤ y4.heap.size) := Lib.hid (Nat.le_trans hsx.out hKy.size)
      rw [hy4] at HB9 HB10 ⊢
      clear HB7 HB8 hKy hy4 hsx HKz HM3' HM4
      go_wp2_with fail
      refine (bparts_any _ _ ba N es HB9.out).mono ?_
      rintro e1 x5 ⟨T1, up1, hV1, o5, n5, c5, rows5, rfl, hM5, hB11, hk5⟩
      have HM5 := Lib.hid hM5
      have HV1 := Lib.hid hV1
      have HB11 := Lib.hid hB11
      have HX5 := Lib.hid hk5
      clear hM5 hV1 hB11 hk5
      go_wp2_with fail
      refine (bparts_any _ _ bb N _ (HB10.out.keep HX5.out (fun x hx h => Nat.not_lt.2 hx.1 h.2))).mono ?_
      rintro e1 x6 ⟨T2, up2, hV2, o6, n6, c6, rows6, rfl, hM6, hB12, hk6⟩
      have hE2 : Hid (parts N T2 = parts N T1) := Lib.hid (end_parts HAL.out HV1.out hV2).symm
      rw [hE2.out] at hM6
      have HM6 := Lib.hid hM6
      have HM5' := Lib.hid (HM5.out.keep hk6 (fun x hx h => by
        have a1 := hsy4.out
        have a2 : y4.heap.size ≤ x := hx.1
        have a3 : x < w4.heap.size := h.2
        omega))
      have HB13 := Lib.hid (HB11.out.keep hk6 (fun x hx h => Nat.not_lt.2 h.1 hx.2))
      have HKz : Hid (Keep Nb w x6) := Lib.hid ((HKy.out.trans' HX5.out (fun _ _ e => e) (fun x hx h => by
        have a1 := HK2.out.size
        have a4 : w2.heap.size ≤ x := h.1
        show False; omega)).trans' hk6 (fun _ _ e => e) (fun x hx h => by
        have a1 := HK2.out.size
        have a2 := HK3.out.size
        have a4 : w3.heap.size ≤ x := h.1
        show False; omega))
      clear hM6 hV2 hB12 hk6 HB9 HB10 HB11 HM5 HX5 HKy
      go_wp2_with fail
      refine (sames_q _ _ x6 o5 o6 _ _ c5 c6 rows5 rows6 (parts N T1) HM5'.out HM6.out (by have := parts_len_le N T1; omega) (fun l hl => by
        obtain ⟨i, hi⟩ := List.getElem?_of_mem hl
        have := parts_part_le hi
        omega)).mono ?_
      rintro e1 x7 ⟨rfl, m7, rfl⟩
      have HB14 := Lib.hid (HB13.out.keep ((Keep.refl Nb x6).drewN m7) (fun _ _ e => e))
      obtain ⟨y6, hy6⟩ : ∃ y6, x6.drewN m7 = y6 := ⟨_, rfl⟩
      have hKy : Keep Nb x6 y6 := by rw [← hy6]; exact (Keep.refl Nb x6).drewN m7
      have HKy := Lib.hid (HKz.out.trans hKy)
      rw [hy6] at HB14 ⊢
      clear hKy hy6 HKz HM5' HM6 HB13
      go_wp2_with fail
      refine (bparts_any _ _ ba N es HB14.out).mono ?_
      rintro e1 x8 ⟨T3, up3, hV3, o8, n8, c8, rows8, rfl, hM8, hB15, hk8⟩
      have HN8 := Lib.hid hM8.n_eq
      have hn8 : n8 ≤ 14 := by rw [hM8.n_eq]; exact Nat.le_trans (parts_len_le _ _) hN14
      have HV3 := Lib.hid hV3
      have HB15 := Lib.hid hB15
      have HX8 := Lib.hid hk8
      clear hM8 hV3 hB15 hk8 HB14
      go_wp2_with fail
      refine (wholes_any _ _ ba N es HB15.out).mono ?_
      rintro e1 x9 ⟨o9, n9, c9, rows9, rfl, hM9, hB16, hk9⟩
      have HN9 := Lib.hid hM9.n_eq
      have hn9 : n9 ≤ 14 := by rw [hM9.n_eq]; exact Nat.le_trans (parts_len_le _ _) hN14
      have HB16 := Lib.hid hB16
      have HX9 := Lib.hid (HX8.out.trans hk9)
      clear hM9 hB16 hk9 HX8 HB15
      go_wp2_with fail
      refine (ids_any _ _ ba N es HB16.out (by omega)).mono ?_
      rintro e1 x10 ⟨l3, o10, c10, rfl, hS10, hI10, hB17, hk10, hl10⟩
      have hsum := end_sum HV3.out hI10
      obtain ⟨q3, hq3⟩ : ∃ q3, l3.length = q3 := ⟨_, rfl⟩
      rw [hq3] at hl10 ⊢
      have g1 : n8 ≤ n9 + q3 := by rw [HN8.out, HN9.out, ← hq3]; omega
      have g2 : n9 + q3 ≤ n8 := by rw [HN8.out, HN9.out, ← hq3]; omega
      have HKW : Hid (Keep Nb w x10) := Lib.hid ((HKy.out.trans' HX9.out (fun _ _ e => e) (fun x hx h => by
        have a1 := HK2.out.size
        have a4 : w2.heap.size ≤ x := h.1
        show False; omega)).trans hk10)
      clear hS10 hI10 hB17 hk10 hsum hq3 HKy HX9 HB16
      go_wp2_with fail
      all_goals first
        | (exfalso; omega)
        | (go_ret; exact ⟨rfl, HKW.out⟩)
        | (go_ret; exact ⟨by congr 2; simp; omega, HKW.out⟩)

end Go.Proofs.Ytkpoobnldgfapaa
