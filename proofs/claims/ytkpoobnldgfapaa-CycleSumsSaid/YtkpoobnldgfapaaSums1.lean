/- isthmuskeep.CycleSums: the walk. -/
import Derived.Test.YtkpoobnldgfapaaRings
import Derived.Test.YtkpoobnldgfapaaMapRange
import Derived.Test.YtkpoobnldgfapaaB5
import Derived.Deep.DeepCutAuto
import Derived.BigQuiet
import Derived.Deep.QuietTactic
set_option linter.unusedVariables false
set_option linter.unusedSimpArgs false
namespace Go.Proofs.Ytkpoobnldgfapaa
open Go.RowKit Pl Go.Maps

set_option maxRecDepth 100000 in
theorem cycleSums_long (n : Int) (oa : Option Addr) (len cap : Nat) (h : 45 < len) (w : World) :
    Calls Try.prog 9 #[.int .i64 n, .slice oa len cap] w fun e w' => e = .returned (.bool true) ∧ Keep Nb w w' := by
  go_enter Try.func9, Try.ntmps9
  go_wp2_with fail
  go_ret
  exact ⟨rfl, Keep.refl _ _⟩

/-- A set of twos in memory. -/
def ISet (w : World) (mb : Nat) (ps : List (Nat × Nat)) : Prop := ∃ mB, MapAt encP DP w mb mB ∧ ∀ p, mget mB p = if p ∈ ps then some (.bool true) else none

theorem ISet.keep {G : Nat → Prop} {w w' : World} {mb : Nat} {ps : List (Nat × Nat)} (h : ISet w mb ps) (k : Keep G w w') (hn : ¬ G mb) : ISet w' mb ps := by
  obtain ⟨mB, h1, h2⟩ := h; exact ⟨mB, h1.keep k hn, h2⟩
theorem ISet.lt {w : World} {mb : Nat} {ps : List (Nat × Nat)} (h : ISet w mb ps) : mb < w.heap.size := by obtain ⟨mB, h1, h2⟩ := h; exact h1.lt
theorem ISet.made (w : World) : ISet (w.alloc (.map #[] 0)) w.heap.size [] := ⟨[], MapAt.made encP DP w, fun p => rfl⟩

theorem ISet.look {wr : World} {mb : Nat} {ps : List (Nat × Nat)} (h : ISet wr mb ps) {a b : Nat} (ha : DN a) (hb : DN b) :
    (Instr.lookup 64 (.map (some mb)) (.agg #[.int .i64 a, .int .i64 b]) false).run Try.prog wr = .ok (.bool (decide ((a, b) ∈ ps))) wr := by
  obtain ⟨mB, h1, h2⟩ := h
  have hl := h1.look encP_enc Try.underlying64 (zero_bool wr) (a := (a, b)) ⟨ha, hb⟩ false
  rw [if_neg (by simp), h2] at hl
  by_cases e : (a, b) ∈ ps
  · rw [if_pos e] at hl; rw [decide_eq_true e]; exact hl
  · rw [if_neg e] at hl; rw [decide_eq_false e]; exact hl

theorem ISet.store {wr : World} {mb : Nat} {ps : List (Nat × Nat)} (h : ISet wr mb ps) {a b : Nat} (ha : DN a) (hb : DN b) :
    ∃ w', (Instr.mapUpdate 64 (.map (some mb)) (.agg #[.int .i64 a, .int .i64 b]) (.bool true)).run Try.prog wr = .ok () w' ∧ ISet w' mb (ps ++ [(a, b)]) ∧ Keep (fun j => j = mb) wr w' := by
  obtain ⟨mB, h1, h2⟩ := h
  obtain ⟨w', q1, q2, q3⟩ := h1.store encP_enc Try.underlying64 (a := (a, b)) ⟨ha, hb⟩ (.bool true)
  refine ⟨w', q1, ⟨_, q2, fun p => ?_⟩, q3⟩
  rw [mget_mset, h2]
  by_cases e : p = (a, b)
  · simp [e]
  · simp [e]

theorem ISet.mem {m : List ((Nat × Nat) × Value)} {ps : List (Nat × Nat)} (h2 : ∀ p, mget m p = if p ∈ ps then some (.bool true) else none) {p : (Nat × Nat) × Value} (hp : p ∈ m) : p.1 ∈ ps := by
  have h1 : p.1 ∈ m.map (·.1) := List.mem_map.2 ⟨p, hp, rfl⟩
  have h3 := mem_keys_iff.1 h1
  rw [h2] at h3
  by_cases e : p.1 ∈ ps
  · exact e
  · rw [if_neg e] at h3; cases h3

theorem covN_ne {v : Nat} (h : v ≠ 0) : covN v ≠ 0 := by
  unfold covN
  by_cases e : v % 18446744073709551616 = 0
  · have : v / 18446744073709551616 ≠ 0 := by omega
    have := pop_ne this
    omega
  · have := pop_ne e
    omega

theorem covN_le {v : Nat} (h : v < 2 ^ 128) : covN v ≤ 128 := by
  unfold covN
  have h1 := pop_le 64 (v % 18446744073709551616) (Nat.mod_lt _ (by decide))
  have h2 := pop_le 64 (v / 18446744073709551616) (Nat.div_lt_of_lt_mul (by rw [show (18446744073709551616 * 2 ^ 64 : Nat) = 2 ^ 128 by decide]; exact h))
  omega

set_option maxRecDepth 100000 in
set_option maxHeartbeats 4000000 in
theorem cycleSums_short (n0 : Int) (b off len cap : Nat) (oa : Option Addr) (hoa : 0 < len → oa = some ⟨b, off, none⟩) (A B : Nat → Int) (hlen : len ≤ 45) (hcap : len ≤ cap) (w : World) (hb : 0 < len → b < w.heap.size) (hP : Prs w b off len A B) :
    Calls Try.prog 9 #[.int .i64 n0, .slice oa len cap] w fun e w' => e = .returned (.bool true) ∧ Keep Nb w w' := by
  have HOA := Lib.hid hoa
  have HP := Lib.hid hP
  have HB := Lib.hid hb
  have hlen' : ¬ (45 : Int) < (len : Int) := by omega
  clear hoa hP hb
  go_enter Try.func9, Try.ntmps9
  go_wp2_with fail
  refine (covered_any _).mono ?_
  rintro e w1 ⟨rfl, hk1⟩
  have HK1 := Lib.hid hk1
  clear hk1
  obtain ⟨N, hN⟩ : ∃ N, N = 2 + pickN n0 13 := ⟨_, rfl⟩
  have hN14 : N ≤ 14 := by have := pickN_lt n0 (n := 13) (by omega); omega
  have hN2 : 2 ≤ N := by omega
  have HNN := Lib.hid hN
  clear hN
  go_wp2_with fail
  refine (kmade_any n0 b off len cap oa HOA.out A B N len HNN.out (by omega) (by omega) hcap _ (fun h => Nat.lt_of_lt_of_le (HB.out h) HK1.out.size) (HP.out.keep HK1.out (fun e => e))).mono ?_
  rintro e w2 ⟨gb, rfl, hG, hk2⟩
  obtain ⟨es, hes⟩ : ∃ es, madeK N A B len = es := ⟨_, rfl⟩
  have hok : EOk N es := by rw [← hes]; exact madeK_ok (by omega) (by omega)
  have hel : es.length ≤ 45 := by rw [← hes]; exact Nat.le_trans (madeK_len N A B len) hlen
  rw [hes] at hG
  have HG := Lib.hid hG
  have HK2 := Lib.hid (HK1.out.trans hk2)
  have HOK := Lib.hid hok
  clear hG hk2 hes hok
  go_wp2_with fail
  refine (cof_any _ _ gb N es HG.out (fun k hk => hk.2) (by omega) (by omega) HOK.out).mono ?_
  rintro e1 w3 ⟨c, rfl, hC, hk3⟩
  have HC := Lib.hid hC
  have HK3 := Lib.hid hk3
  clear hC hk3
  go_wp2_with fail
  refine (bof_any _ _ gb N es (HG.out.keep HK3.out (fun _ _ e => e)) (by omega) (by omega) HOK.out).mono ?_
  rintro e1 w4 ⟨br, rfl, hB, hk4⟩
  have HBR := Lib.hid hB
  have HK4 := Lib.hid hk4
  have HK34 := Lib.hid (HK3.out.trans hk4)
  have HK24 := Lib.hid (HK2.out.trans (HK3.out.trans hk4))
  have HC4 := Lib.hid (HC.out.keep hk4 (fun _ _ e => e))
  clear hB hk4
  go_wp2_with fail
  refine (crest_any _ _ c gb es HC4.out).mono ?_
  rintro e1 w4 ⟨rfl, rfl⟩
  go_wp2_with fail
  refine (edges_any _ _ gb N es (HG.out.keep HK34.out (fun _ _ e => e)) (by omega)).mono ?_
  rintro e1 w5 ⟨oE, cE, rfl, _, hk5⟩
  have HK5 := Lib.hid hk5
  clear hk5
  go_wp2_with fail
  refine (nodes_any _ _ gb N es ((HG.out.keep HK34.out (fun _ _ e => e)).keep HK5.out (fun _ _ e => e))).mono ?_
  rintro e1 w5 ⟨rfl, rfl⟩
  go_wp2_with fail
  refine (wholes_any _ _ br N es (HBR.out.keep HK5.out (fun _ _ e => e))).mono ?_
  rintro e1 w6 ⟨oW, mW, cW, rowsW, rfl, hMW, hB6, hk6⟩
  have hmW : mW = cnt N (isRoot (labs (ends es))) := by rw [hMW.n_eq, parts_length]
  have hrs := rs_count HOK.out.sorted HOK.out.over
  rw [← hmW] at hrs
  have hmN : mW ≤ N := by rw [hmW]; exact cnt_le _ _
  have HB6 := Lib.hid hB6
  have HK6 := Lib.hid hk6
  have hsum : (((rsE es).length : Int) != ((es.length : Int) - (N : Int)) + (mW : Int)) = false := by
    rw [bne_eq_false_iff_eq]; omega
  have hrl : (rsE es).length ≤ 100 := by omega
  clear hMW hB6 hk6 hmW hrs
  go_wp2_with fail
  obtain ⟨wT, rfl⟩ : ∃ wT : World, wT = w6 := ⟨_, rfl⟩
  have HKT : Hid (Keep (fun k => w3.heap.size ≤ k ∧ k < w4.heap.size) w4 wT) := Lib.hid (HK5.out.of_nb.trans HK6.out)
  have HCT : Hid (Cov (fun k => w2.heap.size ≤ k ∧ k < w3.heap.size) wT c gb es) := Lib.hid (HC4.out.keep HKT.out (fun k h h' => by omega))
  have HGT : Hid (Gr (fun k => w1.heap.size ≤ k ∧ k < w2.heap.size) wT gb N es) := Lib.hid ((HG.out.keep HK34.out (fun _ _ e => e)).keep HKT.out (fun k h h' => by have := HK3.out.size; omega))
  refine (cbridges_any _ _ wT c gb N es HCT.out HGT.out (by omega) HOK.out).mono ?_
  rintro e1 w7 ⟨oB, cB, rfl, hSB, hk7⟩
  have HSB := Lib.hid hSB
  have HK7 := Lib.hid hk7
  clear hSB hk7
  go_wp2_with fail
  refine (ids_any _ _ br N es (HB6.out.keep HK7.out (fun _ _ e => e)) (by omega)).mono ?_
  rintro e1 w8 ⟨l, oI, cI, rfl, hSI, hI, hB8, hk8, _⟩
  have hle : l = brE es := hI.unique ⟨brE_sorted HOK.out.sorted, fun id => mem_brE HOK.out.sorted⟩ (fun id => (hI.mem id).trans (mem_brE HOK.out.sorted).symm)
  subst hle
  have HB8 := Lib.hid hB8
  have HK8 := Lib.hid hk8
  have HSI := Lib.hid hSI
  have hbl := brE_len es
  clear hSI hI hB8 hk8
  go_wp2_with fail
  refine (same_q _ _ _ oB oI _ _ cB cI (brE es) (HSB.out.keep HK8.out (fun _ _ e => e)) HSI.out (by omega)).mono ?_
  rintro e1 w9 ⟨rfl, nq9, rfl⟩
  go_wp2_with fail
  have HK79 := Lib.hid ((HK7.out.trans HK8.out).drewN nq9)
  refine (cpairs_any _ _ _ c gb N es (HCT.out.keep HK79.out (fun _ _ e => e)) (HGT.out.keep HK79.out (fun _ _ e => e)) (by omega) HOK.out).mono ?_
  rintro e1 wP ⟨oP, cP, rfl, hSP, hkP⟩
  have hpl : (alikes (mk es) es).length ≤ 45 * 45 := Nat.le_trans (alikes_len _ _) (Nat.mul_le_mul hel hel)
  have hmem : ∀ p, p ∈ alikes (mk es) es → ∃ e f, e ∈ es ∧ f ∈ es ∧ e.id = p.1 ∧ f.id = p.2 ∧ mk es e.id ≠ 0 ∧ mk es e.id = mk es f.id := fun p hp => mem_alikes hp
  have hof : ∀ e f, e ∈ es → f ∈ es → e.id < f.id → mk es e.id ≠ 0 → mk es e.id = mk es f.id → (e.id, f.id) ∈ alikes (mk es) es := fun e f he hf h1 h2 h3 => alikes_of HOK.out.sorted he hf h1 h2 h3
  obtain ⟨ps, hps⟩ : ∃ ps, alikes (mk es) es = ps := ⟨_, rfl⟩
  rw [hps] at hSP hpl hmem hof ⊢
  have HMEM := Lib.hid hmem
  have HOF := Lib.hid hof
  have HKP := Lib.hid (HK79.out.trans hkP)
  have HKPP := Lib.hid hkP
  have HSP := Lib.hid hSP.tight
  have hzP := hkP.size
  obtain ⟨wV, hwV⟩ : ∃ wV, wP.alloc (.map #[] 0) = wV := ⟨_, rfl⟩
  have HV : Hid (ISet wV wP.heap.size [] ∧ Keep Nb wP wV ∧ wV.heap.size = wP.heap.size + 1) := Lib.hid (by rw [← hwV]; exact ⟨ISet.made wP, (Keep.refl Nb wP).alloc _, by simp⟩)
  have hmm := @run_makeMap Try.prog
  clear hps hmem hof hSP hkP
  go_wp2_with fail
  clear hwV
  obtain ⟨mb, hmb⟩ : ∃ mb, wP.heap.size = mb := ⟨_, rfl⟩
  rw [hmb] at HV ⊢
  have hzT := HKT.out.size
  have hz8 := HK79.out.size
  have hz3 := HK3.out.size
  have hz4 : w3.heap.size ≤ w4.heap.size := HK4.out.size
  have hzTP : wT.heap.size ≤ mb := by have := HKP.out.size; omega
  have hzV : mb < wV.heap.size := by have := HV.out.2.2; omega
  have HBV : Hid (Brs (fun k => w3.heap.size ≤ k ∧ k < w4.heap.size) wV br N es) := Lib.hid (HB8.out.keep (((Keep.refl Nb w8).drewN nq9).trans (HKPP.out.trans HV.out.2.1)) (fun _ _ e => e))
  have HKTV := Lib.hid (HKP.out.trans HV.out.2.1)
  have HCV := Lib.hid (HCT.out.keep HKTV.out (fun _ _ e => e))
  have HGV := Lib.hid (HGT.out.keep HKTV.out (fun _ _ e => e))
  have HSV := Lib.hid (HSP.out.keep HV.out.2.1 (fun _ _ e => e))
  have HALL : Hid (∀ W', Keep (fun k => k = mb ∨ (w3.heap.size ≤ k ∧ k < w4.heap.size)) wV W' → Cov (fun k => w2.heap.size ≤ k ∧ k < w3.heap.size) W' c gb es ∧ Gr (fun k => w1.heap.size ≤ k ∧ k < w2.heap.size) W' gb N es) := Lib.hid (fun W' k =>
    ⟨HCV.out.keep k (fun j h h' => by omega), HGV.out.keep k (fun j h h' => by omega)⟩)
  have HKWV : Hid (Keep Nb w wV) := Lib.hid (HK24.out.trans' (HKT.out.trans HKTV.out.of_nb) (fun _ _ e => e) (fun k hk e => by
    have e' : w3.heap.size ≤ k ∧ k < w4.heap.size := e
    have := HK2.out.size
    show False; omega))
  clear HSB HSI HB8 HB6 HBR HC4 HC hsum hbl hrl HCT HGT hlen' HOA HP HB
  go_loopg [10] ps.length (fun kx s10 wr => ∃ (i : Nat), s10 = .int .i64 i ∧ i ≤ ps.length ∧ ps.length - i ≤ kx ∧ Hid (ISet wr mb (ps.take i) ∧ Brs (fun k => w3.heap.size ≤ k ∧ k < w4.heap.size) wr br N es ∧ Keep (fun k => k = mb ∨ (w3.heap.size ≤ k ∧ k < w4.heap.size)) wV wr))
  case atStart => exact ⟨0, rfl, Nat.zero_le _, by omega, Lib.hid ⟨HV.out.1, HBV.out, Keep.refl _ _⟩⟩
  case round =>
    obtain ⟨i, rfl, hi, hg, HR⟩ := hrel
    by_cases hlt : i < ps.length
    · obtain ⟨p, hp⟩ : ∃ p, ps[i]? = some p := ⟨_, List.getElem?_eq_getElem hlt⟩
      obtain ⟨e, f, heE, hfE, hex, hfy, h0, hef⟩ := HMEM.out p (List.mem_of_getElem? hp)
      obtain ⟨x, y⟩ := p
      have hS := HSV.out.keep HR.out.2.2 (fun k h h' => by omega)
      obtain ⟨g, rfl, _, hnc, _⟩ := hS.pos (by omega)
      obtain ⟨d1, d2⟩ := hS.pairs hp
      have HEF := Lib.hid (And.intro heE (And.intro hfE (And.intro hex (And.intro hfy (And.intro h0 hef)))))
      have HPI := Lib.hid hp
      have hxs : x < 4611686018427387904 := by have := HOK.out.small e heE; have h : e.id = x := hex; omega
      have hys : y < 4611686018427387904 := by have := HOK.out.small f hfE; have h : f.id = y := hfy; omega
      obtain ⟨wa, hwa⟩ : ∃ wa, wr.alloc (.cells #[.int .i64 x, .int .i64 y] 31) = wa := ⟨_, rfl⟩
      have HA0 : Hid (Keep Nb wr wa ∧ wa.cell? ⟨wr.heap.size, 0, none⟩ = some (.int .i64 x) ∧ wa.cell? ⟨wr.heap.size, 1, none⟩ = some (.int .i64 y)) := Lib.hid (by
        rw [← hwa]; exact ⟨(Keep.refl Nb wr).alloc _, by rw [World.cell?_alloc_at _ _ _ _ rfl]; rfl, by rw [World.cell?_alloc_at _ _ _ _ rfl]; rfl⟩)
      clear hS hp heE hfE hex hfy h0 hef
      obtain ⟨_, f0, f1⟩ := HA0.out
      go_wp2_with fail
      clear hwa d1 d2
      obtain ⟨q, hq⟩ : ∃ q, wr.heap.size = q := ⟨_, rfl⟩
      rw [hq] at HA0 f0 f1 ⊢
      have HCA : Hid (∀ W', Keep Nb wa W' → Calls Try.prog 48 #[.pointer (some ⟨c, 0, none⟩), .int .i64 x, .int .i64 y] W' fun e w' => e = .returned (.tuple #[.bool true, .nilIface]) ∧ Keep Nb W' w') := Lib.hid (fun W' k => by
        have hh := HALL.out W' (HR.out.2.2.trans (HA0.out.1.trans k).of_nb)
        have := calike_any _ _ W' c gb N es e f hh.1 hh.2 (by omega) HOK.out HEF.out.1 HEF.out.2.1
        rw [decide_eq_true HEF.out.2.2.2.2.2] at this
        obtain ⟨_, _, h3, h4, _⟩ := HEF.out
        simp only [h3, h4] at this
        exact this)
      refine (HCA.out _ (Keep.refl _ _)).mono ?_
      rintro e1 wb ⟨rfl, hkb⟩
      have HKb := Lib.hid hkb
      have f0b := hkb.cell f0 (fun e => e)
      have f1b := hkb.cell f1 (fun e => e)
      obtain ⟨cv, hcv⟩ : ∃ cv, covN (mk es e.id) = cv := ⟨_, rfl⟩
      have hcv0 : cv ≠ 0 := by rw [← hcv]; exact covN_ne HEF.out.2.2.2.2.1
      have hcvl : cv ≤ 128 := by rw [← hcv]; exact covN_le (Nat.lt_of_lt_of_le (mk_lt es e.id) (Nat.pow_le_pow_right (by omega) (by have := (trees es HOK.out.sorted).len; omega)))
      have HCX : Hid (∀ W', Keep Nb wa W' → Calls Try.prog 49 #[.pointer (some ⟨c, 0, none⟩), .int .i64 x] W' fun e w' => e = .returned (.tuple #[.int .i64 cv, .nilIface]) ∧ Keep Nb W' w') := Lib.hid (fun W' k => by
        have hh := HALL.out W' (HR.out.2.2.trans (HA0.out.1.trans k).of_nb)
        have := ccovered_any _ _ W' c gb N es e hh.1 hh.2 (by omega) HOK.out HEF.out.1
        rw [hcv] at this
        obtain ⟨_, _, h3, h4, _⟩ := HEF.out
        simp only [h3] at this
        exact this)
      have HCY : Hid (∀ W', Keep Nb wa W' → Calls Try.prog 49 #[.pointer (some ⟨c, 0, none⟩), .int .i64 y] W' fun e w' => e = .returned (.tuple #[.int .i64 cv, .nilIface]) ∧ Keep Nb W' w') := Lib.hid (fun W' k => by
        have hh := HALL.out W' (HR.out.2.2.trans (HA0.out.1.trans k).of_nb)
        have := ccovered_any _ _ W' c gb N es f hh.1 hh.2 (by omega) HOK.out HEF.out.2.1
        rw [← HEF.out.2.2.2.2.2, hcv] at this
        obtain ⟨_, _, h3, h4, _⟩ := HEF.out
        simp only [h4] at this
        exact this)
      have HEX : Hid (∀ W', Keep Nb wa W' → Calls Try.prog 50 #[.pointer (some ⟨gb, 0, none⟩), .int .i64 x] W' (GEdgePost W' (.tuple #[.agg #[.int .i64 x, .int .i64 e.a, .int .i64 e.b], .nilIface]))) := Lib.hid (fun W' k => by
        have hh := HALL.out W' (HR.out.2.2.trans (HA0.out.1.trans k).of_nb)
        have := gedge_any _ W' gb N es e hh.2 HOK.out.sorted (by omega) HEF.out.1
        obtain ⟨_, _, h3, h4, _⟩ := HEF.out
        simp only [h3] at this
        exact this)
      have HEY : Hid (∀ W', Keep Nb wa W' → Calls Try.prog 50 #[.pointer (some ⟨gb, 0, none⟩), .int .i64 y] W' (GEdgePost W' (.tuple #[.agg #[.int .i64 y, .int .i64 f.a, .int .i64 f.b], .nilIface]))) := Lib.hid (fun W' k => by
        have hh := HALL.out W' (HR.out.2.2.trans (HA0.out.1.trans k).of_nb)
        have := gedge_any _ W' gb N es f hh.2 HOK.out.sorted (by omega) HEF.out.2.1
        obtain ⟨_, _, h3, h4, _⟩ := HEF.out
        simp only [h4] at this
        exact this)
      clear hcv hkb f0 f1 HCA
      go_wp2_with fail
      refine (HCX.out _ HKb.out).mono ?_
      rintro e1 wc ⟨rfl, hkc⟩
      have HKc := Lib.hid (HKb.out.trans hkc)
      have f0c := hkc.cell f0b (fun e => e)
      have f1c := hkc.cell f1b (fun e => e)
      clear hkc f0b f1b
      go_wp2_with fail
      refine (HCY.out _ HKc.out).mono ?_
      rintro e1 wd ⟨rfl, hkd⟩
      have HKd := Lib.hid (HKc.out.trans hkd)
      have f0d := hkd.cell f0c (fun e => e)
      have f1d := hkd.cell f1c (fun e => e)
      clear hkd f0c f1c
      go_wp2_with fail
      refine (HEX.out _ HKd.out).mono ?_
      rintro e1 we0 ⟨rfl, hke⟩
      have f0e := hke.cell f0d (fun e => e)
      have f1e := hke.cell f1d (fun e => e)
      obtain ⟨we, hwe⟩ : ∃ we, we0.alloc (.cells #[.int .i64 x, .int .i64 e.a, .int .i64 e.b] 54) = we := ⟨_, rfl⟩
      have HE1 : Hid (Keep Nb we0 we ∧ we.cell? ⟨we0.heap.size, 1, none⟩ = some (.int .i64 e.a)) := Lib.hid (by
        rw [← hwe]; exact ⟨(Keep.refl Nb we0).alloc _, by rw [World.cell?_alloc_at _ _ _ _ rfl]; rfl⟩)
      have HKe := Lib.hid ((HKd.out.trans hke).trans HE1.out.1)
      have g0e := HE1.out.1.cell f0e (fun e => e)
      have g1e := HE1.out.1.cell f1e (fun e => e)
      have h1e := HE1.out.2
      clear hke f0d f1d f0e f1e
      go_wp2_with fail
      clear hwe
      obtain ⟨q1, hq1⟩ : ∃ q1, we0.heap.size = q1 := ⟨_, rfl⟩
      rw [hq1] at h1e ⊢
      refine (HEY.out _ HKe.out).mono ?_
      rintro e1 wf0 ⟨rfl, hkf⟩
      have f0f := hkf.cell g0e (fun e => e)
      have f1f := hkf.cell g1e (fun e => e)
      have h1f := hkf.cell h1e (fun e => e)
      obtain ⟨wf, hwf⟩ : ∃ wf, wf0.alloc (.cells #[.int .i64 y, .int .i64 f.a, .int .i64 f.b] 54) = wf := ⟨_, rfl⟩
      have HF1 : Hid (Keep Nb wf0 wf ∧ wf.cell? ⟨wf0.heap.size, 1, none⟩ = some (.int .i64 f.a)) := Lib.hid (by
        rw [← hwf]; exact ⟨(Keep.refl Nb wf0).alloc _, by rw [World.cell?_alloc_at _ _ _ _ rfl]; rfl⟩)
      have HKf := Lib.hid ((HKe.out.trans hkf).trans HF1.out.1)
      have g0f := HF1.out.1.cell f0f (fun e => e)
      have g1f := HF1.out.1.cell f1f (fun e => e)
      have h1g := HF1.out.1.cell h1f (fun e => e)
      have h2g := HF1.out.2
      clear hkf g0e g1e h1e f0f f1f h1f HCX HCY HEX HEY
      go_wp2_with fail
      clear hwf
      obtain ⟨q2, hq2⟩ : ∃ q2, wf0.heap.size = q2 := ⟨_, rfl⟩
      rw [hq2] at h2g ⊢
      have HKR := Lib.hid (HA0.out.1.trans HKf.out)
      refine (btwice_any _ _ br N es e.a f.a (HOK.out.over e HEF.out.1).1 (HOK.out.over f HEF.out.2.1).1 (HR.out.2.1.keep HKR.out (fun _ _ e => e))).mono ?_
      rintro e1 wg ⟨r, hr, rfl, hBg, hkg⟩
      have hrt : r = true := by
        refine hr.2 ⟨?_, fun z _ => mk_twice HOK.out.sorted HEF.out.1 HEF.out.2.1 HEF.out.2.2.2.2.1 HEF.out.2.2.2.2.2 z.id⟩
        exact (mk_twice HOK.out.sorted HEF.out.1 HEF.out.2.1 HEF.out.2.2.2.2.1 HEF.out.2.2.2.2.2 0).of_sub sans_sub
      subst hrt
      have hzr := HR.out.2.2.size
      have hqn : ¬ (w3.heap.size ≤ q ∧ q < w4.heap.size) := by omega
      have f0 := hkg.cell g0f hqn
      have f1 := hkg.cell g1f hqn
      have hkrg : Keep (fun k => w3.heap.size ≤ k ∧ k < w4.heap.size) wr wg := HKR.out.of_nb.trans hkg
      have hI := HR.out.1.keep hkrg (fun h => by omega)
      obtain ⟨wh, r1, r2, r3⟩ := hI.store (a := x) (b := y) (by unfold DN; omega) (by unfold DN; omega)
      have HN : Hid (ISet wh mb (ps.take (i + 1)) ∧ Brs (fun k => w3.heap.size ≤ k ∧ k < w4.heap.size) wh br N es ∧ Keep (fun k => k = mb ∨ (w3.heap.size ≤ k ∧ k < w4.heap.size)) wV wh) := Lib.hid ⟨by
        rw [take_snoc' HPI.out]; exact r2, hBg.keep r3 (fun k h h' => by omega), (HR.out.2.2.trans' hkrg (fun _ _ e => e) (fun _ _ e => .inr e)).trans' r3 (fun _ _ e => e) (fun _ _ e => .inl e)⟩
      have R1 := Lib.hid r1
      have e1 : ((cv : Int) != (cv : Int)) = false := by simp
      have e2 : ((cv : Int) == 0) = false := by simp; omega
      clear hBg hkg hI r1 r2 r3 hkrg g0f g1f h1g h2g hr
      go_wp2_with (first | (at_mapUpdate; refine wpList_mapset rfl _ _ _ _ rfl rfl rfl rfl R1.out ?_))
      go_roundg (ps.length - (i + 1))
      case measure => omega
      case rel => exact ⟨i + 1, rfl, by omega, Nat.le_refl _, HN⟩
    · obtain rfl : i = ps.length := by omega
      have HI0 : Hid (ISet wr mb ps) := Lib.hid (by have := HR.out.1; rwa [List.take_length] at this)
      have HKR := Lib.hid HR.out.2.2
      have HBR := Lib.hid HR.out.2.1
      obtain ⟨mB, hmB, hmg⟩ := HI0.out
      obtain ⟨wj, cnt, q1, q2, q3, q4⟩ := hmB.range (P := Try.prog) (t := 64) Try.underlying64
      have HMG := Lib.hid hmg
      have HJ := Lib.hid (And.intro q2 q3)
      clear HR hmB hmg q2 q3
      go_wp2_with fail
      have hmbr : mb < wr.heap.size := HI0.out.lt
      have hzrj : wV.heap.size ≤ wr.heap.size := HKR.out.size
      obtain ⟨rj, hrj⟩ : ∃ rj, wr.heap.size = rj := ⟨_, rfl⟩
      rw [hrj] at HJ hzrj ⊢
      have HKJ : Hid (Keep (fun k => k = mb ∨ (w3.heap.size ≤ k ∧ k < w4.heap.size)) wV wj) := Lib.hid (HKR.out.trans HJ.out.2.of_nb)
      have HBJ := Lib.hid (HBR.out.keep HJ.out.2 (fun _ _ e => e))
      have HIJ := Lib.hid (HI0.out.keep HJ.out.2 (fun e => e))
      have hzj := HJ.out.2.size
      clear q1 q4 HBR HI0 HKR
      go_loopg [24] cnt (fun kx s24 wr2 => ∃ (cnt2 : Nat), cnt2 ≤ kx ∧ Hid (MRange encP wr2 mb rj mB cnt2 ∧ ISet wr2 mb ps ∧ Keep (fun k => k = rj) wj wr2))
      case atStart => exact ⟨cnt, Nat.le_refl _, Lib.hid ⟨HJ.out.1, HIJ.out, Keep.refl _ _⟩⟩
      case round =>
        obtain ⟨cnt2, hc2, HR2⟩ := hrel
        rcases HR2.out.1.next (P := Try.prog) (by omega) 0 with ⟨h0, hn⟩ | ⟨p, wn, cnt3, hp, hn, hM3, hlt3, hk3, hen⟩
        · have hkz : Keep (fun k => k = mb ∨ (w3.heap.size ≤ k ∧ k < w4.heap.size)) wV wr := HKJ.out.trans' HR2.out.2.2 (fun _ _ e => e) (fun k hk e => by
            have e' : k = rj := e
            have := HKJ.out.size
            omega)
          have HH := Lib.hid (HALL.out wr hkz)
          have HBZ : Hid (Brs (fun k => w3.heap.size ≤ k ∧ k < w4.heap.size) wr br N es) := Lib.hid (HBJ.out.keep HR2.out.2.2 (fun k h h' => by omega))
          have HKZ : Hid (Keep Nb w wr) := Lib.hid (HKWV.out.trans' hkz (fun _ _ e => e) (fun k hk e => by
            have e' : k = mb ∨ (w3.heap.size ≤ k ∧ k < w4.heap.size) := e
            have := HK24.out.size
            have := HK2.out.size
            show False; omega))
          have hzz := hkz.size
          clear hkz HR2 HBJ HIJ HKJ HJ
          obtain ⟨wz, rfl⟩ : ∃ wz : World, wz = wr := ⟨_, rfl⟩
          go_wp2_with fail
          refine (cthrice_any _ _ wz c gb N es HH.out.1 HH.out.2 (by omega) (by omega) HOK.out).mono ?_
          rintro e1 wt ⟨L, oT, mT, cT, rowsT, hCa, hLT, rfl, hMT, hkt⟩
          have HMT := Lib.hid hMT
          have HKt := Lib.hid hkt
          have HLT := Lib.hid hLT
          have HCA := Lib.hid hCa
          have hmT : mT = (parts N L).length := hMT.n_eq
          have hmTN : (parts N L).length ≤ N := by rw [parts_length]; exact cnt_le _ _
          clear hMT hkt hLT hCa
          subst hmT
          go_wp2_with fail
          have HBT : Hid (Brs (fun k => w3.heap.size ≤ k ∧ k < w4.heap.size) wt br N es) := Lib.hid (HBZ.out.keep HKt.out (fun _ _ e => e))
          have hzt := HKt.out.size
          have hz4z : w4.heap.size ≤ wz.heap.size := by omega
          go_loopg [27] (parts N L).length (fun kx s27 wr => ∃ (i : Nat), s27 = .int .i64 i ∧ i ≤ (parts N L).length ∧ (parts N L).length - i ≤ kx ∧ Hid (Brs (fun k => w3.heap.size ≤ k ∧ k < w4.heap.size) wr br N es ∧ Keep (fun k => w3.heap.size ≤ k ∧ k < w4.heap.size) wt wr))
          case atStart => exact ⟨0, rfl, Nat.zero_le _, by omega, Lib.hid ⟨HBT.out, Keep.refl _ _⟩⟩
          case round =>
            obtain ⟨i, rfl, hi, hg, HR⟩ := hrel
            by_cases hlt : i < (parts N L).length
            · obtain ⟨l, hl⟩ : ∃ l, (parts N L)[i]? = some l := ⟨_, List.getElem?_eq_getElem hlt⟩
              obtain ⟨r0, hr0, hLr, hmem, hll, hl0⟩ := parts_part HCA.out hl
              have hlN : l.length ≤ N := by rw [hll]; exact cnt_le _ _
              have HMB : Hid (∀ x, x ∈ l → x < N ∧ L r0 = L x) := Lib.hid (fun x hx => by have := (hmem x).1 hx; exact ⟨this.1, by rw [hLr, this.2]⟩)
              have HLL := Lib.hid hl
              have HL0 := Lib.hid hl0
              have hlpos : 0 < l.length := (List.getElem?_eq_some_iff.1 hl0).1
              clear hl hmem hll hl0 hLr
              go_wp2_with fail
              go_loopg [28] l.length (fun ky s28 wr2 => ∃ (k : Nat), s28 = .int .i64 k ∧ k ≤ l.length ∧ l.length - k ≤ ky ∧ Hid (Brs (fun k => w3.heap.size ≤ k ∧ k < w4.heap.size) wr2 br N es ∧ Keep (fun k => w3.heap.size ≤ k ∧ k < w4.heap.size) wt wr2))
              case atStart => exact ⟨0, rfl, Nat.zero_le _, by omega, HR⟩
              case round =>
                clear HR
                obtain ⟨k, rfl, hk, hgk, HR2⟩ := hrel
                have hM2 := HMT.out.keep HR2.out.2 (fun j h h' => by have := h.1; omega)
                obtain ⟨go, rw0, rfl, hnc, d1, hrow⟩ := hM2.at_ HLL.out
                have hrn : rw0.n = l.length := by have := hrow.len; simpa using this.symm
                rw [hrn] at d1 hrow
                obtain ⟨g1, hg1, hg1F, hnc1, hrow1⟩ := hrow.pos (by omega)
                have hg1z : w4.heap.size ≤ g1 := Nat.le_trans hz4z hg1F.1
                have hgoz : w4.heap.size ≤ go := Nat.le_trans hz4z (hM2.out.foot _ rfl).1
                clear hg1F
                rw [hg1] at d1
                obtain ⟨rc, hrc⟩ : ∃ rc, rw0.c = rc := ⟨_, rfl⟩
                rw [hrc] at d1 hnc1
                have d0 := hrow1.cell (ints_get HL0.out)
                clear hrow hrn hg1 hrc hM2
                by_cases hkl : k < l.length
                · obtain ⟨x, hx⟩ : ∃ x, l[k]? = some x := ⟨_, List.getElem?_eq_getElem hkl⟩
                  have d2 := hrow1.cell (ints_get hx)
                  obtain ⟨hxN, hxL⟩ := HMB.out x (List.mem_of_getElem? hx)
                  have HX : Hid (Thr es r0 x) := Lib.hid ((HLT.out r0 x hr0 hxN).1 hxL)
                  clear hx hrow1 hxL
                  go_wp2_with fail
                  go_cut [29, 30] (fun u v wc => u = .bool true ∧ v = .nilIface ∧ Hid (Brs (fun k => w3.heap.size ≤ k ∧ k < w4.heap.size) wc br N es ∧ Keep (fun k => w3.heap.size ≤ k ∧ k < w4.heap.size) wt wc))
                  case first =>
                    go_region_held3 (fun w' => w'.cell? ⟨go, i, none⟩ = some (.slice (some ⟨g1, 0, none⟩) l.length rc) ∧ w'.cell? ⟨g1, 0, none⟩ = some (.int .i64 r0) ∧ w'.cell? ⟨g1, k, none⟩ = some (.int .i64 x)) (go_keep) ((first | (go_at_call 35; refine (btwice_any _ _ br N es r0 x hr0 hxN (HR2.out.1.keep ((Keep.refl Nb wr).drew) (fun _ _ e => e))).mono ?_; rintro e9 wx ⟨rb, hrb, rfl, hBx, hkx⟩; obtain rfl : rb = true := (hrb.2 ⟨HX.out.whole, fun z _ => HX.out.one HOK.out.sorted z.id⟩); have HN := Lib.hid (And.intro hBx (HR2.out.2.trans (Keep.trans (((Keep.refl Nb wr).drew).of_nb) hkx))); have p1 := hkx.cell (p := ⟨go, i, none⟩) d1 (fun h => Nat.not_lt.2 hgoz h.2); have p2 := hkx.cell (p := ⟨g1, 0, none⟩) d0 (fun h => Nat.not_lt.2 hg1z h.2); have p3 := hkx.cell (p := ⟨g1, k, none⟩) d2 (fun h => Nat.not_lt.2 hg1z h.2); clear hrb hBx hkx) | (fail "none")))
                    all_goals
                      go_wp2_with fail
                      go_meet
                      exact ⟨rfl, rfl, HN⟩
                  case rest =>
                    obtain ⟨rfl, rfl, HN⟩ := hcut
                    clear d0 d1 d2 HR2 HX
                    go_wp2_with fail
                    go_roundg (l.length - (k + 1))
                    case measure => omega
                    case rel => exact ⟨k + 1, rfl, by omega, Nat.le_refl _, HN⟩
                · obtain rfl : k = l.length := by omega
                  have HN := HR2
                  clear d0 HR2 hrow1
                  go_wp2_with fail
                  go_roundg ((parts N L).length - (i + 1))
                  case measure => omega
                  case rel => exact ⟨i + 1, rfl, by omega, Nat.le_refl _, HN⟩
            · have HF : Hid (Keep Nb w wr) := Lib.hid ((HKZ.out.trans HKt.out).trans' HR.out.2 (fun _ _ e => e) (fun k hk e => by
                have e' : w3.heap.size ≤ k ∧ k < w4.heap.size := e
                have := HK24.out.size
                have := HK2.out.size
                show False; omega))
              clear HR
              go_wp2_with fail
              go_ret
              exact ⟨rfl, HF.out⟩
        · obtain ⟨⟨a, b⟩, pv⟩ := p
          have hps := ISet.mem HMG.out hp
          simp only [encP] at hn hen
          obtain ⟨e, f, heE, hfE, hex, hfy, h0, hef⟩ := HMEM.out _ hps
          have has : a < 4611686018427387904 := by have := HOK.out.small e heE; have h : e.id = a := hex; omega
          have hbs : b < 4611686018427387904 := by have := HOK.out.small f hfE; have h : f.id = b := hfy; omega
          have HPS : Hid (∃ e f, e ∈ es ∧ f ∈ es ∧ e.id = a ∧ f.id = b ∧ mk es e.id ≠ 0 ∧ mk es e.id = mk es f.id) := Lib.hid ⟨e, f, heE, hfE, hex, hfy, h0, hef⟩
          have HM3 := Lib.hid hM3
          have HK3 := Lib.hid hk3
          obtain ⟨wo, hwo⟩ : ∃ wo, wn.alloc (.cells #[.int .i64 a, .int .i64 b] 31) = wo := ⟨_, rfl⟩
          have HO1 : Hid (Keep Nb wn wo ∧ wo.cell? ⟨wn.heap.size, 0, none⟩ = some (.int .i64 a) ∧ wo.cell? ⟨wn.heap.size, 1, none⟩ = some (.int .i64 b)) := Lib.hid (by
            rw [← hwo]; exact ⟨(Keep.refl Nb wn).alloc _, by rw [World.cell?_alloc_at _ _ _ _ rfl]; rfl, by rw [World.cell?_alloc_at _ _ _ _ rfl]; rfl⟩)
          have hrjl := HR2.out.1.ltr
          have hzw := HR2.out.2.2.size
          have HIO : Hid (ISet wo mb ps) := Lib.hid ((HR2.out.2.1.keep hk3 (fun h => by omega)).keep HO1.out.1 (fun e => e))
          have HKO : Hid (Keep (fun k => k = rj) wj wo ∧ MRange encP wo mb rj mB cnt3) := Lib.hid ⟨(HR2.out.2.2.trans hk3).trans HO1.out.1.of_nb, hM3.keep HO1.out.1 (fun e => e) (fun e => e)⟩
          obtain ⟨mC, hmC, hmgC⟩ := HIO.out
          obtain ⟨wp, cntC, s1, s2, s3, s4⟩ := hmC.range (P := Try.prog) (t := 64) Try.underlying64
          have HMC := Lib.hid hmgC
          have HSS := Lib.hid (And.intro s2 s3)
          have hzn := hk3.size
          have hzo := HO1.out.1.size
          clear hp hps hM3 hk3 heE hfE hex hfy h0 hef hmC hmgC s2 s3
          go_wp2_with fail
          clear hwo
          obtain ⟨q5, hq5⟩ : ∃ q5, wn.heap.size = q5 := ⟨_, rfl⟩
          obtain ⟨r2, hr2⟩ : ∃ r2, wo.heap.size = r2 := ⟨_, rfl⟩
          rw [hq5] at HO1 ⊢
          rw [hr2] at HSS ⊢
          have HQ5 : Hid (wp.cell? ⟨q5, 0, none⟩ = some (.int .i64 a) ∧ wp.cell? ⟨q5, 1, none⟩ = some (.int .i64 b) ∧ q5 < r2 ∧ mb < r2 ∧ rj < r2) := Lib.hid
            ⟨HSS.out.2.cell HO1.out.2.1 (fun e => e), HSS.out.2.cell HO1.out.2.2 (fun e => e), by have := World.block_lt_of_cell? _ _ HO1.out.2.1; have h : q5 < wo.heap.size := this; omega, by have := HIO.out.lt; omega, by omega⟩
          have HIP := Lib.hid (HIO.out.keep HSS.out.2 (fun e => e))
          have HKP2 : Hid (Keep (fun k => k = rj) wj wp ∧ MRange encP wp mb rj mB cnt3) := Lib.hid ⟨HKO.out.1.trans HSS.out.2.of_nb, HKO.out.2.keep HSS.out.2 (fun e => e) (fun e => e)⟩
          have hzp := HSS.out.2.size
          have hmbr2 : mb < r2 := HQ5.out.2.2.2.1
          clear hn hen s1 HR2 HIO HKO
          go_loopg [25] cntC (fun ky s25 wr3 => ∃ (cntD : Nat), cntD ≤ ky ∧ Hid (MRange encP wr3 mb r2 mC cntD ∧ ISet wr3 mb ps ∧ Keep (fun k => k = r2) wp wr3))
          case atStart => exact ⟨cntC, Nat.le_refl _, Lib.hid ⟨HSS.out.1, HIP.out, Keep.refl _ _⟩⟩
          case round =>
            obtain ⟨cntD, hcD, HR3⟩ := hrel
            have hr2l := HR3.out.1.ltr
            rcases HR3.out.1.next (P := Try.prog) (by omega) 0 with ⟨h0, hn⟩ | ⟨p, wq, cntE, hp, hn, hM4, hlt4, hk4, hen⟩
            · have HN : Hid (MRange encP wr mb rj mB cnt3 ∧ ISet wr mb ps ∧ Keep (fun k => k = rj) wj wr) := Lib.hid
                ⟨HKP2.out.2.keep HR3.out.2.2 (fun h => by omega) (fun h => by have := HQ5.out.2.2.2.2; omega), HR3.out.2.1, HKP2.out.1.trans' HR3.out.2.2 (fun _ _ e => e) (fun k hk e => by
                  have e' : k = r2 := e
                  have := HSS.out.2.size
                  show k = rj; omega)⟩
              clear HR3
              go_wp2_with fail
              go_roundg cnt3
              case measure => omega
              case rel => exact ⟨cnt3, Nat.le_refl _, HN⟩
            · obtain ⟨⟨c2, d2⟩, pv2⟩ := p
              have hps := ISet.mem HMC.out hp
              simp only [encP] at hn hen
              obtain ⟨e, f, heE, hfE, hex, hfy, h0, hef⟩ := HMEM.out _ hps
              have hcs : c2 < 4611686018427387904 := by have := HOK.out.small e heE; have h : e.id = c2 := hex; omega
              have hds : d2 < 4611686018427387904 := by have := HOK.out.small f hfE; have h : f.id = d2 := hfy; omega
              have HQS : Hid (∃ e f, e ∈ es ∧ f ∈ es ∧ e.id = c2 ∧ f.id = d2 ∧ mk es e.id ≠ 0 ∧ mk es e.id = mk es f.id) := Lib.hid ⟨e, f, heE, hfE, hex, hfy, h0, hef⟩
              have hk5 : Keep (fun k => k = r2) wr (wq.alloc (.cells #[.int .i64 c2, .int .i64 d2] 31)) := hk4.alloc _
              have HN : Hid (MRange encP (wq.alloc (.cells #[.int .i64 c2, .int .i64 d2] 31)) mb r2 mC cntE ∧ ISet (wq.alloc (.cells #[.int .i64 c2, .int .i64 d2] 31)) mb ps ∧ Keep (fun k => k = r2) wp (wq.alloc (.cells #[.int .i64 c2, .int .i64 d2] 31))) := Lib.hid
                ⟨hM4.keep ((Keep.refl Nb wq).alloc _) (fun e => e) (fun e => e), HR3.out.2.1.keep hk5 (fun h => by omega), HR3.out.2.2.trans hk5⟩
              have f0 := (HR3.out.2.2.trans hk4).cell HQ5.out.1 (fun h => by have h1 : q5 = r2 := h; have := HQ5.out.2.2.1; omega)
              have f1 := (HR3.out.2.2.trans hk4).cell HQ5.out.2.1 (fun h => by have h1 : q5 = r2 := h; have := HQ5.out.2.2.1; omega)
              have lb5 := World.block_lt_of_cell? _ _ f0
              have hlook := HN.out.2.1.look (a := b) (b := d2) (by unfold DN; omega) (by unfold DN; omega)
              have hin : a = c2 → b < d2 → (b, d2) ∈ ps := fun h1 h2 => by
                obtain ⟨e1, f1, k1, k2, k3, k4, k5, k6⟩ := HPS.out
                obtain ⟨e2, f2, m1, m2, m3, m4, m5, m6⟩ := HQS.out
                have hee : mk es e1.id = mk es e2.id := by rw [k3, m3, h1]
                rw [← k4, ← m4]
                exact HOF.out f1 f2 k2 m2 (by omega) (by rw [← k6]; exact k5) (by rw [← k6, hee, m6])
              clear hp hps hM4 hk4 hk5 heE hfE hex hfy h0 hef
              by_cases h1 : a = c2
              · have b1 : ((a : Int) == (c2 : Int)) = true := by simp; omega
                by_cases h2 : b < d2
                · have b2 : decide (b < d2) = true := decide_eq_true h2
                  rw [decide_eq_true (hin h1 h2)] at hlook
                  clear hin h1 h2
                  go_wp2_with fail
                  go_roundg cntE
                  case measure => omega
                  case rel => exact ⟨cntE, Nat.le_refl _, HN⟩
                · have b2 : decide (b < d2) = false := decide_eq_false h2
                  clear hin h1 h2 hlook
                  go_wp2_with fail
                  go_roundg cntE
                  case measure => omega
                  case rel => exact ⟨cntE, Nat.le_refl _, HN⟩
              · have b1 : ((a : Int) == (c2 : Int)) = false := by simp; omega
                clear hin h1 hlook
                go_wp2_with fail
                go_roundg cntE
                case measure => omega
                case rel => exact ⟨cntE, Nat.le_refl _, HN⟩

end Go.Proofs.Ytkpoobnldgfapaa
