/- isthmuslaw.CycleOf: the walk. -/
import Derived.Test.YtkpoobnldgfapabGreatDoorCRound
import Derived.Test.YtkpoobnldgfapabGreatDoorCErr
import Derived.Test.YtkpoobnldgfapabGreatDoorRPairs
import Derived.Test.YtkpoobnldgfapabGreatDoorRThrice
import Derived.Test.YtkpoobnldgfapabGreatDoorLSame
import Derived.Test.YtkpoobnldgfapabGreatDoorSamePairs
import Derived.Test.YtkpoobnldgfapabGreatDoorC2
import Derived.Test.YtkpoobnldgfapabGreatDoorLMade
import Derived.Test.YtkpoobnldgfapabGreatDoorAsErr
import Derived.Test.YtkpoobnldgfapabGreatDoorPlFCount
import Derived.Test.YtkpoobnldgfapabGreatDoorPlRound
import Derived.Test.YtkpoobnldgfapabGreatDoorMadeOk
import Derived.Deep.QuietTactic
import Derived.BigQuiet
set_option linter.unusedVariables false
set_option linter.unusedSimpArgs false
namespace Go.Proofs.YtkpoobnldgfapabGreatDoor
open Go.RowKit Pl Go.Maps

set_option maxRecDepth 100000 in
theorem cycof_big (n : Int) (oa : Option Addr) (len cap : Nat) (h : 30 < len) (w : World) :
    Calls Tryz.prog 3 #[.int .i64 n, .slice oa len cap] w fun e w' => e = .returned (.bool true) ∧ Keep Nb w w' := by
  have h1 : (30 : Int) < (len : Int) := by omega
  clear h
  go_enter Tryz.func3, Tryz.ntmps3
  go_wp2_with fail
  go_ret
  exact ⟨rfl, Keep.refl _ _⟩

set_option maxRecDepth 100000 in
theorem cycof_none (n : Int) (oa : Option Addr) (len cap : Nat) (h : n < 0 ∨ 16 < n) (hl : len ≤ 30) (w : World) :
    Calls Tryz.prog 3 #[.int .i64 n, .slice oa len cap] w fun e w' => e = .returned (.bool true) ∧ Keep Nb w w' := by
  have HC := Lib.hid (lmade_none n oa len cap (by omega) w)
  have h1 : (len : Int) ≤ 30 := by omega
  clear h hl
  go_enter Tryz.func3, Tryz.ntmps3
  go_wp2_with fail
  refine HC.out.mono ?_
  rintro e w1 ⟨rfl, hk⟩
  have HK := Lib.hid hk
  clear hk
  go_wp2_with fail
  go_ret
  exact ⟨rfl, HK.out⟩

def AlikeR (al : Bool) (x y : Nat) (tr rs : List E) : Prop := al = true ↔ ∀ r, r ∈ rs → (x ∈ ringOf tr r ↔ y ∈ ringOf tr r)

theorem AlikeR.next {al al' : Bool} {x y : Nat} {tr rs rs' : List E} {r : E} (h : AlikeR al x y tr rs) (he : rs' = rs ++ [r]) (ha : al' = true ↔ al = true ∧ (x ∈ ringOf tr r ↔ y ∈ ringOf tr r)) : AlikeR al' x y tr rs' := by
  unfold AlikeR at *
  rw [ha, h, he]
  constructor
  · rintro ⟨h1, h2⟩ z hz
    rcases List.mem_append.1 hz with hz | hz
    · exact h1 z hz
    · rw [List.mem_singleton.1 hz]; exact h2
  · intro h1
    exact ⟨fun z hz => h1 z (List.mem_append_left _ hz), h1 r (List.mem_append_right _ (List.mem_singleton.2 rfl))⟩

set_option maxRecDepth 100000 in
set_option maxHeartbeats 4000000 in
theorem cycof_any (n : Nat) (b off len cap : Nat) (oa : Option Addr) (hoa : 0 < len → oa = some ⟨b, off, none⟩) (A B : Nat → Int) (hn : n ≤ 16) (hlen : len ≤ 30) (hcap : len ≤ cap)
    (w : World) (hbw : 0 < len → b < w.heap.size) (hP : Prs w b off len A B) (hE : ErrT w) (hok : EOk n (madeG n A B len)) (hid : ∀ e, e ∈ madeG n A B len → e.id ≤ 60) :
    Calls Tryz.prog 3 #[.int .i64 n, .slice oa len cap] w fun e w' => e = .returned (.bool true) ∧ Keep Nb w w' := by
  have HC := Lib.hid (lmade_any n b off len cap oa hoa A B hn (by omega) hcap w hbw hP)
  have hM := made_made n A B len
  obtain ⟨es, hes⟩ : ∃ es, madeG n A B len = es := ⟨_, rfl⟩
  obtain ⟨fs, hfs⟩ : ∃ fs, madeR n A B len = fs := ⟨_, rfl⟩
  have HEQ := Lib.hid (And.intro hes hfs)
  rw [hes] at hM hok hid
  rw [hfs] at hM
  have hel : es.length ≤ 30 := by have := hM.le; omega
  have hfl : fs.length ≤ 30 := by rw [← hM.len]; exact hel
  have HPM := Lib.hid hM.perm'
  have HOK := Lib.hid hok
  have HID := Lib.hid hid
  have HOF : Hid (Over n fs) := Lib.hid (fun e he => hM.over e ((hM.mem e).2 he))
  have HE := Lib.hid hE
  have h30 : (len : Int) ≤ 30 := by omega
  clear hM hok hid hes hfs hE hoa hbw hP
  go_enter Tryz.func3, Tryz.ntmps3
  go_wp2_with fail
  refine HC.out.mono ?_
  rintro e w1 ⟨gb, rb, rfl, F1, F2, hG, hR, hf1, hf2, hf3, hk1⟩
  rw [HEQ.out.1] at hG
  rw [HEQ.out.2] at hR
  have HG := Lib.hid hG
  have HR := Lib.hid hR
  have HK1 := Lib.hid hk1
  have HCF := Lib.hid (cof_any F1 w1 gb n es hG (fun k h => (hf1 k h).2) (by omega) (by omega) HOK.out)
  clear hG hR hk1 hf1 hf2 hf3 HC
  go_wp2_with fail
  refine HCF.out.mono ?_
  rintro e w2 ⟨c, rfl, hCv, hk2⟩
  have HCV := Lib.hid hCv
  have HK2 := Lib.hid hk2
  have HRR := Lib.hid (rrings_any F2 w2 rb n es fs (HR.out.keep hk2 (fun _ _ e => e)) (by omega) (by omega) HOK.out.sorted HPM.out HOF.out)
  clear hCv hk2 HCF
  go_wp2_with fail
  refine HRR.out.mono ?_
  rintro e w3 ⟨o, cr, rfl, hNR, hk3⟩
  have HNR := Lib.hid hNR
  have HK3 := Lib.hid hk3
  obtain ⟨R, hR⟩ : ∃ R, (rsE es).length = R := ⟨_, rfl⟩
  rw [hR]
  have hRl : R ≤ 30 := by rw [← hR]; have := (trees es HOK.out.sorted).len; omega
  have HRL := Lib.hid hR
  clear hNR hk3 HRR hR
  go_upto_region 10 with (fail)
  obtain ⟨Q, hQ⟩ : ∃ Q, w3.heap.size = Q := ⟨_, rfl⟩
  obtain ⟨W, hW⟩ : ∃ W, w3.alloc (.cells #[.slice o R cr] 29) = W := ⟨_, rfl⟩
  have kW : Keep Nb w3 W := by rw [← hW]; exact (Keep.refl Nb w3).alloc _
  have cq : W.cell? ⟨Q, 0, none⟩ = some (.slice o R cr) := by rw [← hW, ← hQ, World.cell?_alloc_at _ _ _ _ rfl]; rfl
  have k2W := HK3.out.trans kW
  have HCW : Hid (Cov (fun k => w1.heap.size ≤ k ∧ k < w2.heap.size) W c gb es) := Lib.hid (HCV.out.keep k2W (fun _ _ e => e))
  have HGW : Hid (Gr F1 W gb n es) := Lib.hid (HG.out.keep (HK2.out.trans k2W) (fun _ _ e => e))
  have HRW : Hid (RGr F2 W rb n fs) := Lib.hid (HR.out.keep (HK2.out.trans k2W) (fun _ _ e => e))
  have HNW : Hid (NRows (fun k => w2.heap.size ≤ k) W o R cr ((rsE es).map (ringOf (trE es)))) := Lib.hid (by
    have := HNR.out.keep kW (fun _ _ e => e)
    rwa [HRL.out] at this)
  have HKW : Hid (Keep Nb w W) := Lib.hid ((HK1.out.trans HK2.out).trans k2W)
  have HCQ := Lib.hid cq
  have H1 : Hid (∀ wx, Keep Nb W wx → Calls Tryz.prog 14 #[.pointer (some ⟨c, 0, none⟩)] wx fun e w' => e = .returned (.int .i64 (R : Nat)) ∧ w' = wx) := Lib.hid (fun wx k => by
    have := crest_any _ wx c gb es (HCW.out.keep k (fun _ _ e => e))
    rw [HRL.out] at this
    exact this.mono (fun _ _ h => ⟨h.1, h.2.symm⟩))
  have H2 : Hid (∀ wx, Keep Nb W wx → Calls Tryz.prog 16 #[.pointer (some ⟨c, 0, none⟩)] wx (CBridgesPost wx es)) := Lib.hid (fun wx k => cbridges_any _ _ wx c gb n es (HCW.out.keep k (fun _ _ e => e)) (HGW.out.keep k (fun _ _ e => e)) (by omega) HOK.out)
  have H3 : Hid (∀ wx, Keep Nb W wx → Calls Tryz.prog 17 #[.pointer (some ⟨rb, 0, none⟩)] wx (RListPost wx (brE es))) := Lib.hid (fun wx k => rbridges_any _ wx rb n es fs (HRW.out.keep k (fun _ _ e => e)) (by omega) (by omega) HOK.out.sorted HPM.out HOF.out)
  have H4 : Hid (∀ wx, Keep Nb W wx → Calls Tryz.prog 19 #[.pointer (some ⟨c, 0, none⟩)] wx (CPairsPost wx es)) := Lib.hid (fun wx k => cpairs_any _ _ wx c gb n es (HCW.out.keep k (fun _ _ e => e)) (HGW.out.keep k (fun _ _ e => e)) (by omega) HOK.out)
  have H5 : Hid (∀ wx, Keep Nb W wx → Calls Tryz.prog 20 #[.pointer (some ⟨rb, 0, none⟩)] wx (CPairsPost wx es)) := Lib.hid (fun wx k => rpairs_any _ wx rb n es fs (HRW.out.keep k (fun _ _ e => e)) (by omega) (by omega) HOK.out.sorted HPM.out HOF.out)
  have H6 : Hid (∀ wx, Keep Nb W wx → Calls Tryz.prog 22 #[.pointer (some ⟨c, 0, none⟩)] wx (CThricePost wx n es)) := Lib.hid (fun wx k => cthrice_any _ _ wx c gb n es (HCW.out.keep k (fun _ _ e => e)) (HGW.out.keep k (fun _ _ e => e)) (by omega) (by omega) HOK.out)
  have H7 : Hid (∀ wx, Keep Nb W wx → Calls Tryz.prog 23 #[.pointer (some ⟨rb, 0, none⟩)] wx (RThrPost wx n es)) := Lib.hid (fun wx k => rthrice_any _ wx rb n es fs (HRW.out.keep k (fun _ _ e => e)) (by omega) (by omega) HOK.out.sorted HPM.out HOF.out)
  clear kW k2W HCV HG HR HNR
  try rw [hW]
  try rw [hQ]
  clear hW hQ
  have HBND : Hid (∀ L, (parts n L).length ≤ 100000 ∧ ∀ l, l ∈ parts n L → l.length ≤ 100000) := Lib.hid (fun L => by
    refine ⟨by rw [parts_length]; have := cnt_le n (isRoot L); omega, fun l hl => ?_⟩
    rw [parts_eq] at hl
    obtain ⟨r, _, rfl⟩ := List.mem_map.1 hl
    refine Nat.le_trans (List.length_filter_le _ _) ?_
    rw [List.length_range]; omega)
  go_region_held3 (fun w' => w'.cell? ⟨Q, 0, none⟩ = some (.slice o R cr)) (go_keep) ((first
    | (go_at_call 14; refine (H1.out _ (show Keep Nb W _ from (by (repeat (first | exact Keep.refl _ _ | refine Keep.alloc ?_ _ | refine Keep.drew ?_ | refine Keep.drewN ?_ _))))).mono ?_; rintro e1 wA ⟨rfl, rfl⟩)
    | (go_at_call 16; refine (H2.out _ (show Keep Nb W _ from (by (repeat (first | exact Keep.refl _ _ | refine Keep.alloc ?_ _ | refine Keep.drew ?_ | refine Keep.drewN ?_ _))))).mono ?_; rintro e2 w4 ⟨o4, c4, rfl, hS4, hk4⟩; have k4 := Keep.trans (show Keep Nb W _ from (by (repeat (first | exact Keep.refl _ _ | refine Keep.alloc ?_ _ | refine Keep.drew ?_ | refine Keep.drewN ?_ _)))) hk4; have q4 := k4.cell HCQ.out (fun e => e); have S4 := Lib.hid hS4; have K4 := Lib.hid k4; clear hS4 hk4 k4)
    | (go_at_call 17; refine (H3.out _ (K4.out.trans (show Keep Nb w4 _ from (by (repeat (first | exact Keep.refl _ _ | refine Keep.alloc ?_ _ | refine Keep.drew ?_ | refine Keep.drewN ?_ _)))))).mono ?_; rintro e3 w5 ⟨o5, m5, c5, rfl, hS5, hm5, hk5⟩; have j5 := Keep.trans (show Keep Nb w4 _ from (by (repeat (first | exact Keep.refl _ _ | refine Keep.alloc ?_ _ | refine Keep.drew ?_ | refine Keep.drewN ?_ _)))) hk5; have q5 := (K4.out.trans j5).cell HCQ.out (fun e => e); have S5 := Lib.hid (And.intro (S4.out.keep j5 (fun _ _ e => e)) hS5); have K5 := Lib.hid (K4.out.trans j5); clear hS5 hm5 hk5 j5)
    | (go_at_call 15; refine (lsame_q _ _ _ _ _ _ _ _ _ (brE es) (S5.out.1.keep (show Keep Nb w5 _ from (by (repeat (first | exact Keep.refl _ _ | refine Keep.alloc ?_ _ | refine Keep.drew ?_ | refine Keep.drewN ?_ _)))) (fun _ _ e => e)) (S5.out.2.keep (show Keep Nb w5 _ from (by (repeat (first | exact Keep.refl _ _ | refine Keep.alloc ?_ _ | refine Keep.drew ?_ | refine Keep.drewN ?_ _)))) (fun _ _ e => e)) (by have := brE_len es; omega)).mono ?_; rintro e6 w6 ⟨rfl, m6, hm6⟩; have j6 : Keep Nb w5 w6 := (by rw [hm6]; exact Keep.drewN (show Keep Nb w5 _ from (by (repeat (first | exact Keep.refl _ _ | refine Keep.alloc ?_ _ | refine Keep.drew ?_ | refine Keep.drewN ?_ _)))) _); have q6 := (K5.out.trans j6).cell HCQ.out (fun e => e); have K6 := Lib.hid (K5.out.trans j6); clear hm6 j6)
    | (go_at_call 19; refine (H4.out _ (K6.out.trans (show Keep Nb w6 _ from (by (repeat (first | exact Keep.refl _ _ | refine Keep.alloc ?_ _ | refine Keep.drew ?_ | refine Keep.drewN ?_ _)))))).mono ?_; rintro e7 w7 ⟨o7, c7, rfl, hS7, hk7⟩; have k7 := K6.out.trans (Keep.trans (show Keep Nb w6 _ from (by (repeat (first | exact Keep.refl _ _ | refine Keep.alloc ?_ _ | refine Keep.drew ?_ | refine Keep.drewN ?_ _)))) hk7); have q7 := k7.cell HCQ.out (fun e => e); have S7 := Lib.hid hS7; have K7 := Lib.hid k7; clear hS7 hk7 k7)
    | (go_at_call 20; refine (H5.out _ (K7.out.trans (show Keep Nb w7 _ from (by (repeat (first | exact Keep.refl _ _ | refine Keep.alloc ?_ _ | refine Keep.drew ?_ | refine Keep.drewN ?_ _)))))).mono ?_; rintro e8 w8 ⟨o8, c8, rfl, hS8, hk8⟩; have j8 := Keep.trans (show Keep Nb w7 _ from (by (repeat (first | exact Keep.refl _ _ | refine Keep.alloc ?_ _ | refine Keep.drew ?_ | refine Keep.drewN ?_ _)))) hk8; have q8 := (K7.out.trans j8).cell HCQ.out (fun e => e); have S8 := Lib.hid (And.intro ((S7.out.keep j8 (fun _ _ e => e)).mono (G := fun _ => True) (fun _ _ => trivial)) (hS8.mono (G := fun _ => True) (fun _ _ => trivial))); have K8 := Lib.hid (K7.out.trans j8); clear hS8 hk8 j8)
    | (go_at_call 18; refine (samePairs_any (fun _ => True) _ _ _ _ _ (alikes (mk es) es) (S8.out.1.keep (show Keep Nb w8 _ from (by (repeat (first | exact Keep.refl _ _ | refine Keep.alloc ?_ _ | refine Keep.drew ?_ | refine Keep.drewN ?_ _)))) (fun _ _ e => e)) (S8.out.2.keep (show Keep Nb w8 _ from (by (repeat (first | exact Keep.refl _ _ | refine Keep.alloc ?_ _ | refine Keep.drew ?_ | refine Keep.drewN ?_ _)))) (fun _ _ e => e)) (by have h1 := alikes_len (mk es) es; have h2 := Nat.mul_le_mul hel hel; omega)).mono ?_; rintro e9 w9 ⟨rfl, hk9⟩; have j9 : Keep Nb w8 w9 := Keep.trans (show Keep Nb w8 _ from (by (repeat (first | exact Keep.refl _ _ | refine Keep.alloc ?_ _ | refine Keep.drew ?_ | refine Keep.drewN ?_ _)))) hk9; have q9 := (K8.out.trans j9).cell HCQ.out (fun e => e); have K9 := Lib.hid (K8.out.trans j9); clear hk9 j9)
    | (go_at_call 22; refine (H6.out _ (K9.out.trans (show Keep Nb w9 _ from (by (repeat (first | exact Keep.refl _ _ | refine Keep.alloc ?_ _ | refine Keep.drew ?_ | refine Keep.drewN ?_ _)))))).mono ?_; rintro e10 w10 ⟨L10, o10, m10, c10, rows10, hC10, hL10, rfl, hS10, hk10⟩; have k10 := K9.out.trans (Keep.trans (show Keep Nb w9 _ from (by (repeat (first | exact Keep.refl _ _ | refine Keep.alloc ?_ _ | refine Keep.drew ?_ | refine Keep.drewN ?_ _)))) hk10); have q10 := k10.cell HCQ.out (fun e => e); have S10 := Lib.hid hS10; have T10 := Lib.hid (And.intro hC10 hL10); have K10 := Lib.hid k10; clear hS10 hk10 k10 hC10 hL10)
    | (go_at_call 23; refine (H7.out _ (K10.out.trans (show Keep Nb w10 _ from (by (repeat (first | exact Keep.refl _ _ | refine Keep.alloc ?_ _ | refine Keep.drew ?_ | refine Keep.drewN ?_ _)))))).mono ?_; rintro e11 w11 ⟨L11, hC11, hL11, o11, m11, c11, rows11, rfl, hS11, hk11⟩; have j11 := Keep.trans (show Keep Nb w10 _ from (by (repeat (first | exact Keep.refl _ _ | refine Keep.alloc ?_ _ | refine Keep.drew ?_ | refine Keep.drewN ?_ _)))) hk11; have q11 := (K10.out.trans j11).cell HCQ.out (fun e => e); have hpp : parts n L11 = parts n L10 := parts_congr (canon_unique hC11 T10.out.1 (fun x y hx hy => (hL11 x y hx hy).trans (T10.out.2 x y hx hy).symm)); have S11 := Lib.hid (And.intro (S10.out.keep j11 (fun _ _ e => e)) (hpp ▸ hS11)); have K11 := Lib.hid (K10.out.trans j11); clear hS11 hk11 j11 hpp hC11 hL11)
    | (go_at_call 21; refine (lsames_q _ _ _ _ _ _ _ _ _ _ _ (parts n L10) (S11.out.1.keep (show Keep Nb w11 _ from (by (repeat (first | exact Keep.refl _ _ | refine Keep.alloc ?_ _ | refine Keep.drew ?_ | refine Keep.drewN ?_ _)))) (fun _ _ e => e)) (S11.out.2.keep (show Keep Nb w11 _ from (by (repeat (first | exact Keep.refl _ _ | refine Keep.alloc ?_ _ | refine Keep.drew ?_ | refine Keep.drewN ?_ _)))) (fun _ _ e => e)) (HBND.out L10).1 (HBND.out L10).2).mono ?_; rintro e12 w12 ⟨rfl, m12, hm12⟩; have j12 : Keep Nb w11 w12 := (by rw [hm12]; exact Keep.drewN (show Keep Nb w11 _ from (by (repeat (first | exact Keep.refl _ _ | refine Keep.alloc ?_ _ | refine Keep.drew ?_ | refine Keep.drewN ?_ _)))) _); have q12 := (K11.out.trans j12).cell HCQ.out (fun e => e); have K12 := Lib.hid (K11.out.trans j12); clear hm12 j12)
    | (fail "none")))
  obtain ⟨wz, rfl⟩ : ∃ w' : World, w' = w12 := ⟨_, rfl⟩
  have HSO := Lib.hid (rsorted_any _ wz rb n fs (HRW.out.keep K12.out (fun _ _ e => e)) (by omega))
  clear H1 H2 H3 H4 H5 H6 H7 S5 S8 S11 K4 K5 K6 K7 K8 K9 K10 K11 HBND
  go_wp2_with fail
  refine HSO.out.mono ?_
  rintro e w13 ⟨ds, od, cd, rfl, hp1, hs1, hS1, hk1⟩
  have hds := sorted_of HOK.out.sorted HPM.out hp1 hs1
  subst hds
  obtain ⟨m, hm⟩ : ∃ m, fs.length = m := ⟨_, rfl⟩
  rw [hm] at hS1 ⊢ hfl
  have HM : Hid (ds.length = m) := Lib.hid (by rw [HPM.out.length_eq]; exact hm)
  have HS1 := Lib.hid hS1
  have HK13 := Lib.hid (K12.out.trans hk1)
  clear hp1 hs1 hS1 hk1 hm HSO
  obtain ⟨Nn, hNn⟩ : ∃ k, (rsE ds).length = k := ⟨_, rfl⟩
  have HRO : Hid (∀ wx, Keep Nb W wx → ∀ (id k : Nat) (r : E), (rsE ds)[k]? = some r → Calls Tryz.prog 25 #[.int .i64 (id : Nat), .int .i64 (k : Nat), .pointer (some ⟨Q, 0, none⟩)] wx fun e w' => e = .returned (.bool (decide (id ∈ ringOf (trE ds) r))) ∧ w' = wx) := Lib.hid (fun wx kx id k r hr => by
    have hkl := (List.getElem?_eq_some_iff.1 hr).1
    have htl := (trees ds HOK.out.sorted).subT.length_le
    refine cround_any _ wx Q id k R cr o ((rsE ds).map (ringOf (trE ds))) (ringOf (trE ds) r) (kx.cell HCQ.out (fun e => e)) (HNW.out.keep kx (fun _ _ e => e)) (by rw [List.getElem?_map, hr]; rfl) ?_ (by have := HRL.out; omega)
    unfold ringOf
    rw [List.length_cons, List.length_map]
    have := List.length_filter_le (fun f => !decide (Conn (ends (sans (trE ds) [f.id])) r.a r.b)) (trE ds)
    omega)
  have HCO : Hid (∀ wx, Keep Nb W wx → ∀ x : E, x ∈ ds → Calls Tryz.prog 26 #[.pointer (some ⟨c, 0, none⟩), .int .i64 x.id] wx fun e w' => e = .returned (.tuple #[.int .i64 ((rsE ds).countP (fun r => decide (x.id ∈ ringOf (trE ds) r)) : Nat), .nilIface]) ∧ Keep Nb wx w') := Lib.hid (fun wx kx x hx => by
    have h1 := ccovered_any _ _ wx c gb n ds x (HCW.out.keep kx (fun _ _ e => e)) (HGW.out.keep kx (fun _ _ e => e)) (by omega) HOK.out hx
    have h2 : covN (mk ds x.id) = (rsE ds).countP (fun r => decide (x.id ∈ ringOf (trE ds) r)) := by
      rw [← round_count HOK.out.sorted hx, pop_split 64 (mk ds x.id)]; rfl
    rwa [h2] at h1)
  have HAL : Hid (∀ wx, Keep Nb W wx → ∀ x y : E, x ∈ ds → y ∈ ds → Calls Tryz.prog 27 #[.pointer (some ⟨c, 0, none⟩), .int .i64 x.id, .int .i64 y.id] wx fun e w' => e = .returned (.tuple #[.bool (decide (mk ds x.id = mk ds y.id)), .nilIface]) ∧ Keep Nb wx w') := Lib.hid (fun wx kx x y hx hy =>
    calike_any _ _ wx c gb n ds x y (HCW.out.keep kx (fun _ _ e => e)) (HGW.out.keep kx (fun _ _ e => e)) (by omega) HOK.out hx hy)
  have HNO : Hid (hasId ds 99 = false) := Lib.hid (by
    simp only [hasId, List.any_eq_false, decide_eq_true_eq]
    intro e he h
    have := HID.out e he
    omega)
  have HCM : Hid (∀ wx, Keep Nb W wx → Calls Tryz.prog 26 #[.pointer (some ⟨c, 0, none⟩), .int .i64 99] wx fun e w' => e = .returned (.tuple #[.int .i64 0, errVal 7]) ∧ Keep Nb wx w') := Lib.hid (fun wx kx =>
    ccovered_miss _ _ wx c gb n ds 99 (HCW.out.keep kx (fun _ _ e => e)) (HGW.out.keep kx (fun _ _ e => e)) HOK.out.sorted (by omega) HNO.out)
  have HAM : Hid (∀ wx, Keep Nb W wx → Calls Tryz.prog 27 #[.pointer (some ⟨c, 0, none⟩), .int .i64 0, .int .i64 99] wx fun e w' => e = .returned (.tuple #[.bool false, errVal 7]) ∧ Keep Nb wx w') := Lib.hid (fun wx kx =>
    calike_miss _ _ wx c gb n 0 ds 99 (HCW.out.keep kx (fun _ _ e => e)) (HGW.out.keep kx (fun _ _ e => e)) HOK.out.sorted (by omega) HNO.out)
  obtain ⟨ev, hev⟩ : ∃ ev, errVal 7 = ev := ⟨_, rfl⟩
  have HB : Hid (∀ wx, Keep Nb W wx → Calls Tryz.prog 28 #[ev, .int .i64 7] wx fun e w' => e = .returned (.bool true) ∧ Keep Nb wx w') := Lib.hid (fun wx kx => by
    have := lbare_any ev 7 7 (by rw [← hev]; rfl) wx (HE.out.keep (HKW.out.trans kx) (fun e => e))
    simpa using this)
  rw [hev] at HCM HAM
  clear hNn hev HCW HGW HRW HNW HNO HE HID HPM HOF HEQ
  go_wp2_with fail
  go_loopg [12] m (fun kx s12 wr => ∃ i : Nat, s12 = .int .i64 i ∧ i ≤ m ∧ m - i ≤ kx ∧ Hid (Keep Nb w13 wr))
  case atStart => exact ⟨0, rfl, Nat.zero_le _, by omega, Lib.hid (Keep.refl _ _)⟩
  case round =>
    obtain ⟨i, rfl, hi, hg, HR⟩ := hrel
    by_cases hlt : i < m
    · obtain ⟨e, hy⟩ : ∃ e, ds[i]? = some e := ⟨_, List.getElem?_eq_getElem (by rw [HM.out]; exact hlt)⟩
      obtain ⟨ge, rfl, hFg, hnc, hrow⟩ := (HS1.out.keep HR.out (fun _ _ e => e)).pos (by omega)
      have d1 := hrow.edges.id _ _ hy
      have hem := List.mem_of_getElem? hy
      have HEM := Lib.hid hem
      have cq := (HK13.out.trans HR.out).cell HCQ.out (fun e => e)
      have HKr := Lib.hid (HK13.out.trans HR.out)
      obtain ⟨xi, hxi⟩ : ∃ xi, e.id = xi := ⟨_, rfl⟩
      have HXI := Lib.hid hxi
      rw [hxi] at d1
      clear hrow hy hem hxi
      have HDM : Hid (∀ wx, Keep Nb wr wx → wx.cell? ⟨ge, i * 3, none⟩ = some (.int .i64 xi) ∧ wx.cell? ⟨Q, 0, none⟩ = some (.slice o R cr)) := Lib.hid (fun wx k => ⟨k.cell d1 (fun e => e), k.cell cq (fun e => e)⟩)
      have hRle : R ≤ 30 := hRl
      go_wp2_with fail
      go_loopg [13, 14] R (fun ky s13 s14 wr2 => ∃ (k cc : Nat), s13 = .int .i64 cc ∧ s14 = .int .i64 k ∧ k ≤ R ∧ R - k ≤ ky ∧ cc ≤ k ∧ Hid (((rsE ds).take k).countP (fun r => decide (e.id ∈ ringOf (trE ds) r)) = cc) ∧ wr = wr2)
      case atStart => exact ⟨0, 0, rfl, rfl, Nat.zero_le _, by omega, Nat.le_refl _, Lib.hid (by simp), rfl⟩
      case round =>
        obtain ⟨k, cc, rfl, rfl, hk, hgk, hcc, HCN, hwr⟩ := hrel
        subst hwr
        by_cases hkR : k < R
        · obtain ⟨r, hr⟩ : ∃ r, (rsE ds)[k]? = some r := ⟨_, List.getElem?_eq_getElem (by rw [HRL.out]; exact hkR)⟩
          have HC1 : Hid (Calls Tryz.prog 25 #[.int .i64 (xi : Nat), .int .i64 (k : Nat), .pointer (some ⟨Q, 0, none⟩)] wr fun e' w' => e' = .returned (.bool (decide (e.id ∈ ringOf (trE ds) r))) ∧ w' = wr) := Lib.hid (by
            have := HRO.out wr HKr.out xi k r hr
            rwa [← HXI.out] at this ⊢)
          have HTK : Hid ((rsE ds).take (k + 1) = (rsE ds).take k ++ [r]) := Lib.hid (by rw [List.take_add_one, hr]; rfl)
          by_cases hin : e.id ∈ ringOf (trE ds) r
          · have HN : Hid (((rsE ds).take (k + 1)).countP (fun r => decide (e.id ∈ ringOf (trE ds) r)) = cc + 1) := Lib.hid (by rw [HTK.out, List.countP_append, HCN.out]; simp [hin])
            rw [decide_eq_true hin] at HC1
            clear hin HTK HCN hr
            go_wp2_with fail
            refine HC1.out.mono ?_
            rintro e' w' ⟨rfl, hw'⟩
            subst hw'
            go_wp2_with fail
            go_roundg (R - (k + 1))
            case measure => omega
            case rel => exact ⟨k + 1, cc + 1, by go_num, by go_num, by omega, Nat.le_refl _, by omega, HN, rfl⟩
          · have HN : Hid (((rsE ds).take (k + 1)).countP (fun r => decide (e.id ∈ ringOf (trE ds) r)) = cc) := Lib.hid (by rw [HTK.out, List.countP_append, HCN.out]; simp [hin])
            rw [decide_eq_false hin] at HC1
            clear hin HTK HCN hr
            go_wp2_with fail
            refine HC1.out.mono ?_
            rintro e' w' ⟨rfl, hw'⟩
            subst hw'
            go_wp2_with fail
            go_roundg (R - (k + 1))
            case measure => omega
            case rel => exact ⟨k + 1, cc, rfl, by go_num, by omega, Nat.le_refl _, by omega, HN, rfl⟩
        · obtain rfl : R = k := by omega
          have HCV : Hid (Calls Tryz.prog 26 #[.pointer (some ⟨c, 0, none⟩), .int .i64 (xi : Nat)] wr fun e' w' => e' = .returned (.tuple #[.int .i64 (cc : Nat), .nilIface]) ∧ Keep Nb wr w') := Lib.hid (by
            have h1 := HCO.out wr HKr.out e HEM.out
            have h2 := HCN.out
            rw [List.take_of_length_le (by rw [HRL.out]; exact Nat.le_refl _)] at h2
            rwa [h2, HXI.out] at h1)
          have b1 : ((cc : Int) != (cc : Int)) = false := by simp
          clear HCN
          go_wp2_with fail
          refine HCV.out.mono ?_
          rintro e' w' ⟨rfl, hk'⟩
          have HK' := Lib.hid hk'
          clear hk' HCV
          go_wp2_with fail
          go_loopg [17] m (fun ky s17 wr3 => ∃ j : Nat, s17 = .int .i64 j ∧ j ≤ m ∧ m - j ≤ ky ∧ Hid (Keep Nb wr wr3))
          case atStart => exact ⟨0, rfl, Nat.zero_le _, by omega, HK'⟩
          case round =>
            obtain ⟨j, rfl, hj, hgj, HR3⟩ := hrel
            clear HK'
            by_cases hjm : j < m
            · obtain ⟨f, hf⟩ : ∃ f, ds[j]? = some f := ⟨_, List.getElem?_eq_getElem (by rw [HM.out]; exact hjm)⟩
              obtain ⟨wj, rfl⟩ : ∃ w' : World, w' = wr := ⟨_, rfl⟩
              obtain ⟨ge', hge', _, _, hrow⟩ := (HS1.out.keep (HR.out.trans HR3.out) (fun _ _ e => e)).pos (by omega)
              cases hge'
              have d2 := hrow.edges.id _ _ hf
              have HFM := Lib.hid (List.mem_of_getElem? hf)
              obtain ⟨yi, hyi⟩ : ∃ yi, f.id = yi := ⟨_, rfl⟩
              have HYI := Lib.hid hyi
              rw [hyi] at d2
              have HKj := Lib.hid (HKr.out.trans HR3.out)
              have HDJ : Hid (∀ wx, Keep Nb wj wx → wx.cell? ⟨ge, i * 3, none⟩ = some (.int .i64 xi) ∧ wx.cell? ⟨ge, j * 3, none⟩ = some (.int .i64 yi) ∧ wx.cell? ⟨Q, 0, none⟩ = some (.slice o R cr)) := Lib.hid (fun wx k => ⟨(HDM.out wx (HR3.out.trans k)).1, k.cell d2 (fun e => e), (HDM.out wx (HR3.out.trans k)).2⟩)
              clear hrow hf hyi d1 d2 cq
              go_wp2_with fail
              go_loopg [18, 19] R (fun kz s18 s19 wr4 => ∃ (k : Nat) (al : Bool), s18 = .bool al ∧ s19 = .int .i64 k ∧ k ≤ R ∧ R - k ≤ kz ∧ Hid (AlikeR al e.id f.id (trE ds) ((rsE ds).take k)) ∧ Hid (Keep Nb wj wr4))
              case atStart => exact ⟨0, true, rfl, rfl, Nat.zero_le _, by omega, Lib.hid (by unfold AlikeR; simp), Lib.hid (Keep.refl _ _)⟩
              case round =>
                obtain ⟨k, al, rfl, rfl, hk, hgk, HAR, HR4⟩ := hrel
                have d1 := (HDJ.out wr HR4.out).1
                have d2 := (HDJ.out wr HR4.out).2.1
                have cq := (HDJ.out wr HR4.out).2.2
                by_cases hkR : k < R
                · as_aux_lemma =>
                  obtain ⟨r, hr⟩ : ∃ r, (rsE ds)[k]? = some r := ⟨_, List.getElem?_eq_getElem (by rw [HRL.out]; exact hkR)⟩
                  have HTK : Hid ((rsE ds).take (k + 1) = (rsE ds).take k ++ [r]) := Lib.hid (by rw [List.take_add_one, hr]; rfl)
                  cases al
                  · have HN : Hid (AlikeR false e.id f.id (trE ds) ((rsE ds).take (k + 1))) := Lib.hid (HAR.out.next HTK.out (by simp))
                    clear HAR HTK hr d1 d2
                    go_wp2_with fail
                    go_quiet (fail)
                    go_wp2_with fail
                    go_roundg (R - (k + 1))
                    case measure => omega
                    case rel => exact ⟨k + 1, false, rfl, by go_num, by omega, Nat.le_refl _, HN, Lib.hid (HR4.out.drewN _)⟩
                  · obtain ⟨p, hp⟩ : ∃ p, decide (e.id ∈ ringOf (trE ds) r) = p := ⟨_, rfl⟩
                    obtain ⟨q, hq⟩ : ∃ q, decide (f.id ∈ ringOf (trE ds) r) = q := ⟨_, rfl⟩
                    have HC1 : Hid (∀ z, Calls Tryz.prog 25 #[.int .i64 (xi : Nat), .int .i64 (k : Nat), .pointer (some ⟨Q, 0, none⟩)] (wr.drewN z) fun e' w' => e' = .returned (.bool p) ∧ w' = wr.drewN z) := Lib.hid (fun z => by
                      have := HRO.out (wr.drewN z) ((HKj.out.trans HR4.out).drewN z) e.id k r hr
                      rwa [hp, HXI.out] at this)
                    have HC2 : Hid (∀ z, Calls Tryz.prog 25 #[.int .i64 (yi : Nat), .int .i64 (k : Nat), .pointer (some ⟨Q, 0, none⟩)] (wr.drewN z) fun e' w' => e' = .returned (.bool q) ∧ w' = wr.drewN z) := Lib.hid (fun z => by
                      have := HRO.out (wr.drewN z) ((HKj.out.trans HR4.out).drewN z) f.id k r hr
                      rwa [hq, HYI.out] at this)
                    have HN : Hid (AlikeR (p == q) e.id f.id (trE ds) ((rsE ds).take (k + 1))) := Lib.hid (HAR.out.next HTK.out (by rw [← hp, ← hq]; simp))
                    clear HAR HTK hr hp hq
                    cases p <;> cases q
                    all_goals
                      go_wp2_with fail
                      go_quiet (first | (go_at_call_of 25 (Value.int IntKind.i64 (xi : Nat)); exact Calls.quiet_of_same (HC1.out _)) | (go_at_call_of 25 (Value.int IntKind.i64 (yi : Nat)); exact Calls.quiet_of_same (HC2.out _)))
                      go_wp2_with fail
                      go_roundg (R - (k + 1))
                      case measure => omega
                      case rel => exact ⟨k + 1, _, rfl, by go_num, by omega, Nat.le_refl _, HN, Lib.hid (HR4.out.drewN _)⟩
                · as_aux_lemma =>
                  obtain rfl : R = k := by omega
                  have HAL2 : Hid (∀ wx, Keep Nb wr wx → Calls Tryz.prog 27 #[.pointer (some ⟨c, 0, none⟩), .int .i64 (xi : Nat), .int .i64 (yi : Nat)] wx fun e' w' => e' = .returned (.tuple #[.bool al, .nilIface]) ∧ Keep Nb wx w') := Lib.hid (fun wx kx => by
                    have h1 := HAL.out wx ((HKj.out.trans HR4.out).trans kx) e f HEM.out HFM.out
                    have h2 := HAR.out
                    rw [List.take_of_length_le (by rw [HRL.out]; exact Nat.le_refl _)] at h2
                    have h3 : decide (mk ds e.id = mk ds f.id) = al := by
                      rw [Bool.eq_iff_iff, decide_eq_true_eq]
                      exact (round_alike HOK.out.sorted HEM.out HFM.out).trans h2.symm
                    rwa [h3, HXI.out, HYI.out] at h1)
                  clear HAR
                  go_wp2_with fail
                  go_region_held3 (fun w' => w'.cell? ⟨ge, i * 3, none⟩ = some (.int .i64 xi) ∧ w'.cell? ⟨ge, j * 3, none⟩ = some (.int .i64 yi)) (go_keep) ((first
                    | (go_at_call 27; refine (HAL2.out _ (show Keep Nb wr _ from (by (repeat (first | exact Keep.refl _ _ | refine Keep.alloc ?_ _ | refine Keep.drew ?_ | refine Keep.drewN ?_ _))))).mono ?_; rintro e1 wz ⟨rfl, hkz⟩; have kz := Keep.trans (show Keep Nb wr _ from (by (repeat (first | exact Keep.refl _ _ | refine Keep.alloc ?_ _ | refine Keep.drew ?_ | refine Keep.drewN ?_ _)))) hkz; have z1 := kz.cell d1 (fun e => e); have z2 := kz.cell d2 (fun e => e); have KZ := Lib.hid (HR4.out.trans kz); clear hkz kz)
                    | (fail "none")))
                  cases al
                  all_goals
                    go_wp2_with fail
                    go_roundg (m - (j + 1))
                    case measure => omega
                    case rel => exact ⟨j + 1, by go_num, by omega, Nat.le_refl _, Lib.hid (HR3.out.trans KZ.out)⟩
            · obtain rfl : j = m := by omega
              go_wp2_with fail
              go_roundg (j - (i + 1))
              case measure => omega
              case rel => exact ⟨i + 1, by go_num, by omega, Nat.le_refl _, Lib.hid (HR.out.trans HR3.out)⟩
    · obtain rfl : i = m := by omega
      have HKr := Lib.hid (HK13.out.trans HR.out)
      clear HR
      go_wp2_with fail
      refine (HCM.out _ HKr.out).mono ?_
      rintro e wa ⟨rfl, hka⟩
      have HKa := Lib.hid (HKr.out.trans hka)
      clear hka
      go_wp2_with fail
      refine (HAM.out _ HKa.out).mono ?_
      rintro e wb ⟨rfl, hkb⟩
      have HKb := Lib.hid (HKa.out.trans hkb)
      clear hkb
      go_wp2_with fail
      refine (HB.out _ HKb.out).mono ?_
      rintro e wc ⟨rfl, hkc⟩
      have HKc := Lib.hid (HKb.out.trans hkc)
      clear hkc
      go_wp2_with fail
      refine (HB.out _ HKc.out).mono ?_
      rintro e wd ⟨rfl, hkd⟩
      have HKd := Lib.hid (HKW.out.trans (HKc.out.trans hkd))
      clear hkd
      go_wp2_with fail
      go_ret
      exact ⟨rfl, HKd.out⟩

end Go.Proofs.YtkpoobnldgfapabGreatDoor
