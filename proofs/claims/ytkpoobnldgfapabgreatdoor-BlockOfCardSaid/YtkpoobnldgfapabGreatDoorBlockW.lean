/- isthmuslaw.BlockOf: the walk. -/
import Derived.Test.YtkpoobnldgfapabGreatDoorBkOf1
import Derived.Test.YtkpoobnldgfapabGreatDoorDeep2
import Derived.Test.YtkpoobnldgfapabGreatDoorE2
import Derived.Test.YtkpoobnldgfapabGreatDoorRBlk2
import Derived.Test.YtkpoobnldgfapabGreatDoorRCuts
import Derived.Test.YtkpoobnldgfapabGreatDoorRWhole
import Derived.Test.YtkpoobnldgfapabGreatDoorLSame
import Derived.Test.YtkpoobnldgfapabGreatDoorLMade
import Derived.Test.YtkpoobnldgfapabGreatDoorMadeOk
import Derived.Test.YtkpoobnldgfapabGreatDoorAsErr
import Derived.Test.YtkpoobnldgfapabGreatDoorD2
import Derived.Deep.QuietTactic
import Derived.BigQuiet
set_option linter.unusedVariables false
set_option linter.unusedSimpArgs false
namespace Go.Proofs.YtkpoobnldgfapabGreatDoor
open Go.RowKit Pl Go.Maps

theorem blk_lens {es : List E} {ps : List (List Nat)} (h : BlkList es ps) : ps.length ≤ es.length ∧ ∀ p, p ∈ ps → p.length ≤ es.length := by
  constructor
  · have h1 : (ps.map (fun p => p.headD 0)).Nodup := by
      unfold List.Nodup
      rw [List.pairwise_map]
      exact h.heads.imp fun {a b} h e => by omega
    have := len_le_of_mem h1 (k := es.map (·.id)) (fun i hi => by
      obtain ⟨p, hp, rfl⟩ := List.mem_map.1 hi
      have hm : p.headD 0 ∈ p := by
        cases p with
        | nil => exact absurd rfl (h.ne _ hp)
        | cons a l => exact List.mem_cons_self
      obtain ⟨e, he, hid⟩ := (h.ids _).1 (List.mem_flatten.2 ⟨p, hp, hm⟩)
      exact List.mem_map.2 ⟨e, he, hid⟩)
    simpa using this
  · intro p hp
    have h1 : p.Nodup := (h.rise p hp).imp fun h => Nat.ne_of_lt h
    have := len_le_of_mem h1 (k := es.map (·.id)) (fun i hi => by
      obtain ⟨e, he, hid⟩ := (h.ids i).1 (List.mem_flatten.2 ⟨p, hp, hi⟩)
      exact List.mem_map.2 ⟨e, he, hid⟩)
    simpa using this

theorem ofmap_get {M : List (Nat × Value)} {ps : List (List Nat)} (h : OfMap M ps ps.length 0) (id : Nat) : mget M id = (ps.findIdx? (fun p => decide (id ∈ p))).map (fun i => Value.int .i64 (i : Nat)) := by
  have := h id
  rwa [List.take_zero, if_neg (List.not_mem_nil), List.take_length] at this

theorem ofmap_idx {es : List E} {M : List (Nat × Value)} {ps : List (List Nat)} (h : OfMap M ps ps.length 0) (hB : BlkList es ps) {e : E} (he : e ∈ es) : ∃ k p, mget M e.id = some (.int .i64 (k : Nat)) ∧ ps[k]? = some p ∧ e.id ∈ p := by
  rw [ofmap_get h]
  obtain ⟨p, hp, hm⟩ := List.mem_flatten.1 ((hB.ids e.id).2 ⟨e, he, rfl⟩)
  cases hf : ps.findIdx? (fun p => decide (e.id ∈ p)) with
  | none =>
    rw [List.findIdx?_eq_none_iff] at hf
    have := hf p hp
    simp at this; exact absurd hm this
  | some k =>
    rw [List.findIdx?_eq_some_iff_getElem] at hf
    obtain ⟨h1, h2, _⟩ := hf
    exact ⟨k, ps[k], rfl, List.getElem?_eq_getElem h1, by simpa using h2⟩

theorem ofmap_same {es : List E} {M : List (Nat × Value)} {ps : List (List Nat)} (h : OfMap M ps ps.length 0) (hB : BlkList es ps) {e f : E} (he : e ∈ es) (hf : f ∈ es) :
    ∃ k j : Nat, mget M e.id = some (.int .i64 (k : Nat)) ∧ mget M f.id = some (.int .i64 (j : Nat)) ∧ decide (k = j) = decide (∃ l, l ∈ ps ∧ e.id ∈ l ∧ f.id ∈ l) := by
  obtain ⟨k, p, h1, h2, h3⟩ := ofmap_idx h hB he
  obtain ⟨j, q, g1, g2, g3⟩ := ofmap_idx h hB hf
  refine ⟨k, j, h1, g1, ?_⟩
  rw [Bool.eq_iff_iff, decide_eq_true_eq, decide_eq_true_eq]
  constructor
  · rintro rfl
    rw [h2] at g2; cases g2
    exact ⟨p, List.mem_of_getElem? h2, h3, g3⟩
  · rintro ⟨l, hl, a1, a2⟩
    obtain ⟨t, ht⟩ := List.mem_iff_getElem?.1 hl
    have e1 : t = k := by
      rcases Nat.lt_trichotomy t k with g | g | g
      · exact absurd h3 (blk_dis hB g ht h2 a1)
      · exact g
      · exact absurd a1 (blk_dis hB g h2 ht h3)
    have e2 : t = j := by
      rcases Nat.lt_trichotomy t j with g | g | g
      · exact absurd g3 (blk_dis hB g ht g2 a2)
      · exact g
      · exact absurd a2 (blk_dis hB g g2 ht g3)
    omega

theorem ofmap_none {es : List E} {M : List (Nat × Value)} {ps : List (List Nat)} (h : OfMap M ps ps.length 0) (hB : BlkList es ps) {x : Nat} (hx : ∀ e, e ∈ es → e.id ≠ x) : mget M x = none := by
  rw [ofmap_get h]
  have : ps.findIdx? (fun p => decide (x ∈ p)) = none := by
    rw [List.findIdx?_eq_none_iff]
    intro p hp
    rw [decide_eq_false_iff_not]
    intro hm
    obtain ⟨e, he, hid⟩ := (hB.ids x).1 (List.mem_flatten.2 ⟨p, hp, hm⟩)
    exact hx e he hid
  rw [this]; rfl

theorem sep_perm {es fs : List E} (hp : es.Perm fs) {x : Nat} : Pl.Sep es x ↔ Pl.Sep fs x := by
  have e1 : ∀ e, e ∈ less1 es x ↔ e ∈ less1 fs x := fun e => by
    unfold less1
    rw [List.mem_filter, List.mem_filter, hp.mem_iff]
  unfold Pl.Sep
  constructor
  · rintro ⟨a, b, h1, h2, h3, h4⟩
    exact ⟨a, b, h1, h2, Conn.of_sub (fun e he => hp.mem_iff.1 he) h3, fun c => h4 (Conn.of_sub (fun e he => (e1 e).2 he) c)⟩
  · rintro ⟨a, b, h1, h2, h3, h4⟩
    exact ⟨a, b, h1, h2, Conn.of_sub (fun e he => hp.mem_iff.2 he) h3, fun c => h4 (Conn.of_sub (fun e he => (e1 e).1 he) c)⟩

theorem cuts_eq {n : Nat} {es fs : List E} (hp : es.Perm fs) (ho : ∀ e, e ∈ fs → e.a < n ∧ e.b < n) {cs : List Nat} (hr : cs.Pairwise (· < ·)) (hc : ∀ x, x ∈ cs ↔ x < n ∧ Pl.Sep es x) : cs = cutsE n fs := by
  refine rising_ext hr (List.pairwise_lt_range.sublist List.filter_sublist) fun x => ?_
  rw [hc x, mem_cutsE ho, sep_perm hp]

theorem cutsE_len (n : Nat) (fs : List E) : (cutsE n fs).length ≤ n := by
  unfold cutsE
  refine Nat.le_trans (List.length_filter_le _ _) ?_
  rw [List.length_range]; exact Nat.le_refl _

set_option maxRecDepth 100000 in
theorem blockof_none (n : Int) (oa : Option Addr) (len cap : Nat) (h : n < 0 ∨ 16 < n ∨ 60 < len) (w : World) :
    Calls Tryz.prog 5 #[.int .i64 n, .slice oa len cap] w fun e w' => e = .returned (.bool true) ∧ Keep Nb w w' := by
  have HC := Lib.hid (lmade_none n oa len cap h w)
  clear h
  go_enter Tryz.func5, Tryz.ntmps5
  go_wp2_with fail
  refine HC.out.mono ?_
  rintro e w1 ⟨rfl, hk⟩
  have HK := Lib.hid hk
  clear hk
  go_wp2_with fail
  go_ret
  exact ⟨rfl, HK.out⟩

set_option maxRecDepth 100000 in
set_option maxHeartbeats 4000000 in
theorem blockof_any (n : Nat) (b off len cap : Nat) (oa : Option Addr) (hoa : 0 < len → oa = some ⟨b, off, none⟩) (A B : Nat → Int) (hn : n ≤ 16) (hlen : len ≤ 60) (hcap : len ≤ cap)
    (w : World) (hbw : 0 < len → b < w.heap.size) (hP : Prs w b off len A B) (hE : ErrT w) (hok : EOk n (madeG n A B len)) (hid : ∀ e, e ∈ madeG n A B len → e.id ≤ 60) :
    Calls Tryz.prog 5 #[.int .i64 n, .slice oa len cap] w fun e w' => e = .returned (.bool true) ∧ Keep Nb w w' := by
  have HC := Lib.hid (lmade_any n b off len cap oa hoa A B hn (by omega) hcap w hbw hP)
  have hM := made_made n A B len
  obtain ⟨es, hes⟩ : ∃ es, madeG n A B len = es := ⟨_, rfl⟩
  obtain ⟨fs, hfs⟩ : ∃ fs, madeR n A B len = fs := ⟨_, rfl⟩
  have HEQ := Lib.hid (And.intro hes hfs)
  rw [hes] at hM hok hid
  rw [hfs] at hM
  have hel : es.length ≤ 60 := by have := hM.le; omega
  have hfl : fs.length ≤ 60 := by rw [← hM.len]; exact hel
  have HPM := Lib.hid hM.perm'
  have HOK := Lib.hid hok
  have HID := Lib.hid hid
  have HOF : Hid (Over n fs) := Lib.hid (fun e he => hM.over e ((hM.mem e).2 he))
  have HE := Lib.hid hE
  clear hM hok hid hes hfs hE hoa hbw hP
  go_enter Tryz.func5, Tryz.ntmps5
  go_wp2_with fail
  refine HC.out.mono ?_
  rintro e w1 ⟨gb, rb, rfl, F1, F2, hG, hR, hf1, hf2, hf3, hk1⟩
  rw [HEQ.out.1] at hG
  rw [HEQ.out.2] at hR
  have HR := Lib.hid hR
  have HK1 := Lib.hid hk1
  have HCF := Lib.hid (bkof_any F1 w1 gb n es hG (fun k h => (hf1 k h).2) (by omega) (by omega) HOK.out
    (fun X Y ob lb mb => deep_any w1.heap.size X Y ob lb gb n (.map (some mb)) es F1 (fun k h => (hf1 k h).2) (by omega) (by omega) HOK.out.over HOK.out.ne n))
  clear hG hR hk1 hf1 hf2 hf3 HC
  go_wp2_with fail
  refine HCF.out.mono ?_
  rintro e w2 ⟨Y, mb, pc, cc, po, co, rows, ps, cs, M, G, rfl, hBL, hcs, hrise, hYr, hMat, hCut, hMap, hOf, hGlo, hYlo, hmblo, hk2⟩
  have hce := cuts_eq HPM.out HOF.out hrise hcs
  subst hce
  have HBL := Lib.hid hBL
  have HY := Lib.hid hYr
  have HMT := Lib.hid hMat
  have HCU := Lib.hid hCut
  have HMP := Lib.hid hMap
  have HOFM := Lib.hid hOf
  have HK2 := Lib.hid hk2
  have HLN := Lib.hid (blk_lens hBL)
  have HCL := Lib.hid (cutsE_len n fs)
  have HRB := Lib.hid (rblocks_any F2 w2 rb n fs es (HR.out.keep hk2 (fun _ _ e => e)) HOK.out.sorted HPM.out (by omega) (by omega) HOF.out)
  clear hBL hcs hrise hYr hMat hCut hMap hOf hGlo hYlo hmblo hk2 HCF
  go_wp2_with fail
  refine HRB.out.mono ?_
  rintro e w3 ⟨ps', o3, m3, c3, rows3, rfl, hBL3, hM3, hk3⟩
  obtain rfl : ps = ps' := HBL.out.unique hBL3
  have HM3 := Lib.hid hM3
  have HK3 := Lib.hid hk3
  have HPA := Lib.hid (bkparts_any G w3 Y (cutsE n fs).length cc pc (.map (some mb)) po co rows ps (HY.out.keep hk3 (fun e => e)) (HMT.out.keep hk3 (fun _ _ e => e)) HBL.out.ne (by have := HLN.out.1; omega) (fun p hp => by have := HLN.out.2 p hp; omega))
  clear hBL3 hM3 hk3 HRB
  go_wp2_with fail
  refine HPA.out.mono ?_
  rintro e w4 ⟨o4, c4, rows4, rfl, hM4, hk4⟩
  have hM34 := HM3.out.keep hk4 (fun _ _ e => e)
  have HSA := Lib.hid (lsames_q _ _ w4 o4 o3 ps.length m3 c4 c3 rows4 rows3 ps hM4 hM34 (by have := HLN.out.1; omega) (fun l hl => by have := HLN.out.2 l hl; omega))
  have HM4 := Lib.hid hM34
  have HK4 := Lib.hid (HK3.out.trans hk4)
  clear hM4 hM34 hk4 HPA
  go_wp2_with fail
  refine HSA.out.mono ?_
  rintro e w5 ⟨rfl, q5, hq5⟩
  have hk5 : Keep Nb w4 w5 := by rw [hq5]; exact (Keep.refl Nb w4).drewN q5
  have HK5 := Lib.hid (HK4.out.trans hk5)
  have HM5 := Lib.hid (HM4.out.keep hk5 (fun _ _ e => e))
  have HCC := Lib.hid (bkcuts_any G w5 Y cc (.map (some mb)) (.slice po ps.length pc) co (cutsE n fs) (HY.out.keep HK5.out (fun e => e)) (HCU.out.keep HK5.out (fun _ _ e => e)) (by have := HCL.out; omega))
  clear hk5 hq5 HSA HM4
  go_wp2_with fail
  refine HCC.out.mono ?_
  rintro e w6 ⟨o6, c6, rfl, hS6, hk6⟩
  have HS6 := Lib.hid hS6
  have HK6 := Lib.hid (HK5.out.trans hk6)
  have HM6 := Lib.hid (HM5.out.keep hk6 (fun _ _ e => e))
  have HRC := Lib.hid (rcuts_any F2 w6 rb n fs (HR.out.keep (HK2.out.trans HK6.out) (fun _ _ e => e)) (by omega) (by omega) HOF.out)
  clear hS6 hk6 HCC HM5
  go_wp2_with fail
  refine HRC.out.mono ?_
  rintro e w7 ⟨o7, m7, c7, rfl, hS7, hm7, hk7⟩
  have HSM := Lib.hid (lsame_q _ _ w7 o6 o7 (cutsE n fs).length m7 c6 c7 (cutsE n fs) (HS6.out.keep hk7 (fun _ _ e => e)) hS7 (by have := HCL.out; omega))
  have HK7 := Lib.hid (HK6.out.trans hk7)
  have HM7 := Lib.hid (HM6.out.keep hk7 (fun _ _ e => e))
  clear hS7 hm7 hk7 HRC HM6
  go_wp2_with fail
  refine HSM.out.mono ?_
  rintro e w8 ⟨rfl, q8, hq8⟩
  have hk8 : Keep Nb w7 w8 := by rw [hq8]; exact (Keep.refl Nb w7).drewN q8
  have HK8 := Lib.hid (HK7.out.trans hk8)
  have HM8 := Lib.hid (HM7.out.keep hk8 (fun _ _ e => e))
  have HSO := Lib.hid (rsorted_any F2 w8 rb n fs (HR.out.keep (HK2.out.trans HK8.out) (fun _ _ e => e)) (by omega))
  clear hk8 hq8 HSM HM7
  go_wp2_with fail
  refine HSO.out.mono ?_
  rintro e w9 ⟨ds, o9, c9, rfl, hp9, hs9, hS9, hk9⟩
  have hds := sorted_of HOK.out.sorted HPM.out hp9 hs9
  subst hds
  obtain ⟨m, hm⟩ : ∃ m, fs.length = m := ⟨_, rfl⟩
  rw [hm] at hS9 ⊢ hfl
  have HM : Hid (ds.length = m) := Lib.hid (by rw [HPM.out.length_eq]; exact hm)
  have HS9 := Lib.hid hS9
  have HK9 := Lib.hid (HK8.out.trans hk9)
  have HM9 := Lib.hid (HM8.out.keep hk9 (fun _ _ e => e))
  clear hp9 hs9 hS9 hk9 hm HSO HM8
  have HSAME : Hid (∀ wx, Keep Nb w9 wx → ∀ x y : E, x ∈ ds → y ∈ ds → Calls Tryz.prog 45 #[.pointer (some ⟨Y, 0, none⟩), .int .i64 x.id, .int .i64 y.id] wx fun e w' => e = .returned (.tuple #[.bool (decide (∃ l, l ∈ ps ∧ x.id ∈ l ∧ y.id ∈ l)), .nilIface]) ∧ w' = wx) := Lib.hid (fun wx kx x y hx hy => by
    obtain ⟨k, j, g1, g2, g3⟩ := ofmap_same HOFM.out HBL.out hx hy
    rw [← g3]
    exact bksame_any wx Y mb k j M _ _ x.id y.id (by have := HID.out x hx; omega) (by have := HID.out y hy; omega) (HY.out.keep (HK9.out.trans kx) (fun e => e)) (HMP.out.keep (HK9.out.trans kx) (fun e => e)) g1 g2)
  have HIN : Hid (∀ wx, Keep Nb w9 wx → ∀ x y : Nat, Calls Tryz.prog 39 #[.slice o3 m3 c3, .int .i64 x, .int .i64 y] wx fun e w' => e = .returned (.bool (decide (∃ l, l ∈ ps ∧ x ∈ l ∧ y ∈ l))) ∧ w' = wx) := Lib.hid (fun wx kx x y =>
    rin_any _ wx _ _ o3 m3 c3 x y rows3 ps (HM9.out.keep kx (fun _ _ e => e)) (by have h1 := HM9.out.n_eq; have h2 := HLN.out.1; omega) (fun l hl => by have := HLN.out.2 l hl; omega))
  have HMISS : Hid (∀ wx, Keep Nb w9 wx → Calls Tryz.prog 45 #[.pointer (some ⟨Y, 0, none⟩), .int .i64 99, .int .i64 0] wx fun e w' => e = .returned (.tuple #[.bool false, errVal 7]) ∧ w' = wx) := Lib.hid (fun wx kx =>
    bksame_miss wx Y mb 0 M _ _ 99 (by omega) (by omega) (HY.out.keep (HK9.out.trans kx) (fun e => e)) (HMP.out.keep (HK9.out.trans kx) (fun e => e)) (ofmap_none HOFM.out HBL.out (fun e he h => by have := HID.out e he; omega)))
  obtain ⟨ev, hev⟩ : ∃ ev, errVal 7 = ev := ⟨_, rfl⟩
  have HKW : Hid (Keep Nb w w9) := Lib.hid (HK1.out.trans (HK2.out.trans HK9.out))
  have HB : Hid (∀ wx, Keep Nb w9 wx → Calls Tryz.prog 28 #[ev, .int .i64 7] wx fun e w' => e = .returned (.bool true) ∧ Keep Nb wx w') := Lib.hid (fun wx kx => by
    have := lbare_any ev 7 7 (by rw [← hev]; rfl) wx (HE.out.keep (HKW.out.trans kx) (fun e => e))
    simpa using this)
  rw [hev] at HMISS
  clear hev HR HBL HY HMT HCU HMP HOFM HM3 HLN HCL HS6 HM9 HE HID HPM HOF HEQ HK2 HK3 HK4 HK5 HK6 HK7 HK8 HK9
  go_wp2_with fail
  go_loopg [11] m (fun kx s11 wr => ∃ i : Nat, s11 = .int .i64 i ∧ i ≤ m ∧ m - i ≤ kx ∧ Hid (Keep Nb w9 wr))
  case atStart => exact ⟨0, rfl, Nat.zero_le _, by omega, Lib.hid (Keep.refl _ _)⟩
  case round =>
    obtain ⟨i, rfl, hi, hg, HR1⟩ := hrel
    by_cases hlt : i < m
    · obtain ⟨e, hy⟩ : ∃ e, ds[i]? = some e := ⟨_, List.getElem?_eq_getElem (by rw [HM.out]; exact hlt)⟩
      obtain ⟨ge, rfl, hFg, hnc, hrow⟩ := (HS9.out.keep HR1.out (fun _ _ e => e)).pos (by omega)
      have d1 := hrow.edges.id _ _ hy
      have HEM := Lib.hid (List.mem_of_getElem? hy)
      obtain ⟨xi, hxi⟩ : ∃ xi, e.id = xi := ⟨_, rfl⟩
      have HXI := Lib.hid hxi
      rw [hxi] at d1
      have HD1 := Lib.hid d1
      clear hrow hy hxi d1
      go_wp2_with fail
      go_loopg [12] m (fun ky s12 wr2 => ∃ j : Nat, s12 = .int .i64 j ∧ j ≤ m ∧ m - j ≤ ky ∧ Hid (Keep Nb wr wr2))
      case atStart => exact ⟨0, rfl, Nat.zero_le _, by omega, Lib.hid (Keep.refl _ _)⟩
      case round =>
        obtain ⟨j, rfl, hj, hgj, HR2⟩ := hrel
        by_cases hjm : j < m
        · as_aux_lemma =>
          obtain ⟨f, hf⟩ : ∃ f, ds[j]? = some f := ⟨_, List.getElem?_eq_getElem (by rw [HM.out]; exact hjm)⟩
          obtain ⟨wj, rfl⟩ : ∃ w' : World, w' = wr := ⟨_, rfl⟩
          obtain ⟨ge', hge', _, _, hrow⟩ := (HS9.out.keep (HR1.out.trans HR2.out) (fun _ _ e => e)).pos (by omega)
          cases hge'
          have d2 := hrow.edges.id _ _ hf
          have HFM := Lib.hid (List.mem_of_getElem? hf)
          have d1 := HR2.out.cell HD1.out (fun e => e)
          obtain ⟨yi, hyi⟩ : ∃ yi, f.id = yi := ⟨_, rfl⟩
          have HYI := Lib.hid hyi
          rw [hyi] at d2
          obtain ⟨p, hp⟩ : ∃ p, decide (∃ l, l ∈ ps ∧ xi ∈ l ∧ yi ∈ l) = p := ⟨_, rfl⟩
          have HC1 : Hid (∀ z, Calls Tryz.prog 45 #[.pointer (some ⟨Y, 0, none⟩), .int .i64 (xi : Nat), .int .i64 (yi : Nat)] (wj.drewN z) fun e' w' => e' = .returned (.tuple #[.bool p, .nilIface]) ∧ w' = wj.drewN z) := Lib.hid (fun z => by
            have h1 := HSAME.out (wj.drewN z) ((HR1.out.trans HR2.out).drewN z) e f HEM.out HFM.out
            rwa [HXI.out, HYI.out, hp] at h1)
          have HC2 : Hid (∀ wk, Keep Nb wj wk → ∀ z, Calls Tryz.prog 39 #[.slice o3 m3 c3, .int .i64 (xi : Nat), .int .i64 (yi : Nat)] (wk.drewN z) fun e' w' => e' = .returned (.bool p) ∧ w' = wk.drewN z) := Lib.hid (fun wk kk z => by
            have h1 := HIN.out (wk.drewN z) (((HR1.out.trans HR2.out).trans kk).drewN z) xi yi
            rwa [hp] at h1)
          clear hrow hf hyi hp
          cases p
          all_goals
            go_wp2_with fail
            go_quiet ((go_at_call 45; exact Calls.quiet_of_same (HC1.out _)))
            obtain ⟨wk, hwk⟩ : ∃ wk, wj.drewN nq = wk := ⟨_, rfl⟩
            have hkk : Keep Nb wj wk := by rw [← hwk]; exact (Keep.refl Nb wj).drewN nq
            have HKK := Lib.hid hkk
            have d1k := hkk.cell d1 (fun e => e)
            have d2k := hkk.cell d2 (fun e => e)
            rw [hwk]
            clear hwk hkk d1 d2
            go_wp2_with fail
            go_quiet ((go_at_call 39; exact Calls.quiet_of_same (HC2.out _ HKK.out _)))
            go_wp2_with fail
            go_roundg (m - (j + 1))
            case measure => omega
            case rel => exact ⟨j + 1, by go_num, by omega, Nat.le_refl _, Lib.hid ((HR2.out.trans HKK.out).drewN _)⟩
        · obtain rfl : m = j := by omega
          go_wp2_with fail
          go_roundg (m - (i + 1))
          case measure => omega
          case rel => exact ⟨i + 1, by go_num, by omega, Nat.le_refl _, Lib.hid (HR1.out.trans HR2.out)⟩
    · obtain rfl : m = i := by omega
      have HMI := Lib.hid (HMISS.out wr HR1.out)
      go_wp2_with fail
      refine HMI.out.mono ?_
      rintro e wa ⟨rfl, hwa⟩
      obtain rfl : wr = wa := hwa.symm
      have HBB := Lib.hid (HB.out wr HR1.out)
      clear HMI HMISS HB
      go_wp2_with fail
      refine HBB.out.mono ?_
      rintro e wb ⟨rfl, hkb⟩
      have HKb := Lib.hid (HKW.out.trans (HR1.out.trans hkb))
      clear hkb
      go_wp2_with fail
      go_ret
      exact ⟨rfl, HKb.out⟩

end Go.Proofs.YtkpoobnldgfapabGreatDoor
