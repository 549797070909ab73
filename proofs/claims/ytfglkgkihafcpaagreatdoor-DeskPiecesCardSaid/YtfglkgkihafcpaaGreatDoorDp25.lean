/- Part 25 of the proof: BkOf1 E3. -/
import Derived.Test.YtfglkgkihafcpaaGreatDoorDp01
import Derived.Test.YtfglkgkihafcpaaGreatDoorDp05
import Derived.Test.YtfglkgkihafcpaaGreatDoorDp20
import Derived.Test.YtfglkgkihafcpaaGreatDoorDp23
import Derived.Test.YtfglkgkihafcpaaGreatDoorDp24
import Derived.OwnWalk
import Derived.Deep.DeepCutAuto
import Derived.Deep.RegionLaw
import Derived.Deep.RegionHeld3
set_option linter.unusedVariables false
set_option linter.unusedSimpArgs false
namespace Go.Proofs.YtfglkgkihafcpaaGreatDoor
open Go.RowKit Pl Go.Maps
theorem heap_alloc_get (w : World) (o : Obj) (k : Nat) : (w.alloc o).heap[k]? = if k = w.heap.size then some o else w.heap[k]? := by
 unfold World.alloc
 simp only [Array.getElem?_push]
theorem heap_drewN (w : World) (m : Nat) : (w.drewN m).heap = w.heap := rfl
theorem heap_drew (w : World) : w.drew.heap = w.heap := rfl
structure OfS (w wc : World) (gb n : Nat) (Z : Array Value) (X Y ob lb mb : Nat) : Prop where
 ge : w.heap.size ≤ X ∧ w.heap.size ≤ Y ∧ w.heap.size ≤ ob ∧ w.heap.size ≤ lb ∧ w.heap.size ≤ mb
 ne : X ≠ Y ∧ X ≠ ob ∧ X ≠ lb ∧ X ≠ mb ∧ Y ≠ ob ∧ Y ≠ lb ∧ Y ≠ mb ∧ ob ≠ lb ∧ ob ≠ mb ∧ lb ≠ mb
 hX : wc.heap[X]? = some (.cells #[.pointer (some ⟨gb, 0, none⟩), .int .i64 0, .slice (some ⟨ob, 0, none⟩) n n, .slice (some ⟨lb, 0, none⟩) n n, .slice none 0 0, .pointer (some ⟨Y, 0, none⟩)] 271)
 hY : wc.heap[Y]? = some (.cells #[.map (some mb), .slice none 0 0, .slice none 0 0] 232)
 hO : wc.heap[ob]? = some (.cells Z 3)
 hL : wc.heap[lb]? = some (.cells Z 3)
 hM : wc.heap[mb]? = some (.map #[] 0)
 keep : Keep Nb w wc
theorem OfS.start {w wc : World} {gb n : Nat} {Z : Array Value} {X Y ob lb mb : Nat} (h : OfS w wc gb n Z X Y ob lb mb) (hZ : Z.toList = fints n (fun _ => 0)) :
  ∃ tag : Nat → Nat, tag mb = 7 ∧ (∀ k, k < w.heap.size → tag k = 7) ∧ DM wc w.heap.size X Y ob lb gb n (.map (some mb)) tag DS.zero none none none 0 0 0 [] ∧ MapAt encN DN wc mb [] := by
 obtain ⟨g1, g2, g3, g4, g5⟩ := h.ge
 obtain ⟨n1, n2, n3, n4, n5, n6, n7, n8, n9, n10⟩ := h.ne
 have lt : ∀ {k o}, wc.heap[k]? = some o → k < wc.heap.size := fun hk => (Array.getElem?_eq_some_iff.1 hk).1
 have l1 := lt h.hX
 have l2 := lt h.hY
 have l3 := lt h.hO
 have l4 := lt h.hL
 refine ⟨fun k => if k = X then 0 else if k = Y then 1 else if k = ob then 2 else if k = lb then 3 else 7, ?_, fun k hk => ?_, ⟨?_, ?_, ?_, ?_, fun k hk => ?_, ⟨_, h.hX, rfl⟩, ⟨_, h.hY, rfl⟩, ⟨_, h.hO, ?_⟩, ⟨_, h.hL, ?_⟩, Sl.nil _ _ _ _, Mat.nil _ _ _ _, Sl.nil _ _ _ _⟩, ⟨#[], 0, h.hM, by simp, by simp, List.Pairwise.nil, by simp, by simp⟩⟩
 ·show (if mb = X then 0 else if mb = Y then 1 else if mb = ob then 2 else if mb = lb then 3 else 7) = 7
  rw [if_neg (fun e => n4 e.symm), if_neg (fun e => n7 e.symm), if_neg (fun e => n9 e.symm), if_neg (fun e => n10 e.symm)]
 ·show (if k = X then 0 else if k = Y then 1 else if k = ob then 2 else if k = lb then 3 else 7) = 7
  rw [if_neg (by omega), if_neg (by omega), if_neg (by omega), if_neg (by omega)]
 ·exact if_pos rfl
 ·show (if Y = X then 0 else if Y = Y then 1 else if Y = ob then 2 else if Y = lb then 3 else 7) = 1
  rw [if_neg (fun e => n1 e.symm), if_pos rfl]
 ·show (if ob = X then 0 else if ob = Y then 1 else if ob = ob then 2 else if ob = lb then 3 else 7) = 2
  rw [if_neg (fun e => n2 e.symm), if_neg (fun e => n5 e.symm), if_pos rfl]
 ·show (if lb = X then 0 else if lb = Y then 1 else if lb = ob then 2 else if lb = lb then 3 else 7) = 3
  rw [if_neg (fun e => n3 e.symm), if_neg (fun e => n6 e.symm), if_neg (fun e => n8 e.symm), if_pos rfl]
 ·have hk : (if k = X then 0 else if k = Y then 1 else if k = ob then 2 else if k = lb then 3 else 7) < 7 := hk
  split at hk
  ·subst_vars; exact ⟨g1, l1⟩
  ·split at hk
   ·subst_vars; exact ⟨g2, l2⟩
   ·split at hk
    ·subst_vars; exact ⟨g3, l3⟩
    ·split at hk
     ·subst_vars; exact ⟨g4, l4⟩
     ·omega
 ·rw [List.take_of_length_le (by rw [hZ, fints_length, fints_length]; exact Nat.le_refl _), hZ]; rfl
 ·rw [List.take_of_length_le (by rw [hZ, fints_length, fints_length]; exact Nat.le_refl _), hZ]; rfl
def BkOfPost (w : World) (n : Nat) (es : List E) (e : Ending) (w' : World) : Prop :=
 ∃ (Y mb pc cc : Nat) (po co : Option Addr) (rows : List Rw) (ps : List (List Nat)) (cs : List Nat) (M : List (Nat × Value)) (G : Nat → Prop), e = .returned (.pointer (some ⟨Y, 0, none⟩)) ∧ BlkList es ps ∧ (∀ x, x ∈ cs ↔ x < n ∧ Sep es x) ∧ cs.Pairwise (· < ·) ∧
  Row w' Y 232 [.map (some mb), .slice po ps.length pc, .slice co cs.length cc] ∧ Mat G w' 63 3 po ps.length pc rows ps ∧ Sl G w' 3 1 co cs.length cc (ints cs) ∧ MapAt encN DN w' mb M ∧ OfMap M ps ps.length 0 ∧
  (∀ k, G k → w.heap.size ≤ k) ∧ w.heap.size ≤ Y ∧ w.heap.size ≤ mb ∧ Keep Nb w w'
set_option maxRecDepth 100000 in
set_option maxHeartbeats 4000000 in
theorem bkof_any (F : Nat → Prop) (w : World) (gb n : Nat) (es : List E) (hG : Gr F w gb n es) (hFw : ∀ k, F k → k < w.heap.size) (hn : n ≤ 40) (hl : es.length ≤ 120) (ho : EOk n es)
  (hdeep : ∀ X Y ob lb mb, DeepP w.heap.size X Y ob lb gb n (.map (some mb)) es F n) :
  Calls Tryz.prog 169 #[.pointer (some ⟨gb, 0, none⟩)] w (BkOfPost w n es) := by
 have HDP := Lib.hid hdeep
 have HFW := Lib.hid hFw
 have HO := Lib.hid ho
 obtain ⟨Z, hZ, hmk⟩ := run_makeI n (by omega)
 have hmm := @run_makeMap Tryz.prog
 have HZ := Lib.hid hZ
 have HG := Lib.hid hG
 have HNO : Hid (∀ wx, Keep Nb w wx → Calls Tryz.prog 77 #[.pointer (some ⟨gb, 0, none⟩)] wx fun e w' => e = .returned (.int .i64 n) ∧ w' = wx) := Lib.hid (fun wx k => (nodes_any F wx gb n es (HG.out.keep k (fun _ _ e => e))).mono (fun e w' h => by obtain ⟨h1, h2⟩ := h; exact ⟨h1, h2⟩))
 clear hZ hG hdeep hFw ho
 go_enter Tryz.func169, Tryz.ntmps169
 go_upto_region 1 with (fail)
 go_cut [3, 15, 18, 19, 21] (fun v o l m y wc => ∃ X Y ob lb mb : Nat, v = .pointer (some ⟨X, 0, none⟩) ∧ o = .slice (some ⟨ob, 0, none⟩) n n ∧ l = .slice (some ⟨lb, 0, none⟩) n n ∧ m = .map (some mb) ∧ y = .pointer (some ⟨Y, 0, none⟩) ∧ Hid (OfS w wc gb n Z X Y ob lb mb))
 case first =>
  go_region_law ((first
   | (go_simp; go_at_call 77; refine (HNO.out _ (show Keep Nb w _ from (by (repeat (first | exact Keep.refl _ _ | refine Keep.alloc ?_ _ | refine Keep.drew ?_ | refine Keep.drewN ?_ _))))).mono ?_; rintro e6 wB ⟨rfl, rfl⟩)
   | (fail "none")))
  all_goals
   (try go_wp2_with fail)
   go_meet
   refine ⟨_, _, _, _, _, rfl, rfl, rfl, rfl, rfl, ?_⟩
   refine Lib.hid ⟨by omega, by omega, by (simp only [heap_alloc_get, World.size_alloc, heap_drewN, heap_drew, ↓reduceIte]; repeat (first | (rw [if_pos (by omega)]) | (rw [if_neg (by omega)]))), by (simp only [heap_alloc_get, World.size_alloc, heap_drewN, heap_drew, ↓reduceIte]; repeat (first | (rw [if_pos (by omega)]) | (rw [if_neg (by omega)]))), by (simp only [heap_alloc_get, World.size_alloc, heap_drewN, heap_drew, ↓reduceIte]; repeat (first | (rw [if_pos (by omega)]) | (rw [if_neg (by omega)]))), by (simp only [heap_alloc_get, World.size_alloc, heap_drewN, heap_drew, ↓reduceIte]; repeat (first | (rw [if_pos (by omega)]) | (rw [if_neg (by omega)]))), by (simp only [heap_alloc_get, World.size_alloc, heap_drewN, heap_drew, ↓reduceIte]; repeat (first | (rw [if_pos (by omega)]) | (rw [if_neg (by omega)]))), by (repeat (first | exact Keep.refl _ _ | refine Keep.alloc ?_ _ | refine Keep.drew ?_ | refine Keep.drewN ?_ _))⟩
 case rest =>
  obtain ⟨X, Y, ob, lb, mb, rfl, rfl, rfl, rfl, rfl, HS⟩ := hcut
  obtain ⟨w1, rfl⟩ : ∃ w' : World, w' = wc := ⟨_, rfl⟩
  obtain ⟨tag, htm, htl, hD, hMM⟩ := HS.out.start HZ.out
  have HK1 := Lib.hid HS.out.keep
  have HMBG := Lib.hid HS.out.ge.2.2.2.2
  have hzb := HS.out.keep.size
  have HT := Lib.hid (And.intro htm htl)
  have HMM := Lib.hid hMM
  have HR0 : Hid (OfR w1 w1 w.heap.size X Y ob lb gb n mb es tag DS.zero tag none none none 0 0 0 []) := Lib.hid ⟨hD, fun _ _ => rfl, Keep.refl _ _, by
   have h1 : unv n DS.zero ≤ n := cnt_le _ _
   have h2 : wt DS.zero = 0 := rfl
   omega⟩
  have HT0 : Hid (DTop es DS.zero 0) := Lib.hid (DTop.start es)
  have HN1 := Lib.hid (HNO.out w1 HS.out.keep)
  clear htm htl hD hMM HS hmk hmm HZ HNO
  go_wp2_with fail
  refine HN1.out.mono ?_
  rintro e w' ⟨rfl, hw'⟩
  obtain rfl : w1 = w' := hw'.symm
  go_wp2_with fail
  go_loopg [26] n (fun kx s26 wr => ∃ (i : Nat) (s : DS) (tagi : Nat → Nat) (so po co : Option Addr) (sc pc cc : Nat) (rows : List Rw), s26 = .int .i64 i ∧ i ≤ n ∧ n - i ≤ kx ∧ Hid (DTop es s i) ∧ Hid (OfR w1 wr w.heap.size X Y ob lb gb n mb es tag s tagi so po co sc pc cc rows))
  case atStart => exact ⟨0, _, _, _, _, _, _, _, _, _, rfl, Nat.zero_le _, by omega, HT0, HR0⟩
  case round =>
   clear HR0 HT0
   obtain ⟨i, s, tagi, so, po, co, sc, pc, cc, rows, rfl, hi, hg, HTP, HR⟩ := hrel
   by_cases hlt : i < n
   ·have x2 := HR.out.dm.head.cell (i := 2) rfl
    have o1 := HR.out.dm.ord.cell (fints_get s.ord hlt)
    obtain ⟨v, hv⟩ : ∃ v, s.ord i = v := ⟨_, rfl⟩
    rw [hv] at o1
    have HV := Lib.hid hv
    clear hv
    by_cases h0 : v = 0
    ·as_aux_lemma =>
     have b1 : ((v : Int) == 0) = true := by simp; omega
     have HV0 : Hid (s.ord i = 0) := Lib.hid (by rw [HV.out]; exact h0)
     have hG1 : Gr F wr gb n es := HG.out.keep (HK1.out.of_nb.trans HR.out.keep) (fun j hj e => by
      have h1 := HFW.out j hj
      have h2 := HT.out.2 j h1
      omega)
     have HDC := Lib.hid (HDP.out X Y ob lb mb wr tagi s so po co sc pc cc rows i (-1) hlt HV0.out (cnt_le _ _) (by have := HR.out.bd; omega) HR.out.dm hG1)
     clear h0 hG1
     go_wp2_with fail
     refine HDC.out.mono ?_
     rintro e w5 ⟨rfl, s', tag', so', po', co', sc', pc', cc', rows', hrun, hD', hsame, hk, hun, hbd⟩
     have HT2 : Hid (DTop es s' (i + 1)) := Lib.hid (DTop.root (sorted_inj HO.out.sorted) HO.out.ne (nb := fun z => es.filter (kp z)) (fun z e => by rw [List.mem_filter]; unfold kp touch; simp) (fun z => (HO.out.sorted.imp (fun {a b} h e => by subst e; omega) : es.Nodup).sublist List.filter_sublist) HTP.out HV0.out hrun)
     have HR2 : Hid (OfR w1 w5 w.heap.size X Y ob lb gb n mb es tag s' tag' so' po' co' sc' pc' cc' rows') := Lib.hid ⟨hD', fun j hj => by have z := HR.out.keep.size; rw [hsame j (by omega), HR.out.same j hj], keep_chain HR.out.keep hk HR.out.same, by have := HR.out.bd; omega⟩
     clear hrun hD' hsame hk hun hbd HDC
     go_wp2_with fail
     go_roundg (n - (i + 1))
     case measure => omega
     case rel => exact ⟨i + 1, _, _, _, _, _, _, _, _, _, by go_num, by omega, Nat.le_refl _, HT2, HR2⟩
    ·as_aux_lemma =>
     have b1 : ((v : Int) == 0) = false := by simp; omega
     have HT2 : Hid (DTop es s (i + 1)) := Lib.hid (HTP.out.met' (by rw [HV.out]; exact h0))
     clear h0
     go_wp2_with fail
     go_roundg (n - (i + 1))
     case measure => omega
     case rel => exact ⟨i + 1, _, _, _, _, _, _, _, _, _, by go_num, by omega, Nat.le_refl _, HT2, HR⟩
   ·as_aux_lemma =>
    obtain rfl : i = n := by omega
    have x5 := HR.out.dm.head.cell (i := 5) rfl
    have y1 := HR.out.dm.bl.cell (i := 1) rfl
    obtain ⟨m, hm⟩ : ∃ m, s.ps.length = m := ⟨_, rfl⟩
    rw [hm] at y1
    have HM := Lib.hid hm
    have hm1 : m ≤ 20000 := by
     have h1 := HR.out.bd
     have h2 : s.ps.length ≤ wt s := by unfold wt; omega
     omega
    have hmat := HR.out.dm.ps
    rw [hm] at hmat
    obtain ⟨w5, rfl⟩ : ∃ w' : World, w' = wr := ⟨_, rfl⟩
    have HS0 : Hid (SoR w5 w5 po m pc 0 tagi rows s.ps s.ps) := Lib.hid ⟨hmat, rfl, fun j p q h1 h2 => by rw [h1] at h2; cases h2; exact .refl _, fun j p hj => by omega, Keep.refl _ _⟩
    clear hm hmat
    go_wp2_with fail
    have HPL : Hid (∀ q, q ∈ s.ps → q.length ≤ 120) := Lib.hid (fun q hq => Nat.le_trans (row_len HTP.out hq) hl)
    go_loopg [50] m (fun ky s50 wr2 => ∃ (i : Nat) (ps : List (List Nat)), s50 = .int .i64 i ∧ i ≤ m ∧ m - i ≤ ky ∧ Hid (SoR w5 wr2 po m pc i tagi rows s.ps ps))
    case atStart => exact ⟨0, _, rfl, Nat.zero_le _, by omega, HS0⟩
    case round =>
     clear HS0
     obtain ⟨j, ps, rfl, hj, hgj, HSR⟩ := hrel
     by_cases hjm : j < m
     ·as_aux_lemma =>
      obtain ⟨p, hp⟩ : ∃ p, ps[j]? = some p := ⟨_, List.getElem?_eq_getElem (by rw [HSR.out.len, HM.out]; exact hjm)⟩
      obtain ⟨r, hr⟩ : ∃ r, rows[j]? = some r := ⟨_, List.getElem?_eq_getElem (by rw [HSR.out.mat.len, HSR.out.len, HM.out]; exact hjm)⟩
      obtain ⟨q0, hq0⟩ : ∃ q, s.ps[j]? = some q := ⟨_, List.getElem?_eq_getElem (by rw [HM.out]; exact hjm)⟩
      obtain ⟨go, rfl, _, hmc, hrow⟩ := HSR.out.mat.out.pos (by omega)
      have hcell := hrow.cell (i := j) (v := r.val) (by simp [hr])
      have hS := HSR.out.mat.row j r p hr hp
      have hpl : p.length ≤ 120 := by rw [(HSR.out.perm j p q0 hp hq0).length_eq]; exact HPL.out _ (List.mem_of_getElem? hq0)
      have hrn : p.length = r.n := by have := hS.len; simpa using this
      have HRP := Lib.hid (And.intro hr hp)
      have HC := Lib.hid (sortI_any _ wr r.o r.n r.c p hS (by omega))
      unfold Rw.val at hcell
      obtain ⟨ro, hro⟩ : ∃ x, r.o = x := ⟨_, rfl⟩
      obtain ⟨rn, hrn2⟩ : ∃ x, r.n = x := ⟨_, rfl⟩
      obtain ⟨rc, hrc⟩ : ∃ x, r.c = x := ⟨_, rfl⟩
      rw [hro, hrn2, hrc] at hcell HC
      have HRR := Lib.hid (And.intro hro (And.intro hrn2 hrc))
      clear hS hrow hr hp hq0 hro hrn2 hrc hrn
      go_wp2_with fail
      refine HC.out.mono ?_
      rintro e w6 ⟨rfl, p', hpp, hsrt, hS', hk'⟩
      have HN : Hid (SoR w5 w6 (some ⟨go, 0, none⟩) m pc (j + 1) tagi rows s.ps (ps.set j p')) := Lib.hid (HSR.out.next HRP.out.1 HRP.out.2 hpp hsrt (by rw [HRR.out.1, HRR.out.2.1, HRR.out.2.2]; exact hS') (by rw [HRR.out.1]; exact hk'))
      clear hpp hsrt hS' hk' hcell HC HSR
      go_wp2_with fail
      go_roundg (m - (j + 1))
      case measure => omega
      case rel => exact ⟨j + 1, _, by go_num, by omega, Nat.le_refl _, HN⟩
     ·obtain rfl : m = j := by omega
      have hy : tagi Y ≠ 6 := by rw [HR.out.dm.tY]; omega
      have y1 := (HR.out.dm.bl.keep HSR.out.keep hy).cell (i := 1) rfl
      rw [HM.out] at y1
      obtain ⟨h1, h2, h3⟩ := heads_ne HTP.out HSR.out.len HSR.out.perm
      have HSF := Lib.hid (sortF_any _ wr _ _ po m pc rows ps HSR.out.mat h1 (fun p hp => by obtain ⟨e, he, hid⟩ := h3 p hp; rw [← hid]; exact HO.out.small e he) h2 (by omega))
      clear h1 h2 h3 hy
      go_wp2_with fail
      refine HSF.out.mono ?_
      rintro e w6 ⟨rfl, rows', ps', hperm, hsort, hM', hk'⟩
      have HBL : Hid (BlkList es ps') := Lib.hid (of_list HO.out.over HTP.out HM.out HSR.out hperm hsort)
      have HM6 := Lib.hid hM'
      have hk56 : Keep (fun j => tagi j = 6) w5 w6 := HSR.out.keep.trans' hk' (fun _ _ e => e) (fun j _ ⟨a, ha, hb⟩ => by have h1 := HSR.out.mat.out.foot a ha; rw [hb] at h1; exact h1)
      have HK56 := Lib.hid hk56
      have hY6 := HR.out.dm.bl.keep hk56 (by rw [HR.out.dm.tY]; omega)
      have y0 := hY6.cell (i := 0) rfl
      have y1 := hY6.cell (i := 1) rfl
      rw [HM.out] at y1
      have HY6 := Lib.hid hY6
      have hm7 : tagi mb = 7 := by rw [HR.out.same mb HMM.out.lt]; exact HT.out.1
      have HM7 := Lib.hid hm7
      have HMP : Hid (MapAt encN DN w6 mb []) := Lib.hid ((HMM.out.keep HR.out.keep (by rw [HT.out.1]; omega)).keep hk56 (by rw [hm7]; omega))
      have hpl : ps'.length = m := by rw [hperm.length_eq, HSR.out.len, HM.out]
      have HPLN := Lib.hid hpl
      have hrow120 : ∀ p, p ∈ ps' → p.length ≤ 120 := fun p hp => by
       obtain ⟨j, hj⟩ := List.mem_iff_getElem?.1 (hperm.mem_iff.1 hp)
       obtain ⟨q, hq⟩ : ∃ q, s.ps[j]? = some q := ⟨_, List.getElem?_eq_getElem (by have := (List.getElem?_eq_some_iff.1 hj).1; rw [HSR.out.len] at this; exact this)⟩
       rw [(HSR.out.perm j p q hj hq).length_eq]; exact HPL.out _ (List.mem_of_getElem? hq)
      have H120 := Lib.hid hrow120
      clear hperm hsort hM' hk' hk56 hY6 hm7 hpl hrow120 HSF HSR HPL
      go_wp2_with fail
      go_loopg [67] m (fun kz s67 wr3 => ∃ (k : Nat) (M : List (Nat × Value)), s67 = .int .i64 k ∧ k ≤ m ∧ m - k ≤ kz ∧ Hid (OfMap M ps' k 0 ∧ MapAt encN DN wr3 mb M ∧ Keep (fun j => j = mb) w6 wr3))
      case atStart => exact ⟨0, [], rfl, Nat.zero_le _, by omega, Lib.hid ⟨OfMap.start _, HMP.out, Keep.refl _ _⟩⟩
      case round =>
       obtain ⟨k, M, rfl, hk, hgk, HL⟩ := hrel
       by_cases hkm : k < m
       ·as_aux_lemma =>
        obtain ⟨p, hp⟩ : ∃ p, ps'[k]? = some p := ⟨_, List.getElem?_eq_getElem (by rw [HPLN.out]; exact hkm)⟩
        obtain ⟨r, hr⟩ : ∃ r, rows'[k]? = some r := ⟨_, List.getElem?_eq_getElem (by rw [HM6.out.len, HPLN.out]; exact hkm)⟩
        have hM3 := HM6.out.keep HL.out.2.2 (fun j hj e => by subst e; have hj : tagi j = 6 := hj; rw [HM7.out] at hj; omega)
        obtain ⟨go, rfl, _, hmc, hrow⟩ := hM3.out.pos (by omega)
        have hcell := hrow.cell (i := k) (v := r.val) (by simp [hr])
        have hS := HM6.out.row k r p hr hp
        have hpl : p.length ≤ 120 := H120.out p (List.mem_of_getElem? hp)
        have hrn : p.length = r.n := by have := hS.len; simpa using this
        unfold Rw.val at hcell
        obtain ⟨ro, hro⟩ : ∃ x, r.o = x := ⟨_, rfl⟩
        obtain ⟨rn, hrn2⟩ : ∃ x, r.n = x := ⟨_, rfl⟩
        obtain ⟨rc, hrc⟩ : ∃ x, r.c = x := ⟨_, rfl⟩
        rw [hro, hrn2, hrc] at hcell hS
        rw [hrn2] at hrn
        rw [hrn] at hpl
        have HS := Lib.hid hS
        have HPR := Lib.hid (And.intro hp hrn)
        clear hS hrow hr hp hro hrn2 hrc hrn hM3
        go_wp2_with fail
        go_loopg [74] rn (fun kq s74 wr4 => ∃ (j : Nat) (M' : List (Nat × Value)), s74 = .int .i64 j ∧ j ≤ rn ∧ rn - j ≤ kq ∧ Hid (OfMap M' ps' k j ∧ MapAt encN DN wr4 mb M' ∧ Keep (fun j => j = mb) w6 wr4))
        case atStart => exact ⟨0, M, rfl, Nat.zero_le _, by omega, HL⟩
        case round =>
         obtain ⟨j, M', rfl, hj, hgj, HL2⟩ := hrel
         by_cases hjl : j < rn
         ·as_aux_lemma =>
          obtain ⟨x, hx⟩ : ∃ x, p[j]? = some x := ⟨_, List.getElem?_eq_getElem (by rw [HPR.out.2]; exact hjl)⟩
          have hS4 := HS.out.keep HL2.out.2.2 (fun z hz e => by subst e; have hz : tagi z = 6 := hz; rw [HM7.out] at hz; omega)
          obtain ⟨gr, rfl, _, hrc4, hrow4⟩ := hS4.pos (by omega)
          have hc4 := hrow4.cell (ints_get hx)
          have hY4 := HY6.out.keep HL2.out.2.2 (fun e => by have h1 := HR.out.dm.tY; rw [e, HM7.out] at h1; omega)
          have c0 := hY4.cell (i := 0) rfl
          obtain ⟨e, he, hid⟩ := (HBL.out.ids x).1 (List.mem_flatten.2 ⟨p, List.mem_of_getElem? HPR.out.1, List.mem_of_getElem? hx⟩)
          have hxs : x < 4611686018427387904 := by rw [← hid]; exact HO.out.small e he
          obtain ⟨w7, R1, hM', hk'⟩ := HL2.out.2.1.store (encN_enc Tryz.underlying3) Tryz.underlying230 (a := x) (by unfold DN; omega) (.int .i64 (k : Nat))
          have HR1 := Lib.hid R1
          have HN : Hid (OfMap (mset M' x (.int .i64 (k : Nat))) ps' k (j + 1) ∧ MapAt encN DN w7 mb (mset M' x (.int .i64 (k : Nat))) ∧ Keep (fun j => j = mb) w6 w7) := Lib.hid ⟨HL2.out.1.next HPR.out.1 hx, hM', HL2.out.2.2.trans hk'⟩
          clear hx hS4 hrow4 hY4 he hid R1 hM' hk'
          go_wp2_with (first | (at_mapUpdate; refine wpList_mapset rfl _ _ _ _ rfl rfl rfl rfl HR1.out ?_))
          go_roundg (rn - (j + 1))
          case measure => omega
          case rel => exact ⟨j + 1, _, by go_num, by omega, Nat.le_refl _, HN⟩
         ·obtain rfl : rn = j := by omega
          have HN : Hid (OfMap M' ps' (k + 1) 0 ∧ MapAt encN DN wr mb M' ∧ Keep (fun j => j = mb) w6 wr) := Lib.hid ⟨by
           have h1 := HL2.out.1
           rw [← HPR.out.2] at h1
           exact h1.row HPR.out.1 (fun i q y hik hq hy => blk_dis HBL.out hik hq HPR.out.1 hy), HL2.out.2.1, HL2.out.2.2⟩
          go_wp2_with fail
          go_roundg (m - (k + 1))
          case measure => omega
          case rel => exact ⟨k + 1, _, by go_num, by omega, Nat.le_refl _, HN⟩
       ·obtain rfl : m = k := by omega
        have hY3 := HY6.out.keep HL.out.2.2 (fun e => by have h1 := HR.out.dm.tY; rw [e, HM7.out] at h1; omega)
        have y2 := hY3.cell (i := 2) rfl
        have hC3 := (HR.out.dm.cu.keep HK56.out (fun j hj e => by have hj : tagi j = 5 := hj; have e : tagi j = 6 := e; omega)).keep HL.out.2.2 (fun j hj e => by subst e; have hj : tagi j = 5 := hj; rw [HM7.out] at hj; omega)
        have hcb : s.cuts.length ≤ 20000 := by
         have h1 := HR.out.bd
         have h2 : s.cuts.length ≤ wt s := by unfold wt; omega
         omega
        obtain ⟨cn, hcn⟩ : ∃ c, s.cuts.length = c := ⟨_, rfl⟩
        rw [hcn] at y2 hC3 hcb
        have HSC := Lib.hid (sortI_any _ wr co cn cc s.cuts hC3 (by omega))
        have HY3 := Lib.hid hY3
        have HCN := Lib.hid hcn
        clear hY3 hC3 hcn
        go_wp2_with fail
        refine HSC.out.mono ?_
        rintro e w7 ⟨rfl, l', hperm, hsrt, hS7, hk7⟩
        have nbY : ¬ Bl co Y := fun ⟨a, ha, hb⟩ => by
         have h1 := HR.out.dm.cu.foot a ha
         rw [hb] at h1
         have h1 : tagi Y = 5 := h1
         rw [HR.out.dm.tY] at h1; omega
        have HNB := Lib.hid nbY
        have hY7 := HY3.out.keep hk7 nbY
        have y2' := hY7.cell (i := 2) rfl
        rw [HCN.out] at y2'
        have HCC := Lib.hid (compactI_any _ w7 co cn cc l' hS7 hsrt (by omega))
        have HY7 := Lib.hid hY7
        have H7 := Lib.hid (And.intro hperm hk7)
        clear nbY hY7 hperm hsrt hS7 hk7 y2
        go_wp2_with fail
        refine HCC.out.mono ?_
        rintro e w8 ⟨cs, rfl, hrise, hmem, hS8, hk8⟩
        have hY8 := HY7.out.keep hk8 HNB.out
        have f8 := hY8.frozen 2 none
        have hl8 := hY8.lt
        have y2'' := hY8.cell (i := 2) rfl
        obtain ⟨w9, hw9⟩ : ∃ w9, w8.setCell ⟨Y, 2, none⟩ (.slice co cs.length cc) = w9 := ⟨_, rfl⟩
        have hk9 : Keep (fun j => j = Y) w8 w9 := by rw [← hw9]; exact keep_set _ _ _ _
        have hbl : ∀ j, Bl co j → tagi j = 5 := fun j ⟨a, ha, hb⟩ => by have h1 := HR.out.dm.cu.foot a ha; rw [hb] at h1; exact h1
        have hold : ∀ j, j < w.heap.size → tagi j = 7 := fun j hj => by rw [HR.out.same j (by omega)]; exact HT.out.2 j hj
        have HP : Hid (BkOfPost w _ es (.returned (.pointer (some ⟨Y, 0, none⟩))) w9) := Lib.hid
         ⟨Y, mb, pc, cc, po, co, rows', ps', cs, M, fun j => tagi j = 5 ∨ tagi j = 6, rfl, HBL.out, fun x => by
          rw [hmem x, H7.out.1.mem_iff]
          constructor
          ·intro h
           have h1 := (HTP.out.cIn x (HTP.out.cNew x h)).1 h
           exact ⟨sep_lt HO.out.over h1, h1⟩
          ·intro ⟨h1, h2⟩
           exact (HTP.out.cIn x (HTP.out.met x h1)).2 h2, hrise, by
          have h1 := hY8.set (i := 2) (by simp) (.slice co cs.length cc)
          rw [hw9] at h1
          have h2 : ps'.length = s.ps.length := by rw [HPLN.out, HM.out]
          rw [h2]
          exact h1, by
          have h1 := (((HM6.out.keep HL.out.2.2 (fun j hj e => by subst e; have hj : tagi j = 6 := hj; rw [HM7.out] at hj; omega)).keep H7.out.2 (fun j hj e => by have hj : tagi j = 6 := hj; have := hbl j e; omega)).keep hk8 (fun j hj e => by have hj : tagi j = 6 := hj; have := hbl j e; omega)).keep hk9 (fun j hj e => by subst e; have hj : tagi j = 6 := hj; rw [HR.out.dm.tY] at hj; omega)
          rw [HPLN.out]
          exact h1.mono (fun j e => .inr e), (hS8.keep hk9 (fun j hj e => by subst e; have hj : tagi j = 5 := hj; rw [HR.out.dm.tY] at hj; omega)).mono (fun j e => .inl e),
          (((HL.out.2.1.keep H7.out.2 (fun e => by have := hbl _ e; rw [HM7.out] at this; omega)).keep hk8 (fun e => by have := hbl _ e; rw [HM7.out] at this; omega)).keep hk9 (fun e => by have h1 := HR.out.dm.tY; rw [← e, HM7.out] at h1; omega)),
          by rw [HPLN.out]; exact HL.out.1, fun j hj => (HR.out.dm.lt j (by omega)).1, (HR.out.dm.lt Y (by rw [HR.out.dm.tY]; omega)).1, Nat.le_of_not_lt (fun h => by
           have h1 := HMBG.out
           omega),
          (((((HK1.out.trans' HR.out.keep (fun _ _ e => e) (fun j hj e => by rw [HT.out.2 j hj] at e; omega)).trans' HK56.out (fun _ _ e => e) (fun j hj e => by have e : tagi j = 6 := e; rw [hold j hj] at e; omega)).trans' HL.out.2.2 (fun _ _ e => e) (fun j hj e => by have h1 := HMBG.out; omega)).trans' H7.out.2 (fun _ _ e => e) (fun j hj e => by have := hbl j e; rw [hold j hj] at this; omega)).trans' hk8 (fun _ _ e => e) (fun j hj e => by have := hbl j e; rw [hold j hj] at this; omega)).trans' hk9 (fun _ _ e => e) (fun j hj e => by have h1 := hold j hj; rw [e, HR.out.dm.tY] at h1; omega)⟩
        clear hY8 hrise hmem hS8 hk8 hk9 hbl hold HCC HSC
        go_wp2_with fail
        first | rw [hw9] | skip
        go_ret
        exact HP.out
end Go.Proofs.YtfglkgkihafcpaaGreatDoor

namespace Go.Proofs.YtfglkgkihafcpaaGreatDoor
open Go
section
variable {P : Program} {ops : Array Oper} {Q : Exit → Act → World → Prop} {md : Region.Mode} {S : World → Prop}
end
end Go.Proofs.YtfglkgkihafcpaaGreatDoor
namespace Go.Proofs.YtfglkgkihafcpaaGreatDoor
open Go
section
variable {P : Program} {ops : Array Oper} {Q : Exit → Act → World → Prop} {md : Region.Mode} {S : World → Prop} {z : Nat}
def heldZ (P : Program) (md : Region.Mode) (ops : Array Oper) (Q : Exit → Act → World → Prop) (S : World → Prop) (z : Nat) (n : Nat) (L : Array Bool) (a : Act) (w : World) : Prop :=
 match n with
 | 0 => Region.ready md ops L = [] ∧ Q .normal a w
 | n + 1 => (Region.ready md ops L = [] → Q .normal a w) ∧ ∀ i, i ∈ Region.ready md ops L →
   wpOp P ops Q i (fun b v => (i ≠ z → S v) ∧ heldZ P md ops Q S z n (L.setIfInBounds i true) b v) a w
theorem heldZ.any {n : Nat} : ∀ {L : Array Bool} {a : Act} {w : World}, heldZ P md ops Q S z n L a w → wpAny P md ops Q n L a w := by
 induction n with
 | zero => exact fun h => h
 | succ n ih => exact fun h => ⟨h.1, fun i hi => wpOp_mono (fun _ _ g => ih g.2) (h.2 i hi)⟩
theorem beginZ {id : Nat} {a : Act} {w : World} (S : World → Prop) (z : Nat) (hm : P.follows .mixedOrders = true) (hS : S w.drew)
  (h : S w.drew → heldZ P .any ops Q S z ops.size (Array.replicate ops.size false) a w.drew) : (Code.region id ops true).wp P Q a w :=
 wp_region_any hm (h hS).any
theorem doneZ {L : Array Bool} {a : Act} {w : World} (hr : Region.ready md ops L = []) (h : Q .normal a w) (n : Nat) : heldZ P md ops Q S z n L a w := by
 cases n with
 | zero => exact ⟨hr, h⟩
 | succ n => exact ⟨fun _ => h, fun i hi => (by rw [hr] at hi; cases hi)⟩
def waitsB (md : Region.Mode) (ops : Array Oper) (x y : Nat) : Bool := match ops[y]? with
 | some o => o.after.any (fun e => Region.binds md e && e.on == x)
 | none => false
def chainB (md : Region.Mode) (ops : Array Oper) (L : Array Bool) (z : Nat) : Nat → List Nat → Bool
 | x, [] => x == z
 | x, y :: r => !(L.getD x true) && waitsB md ops x y && chainB md ops L z y r
theorem chainB_step {L : Array Bool} {j : Nat} (hj : j ∈ Region.ready md ops L) : ∀ (r : List Nat) (x : Nat), chainB md ops L z x r = true → j ≠ x → chainB md ops (L.setIfInBounds j true) z x r = true ∧ j ≠ z
 | [], x, h, ne => ⟨h, by have h1 : (x == z) = true := h; rw [beq_iff_eq] at h1; rw [← h1]; exact ne⟩
 | y :: r, x, h, ne => by
  unfold chainB at h ⊢
  simp only [Bool.and_eq_true, Bool.not_eq_true'] at h ⊢
  obtain ⟨⟨h1, h2⟩, h3⟩ := h
  have ny : j ≠ y := by
   rintro rfl
   obtain ⟨_, o, ho, hall⟩ := mem_ready.1 hj
   unfold waitsB at h2
   rw [ho] at h2
   simp only [Array.any_eq_true', Bool.and_eq_true, beq_iff_eq] at h2
   obtain ⟨e, he, hb, hx⟩ := h2
   have g := hall e he hb
   rw [hx] at g
   by_cases hs : x < L.size
   ·simp [hs] at g h1
    rw [g] at h1; cases h1
   ·simp [Array.getElem?_eq_none (Nat.le_of_not_lt hs)] at g
  obtain ⟨k1, k2⟩ := chainB_step hj r y h3 ny
  exact ⟨⟨⟨by rw [getD_set_ne true ne]; exact h1, h2⟩, k1⟩, k2⟩
theorem firstZ {i : Nat} {o : Oper} {u : Value} {r : List Nat} (hi : ops[i]? = some o) (hsel : ∀ (j : Nat) (x : Oper) cs b, ops[j]? = some x → x.op ≠ .select cs b)
  (hQ : ∀ c a w, Q (.panic c) (a.put o.dst u) w → Q (.panic c) a w) (n : Nat) : ∀ (L : Array Bool) (a : Act) (w : World),
  (∀ j x, ops[j]? = some x → j ≠ i → L.getD j true = false → (∀ e ∈ x.after, Region.binds md e = true → e.on ≠ i) → o.apart ops x = true) →
  chainB md ops L z i r = true → i ∈ Region.ready md ops L → YieldsIf P ops S o u a → S w → heldZ P md ops Q S z n (L.setIfInBounds i true) (a.put o.dst u) w → heldZ P md ops Q S z (n + 1) L a w := by
 induction n with
 | zero =>
  intro L a w _ _ hr hy hS h
  refine ⟨fun g => (by rw [g] at hr; cases hr), fun j hj => ?_⟩
  by_cases ne : j = i
  ·subst ne; exact hy.wpOp hi hS ⟨fun _ => hS, h⟩
  ·have := ready_mono hj ne
   rw [h.1] at this; cases this
 | succ n ih =>
  intro L a w hap hc hr hy hS h
  refine ⟨fun g => (by rw [g] at hr; cases hr), fun j hj => ?_⟩
  by_cases ne : j = i
  ·subst ne; exact hy.wpOp hi hS ⟨fun _ => hS, h⟩
  ·obtain ⟨hun, x, hx, hall⟩ := mem_ready.1 hj
   have hw : ∀ e ∈ x.after, Region.binds md e = true → e.on ≠ i := by
    intro e he hb q
    have g1 := hall e he hb
    have g0 := (mem_ready.1 hr).1
    rw [q] at g1
    by_cases hs : i < L.size
    ·simp [hs] at g0 g1
     rw [g0] at g1; cases g1
    ·simp [Array.getElem?_eq_none (Nat.le_of_not_lt hs)] at g1
   obtain ⟨c1, c2⟩ := chainB_step hj r i hc ne
   have hri := ready_mono hr (Ne.symm ne)
   have g := wpOp_putIf hx (hap j x hx ne hun hw) (fun cs b => hsel i o cs b hi) (fun cs b => hsel j x cs b hx) hQ hy (h.2 j (ready_mono hj ne))
   refine wpOp_mono (fun b v t => ⟨t.2.1, ih _ b v (fun k y hk hki hku hno => hap k y hk hki ?_ hno) c1 hri t.1 (t.2.1 c2) ?_⟩) g
   ·by_cases nk : j = k
    ·subst nk; exact hun
    ·rwa [getD_set_ne true nk] at hku
   ·rw [Array.setIfInBounds_comm _ _ ne]; exact t.2.2
theorem yesZ {i : Nat} {o : Oper} (r : List Nat) {d : Option Tmp} {v : Value} {n : Nat} {L : Array Bool} {a : Act} {w : World} (hi : ops[i]? = some o) (hd : o.dst = d)
  (hs : Region.noSelect ops = true) (hf : Region.free md ops L i = true) (hr : (Region.ready md ops L).contains i = true) (hc : chainB md ops L z i r = true)
  (hQ : ∀ c a w, Q (.panic c) (a.put d v) w → Q (.panic c) a w) (hw : Region.wanted o (yielded ops a.tmps) = true) (hy : ∀ w, S w → (execOp a.eval o).run P w = .ok (.value v) w) (hS : S w)
  (h : heldZ P md ops Q S z n (L.setIfInBounds i true) (a.put d v) w) : heldZ P md ops Q S z (n + 1) L a w := by
 subst hd
 exact firstZ hi (Region.noSelect_spec hs) hQ n L a w (Region.free_spec hi hf) hc (by simpa using hr) (.inl ⟨hw, hy⟩) hS h
theorem oneZ {i : Nat} {o : Oper} {n : Nat} {L : Array Bool} {a : Act} {w : World} (hr : Region.ready md ops L = [i]) (ho : ops[i]? = some o)
  (h : ∀ K' : Act → World → Prop, Shut (∀ a w, S w → (S w → heldZ P md ops Q S z n (L.setIfInBounds i true) a w) → K' a w) → if Region.wanted o (yielded ops a.tmps) = true then Oper.wp P o a w K' Q else K' (a.put o.dst undef) w) :
  heldZ P md ops Q S z (n + 1) L a w :=
 ⟨fun g => (by rw [hr] at g; cases g), fun j hj => by
  rw [hr, List.mem_singleton] at hj; subst hj
  exact wpOp_step ho (fun K' hK => h K' (fun a w hS hW => hK a w ⟨fun _ => hS, hW hS⟩))⟩
theorem lastZ {i : Nat} {o : Oper} {n : Nat} {L : Array Bool} {a : Act} {w : World} (hr : Region.ready md ops L = [i]) (hz : i = z) (he : Region.ready md ops (L.setIfInBounds i true) = []) (ho : ops[i]? = some o)
  (h : ∀ K' : Act → World → Prop, Shut (∀ a w, Q .normal a w → K' a w) → if Region.wanted o (yielded ops a.tmps) = true then Oper.wp P o a w K' Q else K' (a.put o.dst undef) w) :
  heldZ P md ops Q S z (n + 1) L a w :=
 ⟨fun g => (by rw [hr] at g; cases g), fun j hj => by
  rw [hr, List.mem_singleton] at hj; subst hj
  exact wpOp_step ho (fun K' hK => h K' (fun a w hW => hK a w ⟨fun h => absurd hz h, doneZ he hW n⟩))⟩
end
end Go.Proofs.YtfglkgkihafcpaaGreatDoor

