/- isthmusref: Blocks. -/
import Derived.Test.YtkpoobnldgfapabGreatDoorRBlkK
import Derived.Test.YtkpoobnldgfapabGreatDoorE3
import Derived.Test.YtkpoobnldgfapabGreatDoorRBr
import Derived.Deep.DeepCutAuto
import Derived.Deep.RegionLaw
import Derived.Deep.RegionHeld3
import Derived.Deep.LoopGhost
set_option linter.unusedVariables false
set_option linter.unusedSimpArgs false
namespace Go.Proofs.YtkpoobnldgfapabGreatDoor
open Go.RowKit Pl Go.Maps

theorem lb_step {w5 wr : World} {bb m i k z : Nat} {es : List E} {b : Nat → Nat} {e f : E} (h : LbRel w5 wr bb m es b) (hm : es.length = m) (hi : es[i]? = some e) (hk : es[k]? = some f) (hz : z = e.a ∨ z = e.b) (ht : touch f z) (hc : Conn (ends (less1 es z)) (othE e z) (othE f z)) (hlt : b i < b k) {w' : World} (kw : Keep Nb wr w') :
    LbRel w5 (w'.setCell ⟨bb, k, none⟩ (.int .i64 (b i : Nat))) bb m es (upd b k (b i)) := by
  have hkl := (List.getElem?_eq_some_iff.1 hk).1
  have h1 := h.next kw
  refine ⟨?_, h.inv.step hi hk ⟨z, ?_, ht, hc⟩ hlt, h1.keep.trans (keepOne _ _ _ _)⟩
  · have := h1.row.set (i := k) (by rw [fints_length]; omega) (.int .i64 (b i : Nat))
    rwa [fints_set] at this
  · rcases hz with h | h
    · exact .inl h.symm
    · exact .inr h.symm

set_option maxRecDepth 100000 in
set_option maxHeartbeats 40000000 in
theorem rblocks_any (F : Nat → Prop) (w : World) (g n : Nat) (fs es : List E) (hG : RGr F w g n fs) (hs : Sorted es) (hp : es.Perm fs) (hn : n ≤ 40) (hl : fs.length ≤ 120) (ho : Over n fs) :
    Calls Tryz.prog 41 #[.pointer (some ⟨g, 0, none⟩)] w (RBlocksPost w es) := by
  have HG := Lib.hid hG
  have HS := Lib.hid hs
  have HP := Lib.hid hp
  have HO := Lib.hid ho
  have HSO := Lib.hid (rsorted_any F w g n fs hG (by omega))
  have hmm := @run_makeMap Tryz.prog
  have HMM := Lib.hid hmm
  clear hG hs hp ho hmm
  go_enter Tryz.func41, Tryz.ntmps41
  go_wp2_with fail
  refine HSO.out.mono ?_
  rintro e w1 ⟨ds, o1, c1, rfl, hp1, hs1, hS1, hk1⟩
  have hds := sorted_of HS.out HP.out hp1 hs1
  subst hds
  obtain ⟨m, hm⟩ : ∃ m, fs.length = m := ⟨_, rfl⟩
  rw [hm] at hS1 ⊢
  have hm120 : m ≤ 120 := by omega
  have HM : Hid (ds.length = m) := Lib.hid (by rw [HP.out.length_eq]; exact hm)
  have HS1 := Lib.hid hS1.tight
  have HK1 := Lib.hid hk1
  obtain ⟨og, cg, hGM⟩ := HG.out.keep hk1 (fun _ _ e => e)
  have g0 := hGM.head.cell (i := 0) rfl
  clear hp1 hs1 hS1 hk1 hm hGM HSO
  go_wp2_with fail
  clear g0
  go_loopg [4, 27] n (fun kx s4 s27 wr => ∃ (i c : Nat) (o : Option Addr), s4 = .slice o i c ∧ s27 = .int .i64 i ∧ i ≤ n ∧ n - i ≤ kx ∧ Hid (LRows (fun k => w1.heap.size ≤ k) wr n o i c (rowsN fs i) ∧ Keep Nb w1 wr))
  case atStart => exact ⟨0, 0, none, rfl, rfl, Nat.zero_le _, by omega, Lib.hid ⟨LRows.nil _ _ _, Keep.refl _ _⟩⟩
  case round =>
    obtain ⟨i, c, o, rfl, rfl, hi, hg, HR⟩ := hrel
    by_cases hlt : i < n
    · as_aux_lemma =>
      have hGr := HG.out.keep (HK1.out.trans HR.out.2) (fun _ _ e => e)
      obtain ⟨ls, hls⟩ : ∃ ls, withoutEs [] [i] fs = ls := ⟨_, rfl⟩
      have hlo : Over n ls := fun x hx => HO.out x (by rw [← hls] at hx; exact (List.mem_filter.1 hx).1)
      have hll : ls.length ≤ 1000 := by rw [← hls]; exact Nat.le_trans (List.length_filter_le _ _) (by omega)
      have HLS := Lib.hid hls
      have HWO : Hid (Calls Tryz.prog 79 #[.pointer (some ⟨g, 0, none⟩), .slice none 0 0, .slice (some ⟨wr.heap.size, 0, none⟩) 1 1] (wr.alloc (.cells #[.int .i64 (i : Nat)] 3)) fun e w' => ∃ rb, e = .returned (.pointer (some ⟨rb, 0, none⟩)) ∧ RGr (fun k => wr.heap.size ≤ k) w' rb n ls ∧ Keep Nb wr w') := Lib.hid (by
        have kA : Keep Nb wr (wr.alloc (.cells #[.int .i64 (i : Nat)] 3)) := (Keep.refl Nb wr).alloc _
        have hS : Sl (fun k => k = wr.heap.size) (wr.alloc (.cells #[.int .i64 (i : Nat)] 3)) 3 1 (some ⟨wr.heap.size, 0, none⟩) 1 1 (ints [i]) :=
          Sl.built wr 3 1 1 [.int .i64 (i : Nat)] rfl (by simp only [maxLen]; omega)
        refine (rwithout_any F (fun _ => False) (fun k => k = wr.heap.size) _ g n fs none (some ⟨wr.heap.size, 0, none⟩) 0 1 [] [i] (hGr.keep kA (fun _ _ e => e)) (by omega) (Sl.nil _ _ _ _) hS (by simp) (by simp)).mono ?_
        rintro e w' ⟨rfl, h2, h3⟩
        rw [hls] at h2
        exact ⟨_, rfl, h2.mono (fun j hj => by have := kA.size; omega), kA.trans h3⟩)
      have HLA : Hid (∀ wx rb, RGr (fun k => wr.heap.size ≤ k) wx rb n ls → Calls Tryz.prog 78 #[.pointer (some ⟨rb, 0, none⟩)] wx (RLabelsPost wx n ls)) := Lib.hid (fun wx rb h => rlabels_any _ wx rb n ls h hn hll hlo)
      clear hGr hls hlo hll
      go_wp2_with fail
      refine HWO.out.mono ?_
      rintro e2 w2 ⟨rb, rfl, hG2, hk2⟩
      have HLA2 := Lib.hid (HLA.out w2 rb hG2)
      have HK2 := Lib.hid hk2
      clear hG2 hk2 HWO HLA
      go_wp2_with fail
      refine HLA2.out.mono ?_
      rintro e3 w3 ⟨ql, rfl, hs3, hk3⟩
      have hk23 := HK2.out.trans hk3
      have hR3 := HR.out.1.keep hk23 (fun _ _ e => e)
      have z1 := HR.out.2.size
      have z2 := HK2.out.size
      obtain ⟨go, c', w4, happ, hR4, hk4⟩ := hR3.app (L := labG ls) (by omega) (hs3.mono (fun k hk => by omega)) (fun ⟨a, ha, hb⟩ => by
        have h1 := hs3.foot _ rfl
        obtain ⟨_, _, _, _, h5⟩ := HR.out.1
        have h6 := h5.out.lt ha
        have hb : a.block = ql := hb
        have h1 : w2.heap.size ≤ ql := h1
        omega) (by have := hk23.size; omega)
      have HN : Hid (LRows (fun k => w1.heap.size ≤ k) w4 n (some ⟨go, 0, none⟩) (i + 1) c' (rowsN fs (i + 1)) ∧ Keep Nb w1 w4) := Lib.hid ⟨by
        rw [rowsN_succ, HLS.out]; exact hR4, (HR.out.2.trans hk23).trans' hk4 (fun _ _ e => e) (fun j hj ⟨a, ha, hb⟩ => by
          obtain ⟨_, _, _, _, h5⟩ := HR.out.1
          have := h5.out.foot a ha
          have hb : a.block = j := hb
          omega)⟩
      have HA := Lib.hid happ
      clear hs3 hk3 hk23 hR3 happ hR4 hk4 HLA2 HK2
      go_wp2_with (at_builtin; refine wpList_app rfl _ _ _ rfl rfl rfl HA.out ?_)
      go_roundg (n - (i + 1))
      case measure => omega
      case rel => exact ⟨i + 1, _, _, rfl, by go_num, by omega, Nat.le_refl _, HN⟩
    · obtain rfl : i = n := by omega
      obtain ⟨w4, rfl⟩ : ∃ w' : World, w' = wr := ⟨_, rfl⟩
      obtain ⟨Z, hZ, hmk⟩ := run_makeI m (by omega)
      have HZ := Lib.hid hZ
      obtain ⟨bb, hbb⟩ : ∃ bb, w4.heap.size = bb := ⟨_, rfl⟩
      obtain ⟨w5, hw5⟩ : ∃ w5, w4.alloc (.cells Z 3) = w5 := ⟨_, rfl⟩
      have k45 : Keep Nb w4 w5 := by rw [← hw5]; exact (Keep.refl Nb w4).alloc _
      have hz5 : w5.heap.size = bb + 1 := by rw [← hw5, ← hbb]; simp
      have hrow5 : Row w5 bb 3 (fints m (fun j => if j < 0 then j else 0)) := by
        have e1 : fints m (fun j => if j < 0 then j else 0) = Z.toList := by rw [hZ]; exact fints_eq (fun x _ => by rw [if_neg (by omega)])
        rw [e1, ← hw5, ← hbb]
        exact Row.new w4 Z 3
      have HLR : Hid (LRows (fun k => w1.heap.size ≤ k ∧ k < bb) w5 i o i c (rowsN fs i)) := Lib.hid (by
        have h1 := HR.out.1.tight
        rw [hbb] at h1
        exact h1.keep k45 (fun _ _ e => e))
      have HK5 := Lib.hid (HR.out.2.trans k45)
      have HB5 : Hid (w1.heap.size ≤ bb ∧ w5.heap.size = bb + 1) := Lib.hid ⟨by have := HR.out.2.size; omega, hz5⟩
      have HRW5 := Lib.hid hrow5
      clear hZ k45 hz5 hrow5 HR
      go_upto_region 10 with (fail)
      try rw [hw5]
      try rw [hbb]
      clear hmk hw5 hbb HZ
      go_loopg [44] m (fun kx s44 wr => ∃ i : Nat, s44 = .int .i64 i ∧ i ≤ m ∧ m - i ≤ kx ∧ Hid (Row wr bb 3 (fints m (fun j => if j < i then j else 0)) ∧ Keep (fun k => k = bb) w5 wr))
      case atStart => exact ⟨0, rfl, Nat.zero_le _, by omega, Lib.hid ⟨HRW5.out, Keep.refl _ _⟩⟩
      case round =>
        obtain ⟨j, rfl, hj, hgj, HQ⟩ := hrel
        by_cases hjm : j < m
        · as_aux_lemma =>
          have q0 := HQ.out.1.cell (fints_get (fun j' => if j' < j then j' else 0) hjm)
          have fq := HQ.out.1.frozen j none
          have HN : Hid (Row (wr.setCell ⟨bb, j, none⟩ (.int .i64 (j : Nat))) bb 3 (fints m (fun j' => if j' < j + 1 then j' else 0)) ∧ Keep (fun k => k = bb) w5 (wr.setCell ⟨bb, j, none⟩ (.int .i64 (j : Nat)))) := Lib.hid ⟨by
            have h1 := HQ.out.1.set (i := j) (by rw [fints_length]; exact hjm) (.int .i64 (j : Nat))
            rwa [fints_set, init_step] at h1, HQ.out.2.trans (keepOne _ _ _ _)⟩
          go_wp2_with fail
          go_roundg (m - (j + 1))
          case measure => omega
          case rel => exact ⟨j + 1, by go_num, by omega, Nat.le_refl _, HN⟩
        · obtain rfl : m = j := by omega
          have HL0 : Hid (LbRel w5 wr bb m ds (fun i => i)) := Lib.hid ⟨by
            have h1 := HQ.out.1
            rwa [fints_eq (g := fun j => j) (fun x hx => by rw [if_pos hx])] at h1, FixInv.start ds, HQ.out.2⟩
          clear HQ HRW5
          go_wp2_with fail
          go_loopg [8] (sumB m (fun i => i) + 1) (fun kx s8 wr => ∃ (more : Bool) (b : Nat → Nat), s8 = .bool more ∧ (if more = true then sumB m b + 1 else 0) ≤ kx ∧ Hid (LbRel w5 wr bb m ds b ∧ (more = false → FixDone ds b)))
          case atStart => exact ⟨true, fun i => i, rfl, Nat.le_refl _, Lib.hid ⟨HL0.out, fun h => by cases h⟩⟩
          case round =>
            clear HL0
            obtain ⟨more, b, rfl, hgm, HB⟩ := hrel
            cases more with
            | true =>
              obtain ⟨b0, hb0⟩ : ∃ b0, b0 = b := ⟨_, rfl⟩
              have hgm0 : sumB m b0 + 1 ≤ gk := by rw [hb0]; simpa using hgm
              have HQ0 : Hid (LbRel w5 wr bb m ds b ∧ PS m b0 b false (CF ds b 0)) := Lib.hid ⟨HB.out.1, by rw [hb0]; exact PS.start m b (CF.zero ds b)⟩
              clear hgm HB hb0
              go_wp2_with fail
              go_loopg [8, 55] m (fun ky s8 s55 wr => ∃ (i : Nat) (more : Bool) (b : Nat → Nat), s8 = .bool more ∧ s55 = .int .i64 i ∧ i ≤ m ∧ m - i ≤ ky ∧ Hid (LbRel w5 wr bb m ds b ∧ PS m b0 b more (CF ds b i)))
              case atStart => exact ⟨0, false, b, rfl, rfl, Nat.zero_le _, by omega, HQ0⟩
              case round =>
                clear HQ0
                obtain ⟨x, more, b, rfl, rfl, hx, hgx, HX⟩ := hrel
                by_cases hxm : x < m
                · obtain ⟨e, he⟩ : ∃ e, ds[x]? = some e := ⟨_, List.getElem?_eq_getElem (by rw [HM.out]; exact hxm)⟩
                  have kE : Keep (fun k => k = bb) w1 wr := (HK5.out.of_nb).trans HX.out.1.keep
                  obtain ⟨ge, rfl, hFe, hnc, hrow⟩ := (HS1.out.keep kE (fun j hj e => by have := HB5.out.1; omega)).pos (by omega)
                  have d1 := hrow.edges.id _ _ he
                  have d2 := hrow.edges.a _ _ he
                  have d3 := hrow.edges.b _ _ he
                  have hoe := HO.out e (HP.out.mem_iff.1 (List.mem_of_getElem? he))
                  have HE := Lib.hid (And.intro he hoe)
                  obtain ⟨X, hX⟩ : ∃ X, wr.heap.size = X := ⟨_, rfl⟩
                  obtain ⟨wI, hwI⟩ : ∃ wI, wr.alloc (.cells #[.int .i64 e.id, .int .i64 e.a, .int .i64 e.b] 42) = wI := ⟨_, rfl⟩
                  have kI : Keep Nb wr wI := by rw [← hwI]; exact (Keep.refl Nb wr).alloc _
                  have HXR : Hid (Row wI X 42 (ecells e)) := Lib.hid (by rw [← hwI, ← hX]; exact Row.new wr #[.int .i64 e.id, .int .i64 e.a, .int .i64 e.b] 42)
                  have hXb : X ≠ bb := by have h1 := HX.out.1.keep.size; have h2 := HB5.out.2; omega
                  have HXB := Lib.hid hXb
                  have HY0 : Hid (LbRel w5 wI bb m ds b ∧ PS m b0 b more (CF ds b x ∧ CFk ds b x 0) ∧ Row wI X 42 (ecells e)) := Lib.hid ⟨HX.out.1.next kI, HX.out.2.imp (fun h => ⟨h, CFk.zero ds b x⟩), HXR.out⟩
                  clear he hoe hrow kI hXb kE HX
                  go_upto_region 21 with (fail)
                  try rw [hwI]
                  try rw [hX]
                  clear hwI hX d1 d2 d3
                  go_loopg [8, 62] m (fun kz s8 s62 wr => ∃ (k : Nat) (more : Bool) (b : Nat → Nat), s8 = .bool more ∧ s62 = .int .i64 k ∧ k ≤ m ∧ m - k ≤ kz ∧ Hid (LbRel w5 wr bb m ds b ∧ PS m b0 b more (CF ds b x ∧ CFk ds b x k) ∧ Row wr X 42 (ecells e)))
                  case atStart => exact ⟨0, more, b, rfl, rfl, Nat.zero_le _, by omega, HY0⟩
                  case round =>
                    clear HY0 HXR
                    obtain ⟨k, more, b, rfl, rfl, hk, hgk, HY⟩ := hrel
                    by_cases hkm : k < m
                    · obtain ⟨f, hf⟩ : ∃ f, ds[k]? = some f := ⟨_, List.getElem?_eq_getElem (by rw [HM.out]; exact hkm)⟩
                      have kE : Keep (fun k => k = bb) w1 wr := (HK5.out.of_nb).trans HY.out.1.keep
                      obtain ⟨ge', hge', hFe', hnc', hrow⟩ := (HS1.out.keep kE (fun j hj e => by have := HB5.out.1; omega)).pos (by omega)
                      cases hge'
                      have d1 := hrow.edges.id _ _ hf
                      have d2 := hrow.edges.a _ _ hf
                      have d3 := hrow.edges.b _ _ hf
                      have hof := HO.out f (HP.out.mem_iff.1 (List.mem_of_getElem? hf))
                      have HF := Lib.hid (And.intro hf hof)
                      obtain ⟨Y, hY⟩ : ∃ Y, wr.heap.size = Y := ⟨_, rfl⟩
                      obtain ⟨wJ, hwJ⟩ : ∃ wJ, wr.alloc (.cells #[.int .i64 f.id, .int .i64 f.a, .int .i64 f.b] 42) = wJ := ⟨_, rfl⟩
                      obtain ⟨wL, hwL⟩ : ∃ wL, wJ.alloc (.cells #[.int .i64 e.a, .int .i64 e.b] 3) = wL := ⟨_, rfl⟩
                      obtain ⟨B, hB⟩ : ∃ B, wJ.heap.size = B := ⟨_, rfl⟩
                      have kJ : Keep Nb wr wJ := by rw [← hwJ]; exact (Keep.refl Nb wr).alloc _
                      have kL : Keep Nb wJ wL := by rw [← hwL]; exact (Keep.refl Nb wJ).alloc _
                      have hYR : Row wJ Y 42 (ecells f) := by rw [← hwJ, ← hY]; exact Row.new wr #[.int .i64 f.id, .int .i64 f.a, .int .i64 f.b] 42
                      have hBR : Row wL B 3 [.int .i64 e.a, .int .i64 e.b] := by rw [← hwL, ← hB]; exact Row.new wJ #[.int .i64 e.a, .int .i64 e.b] 3
                      have hXR := HY.out.2.2.keep kJ (fun e => e)
                      have hzz : bb < wr.heap.size := by have h1 := HY.out.1.keep.size; have h2 := HB5.out.2; omega
                      have HNB : Hid (X ≠ bb ∧ Y ≠ bb ∧ B ≠ bb) := Lib.hid ⟨HXB.out, by omega, by have := kJ.size; omega⟩
                      have HZ0 : Hid (LbRel w5 wL bb m ds b ∧ PS m b0 b more (CF ds b x ∧ CFk ds b x k ∧ CFw ds b x k e f 0) ∧ Row wL X 42 (ecells e) ∧ Row wL Y 42 (ecells f) ∧ Row wL B 3 [.int .i64 e.a, .int .i64 e.b]) := Lib.hid
                        ⟨HY.out.1.next (kJ.trans kL), HY.out.2.1.imp (fun h => ⟨h.1, h.2, CFw.zero ds b x k e f⟩), hXR.keep kL (fun e => e), hYR.keep kL (fun e => e), hBR⟩
                      have xa := hXR.cell (i := 1) rfl
                      have xb := hXR.cell (i := 2) rfl
                      clear hf hof hrow kJ kL kE hYR hBR hXR hzz HY
                      go_upto_region 23 with (fail)
                      try rw [hwJ]
                      try rw [hY]
                      clear hwJ hY d1 d2 d3
                      go_upto_region 24 with (fail)
                      try rw [hwL]
                      try rw [hB]
                      clear hwL hB xa xb
                      go_loopg [8, 73] 2 (fun kq s8 s73 wr => ∃ (j : Nat) (more : Bool) (b : Nat → Nat), s8 = .bool more ∧ s73 = .int .i64 j ∧ j ≤ 2 ∧ 2 - j ≤ kq ∧ Hid (LbRel w5 wr bb m ds b ∧ PS m b0 b more (CF ds b x ∧ CFk ds b x k ∧ CFw ds b x k e f j) ∧ Row wr X 42 (ecells e) ∧ Row wr Y 42 (ecells f) ∧ Row wr B 3 [.int .i64 e.a, .int .i64 e.b]))
                      case atStart => exact ⟨0, more, b, rfl, rfl, Nat.zero_le _, by omega, HZ0⟩
                      case round =>
                        clear HZ0
                        obtain ⟨j, more, b, rfl, rfl, hj, hgj, HZ⟩ := hrel
                        by_cases hj2 : j < 2
                        · as_aux_lemma =>
                          obtain ⟨W, rfl⟩ : ∃ w' : World, w' = wr := ⟨_, rfl⟩
                          obtain ⟨z, hz⟩ : ∃ z, [e.a, e.b][j]? = some z := ⟨_, List.getElem?_eq_getElem (by simpa using hj2)⟩
                          have hzab : z = e.a ∨ z = e.b := by
                            have h1 := List.mem_of_getElem? hz
                            simpa using h1
                          have hzn : z < i := by have := HE.out.2; omega
                          have bz : W.cell? ⟨B, j, none⟩ = some (.int .i64 z) := HZ.out.2.2.2.2.cell (by
                            have h1 : ([e.a, e.b].map (fun v => Value.int .i64 ((v : Nat) : Int)))[j]? = some (.int .i64 z) := by rw [List.getElem?_map, hz]; rfl
                            exact h1)
                          have HZE := Lib.hid (And.intro hz hzab)
                          have x0 := HZ.out.2.2.1.cell (i := 0) rfl
                          have x1 := HZ.out.2.2.1.cell (i := 1) rfl
                          have x2 := HZ.out.2.2.1.cell (i := 2) rfl
                          have y0 := HZ.out.2.2.2.1.cell (i := 0) rfl
                          have y1 := HZ.out.2.2.2.1.cell (i := 1) rfl
                          have y2 := HZ.out.2.2.2.1.cell (i := 2) rfl
                          obtain ⟨oe, hoe⟩ : ∃ oe, othE e z = oe := ⟨_, rfl⟩
                          obtain ⟨of, hof⟩ : ∃ of, othE f z = of := ⟨_, rfl⟩
                          have hoen : oe < i := by have := HE.out.2; rw [← hoe]; unfold othE; split <;> omega
                          have hofn : of < i := by have := HF.out.2; rw [← hof]; unfold othE; split <;> omega
                          have hne : ∀ k, (w1.heap.size ≤ k ∧ k < bb) → ¬ k = bb := fun k hk e => by omega
                          obtain ⟨go, oq, cq, rfl, hmc, hg0, hSq⟩ := (HLR.out.keep HZ.out.1.keep hne).at (rowsN_get (fs := fs) hzn)
                          obtain ⟨gq, rfl, _, hqc, hrq⟩ := hSq.pos (by omega)
                          have g0 := hg0
                          have g1 := hrq.cell (fints_get (labG (withoutEs [] [z] fs)) hoen)
                          have g2 := hrq.cell (fints_get (labG (withoutEs [] [z] fs)) hofn)
                          obtain ⟨v1, hv1⟩ : ∃ v, labG (withoutEs [] [z] fs) oe = v := ⟨_, rfl⟩
                          obtain ⟨v2, hv2⟩ : ∃ v, labG (withoutEs [] [z] fs) of = v := ⟨_, rfl⟩
                          rw [hv1] at g1
                          rw [hv2] at g2
                          have q0 := HZ.out.1.row.cell (fints_get b hxm)
                          have q1 := HZ.out.1.row.cell (fints_get b hkm)
                          obtain ⟨bx, hbx⟩ : ∃ v, b x = v := ⟨_, rfl⟩
                          obtain ⟨bk, hbk⟩ : ∃ v, b k = v := ⟨_, rfl⟩
                          rw [hbx] at q0
                          rw [hbk] at q1
                          have HCN : Hid (v1 = v2 ↔ Conn (ends (less1 ds z)) oe of) := Lib.hid (by rw [← hv1, ← hv2]; exact conn_lessN HP.out)
                          have HBV := Lib.hid (And.intro hbx hbk)
                          have HOV := Lib.hid (And.intro hoe hof)
                          obtain ⟨vl, hvl⟩ : ∃ vl, decide (bx < bk) = vl := ⟨_, rfl⟩
                          have hvl2 : decide ((bx : Int) < (bk : Int)) = vl := by rw [← hvl]; simp
                          obtain ⟨V, hV⟩ : ∃ V, decide ((f.a = z ∨ f.b = z) ∧ v1 = v2 ∧ bx < bk) = V := ⟨_, rfl⟩
                          have HV := Lib.hid hV
                          have hse : e.a + e.b = oe + z := by
                            rw [← hoe]; unfold othE
                            rcases hzab with h | h
                            · rw [if_pos h.symm]; omega
                            · split <;> omega
                          have hsf : (f.a = z ∨ f.b = z) → f.a + f.b = of + z := fun h => by
                            rw [← hof]; unfold othE
                            rcases h with h | h
                            · rw [if_pos h]; omega
                            · split <;> omega
                          have HSF := Lib.hid hsf
                          have HS1E := Lib.hid hse
                          have HBD : Hid ((e.a ≤ 1000 ∧ e.b ≤ 1000) ∧ (f.a ≤ 1000 ∧ f.b ≤ 1000)) := Lib.hid (by have h1 := HE.out.2; have h2 := HF.out.2; omega)
                          obtain ⟨Xe, hXe⟩ : ∃ Xe, e.id = Xe := ⟨_, rfl⟩
                          clear hz hzab hg0 hSq hrq hoe hof hv1 hv2 hbx hbk hV hse hsf hne hXe
                          go_upto_region 26 with (fail)
                          clear bz
                          go_cut [118] (fun v wc => v = .bool V ∧ Hid (Keep Nb W wc))
                          case first =>
                            by_cases ha : f.a = z
                            · have HSE : Hid (e.a + e.b = oe + z ∧ f.a + f.b = of + z) := Lib.hid ⟨HS1E.out, HSF.out (.inl ha)⟩
                              have b1 : ((f.a : Int) == (z : Int)) = true := by simp [ha]
                              by_cases hq : v1 = v2
                              · have b2 : ((v1 : Int) == (v2 : Int)) = true := by simp [hq]
                                have hVV : V = vl := by rw [← HV.out, ← hvl]; simp [ha, hq]
                                subst hVV
                                clear ha hq
                                refine wp_region_held_drew (S := fun w' => Keep Nb W w') (by kernel_rfl) ?_ (fun hHeld => ?_)
                                · exact (Keep.refl Nb W).drew
                                refine take_yes (i := 0) (d := some 77) (v := ?_) rfl (by kernel_rfl) (by kernel_rfl) (by kernel_rfl) (by kernel_rfl) (fun _ _ _ h => h) (by kernel_rfl) ?_ (by assumption) ?_
                                rotate_left
                                · (intro w hSw; clear hSw; go_simp; try (with_reducible rfl))
                                try simp only [Act.put, List.setIfInBounds_toArray, List.set_cons_zero, List.set_cons_succ]
                                refine take_yes (i := 1) (d := some 78) (v := ?_) rfl (by kernel_rfl) (by kernel_rfl) (by kernel_rfl) (by kernel_rfl) (fun _ _ _ h => h) (by kernel_rfl) ?_ (by assumption) ?_
                                rotate_left
                                · (intro w hSw; have y1' := Keep.cell (show Keep Nb W w from hSw) y1 (fun e => e); clear hSw; go_simp; try (with_reducible rfl))
                                try simp only [Act.put, List.setIfInBounds_toArray, List.set_cons_zero, List.set_cons_succ]
                                refine take_yes (i := 2) (d := some 79) (v := ?_) rfl (by kernel_rfl) (by kernel_rfl) (by kernel_rfl) (by kernel_rfl) (fun _ _ _ h => h) (by kernel_rfl) ?_ (by assumption) ?_
                                rotate_left
                                · (intro w hSw; clear hSw; go_simp; try (with_reducible rfl))
                                try simp only [Act.put, List.setIfInBounds_toArray, List.set_cons_zero, List.set_cons_succ]
                                refine take_yes (i := 3) (d := some 80) (v := ?_) rfl (by kernel_rfl) (by kernel_rfl) (by kernel_rfl) (by kernel_rfl) (fun _ _ _ h => h) (by kernel_rfl) ?_ (by assumption) ?_
                                rotate_left
                                · (intro w hSw; clear hSw; go_simp; try (with_reducible rfl))
                                try simp only [Act.put, List.setIfInBounds_toArray, List.set_cons_zero, List.set_cons_succ]
                                refine take_yes (i := 4) (d := some 81) (v := ?_) rfl (by kernel_rfl) (by kernel_rfl) (by kernel_rfl) (by kernel_rfl) (fun _ _ _ h => h) (by kernel_rfl) ?_ (by assumption) ?_
                                rotate_left
                                · (intro w hSw; clear hSw; go_simp; try (with_reducible rfl))
                                try simp only [Act.put, List.setIfInBounds_toArray, List.set_cons_zero, List.set_cons_succ]
                                refine take_no (i := 5) (d := some 82) rfl (by kernel_rfl) (by kernel_rfl) (by kernel_rfl) (by kernel_rfl) (fun _ _ _ h => h) (by kernel_rfl) (by assumption) ?_
                                try simp only [Act.put, List.setIfInBounds_toArray, List.set_cons_zero, List.set_cons_succ]
                                refine take_no (i := 6) (d := some 83) rfl (by kernel_rfl) (by kernel_rfl) (by kernel_rfl) (by kernel_rfl) (fun _ _ _ h => h) (by kernel_rfl) (by assumption) ?_
                                try simp only [Act.put, List.setIfInBounds_toArray, List.set_cons_zero, List.set_cons_succ]
                                refine take_no (i := 7) (d := some 84) rfl (by kernel_rfl) (by kernel_rfl) (by kernel_rfl) (by kernel_rfl) (fun _ _ _ h => h) (by kernel_rfl) (by assumption) ?_
                                try simp only [Act.put, List.setIfInBounds_toArray, List.set_cons_zero, List.set_cons_succ]
                                refine take_no (i := 8) (d := some 85) rfl (by kernel_rfl) (by kernel_rfl) (by kernel_rfl) (by kernel_rfl) (fun _ _ _ h => h) (by kernel_rfl) (by assumption) ?_
                                try simp only [Act.put, List.setIfInBounds_toArray, List.set_cons_zero, List.set_cons_succ]
                                refine take_yes (i := 9) (d := some 86) (v := ?_) rfl (by kernel_rfl) (by kernel_rfl) (by kernel_rfl) (by kernel_rfl) (fun _ _ _ h => h) (by kernel_rfl) ?_ (by assumption) ?_
                                rotate_left
                                · (intro w hSw; clear hSw; go_simp; try (with_reducible rfl))
                                try simp only [Act.put, List.setIfInBounds_toArray, List.set_cons_zero, List.set_cons_succ]
                                refine take_yes (i := 10) (d := some 87) (v := ?_) rfl (by kernel_rfl) (by kernel_rfl) (by kernel_rfl) (by kernel_rfl) (fun _ _ _ h => h) (by kernel_rfl) ?_ (by assumption) ?_
                                rotate_left
                                · (intro w hSw; clear hSw; go_simp; try (with_reducible rfl))
                                try simp only [Act.put, List.setIfInBounds_toArray, List.set_cons_zero, List.set_cons_succ]
                                refine take_yes (i := 11) (d := some 88) (v := ?_) rfl (by kernel_rfl) (by kernel_rfl) (by kernel_rfl) (by kernel_rfl) (fun _ _ _ h => h) (by kernel_rfl) ?_ (by assumption) ?_
                                rotate_left
                                · (intro w hSw; clear hSw; go_simp; try (with_reducible rfl))
                                try simp only [Act.put, List.setIfInBounds_toArray, List.set_cons_zero, List.set_cons_succ]
                                refine take_yes (i := 12) (d := some 89) (v := ?_) rfl (by kernel_rfl) (by kernel_rfl) (by kernel_rfl) (by kernel_rfl) (fun _ _ _ h => h) (by kernel_rfl) ?_ (by assumption) ?_
                                rotate_left
                                · (intro w hSw; clear hSw; go_simp; try (with_reducible rfl))
                                try simp only [Act.put, List.setIfInBounds_toArray, List.set_cons_zero, List.set_cons_succ]
                                refine take_yes (i := 13) (d := some 90) (v := ?_) rfl (by kernel_rfl) (by kernel_rfl) (by kernel_rfl) (by kernel_rfl) (fun _ _ _ h => h) (by kernel_rfl) ?_ (by assumption) ?_
                                rotate_left
                                · (intro w hSw; clear hSw; go_simp; try (with_reducible rfl))
                                try simp only [Act.put, List.setIfInBounds_toArray, List.set_cons_zero, List.set_cons_succ]
                                refine take_yes (i := 14) (d := some 91) (v := ?_) rfl (by kernel_rfl) (by kernel_rfl) (by kernel_rfl) (by kernel_rfl) (fun _ _ _ h => h) (by kernel_rfl) ?_ (by assumption) ?_
                                rotate_left
                                · (intro w hSw; have g0' := Keep.cell (show Keep Nb W w from hSw) g0 (fun e => e); clear hSw; go_simp; try (with_reducible rfl))
                                try simp only [Act.put, List.setIfInBounds_toArray, List.set_cons_zero, List.set_cons_succ]
                                refine take_yes (i := 15) (d := some 92) (v := ?_) rfl (by kernel_rfl) (by kernel_rfl) (by kernel_rfl) (by kernel_rfl) (fun _ _ _ h => h) (by kernel_rfl) ?_ (by assumption) ?_
                                rotate_left
                                · (intro w hSw; have x0' := Keep.cell (show Keep Nb W w from hSw) x0 (fun e => e); have x1' := Keep.cell (show Keep Nb W w from hSw) x1 (fun e => e); have x2' := Keep.cell (show Keep Nb W w from hSw) x2 (fun e => e); clear hSw; go_simp; try (with_reducible rfl))
                                try simp only [Act.put, List.setIfInBounds_toArray, List.set_cons_zero, List.set_cons_succ]
                                refine take_yes (i := 16) (d := some 93) (v := ?_) rfl (by kernel_rfl) (by kernel_rfl) (by kernel_rfl) (by kernel_rfl) (fun _ _ _ h => h) (by kernel_rfl) ?_ (by assumption) ?_
                                rotate_left
                                · (intro w hSw; clear hSw; go_simp; try (with_reducible rfl))
                                try simp only [Act.put, List.setIfInBounds_toArray, List.set_cons_zero, List.set_cons_succ]
                                refine take_yes (i := 20) (d := some 97) (v := ?_) rfl (by kernel_rfl) (by kernel_rfl) (by kernel_rfl) (by kernel_rfl) (fun _ _ _ h => h) (by kernel_rfl) ?_ (by assumption) ?_
                                rotate_left
                                · (intro w hSw; clear hSw; go_simp; try (with_reducible rfl))
                                try simp only [Act.put, List.setIfInBounds_toArray, List.set_cons_zero, List.set_cons_succ]
                                refine take_yes (i := 21) (d := some 98) (v := ?_) rfl (by kernel_rfl) (by kernel_rfl) (by kernel_rfl) (by kernel_rfl) (fun _ _ _ h => h) (by kernel_rfl) ?_ (by assumption) ?_
                                rotate_left
                                · (intro w hSw; clear hSw; go_simp; try (with_reducible rfl))
                                try simp only [Act.put, List.setIfInBounds_toArray, List.set_cons_zero, List.set_cons_succ]
                                refine take_yes (i := 22) (d := some 99) (v := ?_) rfl (by kernel_rfl) (by kernel_rfl) (by kernel_rfl) (by kernel_rfl) (fun _ _ _ h => h) (by kernel_rfl) ?_ (by assumption) ?_
                                rotate_left
                                · (intro w hSw; clear hSw; go_simp; try (with_reducible rfl))
                                try simp only [Act.put, List.setIfInBounds_toArray, List.set_cons_zero, List.set_cons_succ]
                                refine take_yes (i := 23) (d := some 100) (v := ?_) rfl (by kernel_rfl) (by kernel_rfl) (by kernel_rfl) (by kernel_rfl) (fun _ _ _ h => h) (by kernel_rfl) ?_ (by assumption) ?_
                                rotate_left
                                · (intro w hSw; have g0' := Keep.cell (show Keep Nb W w from hSw) g0 (fun e => e); clear hSw; go_simp; try (with_reducible rfl))
                                try simp only [Act.put, List.setIfInBounds_toArray, List.set_cons_zero, List.set_cons_succ]
                                refine take_yes (i := 24) (d := some 101) (v := ?_) rfl (by kernel_rfl) (by kernel_rfl) (by kernel_rfl) (by kernel_rfl) (fun _ _ _ h => h) (by kernel_rfl) ?_ (by assumption) ?_
                                rotate_left
                                · (intro w hSw; have y0' := Keep.cell (show Keep Nb W w from hSw) y0 (fun e => e); have y1' := Keep.cell (show Keep Nb W w from hSw) y1 (fun e => e); have y2' := Keep.cell (show Keep Nb W w from hSw) y2 (fun e => e); clear hSw; go_simp; try (with_reducible rfl))
                                try simp only [Act.put, List.setIfInBounds_toArray, List.set_cons_zero, List.set_cons_succ]
                                refine take_yes (i := 25) (d := some 102) (v := ?_) rfl (by kernel_rfl) (by kernel_rfl) (by kernel_rfl) (by kernel_rfl) (fun _ _ _ h => h) (by kernel_rfl) ?_ (by assumption) ?_
                                rotate_left
                                · (intro w hSw; clear hSw; go_simp; try (with_reducible rfl))
                                try simp only [Act.put, List.setIfInBounds_toArray, List.set_cons_zero, List.set_cons_succ]
                                refine wpAnyH_ready (rs := [17]) (by kernel_rfl) (by simp) ?_
                                refine AllReadyH.cons rfl (fun K hK => ?_) AllReadyH.nil
                                go_simp
                                (go_at_call 107; refine (rother_any _ e.id e.a e.b z oe HSE.out.1 HBD.out.1).mono ?_; rintro e6 wB ⟨rfl, kB⟩; have kS := Keep.trans (show Keep Nb W _ from hHeld) kB; clear kB hHeld)
                                refine hK.out _ _ ?_ (fun hHeld => ?_)
                                · exact kS
                                clear hK K kS
                                try simp only [Act.put, List.setIfInBounds_toArray, List.set_cons_zero, List.set_cons_succ]
                                refine take_yes (i := 18) (d := some 95) (v := ?_) rfl (by kernel_rfl) (by kernel_rfl) (by kernel_rfl) (by kernel_rfl) (fun _ _ _ h => h) (by kernel_rfl) ?_ (by assumption) ?_
                                rotate_left
                                · (intro w hSw; clear hSw; go_simp; try (with_reducible rfl))
                                try simp only [Act.put, List.setIfInBounds_toArray, List.set_cons_zero, List.set_cons_succ]
                                refine take_yes (i := 19) (d := some 96) (v := ?_) rfl (by kernel_rfl) (by kernel_rfl) (by kernel_rfl) (by kernel_rfl) (fun _ _ _ h => h) (by kernel_rfl) ?_ (by assumption) ?_
                                rotate_left
                                · (intro w hSw; have g1' := Keep.cell (show Keep Nb W w from hSw) g1 (fun e => e); clear hSw; go_simp; try (with_reducible rfl))
                                try simp only [Act.put, List.setIfInBounds_toArray, List.set_cons_zero, List.set_cons_succ]
                                refine wpAnyH_ready (rs := [26]) (by kernel_rfl) (by simp) ?_
                                refine AllReadyH.cons rfl (fun K hK => ?_) AllReadyH.nil
                                go_simp
                                (go_at_call 107; refine (rother_any _ f.id f.a f.b z of HSE.out.2 HBD.out.2).mono ?_; rintro e6 wB ⟨rfl, kB⟩; have kS := Keep.trans (show Keep Nb W _ from hHeld) kB; clear kB hHeld)
                                refine hK.out _ _ ?_ (fun hHeld => ?_)
                                · exact kS
                                clear hK K kS
                                try simp only [Act.put, List.setIfInBounds_toArray, List.set_cons_zero, List.set_cons_succ]
                                refine take_yes (i := 27) (d := some 104) (v := ?_) rfl (by kernel_rfl) (by kernel_rfl) (by kernel_rfl) (by kernel_rfl) (fun _ _ _ h => h) (by kernel_rfl) ?_ (by assumption) ?_
                                rotate_left
                                · (intro w hSw; clear hSw; go_simp; try (with_reducible rfl))
                                try simp only [Act.put, List.setIfInBounds_toArray, List.set_cons_zero, List.set_cons_succ]
                                refine take_yes (i := 28) (d := some 105) (v := ?_) rfl (by kernel_rfl) (by kernel_rfl) (by kernel_rfl) (by kernel_rfl) (fun _ _ _ h => h) (by kernel_rfl) ?_ (by assumption) ?_
                                rotate_left
                                · (intro w hSw; have g2' := Keep.cell (show Keep Nb W w from hSw) g2 (fun e => e); clear hSw; go_simp; try (with_reducible rfl))
                                try simp only [Act.put, List.setIfInBounds_toArray, List.set_cons_zero, List.set_cons_succ]
                                refine take_yes (i := 29) (d := some 106) (v := ?_) rfl (by kernel_rfl) (by kernel_rfl) (by kernel_rfl) (by kernel_rfl) (fun _ _ _ h => h) (by kernel_rfl) ?_ (by assumption) ?_
                                rotate_left
                                · (intro w hSw; clear hSw; go_simp; try (with_reducible rfl))
                                try simp only [Act.put, List.setIfInBounds_toArray, List.set_cons_zero, List.set_cons_succ]
                                refine take_yes (i := 30) (d := some 107) (v := ?_) rfl (by kernel_rfl) (by kernel_rfl) (by kernel_rfl) (by kernel_rfl) (fun _ _ _ h => h) (by kernel_rfl) ?_ (by assumption) ?_
                                rotate_left
                                · (intro w hSw; clear hSw; go_simp; try (with_reducible rfl))
                                try simp only [Act.put, List.setIfInBounds_toArray, List.set_cons_zero, List.set_cons_succ]
                                refine take_yes (i := 31) (d := some 108) (v := ?_) rfl (by kernel_rfl) (by kernel_rfl) (by kernel_rfl) (by kernel_rfl) (fun _ _ _ h => h) (by kernel_rfl) ?_ (by assumption) ?_
                                rotate_left
                                · (intro w hSw; clear hSw; go_simp; try (with_reducible rfl))
                                try simp only [Act.put, List.setIfInBounds_toArray, List.set_cons_zero, List.set_cons_succ]
                                refine take_yes (i := 32) (d := some 109) (v := ?_) rfl (by kernel_rfl) (by kernel_rfl) (by kernel_rfl) (by kernel_rfl) (fun _ _ _ h => h) (by kernel_rfl) ?_ (by assumption) ?_
                                rotate_left
                                · (intro w hSw; clear hSw; go_simp; try (with_reducible rfl))
                                try simp only [Act.put, List.setIfInBounds_toArray, List.set_cons_zero, List.set_cons_succ]
                                refine take_yes (i := 33) (d := some 110) (v := ?_) rfl (by kernel_rfl) (by kernel_rfl) (by kernel_rfl) (by kernel_rfl) (fun _ _ _ h => h) (by kernel_rfl) ?_ (by assumption) ?_
                                rotate_left
                                · (intro w hSw; clear hSw; go_simp; try (with_reducible rfl))
                                try simp only [Act.put, List.setIfInBounds_toArray, List.set_cons_zero, List.set_cons_succ]
                                refine take_yes (i := 34) (d := some 111) (v := ?_) rfl (by kernel_rfl) (by kernel_rfl) (by kernel_rfl) (by kernel_rfl) (fun _ _ _ h => h) (by kernel_rfl) ?_ (by assumption) ?_
                                rotate_left
                                · (intro w hSw; clear hSw; go_simp; try (with_reducible rfl))
                                try simp only [Act.put, List.setIfInBounds_toArray, List.set_cons_zero, List.set_cons_succ]
                                refine take_yes (i := 35) (d := some 112) (v := ?_) rfl (by kernel_rfl) (by kernel_rfl) (by kernel_rfl) (by kernel_rfl) (fun _ _ _ h => h) (by kernel_rfl) ?_ (by assumption) ?_
                                rotate_left
                                · (intro w hSw; have q0' := Keep.cell (show Keep Nb W w from hSw) q0 (fun e => e); clear hSw; go_simp; try (with_reducible rfl))
                                try simp only [Act.put, List.setIfInBounds_toArray, List.set_cons_zero, List.set_cons_succ]
                                refine take_yes (i := 36) (d := some 113) (v := ?_) rfl (by kernel_rfl) (by kernel_rfl) (by kernel_rfl) (by kernel_rfl) (fun _ _ _ h => h) (by kernel_rfl) ?_ (by assumption) ?_
                                rotate_left
                                · (intro w hSw; clear hSw; go_simp; try (with_reducible rfl))
                                try simp only [Act.put, List.setIfInBounds_toArray, List.set_cons_zero, List.set_cons_succ]
                                refine take_yes (i := 37) (d := some 114) (v := ?_) rfl (by kernel_rfl) (by kernel_rfl) (by kernel_rfl) (by kernel_rfl) (fun _ _ _ h => h) (by kernel_rfl) ?_ (by assumption) ?_
                                rotate_left
                                · (intro w hSw; clear hSw; go_simp; try (with_reducible rfl))
                                try simp only [Act.put, List.setIfInBounds_toArray, List.set_cons_zero, List.set_cons_succ]
                                refine take_yes (i := 38) (d := some 115) (v := ?_) rfl (by kernel_rfl) (by kernel_rfl) (by kernel_rfl) (by kernel_rfl) (fun _ _ _ h => h) (by kernel_rfl) ?_ (by assumption) ?_
                                rotate_left
                                · (intro w hSw; clear hSw; go_simp; try (with_reducible rfl))
                                try simp only [Act.put, List.setIfInBounds_toArray, List.set_cons_zero, List.set_cons_succ]
                                refine take_yes (i := 39) (d := some 116) (v := ?_) rfl (by kernel_rfl) (by kernel_rfl) (by kernel_rfl) (by kernel_rfl) (fun _ _ _ h => h) (by kernel_rfl) ?_ (by assumption) ?_
                                rotate_left
                                · (intro w hSw; have q1' := Keep.cell (show Keep Nb W w from hSw) q1 (fun e => e); clear hSw; go_simp; try (with_reducible rfl))
                                try simp only [Act.put, List.setIfInBounds_toArray, List.set_cons_zero, List.set_cons_succ]
                                refine take_yes (i := 40) (d := some 117) (v := ?_) rfl (by kernel_rfl) (by kernel_rfl) (by kernel_rfl) (by kernel_rfl) (fun _ _ _ h => h) (by kernel_rfl) ?_ (by assumption) ?_
                                rotate_left
                                · (intro w hSw; clear hSw; go_simp; try (with_reducible rfl))
                                try simp only [Act.put, List.setIfInBounds_toArray, List.set_cons_zero, List.set_cons_succ]
                                refine take_yes (i := 41) (d := some 118) (v := ?_) rfl (by kernel_rfl) (by kernel_rfl) (by kernel_rfl) (by kernel_rfl) (fun _ _ _ h => h) (by kernel_rfl) ?_ (by assumption) ?_
                                rotate_left
                                · (intro w hSw; clear hSw; go_simp; try (with_reducible rfl))
                                try simp only [Act.put, List.setIfInBounds_toArray, List.set_cons_zero, List.set_cons_succ]
                                refine wpAnyH_done (by kernel_rfl) ?_ _
                                (try go_wp2_with fail)
                                go_meet
                                exact ⟨rfl, Lib.hid hHeld⟩
                              · have b2 : ((v1 : Int) == (v2 : Int)) = false := by simp; omega
                                have hVV : V = false := by rw [← HV.out]; simp [hq]
                                subst hVV
                                clear ha hq
                                refine wp_region_held_drew (S := fun w' => Keep Nb W w') (by kernel_rfl) ?_ (fun hHeld => ?_)
                                · exact (Keep.refl Nb W).drew
                                refine take_yes (i := 0) (d := some 77) (v := ?_) rfl (by kernel_rfl) (by kernel_rfl) (by kernel_rfl) (by kernel_rfl) (fun _ _ _ h => h) (by kernel_rfl) ?_ (by assumption) ?_
                                rotate_left
                                · (intro w hSw; clear hSw; go_simp; try (with_reducible rfl))
                                try simp only [Act.put, List.setIfInBounds_toArray, List.set_cons_zero, List.set_cons_succ]
                                refine take_yes (i := 1) (d := some 78) (v := ?_) rfl (by kernel_rfl) (by kernel_rfl) (by kernel_rfl) (by kernel_rfl) (fun _ _ _ h => h) (by kernel_rfl) ?_ (by assumption) ?_
                                rotate_left
                                · (intro w hSw; have y1' := Keep.cell (show Keep Nb W w from hSw) y1 (fun e => e); clear hSw; go_simp; try (with_reducible rfl))
                                try simp only [Act.put, List.setIfInBounds_toArray, List.set_cons_zero, List.set_cons_succ]
                                refine take_yes (i := 2) (d := some 79) (v := ?_) rfl (by kernel_rfl) (by kernel_rfl) (by kernel_rfl) (by kernel_rfl) (fun _ _ _ h => h) (by kernel_rfl) ?_ (by assumption) ?_
                                rotate_left
                                · (intro w hSw; clear hSw; go_simp; try (with_reducible rfl))
                                try simp only [Act.put, List.setIfInBounds_toArray, List.set_cons_zero, List.set_cons_succ]
                                refine take_yes (i := 3) (d := some 80) (v := ?_) rfl (by kernel_rfl) (by kernel_rfl) (by kernel_rfl) (by kernel_rfl) (fun _ _ _ h => h) (by kernel_rfl) ?_ (by assumption) ?_
                                rotate_left
                                · (intro w hSw; clear hSw; go_simp; try (with_reducible rfl))
                                try simp only [Act.put, List.setIfInBounds_toArray, List.set_cons_zero, List.set_cons_succ]
                                refine take_yes (i := 4) (d := some 81) (v := ?_) rfl (by kernel_rfl) (by kernel_rfl) (by kernel_rfl) (by kernel_rfl) (fun _ _ _ h => h) (by kernel_rfl) ?_ (by assumption) ?_
                                rotate_left
                                · (intro w hSw; clear hSw; go_simp; try (with_reducible rfl))
                                try simp only [Act.put, List.setIfInBounds_toArray, List.set_cons_zero, List.set_cons_succ]
                                refine take_no (i := 5) (d := some 82) rfl (by kernel_rfl) (by kernel_rfl) (by kernel_rfl) (by kernel_rfl) (fun _ _ _ h => h) (by kernel_rfl) (by assumption) ?_
                                try simp only [Act.put, List.setIfInBounds_toArray, List.set_cons_zero, List.set_cons_succ]
                                refine take_no (i := 6) (d := some 83) rfl (by kernel_rfl) (by kernel_rfl) (by kernel_rfl) (by kernel_rfl) (fun _ _ _ h => h) (by kernel_rfl) (by assumption) ?_
                                try simp only [Act.put, List.setIfInBounds_toArray, List.set_cons_zero, List.set_cons_succ]
                                refine take_no (i := 7) (d := some 84) rfl (by kernel_rfl) (by kernel_rfl) (by kernel_rfl) (by kernel_rfl) (fun _ _ _ h => h) (by kernel_rfl) (by assumption) ?_
                                try simp only [Act.put, List.setIfInBounds_toArray, List.set_cons_zero, List.set_cons_succ]
                                refine take_no (i := 8) (d := some 85) rfl (by kernel_rfl) (by kernel_rfl) (by kernel_rfl) (by kernel_rfl) (fun _ _ _ h => h) (by kernel_rfl) (by assumption) ?_
                                try simp only [Act.put, List.setIfInBounds_toArray, List.set_cons_zero, List.set_cons_succ]
                                refine take_yes (i := 9) (d := some 86) (v := ?_) rfl (by kernel_rfl) (by kernel_rfl) (by kernel_rfl) (by kernel_rfl) (fun _ _ _ h => h) (by kernel_rfl) ?_ (by assumption) ?_
                                rotate_left
                                · (intro w hSw; clear hSw; go_simp; try (with_reducible rfl))
                                try simp only [Act.put, List.setIfInBounds_toArray, List.set_cons_zero, List.set_cons_succ]
                                refine take_yes (i := 10) (d := some 87) (v := ?_) rfl (by kernel_rfl) (by kernel_rfl) (by kernel_rfl) (by kernel_rfl) (fun _ _ _ h => h) (by kernel_rfl) ?_ (by assumption) ?_
                                rotate_left
                                · (intro w hSw; clear hSw; go_simp; try (with_reducible rfl))
                                try simp only [Act.put, List.setIfInBounds_toArray, List.set_cons_zero, List.set_cons_succ]
                                refine take_yes (i := 11) (d := some 88) (v := ?_) rfl (by kernel_rfl) (by kernel_rfl) (by kernel_rfl) (by kernel_rfl) (fun _ _ _ h => h) (by kernel_rfl) ?_ (by assumption) ?_
                                rotate_left
                                · (intro w hSw; clear hSw; go_simp; try (with_reducible rfl))
                                try simp only [Act.put, List.setIfInBounds_toArray, List.set_cons_zero, List.set_cons_succ]
                                refine take_yes (i := 12) (d := some 89) (v := ?_) rfl (by kernel_rfl) (by kernel_rfl) (by kernel_rfl) (by kernel_rfl) (fun _ _ _ h => h) (by kernel_rfl) ?_ (by assumption) ?_
                                rotate_left
                                · (intro w hSw; clear hSw; go_simp; try (with_reducible rfl))
                                try simp only [Act.put, List.setIfInBounds_toArray, List.set_cons_zero, List.set_cons_succ]
                                refine take_yes (i := 13) (d := some 90) (v := ?_) rfl (by kernel_rfl) (by kernel_rfl) (by kernel_rfl) (by kernel_rfl) (fun _ _ _ h => h) (by kernel_rfl) ?_ (by assumption) ?_
                                rotate_left
                                · (intro w hSw; clear hSw; go_simp; try (with_reducible rfl))
                                try simp only [Act.put, List.setIfInBounds_toArray, List.set_cons_zero, List.set_cons_succ]
                                refine take_yes (i := 14) (d := some 91) (v := ?_) rfl (by kernel_rfl) (by kernel_rfl) (by kernel_rfl) (by kernel_rfl) (fun _ _ _ h => h) (by kernel_rfl) ?_ (by assumption) ?_
                                rotate_left
                                · (intro w hSw; have g0' := Keep.cell (show Keep Nb W w from hSw) g0 (fun e => e); clear hSw; go_simp; try (with_reducible rfl))
                                try simp only [Act.put, List.setIfInBounds_toArray, List.set_cons_zero, List.set_cons_succ]
                                refine take_yes (i := 15) (d := some 92) (v := ?_) rfl (by kernel_rfl) (by kernel_rfl) (by kernel_rfl) (by kernel_rfl) (fun _ _ _ h => h) (by kernel_rfl) ?_ (by assumption) ?_
                                rotate_left
                                · (intro w hSw; have x0' := Keep.cell (show Keep Nb W w from hSw) x0 (fun e => e); have x1' := Keep.cell (show Keep Nb W w from hSw) x1 (fun e => e); have x2' := Keep.cell (show Keep Nb W w from hSw) x2 (fun e => e); clear hSw; go_simp; try (with_reducible rfl))
                                try simp only [Act.put, List.setIfInBounds_toArray, List.set_cons_zero, List.set_cons_succ]
                                refine take_yes (i := 16) (d := some 93) (v := ?_) rfl (by kernel_rfl) (by kernel_rfl) (by kernel_rfl) (by kernel_rfl) (fun _ _ _ h => h) (by kernel_rfl) ?_ (by assumption) ?_
                                rotate_left
                                · (intro w hSw; clear hSw; go_simp; try (with_reducible rfl))
                                try simp only [Act.put, List.setIfInBounds_toArray, List.set_cons_zero, List.set_cons_succ]
                                refine take_yes (i := 20) (d := some 97) (v := ?_) rfl (by kernel_rfl) (by kernel_rfl) (by kernel_rfl) (by kernel_rfl) (fun _ _ _ h => h) (by kernel_rfl) ?_ (by assumption) ?_
                                rotate_left
                                · (intro w hSw; clear hSw; go_simp; try (with_reducible rfl))
                                try simp only [Act.put, List.setIfInBounds_toArray, List.set_cons_zero, List.set_cons_succ]
                                refine take_yes (i := 21) (d := some 98) (v := ?_) rfl (by kernel_rfl) (by kernel_rfl) (by kernel_rfl) (by kernel_rfl) (fun _ _ _ h => h) (by kernel_rfl) ?_ (by assumption) ?_
                                rotate_left
                                · (intro w hSw; clear hSw; go_simp; try (with_reducible rfl))
                                try simp only [Act.put, List.setIfInBounds_toArray, List.set_cons_zero, List.set_cons_succ]
                                refine take_yes (i := 22) (d := some 99) (v := ?_) rfl (by kernel_rfl) (by kernel_rfl) (by kernel_rfl) (by kernel_rfl) (fun _ _ _ h => h) (by kernel_rfl) ?_ (by assumption) ?_
                                rotate_left
                                · (intro w hSw; clear hSw; go_simp; try (with_reducible rfl))
                                try simp only [Act.put, List.setIfInBounds_toArray, List.set_cons_zero, List.set_cons_succ]
                                refine take_yes (i := 23) (d := some 100) (v := ?_) rfl (by kernel_rfl) (by kernel_rfl) (by kernel_rfl) (by kernel_rfl) (fun _ _ _ h => h) (by kernel_rfl) ?_ (by assumption) ?_
                                rotate_left
                                · (intro w hSw; have g0' := Keep.cell (show Keep Nb W w from hSw) g0 (fun e => e); clear hSw; go_simp; try (with_reducible rfl))
                                try simp only [Act.put, List.setIfInBounds_toArray, List.set_cons_zero, List.set_cons_succ]
                                refine take_yes (i := 24) (d := some 101) (v := ?_) rfl (by kernel_rfl) (by kernel_rfl) (by kernel_rfl) (by kernel_rfl) (fun _ _ _ h => h) (by kernel_rfl) ?_ (by assumption) ?_
                                rotate_left
                                · (intro w hSw; have y0' := Keep.cell (show Keep Nb W w from hSw) y0 (fun e => e); have y1' := Keep.cell (show Keep Nb W w from hSw) y1 (fun e => e); have y2' := Keep.cell (show Keep Nb W w from hSw) y2 (fun e => e); clear hSw; go_simp; try (with_reducible rfl))
                                try simp only [Act.put, List.setIfInBounds_toArray, List.set_cons_zero, List.set_cons_succ]
                                refine take_yes (i := 25) (d := some 102) (v := ?_) rfl (by kernel_rfl) (by kernel_rfl) (by kernel_rfl) (by kernel_rfl) (fun _ _ _ h => h) (by kernel_rfl) ?_ (by assumption) ?_
                                rotate_left
                                · (intro w hSw; clear hSw; go_simp; try (with_reducible rfl))
                                try simp only [Act.put, List.setIfInBounds_toArray, List.set_cons_zero, List.set_cons_succ]
                                refine wpAnyH_ready (rs := [17]) (by kernel_rfl) (by simp) ?_
                                refine AllReadyH.cons rfl (fun K hK => ?_) AllReadyH.nil
                                go_simp
                                (go_at_call 107; refine (rother_any _ e.id e.a e.b z oe HSE.out.1 HBD.out.1).mono ?_; rintro e6 wB ⟨rfl, kB⟩; have kS := Keep.trans (show Keep Nb W _ from hHeld) kB; clear kB hHeld)
                                refine hK.out _ _ ?_ (fun hHeld => ?_)
                                · exact kS
                                clear hK K kS
                                try simp only [Act.put, List.setIfInBounds_toArray, List.set_cons_zero, List.set_cons_succ]
                                refine take_yes (i := 18) (d := some 95) (v := ?_) rfl (by kernel_rfl) (by kernel_rfl) (by kernel_rfl) (by kernel_rfl) (fun _ _ _ h => h) (by kernel_rfl) ?_ (by assumption) ?_
                                rotate_left
                                · (intro w hSw; clear hSw; go_simp; try (with_reducible rfl))
                                try simp only [Act.put, List.setIfInBounds_toArray, List.set_cons_zero, List.set_cons_succ]
                                refine take_yes (i := 19) (d := some 96) (v := ?_) rfl (by kernel_rfl) (by kernel_rfl) (by kernel_rfl) (by kernel_rfl) (fun _ _ _ h => h) (by kernel_rfl) ?_ (by assumption) ?_
                                rotate_left
                                · (intro w hSw; have g1' := Keep.cell (show Keep Nb W w from hSw) g1 (fun e => e); clear hSw; go_simp; try (with_reducible rfl))
                                try simp only [Act.put, List.setIfInBounds_toArray, List.set_cons_zero, List.set_cons_succ]
                                refine wpAnyH_ready (rs := [26]) (by kernel_rfl) (by simp) ?_
                                refine AllReadyH.cons rfl (fun K hK => ?_) AllReadyH.nil
                                go_simp
                                (go_at_call 107; refine (rother_any _ f.id f.a f.b z of HSE.out.2 HBD.out.2).mono ?_; rintro e6 wB ⟨rfl, kB⟩; have kS := Keep.trans (show Keep Nb W _ from hHeld) kB; clear kB hHeld)
                                refine hK.out _ _ ?_ (fun hHeld => ?_)
                                · exact kS
                                clear hK K kS
                                try simp only [Act.put, List.setIfInBounds_toArray, List.set_cons_zero, List.set_cons_succ]
                                refine take_yes (i := 27) (d := some 104) (v := ?_) rfl (by kernel_rfl) (by kernel_rfl) (by kernel_rfl) (by kernel_rfl) (fun _ _ _ h => h) (by kernel_rfl) ?_ (by assumption) ?_
                                rotate_left
                                · (intro w hSw; clear hSw; go_simp; try (with_reducible rfl))
                                try simp only [Act.put, List.setIfInBounds_toArray, List.set_cons_zero, List.set_cons_succ]
                                refine take_yes (i := 28) (d := some 105) (v := ?_) rfl (by kernel_rfl) (by kernel_rfl) (by kernel_rfl) (by kernel_rfl) (fun _ _ _ h => h) (by kernel_rfl) ?_ (by assumption) ?_
                                rotate_left
                                · (intro w hSw; have g2' := Keep.cell (show Keep Nb W w from hSw) g2 (fun e => e); clear hSw; go_simp; try (with_reducible rfl))
                                try simp only [Act.put, List.setIfInBounds_toArray, List.set_cons_zero, List.set_cons_succ]
                                refine take_yes (i := 29) (d := some 106) (v := ?_) rfl (by kernel_rfl) (by kernel_rfl) (by kernel_rfl) (by kernel_rfl) (fun _ _ _ h => h) (by kernel_rfl) ?_ (by assumption) ?_
                                rotate_left
                                · (intro w hSw; clear hSw; go_simp; try (with_reducible rfl))
                                try simp only [Act.put, List.setIfInBounds_toArray, List.set_cons_zero, List.set_cons_succ]
                                refine take_yes (i := 30) (d := some 107) (v := ?_) rfl (by kernel_rfl) (by kernel_rfl) (by kernel_rfl) (by kernel_rfl) (fun _ _ _ h => h) (by kernel_rfl) ?_ (by assumption) ?_
                                rotate_left
                                · (intro w hSw; clear hSw; go_simp; try (with_reducible rfl))
                                try simp only [Act.put, List.setIfInBounds_toArray, List.set_cons_zero, List.set_cons_succ]
                                refine take_yes (i := 31) (d := some 108) (v := ?_) rfl (by kernel_rfl) (by kernel_rfl) (by kernel_rfl) (by kernel_rfl) (fun _ _ _ h => h) (by kernel_rfl) ?_ (by assumption) ?_
                                rotate_left
                                · (intro w hSw; clear hSw; go_simp; try (with_reducible rfl))
                                try simp only [Act.put, List.setIfInBounds_toArray, List.set_cons_zero, List.set_cons_succ]
                                refine take_no (i := 32) (d := some 109) rfl (by kernel_rfl) (by kernel_rfl) (by kernel_rfl) (by kernel_rfl) (fun _ _ _ h => h) (by kernel_rfl) (by assumption) ?_
                                try simp only [Act.put, List.setIfInBounds_toArray, List.set_cons_zero, List.set_cons_succ]
                                refine take_no (i := 33) (d := some 110) rfl (by kernel_rfl) (by kernel_rfl) (by kernel_rfl) (by kernel_rfl) (fun _ _ _ h => h) (by kernel_rfl) (by assumption) ?_
                                try simp only [Act.put, List.setIfInBounds_toArray, List.set_cons_zero, List.set_cons_succ]
                                refine take_no (i := 34) (d := some 111) rfl (by kernel_rfl) (by kernel_rfl) (by kernel_rfl) (by kernel_rfl) (fun _ _ _ h => h) (by kernel_rfl) (by assumption) ?_
                                try simp only [Act.put, List.setIfInBounds_toArray, List.set_cons_zero, List.set_cons_succ]
                                refine take_no (i := 35) (d := some 112) rfl (by kernel_rfl) (by kernel_rfl) (by kernel_rfl) (by kernel_rfl) (fun _ _ _ h => h) (by kernel_rfl) (by assumption) ?_
                                try simp only [Act.put, List.setIfInBounds_toArray, List.set_cons_zero, List.set_cons_succ]
                                refine take_no (i := 36) (d := some 113) rfl (by kernel_rfl) (by kernel_rfl) (by kernel_rfl) (by kernel_rfl) (fun _ _ _ h => h) (by kernel_rfl) (by assumption) ?_
                                try simp only [Act.put, List.setIfInBounds_toArray, List.set_cons_zero, List.set_cons_succ]
                                refine take_no (i := 37) (d := some 114) rfl (by kernel_rfl) (by kernel_rfl) (by kernel_rfl) (by kernel_rfl) (fun _ _ _ h => h) (by kernel_rfl) (by assumption) ?_
                                try simp only [Act.put, List.setIfInBounds_toArray, List.set_cons_zero, List.set_cons_succ]
                                refine take_no (i := 38) (d := some 115) rfl (by kernel_rfl) (by kernel_rfl) (by kernel_rfl) (by kernel_rfl) (fun _ _ _ h => h) (by kernel_rfl) (by assumption) ?_
                                try simp only [Act.put, List.setIfInBounds_toArray, List.set_cons_zero, List.set_cons_succ]
                                refine take_no (i := 39) (d := some 116) rfl (by kernel_rfl) (by kernel_rfl) (by kernel_rfl) (by kernel_rfl) (fun _ _ _ h => h) (by kernel_rfl) (by assumption) ?_
                                try simp only [Act.put, List.setIfInBounds_toArray, List.set_cons_zero, List.set_cons_succ]
                                refine take_no (i := 40) (d := some 117) rfl (by kernel_rfl) (by kernel_rfl) (by kernel_rfl) (by kernel_rfl) (fun _ _ _ h => h) (by kernel_rfl) (by assumption) ?_
                                try simp only [Act.put, List.setIfInBounds_toArray, List.set_cons_zero, List.set_cons_succ]
                                refine take_yes (i := 41) (d := some 118) (v := ?_) rfl (by kernel_rfl) (by kernel_rfl) (by kernel_rfl) (by kernel_rfl) (fun _ _ _ h => h) (by kernel_rfl) ?_ (by assumption) ?_
                                rotate_left
                                · (intro w hSw; clear hSw; go_simp; try (with_reducible rfl))
                                try simp only [Act.put, List.setIfInBounds_toArray, List.set_cons_zero, List.set_cons_succ]
                                refine wpAnyH_done (by kernel_rfl) ?_ _
                                (try go_wp2_with fail)
                                go_meet
                                exact ⟨rfl, Lib.hid hHeld⟩
                            · have b1 : ((f.a : Int) == (z : Int)) = false := by simp; omega
                              by_cases hb : f.b = z
                              · have HSE : Hid (e.a + e.b = oe + z ∧ f.a + f.b = of + z) := Lib.hid ⟨HS1E.out, HSF.out (.inr hb)⟩
                                have b3 : ((f.b : Int) == (z : Int)) = true := by simp [hb]
                                by_cases hq : v1 = v2
                                · have b2 : ((v1 : Int) == (v2 : Int)) = true := by simp [hq]
                                  have hVV : V = vl := by rw [← HV.out, ← hvl]; simp [hb, hq]
                                  subst hVV
                                  clear ha hb hq
                                  refine wp_region_held_drew (S := fun w' => Keep Nb W w') (by kernel_rfl) ?_ (fun hHeld => ?_)
                                  · exact (Keep.refl Nb W).drew
                                  refine take_yes (i := 0) (d := some 77) (v := ?_) rfl (by kernel_rfl) (by kernel_rfl) (by kernel_rfl) (by kernel_rfl) (fun _ _ _ h => h) (by kernel_rfl) ?_ (by assumption) ?_
                                  rotate_left
                                  · (intro w hSw; clear hSw; go_simp; try (with_reducible rfl))
                                  try simp only [Act.put, List.setIfInBounds_toArray, List.set_cons_zero, List.set_cons_succ]
                                  refine take_yes (i := 1) (d := some 78) (v := ?_) rfl (by kernel_rfl) (by kernel_rfl) (by kernel_rfl) (by kernel_rfl) (fun _ _ _ h => h) (by kernel_rfl) ?_ (by assumption) ?_
                                  rotate_left
                                  · (intro w hSw; have y1' := Keep.cell (show Keep Nb W w from hSw) y1 (fun e => e); clear hSw; go_simp; try (with_reducible rfl))
                                  try simp only [Act.put, List.setIfInBounds_toArray, List.set_cons_zero, List.set_cons_succ]
                                  refine take_yes (i := 2) (d := some 79) (v := ?_) rfl (by kernel_rfl) (by kernel_rfl) (by kernel_rfl) (by kernel_rfl) (fun _ _ _ h => h) (by kernel_rfl) ?_ (by assumption) ?_
                                  rotate_left
                                  · (intro w hSw; clear hSw; go_simp; try (with_reducible rfl))
                                  try simp only [Act.put, List.setIfInBounds_toArray, List.set_cons_zero, List.set_cons_succ]
                                  refine take_yes (i := 3) (d := some 80) (v := ?_) rfl (by kernel_rfl) (by kernel_rfl) (by kernel_rfl) (by kernel_rfl) (fun _ _ _ h => h) (by kernel_rfl) ?_ (by assumption) ?_
                                  rotate_left
                                  · (intro w hSw; clear hSw; go_simp; try (with_reducible rfl))
                                  try simp only [Act.put, List.setIfInBounds_toArray, List.set_cons_zero, List.set_cons_succ]
                                  refine take_yes (i := 4) (d := some 81) (v := ?_) rfl (by kernel_rfl) (by kernel_rfl) (by kernel_rfl) (by kernel_rfl) (fun _ _ _ h => h) (by kernel_rfl) ?_ (by assumption) ?_
                                  rotate_left
                                  · (intro w hSw; clear hSw; go_simp; try (with_reducible rfl))
                                  try simp only [Act.put, List.setIfInBounds_toArray, List.set_cons_zero, List.set_cons_succ]
                                  refine take_yes (i := 5) (d := some 82) (v := ?_) rfl (by kernel_rfl) (by kernel_rfl) (by kernel_rfl) (by kernel_rfl) (fun _ _ _ h => h) (by kernel_rfl) ?_ (by assumption) ?_
                                  rotate_left
                                  · (intro w hSw; clear hSw; go_simp; try (with_reducible rfl))
                                  try simp only [Act.put, List.setIfInBounds_toArray, List.set_cons_zero, List.set_cons_succ]
                                  refine take_yes (i := 6) (d := some 83) (v := ?_) rfl (by kernel_rfl) (by kernel_rfl) (by kernel_rfl) (by kernel_rfl) (fun _ _ _ h => h) (by kernel_rfl) ?_ (by assumption) ?_
                                  rotate_left
                                  · (intro w hSw; have y2' := Keep.cell (show Keep Nb W w from hSw) y2 (fun e => e); clear hSw; go_simp; try (with_reducible rfl))
                                  try simp only [Act.put, List.setIfInBounds_toArray, List.set_cons_zero, List.set_cons_succ]
                                  refine take_yes (i := 7) (d := some 84) (v := ?_) rfl (by kernel_rfl) (by kernel_rfl) (by kernel_rfl) (by kernel_rfl) (fun _ _ _ h => h) (by kernel_rfl) ?_ (by assumption) ?_
                                  rotate_left
                                  · (intro w hSw; clear hSw; go_simp; try (with_reducible rfl))
                                  try simp only [Act.put, List.setIfInBounds_toArray, List.set_cons_zero, List.set_cons_succ]
                                  refine take_yes (i := 8) (d := some 85) (v := ?_) rfl (by kernel_rfl) (by kernel_rfl) (by kernel_rfl) (by kernel_rfl) (fun _ _ _ h => h) (by kernel_rfl) ?_ (by assumption) ?_
                                  rotate_left
                                  · (intro w hSw; clear hSw; go_simp; try (with_reducible rfl))
                                  try simp only [Act.put, List.setIfInBounds_toArray, List.set_cons_zero, List.set_cons_succ]
                                  refine take_yes (i := 9) (d := some 86) (v := ?_) rfl (by kernel_rfl) (by kernel_rfl) (by kernel_rfl) (by kernel_rfl) (fun _ _ _ h => h) (by kernel_rfl) ?_ (by assumption) ?_
                                  rotate_left
                                  · (intro w hSw; clear hSw; go_simp; try (with_reducible rfl))
                                  try simp only [Act.put, List.setIfInBounds_toArray, List.set_cons_zero, List.set_cons_succ]
                                  refine take_yes (i := 10) (d := some 87) (v := ?_) rfl (by kernel_rfl) (by kernel_rfl) (by kernel_rfl) (by kernel_rfl) (fun _ _ _ h => h) (by kernel_rfl) ?_ (by assumption) ?_
                                  rotate_left
                                  · (intro w hSw; clear hSw; go_simp; try (with_reducible rfl))
                                  try simp only [Act.put, List.setIfInBounds_toArray, List.set_cons_zero, List.set_cons_succ]
                                  refine take_yes (i := 11) (d := some 88) (v := ?_) rfl (by kernel_rfl) (by kernel_rfl) (by kernel_rfl) (by kernel_rfl) (fun _ _ _ h => h) (by kernel_rfl) ?_ (by assumption) ?_
                                  rotate_left
                                  · (intro w hSw; clear hSw; go_simp; try (with_reducible rfl))
                                  try simp only [Act.put, List.setIfInBounds_toArray, List.set_cons_zero, List.set_cons_succ]
                                  refine take_yes (i := 12) (d := some 89) (v := ?_) rfl (by kernel_rfl) (by kernel_rfl) (by kernel_rfl) (by kernel_rfl) (fun _ _ _ h => h) (by kernel_rfl) ?_ (by assumption) ?_
                                  rotate_left
                                  · (intro w hSw; clear hSw; go_simp; try (with_reducible rfl))
                                  try simp only [Act.put, List.setIfInBounds_toArray, List.set_cons_zero, List.set_cons_succ]
                                  refine take_yes (i := 13) (d := some 90) (v := ?_) rfl (by kernel_rfl) (by kernel_rfl) (by kernel_rfl) (by kernel_rfl) (fun _ _ _ h => h) (by kernel_rfl) ?_ (by assumption) ?_
                                  rotate_left
                                  · (intro w hSw; clear hSw; go_simp; try (with_reducible rfl))
                                  try simp only [Act.put, List.setIfInBounds_toArray, List.set_cons_zero, List.set_cons_succ]
                                  refine take_yes (i := 14) (d := some 91) (v := ?_) rfl (by kernel_rfl) (by kernel_rfl) (by kernel_rfl) (by kernel_rfl) (fun _ _ _ h => h) (by kernel_rfl) ?_ (by assumption) ?_
                                  rotate_left
                                  · (intro w hSw; have g0' := Keep.cell (show Keep Nb W w from hSw) g0 (fun e => e); clear hSw; go_simp; try (with_reducible rfl))
                                  try simp only [Act.put, List.setIfInBounds_toArray, List.set_cons_zero, List.set_cons_succ]
                                  refine take_yes (i := 15) (d := some 92) (v := ?_) rfl (by kernel_rfl) (by kernel_rfl) (by kernel_rfl) (by kernel_rfl) (fun _ _ _ h => h) (by kernel_rfl) ?_ (by assumption) ?_
                                  rotate_left
                                  · (intro w hSw; have x0' := Keep.cell (show Keep Nb W w from hSw) x0 (fun e => e); have x1' := Keep.cell (show Keep Nb W w from hSw) x1 (fun e => e); have x2' := Keep.cell (show Keep Nb W w from hSw) x2 (fun e => e); clear hSw; go_simp; try (with_reducible rfl))
                                  try simp only [Act.put, List.setIfInBounds_toArray, List.set_cons_zero, List.set_cons_succ]
                                  refine take_yes (i := 16) (d := some 93) (v := ?_) rfl (by kernel_rfl) (by kernel_rfl) (by kernel_rfl) (by kernel_rfl) (fun _ _ _ h => h) (by kernel_rfl) ?_ (by assumption) ?_
                                  rotate_left
                                  · (intro w hSw; clear hSw; go_simp; try (with_reducible rfl))
                                  try simp only [Act.put, List.setIfInBounds_toArray, List.set_cons_zero, List.set_cons_succ]
                                  refine take_yes (i := 20) (d := some 97) (v := ?_) rfl (by kernel_rfl) (by kernel_rfl) (by kernel_rfl) (by kernel_rfl) (fun _ _ _ h => h) (by kernel_rfl) ?_ (by assumption) ?_
                                  rotate_left
                                  · (intro w hSw; clear hSw; go_simp; try (with_reducible rfl))
                                  try simp only [Act.put, List.setIfInBounds_toArray, List.set_cons_zero, List.set_cons_succ]
                                  refine take_yes (i := 21) (d := some 98) (v := ?_) rfl (by kernel_rfl) (by kernel_rfl) (by kernel_rfl) (by kernel_rfl) (fun _ _ _ h => h) (by kernel_rfl) ?_ (by assumption) ?_
                                  rotate_left
                                  · (intro w hSw; clear hSw; go_simp; try (with_reducible rfl))
                                  try simp only [Act.put, List.setIfInBounds_toArray, List.set_cons_zero, List.set_cons_succ]
                                  refine take_yes (i := 22) (d := some 99) (v := ?_) rfl (by kernel_rfl) (by kernel_rfl) (by kernel_rfl) (by kernel_rfl) (fun _ _ _ h => h) (by kernel_rfl) ?_ (by assumption) ?_
                                  rotate_left
                                  · (intro w hSw; clear hSw; go_simp; try (with_reducible rfl))
                                  try simp only [Act.put, List.setIfInBounds_toArray, List.set_cons_zero, List.set_cons_succ]
                                  refine take_yes (i := 23) (d := some 100) (v := ?_) rfl (by kernel_rfl) (by kernel_rfl) (by kernel_rfl) (by kernel_rfl) (fun _ _ _ h => h) (by kernel_rfl) ?_ (by assumption) ?_
                                  rotate_left
                                  · (intro w hSw; have g0' := Keep.cell (show Keep Nb W w from hSw) g0 (fun e => e); clear hSw; go_simp; try (with_reducible rfl))
                                  try simp only [Act.put, List.setIfInBounds_toArray, List.set_cons_zero, List.set_cons_succ]
                                  refine take_yes (i := 24) (d := some 101) (v := ?_) rfl (by kernel_rfl) (by kernel_rfl) (by kernel_rfl) (by kernel_rfl) (fun _ _ _ h => h) (by kernel_rfl) ?_ (by assumption) ?_
                                  rotate_left
                                  · (intro w hSw; have y0' := Keep.cell (show Keep Nb W w from hSw) y0 (fun e => e); have y1' := Keep.cell (show Keep Nb W w from hSw) y1 (fun e => e); have y2' := Keep.cell (show Keep Nb W w from hSw) y2 (fun e => e); clear hSw; go_simp; try (with_reducible rfl))
                                  try simp only [Act.put, List.setIfInBounds_toArray, List.set_cons_zero, List.set_cons_succ]
                                  refine take_yes (i := 25) (d := some 102) (v := ?_) rfl (by kernel_rfl) (by kernel_rfl) (by kernel_rfl) (by kernel_rfl) (fun _ _ _ h => h) (by kernel_rfl) ?_ (by assumption) ?_
                                  rotate_left
                                  · (intro w hSw; clear hSw; go_simp; try (with_reducible rfl))
                                  try simp only [Act.put, List.setIfInBounds_toArray, List.set_cons_zero, List.set_cons_succ]
                                  refine wpAnyH_ready (rs := [17]) (by kernel_rfl) (by simp) ?_
                                  refine AllReadyH.cons rfl (fun K hK => ?_) AllReadyH.nil
                                  go_simp
                                  (go_at_call 107; refine (rother_any _ e.id e.a e.b z oe HSE.out.1 HBD.out.1).mono ?_; rintro e6 wB ⟨rfl, kB⟩; have kS := Keep.trans (show Keep Nb W _ from hHeld) kB; clear kB hHeld)
                                  refine hK.out _ _ ?_ (fun hHeld => ?_)
                                  · exact kS
                                  clear hK K kS
                                  try simp only [Act.put, List.setIfInBounds_toArray, List.set_cons_zero, List.set_cons_succ]
                                  refine take_yes (i := 18) (d := some 95) (v := ?_) rfl (by kernel_rfl) (by kernel_rfl) (by kernel_rfl) (by kernel_rfl) (fun _ _ _ h => h) (by kernel_rfl) ?_ (by assumption) ?_
                                  rotate_left
                                  · (intro w hSw; clear hSw; go_simp; try (with_reducible rfl))
                                  try simp only [Act.put, List.setIfInBounds_toArray, List.set_cons_zero, List.set_cons_succ]
                                  refine take_yes (i := 19) (d := some 96) (v := ?_) rfl (by kernel_rfl) (by kernel_rfl) (by kernel_rfl) (by kernel_rfl) (fun _ _ _ h => h) (by kernel_rfl) ?_ (by assumption) ?_
                                  rotate_left
                                  · (intro w hSw; have g1' := Keep.cell (show Keep Nb W w from hSw) g1 (fun e => e); clear hSw; go_simp; try (with_reducible rfl))
                                  try simp only [Act.put, List.setIfInBounds_toArray, List.set_cons_zero, List.set_cons_succ]
                                  refine wpAnyH_ready (rs := [26]) (by kernel_rfl) (by simp) ?_
                                  refine AllReadyH.cons rfl (fun K hK => ?_) AllReadyH.nil
                                  go_simp
                                  (go_at_call 107; refine (rother_any _ f.id f.a f.b z of HSE.out.2 HBD.out.2).mono ?_; rintro e6 wB ⟨rfl, kB⟩; have kS := Keep.trans (show Keep Nb W _ from hHeld) kB; clear kB hHeld)
                                  refine hK.out _ _ ?_ (fun hHeld => ?_)
                                  · exact kS
                                  clear hK K kS
                                  try simp only [Act.put, List.setIfInBounds_toArray, List.set_cons_zero, List.set_cons_succ]
                                  refine take_yes (i := 27) (d := some 104) (v := ?_) rfl (by kernel_rfl) (by kernel_rfl) (by kernel_rfl) (by kernel_rfl) (fun _ _ _ h => h) (by kernel_rfl) ?_ (by assumption) ?_
                                  rotate_left
                                  · (intro w hSw; clear hSw; go_simp; try (with_reducible rfl))
                                  try simp only [Act.put, List.setIfInBounds_toArray, List.set_cons_zero, List.set_cons_succ]
                                  refine take_yes (i := 28) (d := some 105) (v := ?_) rfl (by kernel_rfl) (by kernel_rfl) (by kernel_rfl) (by kernel_rfl) (fun _ _ _ h => h) (by kernel_rfl) ?_ (by assumption) ?_
                                  rotate_left
                                  · (intro w hSw; have g2' := Keep.cell (show Keep Nb W w from hSw) g2 (fun e => e); clear hSw; go_simp; try (with_reducible rfl))
                                  try simp only [Act.put, List.setIfInBounds_toArray, List.set_cons_zero, List.set_cons_succ]
                                  refine take_yes (i := 29) (d := some 106) (v := ?_) rfl (by kernel_rfl) (by kernel_rfl) (by kernel_rfl) (by kernel_rfl) (fun _ _ _ h => h) (by kernel_rfl) ?_ (by assumption) ?_
                                  rotate_left
                                  · (intro w hSw; clear hSw; go_simp; try (with_reducible rfl))
                                  try simp only [Act.put, List.setIfInBounds_toArray, List.set_cons_zero, List.set_cons_succ]
                                  refine take_yes (i := 30) (d := some 107) (v := ?_) rfl (by kernel_rfl) (by kernel_rfl) (by kernel_rfl) (by kernel_rfl) (fun _ _ _ h => h) (by kernel_rfl) ?_ (by assumption) ?_
                                  rotate_left
                                  · (intro w hSw; clear hSw; go_simp; try (with_reducible rfl))
                                  try simp only [Act.put, List.setIfInBounds_toArray, List.set_cons_zero, List.set_cons_succ]
                                  refine take_yes (i := 31) (d := some 108) (v := ?_) rfl (by kernel_rfl) (by kernel_rfl) (by kernel_rfl) (by kernel_rfl) (fun _ _ _ h => h) (by kernel_rfl) ?_ (by assumption) ?_
                                  rotate_left
                                  · (intro w hSw; clear hSw; go_simp; try (with_reducible rfl))
                                  try simp only [Act.put, List.setIfInBounds_toArray, List.set_cons_zero, List.set_cons_succ]
                                  refine take_yes (i := 32) (d := some 109) (v := ?_) rfl (by kernel_rfl) (by kernel_rfl) (by kernel_rfl) (by kernel_rfl) (fun _ _ _ h => h) (by kernel_rfl) ?_ (by assumption) ?_
                                  rotate_left
                                  · (intro w hSw; clear hSw; go_simp; try (with_reducible rfl))
                                  try simp only [Act.put, List.setIfInBounds_toArray, List.set_cons_zero, List.set_cons_succ]
                                  refine take_yes (i := 33) (d := some 110) (v := ?_) rfl (by kernel_rfl) (by kernel_rfl) (by kernel_rfl) (by kernel_rfl) (fun _ _ _ h => h) (by kernel_rfl) ?_ (by assumption) ?_
                                  rotate_left
                                  · (intro w hSw; clear hSw; go_simp; try (with_reducible rfl))
                                  try simp only [Act.put, List.setIfInBounds_toArray, List.set_cons_zero, List.set_cons_succ]
                                  refine take_yes (i := 34) (d := some 111) (v := ?_) rfl (by kernel_rfl) (by kernel_rfl) (by kernel_rfl) (by kernel_rfl) (fun _ _ _ h => h) (by kernel_rfl) ?_ (by assumption) ?_
                                  rotate_left
                                  · (intro w hSw; clear hSw; go_simp; try (with_reducible rfl))
                                  try simp only [Act.put, List.setIfInBounds_toArray, List.set_cons_zero, List.set_cons_succ]
                                  refine take_yes (i := 35) (d := some 112) (v := ?_) rfl (by kernel_rfl) (by kernel_rfl) (by kernel_rfl) (by kernel_rfl) (fun _ _ _ h => h) (by kernel_rfl) ?_ (by assumption) ?_
                                  rotate_left
                                  · (intro w hSw; have q0' := Keep.cell (show Keep Nb W w from hSw) q0 (fun e => e); clear hSw; go_simp; try (with_reducible rfl))
                                  try simp only [Act.put, List.setIfInBounds_toArray, List.set_cons_zero, List.set_cons_succ]
                                  refine take_yes (i := 36) (d := some 113) (v := ?_) rfl (by kernel_rfl) (by kernel_rfl) (by kernel_rfl) (by kernel_rfl) (fun _ _ _ h => h) (by kernel_rfl) ?_ (by assumption) ?_
                                  rotate_left
                                  · (intro w hSw; clear hSw; go_simp; try (with_reducible rfl))
                                  try simp only [Act.put, List.setIfInBounds_toArray, List.set_cons_zero, List.set_cons_succ]
                                  refine take_yes (i := 37) (d := some 114) (v := ?_) rfl (by kernel_rfl) (by kernel_rfl) (by kernel_rfl) (by kernel_rfl) (fun _ _ _ h => h) (by kernel_rfl) ?_ (by assumption) ?_
                                  rotate_left
                                  · (intro w hSw; clear hSw; go_simp; try (with_reducible rfl))
                                  try simp only [Act.put, List.setIfInBounds_toArray, List.set_cons_zero, List.set_cons_succ]
                                  refine take_yes (i := 38) (d := some 115) (v := ?_) rfl (by kernel_rfl) (by kernel_rfl) (by kernel_rfl) (by kernel_rfl) (fun _ _ _ h => h) (by kernel_rfl) ?_ (by assumption) ?_
                                  rotate_left
                                  · (intro w hSw; clear hSw; go_simp; try (with_reducible rfl))
                                  try simp only [Act.put, List.setIfInBounds_toArray, List.set_cons_zero, List.set_cons_succ]
                                  refine take_yes (i := 39) (d := some 116) (v := ?_) rfl (by kernel_rfl) (by kernel_rfl) (by kernel_rfl) (by kernel_rfl) (fun _ _ _ h => h) (by kernel_rfl) ?_ (by assumption) ?_
                                  rotate_left
                                  · (intro w hSw; have q1' := Keep.cell (show Keep Nb W w from hSw) q1 (fun e => e); clear hSw; go_simp; try (with_reducible rfl))
                                  try simp only [Act.put, List.setIfInBounds_toArray, List.set_cons_zero, List.set_cons_succ]
                                  refine take_yes (i := 40) (d := some 117) (v := ?_) rfl (by kernel_rfl) (by kernel_rfl) (by kernel_rfl) (by kernel_rfl) (fun _ _ _ h => h) (by kernel_rfl) ?_ (by assumption) ?_
                                  rotate_left
                                  · (intro w hSw; clear hSw; go_simp; try (with_reducible rfl))
                                  try simp only [Act.put, List.setIfInBounds_toArray, List.set_cons_zero, List.set_cons_succ]
                                  refine take_yes (i := 41) (d := some 118) (v := ?_) rfl (by kernel_rfl) (by kernel_rfl) (by kernel_rfl) (by kernel_rfl) (fun _ _ _ h => h) (by kernel_rfl) ?_ (by assumption) ?_
                                  rotate_left
                                  · (intro w hSw; clear hSw; go_simp; try (with_reducible rfl))
                                  try simp only [Act.put, List.setIfInBounds_toArray, List.set_cons_zero, List.set_cons_succ]
                                  refine wpAnyH_done (by kernel_rfl) ?_ _
                                  (try go_wp2_with fail)
                                  go_meet
                                  exact ⟨rfl, Lib.hid hHeld⟩
                                · have b2 : ((v1 : Int) == (v2 : Int)) = false := by simp; omega
                                  have hVV : V = false := by rw [← HV.out]; simp [hq]
                                  subst hVV
                                  clear ha hb hq
                                  refine wp_region_held_drew (S := fun w' => Keep Nb W w') (by kernel_rfl) ?_ (fun hHeld => ?_)
                                  · exact (Keep.refl Nb W).drew
                                  refine take_yes (i := 0) (d := some 77) (v := ?_) rfl (by kernel_rfl) (by kernel_rfl) (by kernel_rfl) (by kernel_rfl) (fun _ _ _ h => h) (by kernel_rfl) ?_ (by assumption) ?_
                                  rotate_left
                                  · (intro w hSw; clear hSw; go_simp; try (with_reducible rfl))
                                  try simp only [Act.put, List.setIfInBounds_toArray, List.set_cons_zero, List.set_cons_succ]
                                  refine take_yes (i := 1) (d := some 78) (v := ?_) rfl (by kernel_rfl) (by kernel_rfl) (by kernel_rfl) (by kernel_rfl) (fun _ _ _ h => h) (by kernel_rfl) ?_ (by assumption) ?_
                                  rotate_left
                                  · (intro w hSw; have y1' := Keep.cell (show Keep Nb W w from hSw) y1 (fun e => e); clear hSw; go_simp; try (with_reducible rfl))
                                  try simp only [Act.put, List.setIfInBounds_toArray, List.set_cons_zero, List.set_cons_succ]
                                  refine take_yes (i := 2) (d := some 79) (v := ?_) rfl (by kernel_rfl) (by kernel_rfl) (by kernel_rfl) (by kernel_rfl) (fun _ _ _ h => h) (by kernel_rfl) ?_ (by assumption) ?_
                                  rotate_left
                                  · (intro w hSw; clear hSw; go_simp; try (with_reducible rfl))
                                  try simp only [Act.put, List.setIfInBounds_toArray, List.set_cons_zero, List.set_cons_succ]
                                  refine take_yes (i := 3) (d := some 80) (v := ?_) rfl (by kernel_rfl) (by kernel_rfl) (by kernel_rfl) (by kernel_rfl) (fun _ _ _ h => h) (by kernel_rfl) ?_ (by assumption) ?_
                                  rotate_left
                                  · (intro w hSw; clear hSw; go_simp; try (with_reducible rfl))
                                  try simp only [Act.put, List.setIfInBounds_toArray, List.set_cons_zero, List.set_cons_succ]
                                  refine take_yes (i := 4) (d := some 81) (v := ?_) rfl (by kernel_rfl) (by kernel_rfl) (by kernel_rfl) (by kernel_rfl) (fun _ _ _ h => h) (by kernel_rfl) ?_ (by assumption) ?_
                                  rotate_left
                                  · (intro w hSw; clear hSw; go_simp; try (with_reducible rfl))
                                  try simp only [Act.put, List.setIfInBounds_toArray, List.set_cons_zero, List.set_cons_succ]
                                  refine take_yes (i := 5) (d := some 82) (v := ?_) rfl (by kernel_rfl) (by kernel_rfl) (by kernel_rfl) (by kernel_rfl) (fun _ _ _ h => h) (by kernel_rfl) ?_ (by assumption) ?_
                                  rotate_left
                                  · (intro w hSw; clear hSw; go_simp; try (with_reducible rfl))
                                  try simp only [Act.put, List.setIfInBounds_toArray, List.set_cons_zero, List.set_cons_succ]
                                  refine take_yes (i := 6) (d := some 83) (v := ?_) rfl (by kernel_rfl) (by kernel_rfl) (by kernel_rfl) (by kernel_rfl) (fun _ _ _ h => h) (by kernel_rfl) ?_ (by assumption) ?_
                                  rotate_left
                                  · (intro w hSw; have y2' := Keep.cell (show Keep Nb W w from hSw) y2 (fun e => e); clear hSw; go_simp; try (with_reducible rfl))
                                  try simp only [Act.put, List.setIfInBounds_toArray, List.set_cons_zero, List.set_cons_succ]
                                  refine take_yes (i := 7) (d := some 84) (v := ?_) rfl (by kernel_rfl) (by kernel_rfl) (by kernel_rfl) (by kernel_rfl) (fun _ _ _ h => h) (by kernel_rfl) ?_ (by assumption) ?_
                                  rotate_left
                                  · (intro w hSw; clear hSw; go_simp; try (with_reducible rfl))
                                  try simp only [Act.put, List.setIfInBounds_toArray, List.set_cons_zero, List.set_cons_succ]
                                  refine take_yes (i := 8) (d := some 85) (v := ?_) rfl (by kernel_rfl) (by kernel_rfl) (by kernel_rfl) (by kernel_rfl) (fun _ _ _ h => h) (by kernel_rfl) ?_ (by assumption) ?_
                                  rotate_left
                                  · (intro w hSw; clear hSw; go_simp; try (with_reducible rfl))
                                  try simp only [Act.put, List.setIfInBounds_toArray, List.set_cons_zero, List.set_cons_succ]
                                  refine take_yes (i := 9) (d := some 86) (v := ?_) rfl (by kernel_rfl) (by kernel_rfl) (by kernel_rfl) (by kernel_rfl) (fun _ _ _ h => h) (by kernel_rfl) ?_ (by assumption) ?_
                                  rotate_left
                                  · (intro w hSw; clear hSw; go_simp; try (with_reducible rfl))
                                  try simp only [Act.put, List.setIfInBounds_toArray, List.set_cons_zero, List.set_cons_succ]
                                  refine take_yes (i := 10) (d := some 87) (v := ?_) rfl (by kernel_rfl) (by kernel_rfl) (by kernel_rfl) (by kernel_rfl) (fun _ _ _ h => h) (by kernel_rfl) ?_ (by assumption) ?_
                                  rotate_left
                                  · (intro w hSw; clear hSw; go_simp; try (with_reducible rfl))
                                  try simp only [Act.put, List.setIfInBounds_toArray, List.set_cons_zero, List.set_cons_succ]
                                  refine take_yes (i := 11) (d := some 88) (v := ?_) rfl (by kernel_rfl) (by kernel_rfl) (by kernel_rfl) (by kernel_rfl) (fun _ _ _ h => h) (by kernel_rfl) ?_ (by assumption) ?_
                                  rotate_left
                                  · (intro w hSw; clear hSw; go_simp; try (with_reducible rfl))
                                  try simp only [Act.put, List.setIfInBounds_toArray, List.set_cons_zero, List.set_cons_succ]
                                  refine take_yes (i := 12) (d := some 89) (v := ?_) rfl (by kernel_rfl) (by kernel_rfl) (by kernel_rfl) (by kernel_rfl) (fun _ _ _ h => h) (by kernel_rfl) ?_ (by assumption) ?_
                                  rotate_left
                                  · (intro w hSw; clear hSw; go_simp; try (with_reducible rfl))
                                  try simp only [Act.put, List.setIfInBounds_toArray, List.set_cons_zero, List.set_cons_succ]
                                  refine take_yes (i := 13) (d := some 90) (v := ?_) rfl (by kernel_rfl) (by kernel_rfl) (by kernel_rfl) (by kernel_rfl) (fun _ _ _ h => h) (by kernel_rfl) ?_ (by assumption) ?_
                                  rotate_left
                                  · (intro w hSw; clear hSw; go_simp; try (with_reducible rfl))
                                  try simp only [Act.put, List.setIfInBounds_toArray, List.set_cons_zero, List.set_cons_succ]
                                  refine take_yes (i := 14) (d := some 91) (v := ?_) rfl (by kernel_rfl) (by kernel_rfl) (by kernel_rfl) (by kernel_rfl) (fun _ _ _ h => h) (by kernel_rfl) ?_ (by assumption) ?_
                                  rotate_left
                                  · (intro w hSw; have g0' := Keep.cell (show Keep Nb W w from hSw) g0 (fun e => e); clear hSw; go_simp; try (with_reducible rfl))
                                  try simp only [Act.put, List.setIfInBounds_toArray, List.set_cons_zero, List.set_cons_succ]
                                  refine take_yes (i := 15) (d := some 92) (v := ?_) rfl (by kernel_rfl) (by kernel_rfl) (by kernel_rfl) (by kernel_rfl) (fun _ _ _ h => h) (by kernel_rfl) ?_ (by assumption) ?_
                                  rotate_left
                                  · (intro w hSw; have x0' := Keep.cell (show Keep Nb W w from hSw) x0 (fun e => e); have x1' := Keep.cell (show Keep Nb W w from hSw) x1 (fun e => e); have x2' := Keep.cell (show Keep Nb W w from hSw) x2 (fun e => e); clear hSw; go_simp; try (with_reducible rfl))
                                  try simp only [Act.put, List.setIfInBounds_toArray, List.set_cons_zero, List.set_cons_succ]
                                  refine take_yes (i := 16) (d := some 93) (v := ?_) rfl (by kernel_rfl) (by kernel_rfl) (by kernel_rfl) (by kernel_rfl) (fun _ _ _ h => h) (by kernel_rfl) ?_ (by assumption) ?_
                                  rotate_left
                                  · (intro w hSw; clear hSw; go_simp; try (with_reducible rfl))
                                  try simp only [Act.put, List.setIfInBounds_toArray, List.set_cons_zero, List.set_cons_succ]
                                  refine take_yes (i := 20) (d := some 97) (v := ?_) rfl (by kernel_rfl) (by kernel_rfl) (by kernel_rfl) (by kernel_rfl) (fun _ _ _ h => h) (by kernel_rfl) ?_ (by assumption) ?_
                                  rotate_left
                                  · (intro w hSw; clear hSw; go_simp; try (with_reducible rfl))
                                  try simp only [Act.put, List.setIfInBounds_toArray, List.set_cons_zero, List.set_cons_succ]
                                  refine take_yes (i := 21) (d := some 98) (v := ?_) rfl (by kernel_rfl) (by kernel_rfl) (by kernel_rfl) (by kernel_rfl) (fun _ _ _ h => h) (by kernel_rfl) ?_ (by assumption) ?_
                                  rotate_left
                                  · (intro w hSw; clear hSw; go_simp; try (with_reducible rfl))
                                  try simp only [Act.put, List.setIfInBounds_toArray, List.set_cons_zero, List.set_cons_succ]
                                  refine take_yes (i := 22) (d := some 99) (v := ?_) rfl (by kernel_rfl) (by kernel_rfl) (by kernel_rfl) (by kernel_rfl) (fun _ _ _ h => h) (by kernel_rfl) ?_ (by assumption) ?_
                                  rotate_left
                                  · (intro w hSw; clear hSw; go_simp; try (with_reducible rfl))
                                  try simp only [Act.put, List.setIfInBounds_toArray, List.set_cons_zero, List.set_cons_succ]
                                  refine take_yes (i := 23) (d := some 100) (v := ?_) rfl (by kernel_rfl) (by kernel_rfl) (by kernel_rfl) (by kernel_rfl) (fun _ _ _ h => h) (by kernel_rfl) ?_ (by assumption) ?_
                                  rotate_left
                                  · (intro w hSw; have g0' := Keep.cell (show Keep Nb W w from hSw) g0 (fun e => e); clear hSw; go_simp; try (with_reducible rfl))
                                  try simp only [Act.put, List.setIfInBounds_toArray, List.set_cons_zero, List.set_cons_succ]
                                  refine take_yes (i := 24) (d := some 101) (v := ?_) rfl (by kernel_rfl) (by kernel_rfl) (by kernel_rfl) (by kernel_rfl) (fun _ _ _ h => h) (by kernel_rfl) ?_ (by assumption) ?_
                                  rotate_left
                                  · (intro w hSw; have y0' := Keep.cell (show Keep Nb W w from hSw) y0 (fun e => e); have y1' := Keep.cell (show Keep Nb W w from hSw) y1 (fun e => e); have y2' := Keep.cell (show Keep Nb W w from hSw) y2 (fun e => e); clear hSw; go_simp; try (with_reducible rfl))
                                  try simp only [Act.put, List.setIfInBounds_toArray, List.set_cons_zero, List.set_cons_succ]
                                  refine take_yes (i := 25) (d := some 102) (v := ?_) rfl (by kernel_rfl) (by kernel_rfl) (by kernel_rfl) (by kernel_rfl) (fun _ _ _ h => h) (by kernel_rfl) ?_ (by assumption) ?_
                                  rotate_left
                                  · (intro w hSw; clear hSw; go_simp; try (with_reducible rfl))
                                  try simp only [Act.put, List.setIfInBounds_toArray, List.set_cons_zero, List.set_cons_succ]
                                  refine wpAnyH_ready (rs := [17]) (by kernel_rfl) (by simp) ?_
                                  refine AllReadyH.cons rfl (fun K hK => ?_) AllReadyH.nil
                                  go_simp
                                  (go_at_call 107; refine (rother_any _ e.id e.a e.b z oe HSE.out.1 HBD.out.1).mono ?_; rintro e6 wB ⟨rfl, kB⟩; have kS := Keep.trans (show Keep Nb W _ from hHeld) kB; clear kB hHeld)
                                  refine hK.out _ _ ?_ (fun hHeld => ?_)
                                  · exact kS
                                  clear hK K kS
                                  try simp only [Act.put, List.setIfInBounds_toArray, List.set_cons_zero, List.set_cons_succ]
                                  refine take_yes (i := 18) (d := some 95) (v := ?_) rfl (by kernel_rfl) (by kernel_rfl) (by kernel_rfl) (by kernel_rfl) (fun _ _ _ h => h) (by kernel_rfl) ?_ (by assumption) ?_
                                  rotate_left
                                  · (intro w hSw; clear hSw; go_simp; try (with_reducible rfl))
                                  try simp only [Act.put, List.setIfInBounds_toArray, List.set_cons_zero, List.set_cons_succ]
                                  refine take_yes (i := 19) (d := some 96) (v := ?_) rfl (by kernel_rfl) (by kernel_rfl) (by kernel_rfl) (by kernel_rfl) (fun _ _ _ h => h) (by kernel_rfl) ?_ (by assumption) ?_
                                  rotate_left
                                  · (intro w hSw; have g1' := Keep.cell (show Keep Nb W w from hSw) g1 (fun e => e); clear hSw; go_simp; try (with_reducible rfl))
                                  try simp only [Act.put, List.setIfInBounds_toArray, List.set_cons_zero, List.set_cons_succ]
                                  refine wpAnyH_ready (rs := [26]) (by kernel_rfl) (by simp) ?_
                                  refine AllReadyH.cons rfl (fun K hK => ?_) AllReadyH.nil
                                  go_simp
                                  (go_at_call 107; refine (rother_any _ f.id f.a f.b z of HSE.out.2 HBD.out.2).mono ?_; rintro e6 wB ⟨rfl, kB⟩; have kS := Keep.trans (show Keep Nb W _ from hHeld) kB; clear kB hHeld)
                                  refine hK.out _ _ ?_ (fun hHeld => ?_)
                                  · exact kS
                                  clear hK K kS
                                  try simp only [Act.put, List.setIfInBounds_toArray, List.set_cons_zero, List.set_cons_succ]
                                  refine take_yes (i := 27) (d := some 104) (v := ?_) rfl (by kernel_rfl) (by kernel_rfl) (by kernel_rfl) (by kernel_rfl) (fun _ _ _ h => h) (by kernel_rfl) ?_ (by assumption) ?_
                                  rotate_left
                                  · (intro w hSw; clear hSw; go_simp; try (with_reducible rfl))
                                  try simp only [Act.put, List.setIfInBounds_toArray, List.set_cons_zero, List.set_cons_succ]
                                  refine take_yes (i := 28) (d := some 105) (v := ?_) rfl (by kernel_rfl) (by kernel_rfl) (by kernel_rfl) (by kernel_rfl) (fun _ _ _ h => h) (by kernel_rfl) ?_ (by assumption) ?_
                                  rotate_left
                                  · (intro w hSw; have g2' := Keep.cell (show Keep Nb W w from hSw) g2 (fun e => e); clear hSw; go_simp; try (with_reducible rfl))
                                  try simp only [Act.put, List.setIfInBounds_toArray, List.set_cons_zero, List.set_cons_succ]
                                  refine take_yes (i := 29) (d := some 106) (v := ?_) rfl (by kernel_rfl) (by kernel_rfl) (by kernel_rfl) (by kernel_rfl) (fun _ _ _ h => h) (by kernel_rfl) ?_ (by assumption) ?_
                                  rotate_left
                                  · (intro w hSw; clear hSw; go_simp; try (with_reducible rfl))
                                  try simp only [Act.put, List.setIfInBounds_toArray, List.set_cons_zero, List.set_cons_succ]
                                  refine take_yes (i := 30) (d := some 107) (v := ?_) rfl (by kernel_rfl) (by kernel_rfl) (by kernel_rfl) (by kernel_rfl) (fun _ _ _ h => h) (by kernel_rfl) ?_ (by assumption) ?_
                                  rotate_left
                                  · (intro w hSw; clear hSw; go_simp; try (with_reducible rfl))
                                  try simp only [Act.put, List.setIfInBounds_toArray, List.set_cons_zero, List.set_cons_succ]
                                  refine take_yes (i := 31) (d := some 108) (v := ?_) rfl (by kernel_rfl) (by kernel_rfl) (by kernel_rfl) (by kernel_rfl) (fun _ _ _ h => h) (by kernel_rfl) ?_ (by assumption) ?_
                                  rotate_left
                                  · (intro w hSw; clear hSw; go_simp; try (with_reducible rfl))
                                  try simp only [Act.put, List.setIfInBounds_toArray, List.set_cons_zero, List.set_cons_succ]
                                  refine take_no (i := 32) (d := some 109) rfl (by kernel_rfl) (by kernel_rfl) (by kernel_rfl) (by kernel_rfl) (fun _ _ _ h => h) (by kernel_rfl) (by assumption) ?_
                                  try simp only [Act.put, List.setIfInBounds_toArray, List.set_cons_zero, List.set_cons_succ]
                                  refine take_no (i := 33) (d := some 110) rfl (by kernel_rfl) (by kernel_rfl) (by kernel_rfl) (by kernel_rfl) (fun _ _ _ h => h) (by kernel_rfl) (by assumption) ?_
                                  try simp only [Act.put, List.setIfInBounds_toArray, List.set_cons_zero, List.set_cons_succ]
                                  refine take_no (i := 34) (d := some 111) rfl (by kernel_rfl) (by kernel_rfl) (by kernel_rfl) (by kernel_rfl) (fun _ _ _ h => h) (by kernel_rfl) (by assumption) ?_
                                  try simp only [Act.put, List.setIfInBounds_toArray, List.set_cons_zero, List.set_cons_succ]
                                  refine take_no (i := 35) (d := some 112) rfl (by kernel_rfl) (by kernel_rfl) (by kernel_rfl) (by kernel_rfl) (fun _ _ _ h => h) (by kernel_rfl) (by assumption) ?_
                                  try simp only [Act.put, List.setIfInBounds_toArray, List.set_cons_zero, List.set_cons_succ]
                                  refine take_no (i := 36) (d := some 113) rfl (by kernel_rfl) (by kernel_rfl) (by kernel_rfl) (by kernel_rfl) (fun _ _ _ h => h) (by kernel_rfl) (by assumption) ?_
                                  try simp only [Act.put, List.setIfInBounds_toArray, List.set_cons_zero, List.set_cons_succ]
                                  refine take_no (i := 37) (d := some 114) rfl (by kernel_rfl) (by kernel_rfl) (by kernel_rfl) (by kernel_rfl) (fun _ _ _ h => h) (by kernel_rfl) (by assumption) ?_
                                  try simp only [Act.put, List.setIfInBounds_toArray, List.set_cons_zero, List.set_cons_succ]
                                  refine take_no (i := 38) (d := some 115) rfl (by kernel_rfl) (by kernel_rfl) (by kernel_rfl) (by kernel_rfl) (fun _ _ _ h => h) (by kernel_rfl) (by assumption) ?_
                                  try simp only [Act.put, List.setIfInBounds_toArray, List.set_cons_zero, List.set_cons_succ]
                                  refine take_no (i := 39) (d := some 116) rfl (by kernel_rfl) (by kernel_rfl) (by kernel_rfl) (by kernel_rfl) (fun _ _ _ h => h) (by kernel_rfl) (by assumption) ?_
                                  try simp only [Act.put, List.setIfInBounds_toArray, List.set_cons_zero, List.set_cons_succ]
                                  refine take_no (i := 40) (d := some 117) rfl (by kernel_rfl) (by kernel_rfl) (by kernel_rfl) (by kernel_rfl) (fun _ _ _ h => h) (by kernel_rfl) (by assumption) ?_
                                  try simp only [Act.put, List.setIfInBounds_toArray, List.set_cons_zero, List.set_cons_succ]
                                  refine take_yes (i := 41) (d := some 118) (v := ?_) rfl (by kernel_rfl) (by kernel_rfl) (by kernel_rfl) (by kernel_rfl) (fun _ _ _ h => h) (by kernel_rfl) ?_ (by assumption) ?_
                                  rotate_left
                                  · (intro w hSw; clear hSw; go_simp; try (with_reducible rfl))
                                  try simp only [Act.put, List.setIfInBounds_toArray, List.set_cons_zero, List.set_cons_succ]
                                  refine wpAnyH_done (by kernel_rfl) ?_ _
                                  (try go_wp2_with fail)
                                  go_meet
                                  exact ⟨rfl, Lib.hid hHeld⟩
                              · have b3 : ((f.b : Int) == (z : Int)) = false := by simp; omega
                                have hVV : V = false := by rw [← HV.out]; simp [ha, hb]
                                subst hVV
                                clear ha hb
                                refine wp_region_held_drew (S := fun w' => Keep Nb W w') (by kernel_rfl) ?_ (fun hHeld => ?_)
                                · exact (Keep.refl Nb W).drew
                                refine take_yes (i := 0) (d := some 77) (v := ?_) rfl (by kernel_rfl) (by kernel_rfl) (by kernel_rfl) (by kernel_rfl) (fun _ _ _ h => h) (by kernel_rfl) ?_ (by assumption) ?_
                                rotate_left
                                · (intro w hSw; clear hSw; go_simp; try (with_reducible rfl))
                                try simp only [Act.put, List.setIfInBounds_toArray, List.set_cons_zero, List.set_cons_succ]
                                refine take_yes (i := 1) (d := some 78) (v := ?_) rfl (by kernel_rfl) (by kernel_rfl) (by kernel_rfl) (by kernel_rfl) (fun _ _ _ h => h) (by kernel_rfl) ?_ (by assumption) ?_
                                rotate_left
                                · (intro w hSw; have y1' := Keep.cell (show Keep Nb W w from hSw) y1 (fun e => e); clear hSw; go_simp; try (with_reducible rfl))
                                try simp only [Act.put, List.setIfInBounds_toArray, List.set_cons_zero, List.set_cons_succ]
                                refine take_yes (i := 2) (d := some 79) (v := ?_) rfl (by kernel_rfl) (by kernel_rfl) (by kernel_rfl) (by kernel_rfl) (fun _ _ _ h => h) (by kernel_rfl) ?_ (by assumption) ?_
                                rotate_left
                                · (intro w hSw; clear hSw; go_simp; try (with_reducible rfl))
                                try simp only [Act.put, List.setIfInBounds_toArray, List.set_cons_zero, List.set_cons_succ]
                                refine take_yes (i := 3) (d := some 80) (v := ?_) rfl (by kernel_rfl) (by kernel_rfl) (by kernel_rfl) (by kernel_rfl) (fun _ _ _ h => h) (by kernel_rfl) ?_ (by assumption) ?_
                                rotate_left
                                · (intro w hSw; clear hSw; go_simp; try (with_reducible rfl))
                                try simp only [Act.put, List.setIfInBounds_toArray, List.set_cons_zero, List.set_cons_succ]
                                refine take_yes (i := 4) (d := some 81) (v := ?_) rfl (by kernel_rfl) (by kernel_rfl) (by kernel_rfl) (by kernel_rfl) (fun _ _ _ h => h) (by kernel_rfl) ?_ (by assumption) ?_
                                rotate_left
                                · (intro w hSw; clear hSw; go_simp; try (with_reducible rfl))
                                try simp only [Act.put, List.setIfInBounds_toArray, List.set_cons_zero, List.set_cons_succ]
                                refine take_yes (i := 5) (d := some 82) (v := ?_) rfl (by kernel_rfl) (by kernel_rfl) (by kernel_rfl) (by kernel_rfl) (fun _ _ _ h => h) (by kernel_rfl) ?_ (by assumption) ?_
                                rotate_left
                                · (intro w hSw; clear hSw; go_simp; try (with_reducible rfl))
                                try simp only [Act.put, List.setIfInBounds_toArray, List.set_cons_zero, List.set_cons_succ]
                                refine take_yes (i := 6) (d := some 83) (v := ?_) rfl (by kernel_rfl) (by kernel_rfl) (by kernel_rfl) (by kernel_rfl) (fun _ _ _ h => h) (by kernel_rfl) ?_ (by assumption) ?_
                                rotate_left
                                · (intro w hSw; have y2' := Keep.cell (show Keep Nb W w from hSw) y2 (fun e => e); clear hSw; go_simp; try (with_reducible rfl))
                                try simp only [Act.put, List.setIfInBounds_toArray, List.set_cons_zero, List.set_cons_succ]
                                refine take_yes (i := 7) (d := some 84) (v := ?_) rfl (by kernel_rfl) (by kernel_rfl) (by kernel_rfl) (by kernel_rfl) (fun _ _ _ h => h) (by kernel_rfl) ?_ (by assumption) ?_
                                rotate_left
                                · (intro w hSw; clear hSw; go_simp; try (with_reducible rfl))
                                try simp only [Act.put, List.setIfInBounds_toArray, List.set_cons_zero, List.set_cons_succ]
                                refine take_yes (i := 8) (d := some 85) (v := ?_) rfl (by kernel_rfl) (by kernel_rfl) (by kernel_rfl) (by kernel_rfl) (fun _ _ _ h => h) (by kernel_rfl) ?_ (by assumption) ?_
                                rotate_left
                                · (intro w hSw; clear hSw; go_simp; try (with_reducible rfl))
                                try simp only [Act.put, List.setIfInBounds_toArray, List.set_cons_zero, List.set_cons_succ]
                                refine take_yes (i := 9) (d := some 86) (v := ?_) rfl (by kernel_rfl) (by kernel_rfl) (by kernel_rfl) (by kernel_rfl) (fun _ _ _ h => h) (by kernel_rfl) ?_ (by assumption) ?_
                                rotate_left
                                · (intro w hSw; clear hSw; go_simp; try (with_reducible rfl))
                                try simp only [Act.put, List.setIfInBounds_toArray, List.set_cons_zero, List.set_cons_succ]
                                refine take_yes (i := 10) (d := some 87) (v := ?_) rfl (by kernel_rfl) (by kernel_rfl) (by kernel_rfl) (by kernel_rfl) (fun _ _ _ h => h) (by kernel_rfl) ?_ (by assumption) ?_
                                rotate_left
                                · (intro w hSw; clear hSw; go_simp; try (with_reducible rfl))
                                try simp only [Act.put, List.setIfInBounds_toArray, List.set_cons_zero, List.set_cons_succ]
                                refine take_no (i := 11) (d := some 88) rfl (by kernel_rfl) (by kernel_rfl) (by kernel_rfl) (by kernel_rfl) (fun _ _ _ h => h) (by kernel_rfl) (by assumption) ?_
                                try simp only [Act.put, List.setIfInBounds_toArray, List.set_cons_zero, List.set_cons_succ]
                                refine take_no (i := 12) (d := some 89) rfl (by kernel_rfl) (by kernel_rfl) (by kernel_rfl) (by kernel_rfl) (fun _ _ _ h => h) (by kernel_rfl) (by assumption) ?_
                                try simp only [Act.put, List.setIfInBounds_toArray, List.set_cons_zero, List.set_cons_succ]
                                refine take_no (i := 13) (d := some 90) rfl (by kernel_rfl) (by kernel_rfl) (by kernel_rfl) (by kernel_rfl) (fun _ _ _ h => h) (by kernel_rfl) (by assumption) ?_
                                try simp only [Act.put, List.setIfInBounds_toArray, List.set_cons_zero, List.set_cons_succ]
                                refine take_no (i := 14) (d := some 91) rfl (by kernel_rfl) (by kernel_rfl) (by kernel_rfl) (by kernel_rfl) (fun _ _ _ h => h) (by kernel_rfl) (by assumption) ?_
                                try simp only [Act.put, List.setIfInBounds_toArray, List.set_cons_zero, List.set_cons_succ]
                                refine take_no (i := 15) (d := some 92) rfl (by kernel_rfl) (by kernel_rfl) (by kernel_rfl) (by kernel_rfl) (fun _ _ _ h => h) (by kernel_rfl) (by assumption) ?_
                                try simp only [Act.put, List.setIfInBounds_toArray, List.set_cons_zero, List.set_cons_succ]
                                refine take_no (i := 16) (d := some 93) rfl (by kernel_rfl) (by kernel_rfl) (by kernel_rfl) (by kernel_rfl) (fun _ _ _ h => h) (by kernel_rfl) (by assumption) ?_
                                try simp only [Act.put, List.setIfInBounds_toArray, List.set_cons_zero, List.set_cons_succ]
                                refine take_no (i := 17) (d := some 94) rfl (by kernel_rfl) (by kernel_rfl) (by kernel_rfl) (by kernel_rfl) (fun _ _ _ h => h) (by kernel_rfl) (by assumption) ?_
                                try simp only [Act.put, List.setIfInBounds_toArray, List.set_cons_zero, List.set_cons_succ]
                                refine take_no (i := 18) (d := some 95) rfl (by kernel_rfl) (by kernel_rfl) (by kernel_rfl) (by kernel_rfl) (fun _ _ _ h => h) (by kernel_rfl) (by assumption) ?_
                                try simp only [Act.put, List.setIfInBounds_toArray, List.set_cons_zero, List.set_cons_succ]
                                refine take_no (i := 19) (d := some 96) rfl (by kernel_rfl) (by kernel_rfl) (by kernel_rfl) (by kernel_rfl) (fun _ _ _ h => h) (by kernel_rfl) (by assumption) ?_
                                try simp only [Act.put, List.setIfInBounds_toArray, List.set_cons_zero, List.set_cons_succ]
                                refine take_no (i := 20) (d := some 97) rfl (by kernel_rfl) (by kernel_rfl) (by kernel_rfl) (by kernel_rfl) (fun _ _ _ h => h) (by kernel_rfl) (by assumption) ?_
                                try simp only [Act.put, List.setIfInBounds_toArray, List.set_cons_zero, List.set_cons_succ]
                                refine take_no (i := 21) (d := some 98) rfl (by kernel_rfl) (by kernel_rfl) (by kernel_rfl) (by kernel_rfl) (fun _ _ _ h => h) (by kernel_rfl) (by assumption) ?_
                                try simp only [Act.put, List.setIfInBounds_toArray, List.set_cons_zero, List.set_cons_succ]
                                refine take_no (i := 22) (d := some 99) rfl (by kernel_rfl) (by kernel_rfl) (by kernel_rfl) (by kernel_rfl) (fun _ _ _ h => h) (by kernel_rfl) (by assumption) ?_
                                try simp only [Act.put, List.setIfInBounds_toArray, List.set_cons_zero, List.set_cons_succ]
                                refine take_no (i := 23) (d := some 100) rfl (by kernel_rfl) (by kernel_rfl) (by kernel_rfl) (by kernel_rfl) (fun _ _ _ h => h) (by kernel_rfl) (by assumption) ?_
                                try simp only [Act.put, List.setIfInBounds_toArray, List.set_cons_zero, List.set_cons_succ]
                                refine take_no (i := 24) (d := some 101) rfl (by kernel_rfl) (by kernel_rfl) (by kernel_rfl) (by kernel_rfl) (fun _ _ _ h => h) (by kernel_rfl) (by assumption) ?_
                                try simp only [Act.put, List.setIfInBounds_toArray, List.set_cons_zero, List.set_cons_succ]
                                refine take_no (i := 25) (d := some 102) rfl (by kernel_rfl) (by kernel_rfl) (by kernel_rfl) (by kernel_rfl) (fun _ _ _ h => h) (by kernel_rfl) (by assumption) ?_
                                try simp only [Act.put, List.setIfInBounds_toArray, List.set_cons_zero, List.set_cons_succ]
                                refine take_no (i := 26) (d := some 103) rfl (by kernel_rfl) (by kernel_rfl) (by kernel_rfl) (by kernel_rfl) (fun _ _ _ h => h) (by kernel_rfl) (by assumption) ?_
                                try simp only [Act.put, List.setIfInBounds_toArray, List.set_cons_zero, List.set_cons_succ]
                                refine take_no (i := 27) (d := some 104) rfl (by kernel_rfl) (by kernel_rfl) (by kernel_rfl) (by kernel_rfl) (fun _ _ _ h => h) (by kernel_rfl) (by assumption) ?_
                                try simp only [Act.put, List.setIfInBounds_toArray, List.set_cons_zero, List.set_cons_succ]
                                refine take_no (i := 28) (d := some 105) rfl (by kernel_rfl) (by kernel_rfl) (by kernel_rfl) (by kernel_rfl) (fun _ _ _ h => h) (by kernel_rfl) (by assumption) ?_
                                try simp only [Act.put, List.setIfInBounds_toArray, List.set_cons_zero, List.set_cons_succ]
                                refine take_no (i := 29) (d := some 106) rfl (by kernel_rfl) (by kernel_rfl) (by kernel_rfl) (by kernel_rfl) (fun _ _ _ h => h) (by kernel_rfl) (by assumption) ?_
                                try simp only [Act.put, List.setIfInBounds_toArray, List.set_cons_zero, List.set_cons_succ]
                                refine take_yes (i := 30) (d := some 107) (v := ?_) rfl (by kernel_rfl) (by kernel_rfl) (by kernel_rfl) (by kernel_rfl) (fun _ _ _ h => h) (by kernel_rfl) ?_ (by assumption) ?_
                                rotate_left
                                · (intro w hSw; clear hSw; go_simp; try (with_reducible rfl))
                                try simp only [Act.put, List.setIfInBounds_toArray, List.set_cons_zero, List.set_cons_succ]
                                refine take_yes (i := 31) (d := some 108) (v := ?_) rfl (by kernel_rfl) (by kernel_rfl) (by kernel_rfl) (by kernel_rfl) (fun _ _ _ h => h) (by kernel_rfl) ?_ (by assumption) ?_
                                rotate_left
                                · (intro w hSw; clear hSw; go_simp; try (with_reducible rfl))
                                try simp only [Act.put, List.setIfInBounds_toArray, List.set_cons_zero, List.set_cons_succ]
                                refine take_no (i := 32) (d := some 109) rfl (by kernel_rfl) (by kernel_rfl) (by kernel_rfl) (by kernel_rfl) (fun _ _ _ h => h) (by kernel_rfl) (by assumption) ?_
                                try simp only [Act.put, List.setIfInBounds_toArray, List.set_cons_zero, List.set_cons_succ]
                                refine take_no (i := 33) (d := some 110) rfl (by kernel_rfl) (by kernel_rfl) (by kernel_rfl) (by kernel_rfl) (fun _ _ _ h => h) (by kernel_rfl) (by assumption) ?_
                                try simp only [Act.put, List.setIfInBounds_toArray, List.set_cons_zero, List.set_cons_succ]
                                refine take_no (i := 34) (d := some 111) rfl (by kernel_rfl) (by kernel_rfl) (by kernel_rfl) (by kernel_rfl) (fun _ _ _ h => h) (by kernel_rfl) (by assumption) ?_
                                try simp only [Act.put, List.setIfInBounds_toArray, List.set_cons_zero, List.set_cons_succ]
                                refine take_no (i := 35) (d := some 112) rfl (by kernel_rfl) (by kernel_rfl) (by kernel_rfl) (by kernel_rfl) (fun _ _ _ h => h) (by kernel_rfl) (by assumption) ?_
                                try simp only [Act.put, List.setIfInBounds_toArray, List.set_cons_zero, List.set_cons_succ]
                                refine take_no (i := 36) (d := some 113) rfl (by kernel_rfl) (by kernel_rfl) (by kernel_rfl) (by kernel_rfl) (fun _ _ _ h => h) (by kernel_rfl) (by assumption) ?_
                                try simp only [Act.put, List.setIfInBounds_toArray, List.set_cons_zero, List.set_cons_succ]
                                refine take_no (i := 37) (d := some 114) rfl (by kernel_rfl) (by kernel_rfl) (by kernel_rfl) (by kernel_rfl) (fun _ _ _ h => h) (by kernel_rfl) (by assumption) ?_
                                try simp only [Act.put, List.setIfInBounds_toArray, List.set_cons_zero, List.set_cons_succ]
                                refine take_no (i := 38) (d := some 115) rfl (by kernel_rfl) (by kernel_rfl) (by kernel_rfl) (by kernel_rfl) (fun _ _ _ h => h) (by kernel_rfl) (by assumption) ?_
                                try simp only [Act.put, List.setIfInBounds_toArray, List.set_cons_zero, List.set_cons_succ]
                                refine take_no (i := 39) (d := some 116) rfl (by kernel_rfl) (by kernel_rfl) (by kernel_rfl) (by kernel_rfl) (fun _ _ _ h => h) (by kernel_rfl) (by assumption) ?_
                                try simp only [Act.put, List.setIfInBounds_toArray, List.set_cons_zero, List.set_cons_succ]
                                refine take_no (i := 40) (d := some 117) rfl (by kernel_rfl) (by kernel_rfl) (by kernel_rfl) (by kernel_rfl) (fun _ _ _ h => h) (by kernel_rfl) (by assumption) ?_
                                try simp only [Act.put, List.setIfInBounds_toArray, List.set_cons_zero, List.set_cons_succ]
                                refine take_yes (i := 41) (d := some 118) (v := ?_) rfl (by kernel_rfl) (by kernel_rfl) (by kernel_rfl) (by kernel_rfl) (fun _ _ _ h => h) (by kernel_rfl) ?_ (by assumption) ?_
                                rotate_left
                                · (intro w hSw; clear hSw; go_simp; try (with_reducible rfl))
                                try simp only [Act.put, List.setIfInBounds_toArray, List.set_cons_zero, List.set_cons_succ]
                                refine wpAnyH_done (by kernel_rfl) ?_ _
                                (try go_wp2_with fail)
                                go_meet
                                exact ⟨rfl, Lib.hid hHeld⟩
                          case rest =>
                            obtain ⟨rfl, HKC⟩ := hcut
                            obtain ⟨wC, rfl⟩ : ∃ w' : World, w' = wc := ⟨_, rfl⟩
                            have hLC := HZ.out.1.next HKC.out
                            have HXC := Lib.hid (HZ.out.2.2.1.keep HKC.out (fun e => e))
                            have HYC := Lib.hid (HZ.out.2.2.2.1.keep HKC.out (fun e => e))
                            have HBC := Lib.hid (HZ.out.2.2.2.2.keep HKC.out (fun e => e))
                            have q0 := hLC.row.cell (fints_get b hxm)
                            have q1 := hLC.row.cell (fints_get b hkm)
                            have fq := hLC.row.frozen k none
                            rw [HBV.out.1] at q0
                            rw [HBV.out.2] at q1
                            have HLC := Lib.hid hLC
                            clear hLC x0 x1 x2 y0 y1 y2 g0 g1 g2 hvl hvl2
                            cases V with
                            | true =>
                              have hV := of_decide_eq_true HV.out
                              have HN : Hid (LbRel w5 (wC.setCell ⟨bb, k, none⟩ (.int .i64 (bx : Nat))) bb m ds (upd b k bx) ∧ PS m b0 (upd b k bx) true (CF ds (upd b k bx) x ∧ CFk ds (upd b k bx) x k ∧ CFw ds (upd b k bx) x k e f (j + 1)) ∧ Row (wC.setCell ⟨bb, k, none⟩ (.int .i64 (bx : Nat))) X 42 (ecells e) ∧ Row (wC.setCell ⟨bb, k, none⟩ (.int .i64 (bx : Nat))) Y 42 (ecells f) ∧ Row (wC.setCell ⟨bb, k, none⟩ (.int .i64 (bx : Nat))) B 3 [.int .i64 e.a, .int .i64 e.b]) := Lib.hid (by
                                have hlt : b x < b k := by rw [HBV.out.1, HBV.out.2]; exact hV.2.2
                                have ks := keepOne wC bb k (.int .i64 (bx : Nat))
                                refine ⟨?_, HZ.out.2.1.fall (by rw [← HBV.out.1]; exact sumB_lt hkm hlt), HXC.out.keep ks HNB.out.1, HYC.out.keep ks HNB.out.2.1, HBC.out.keep ks HNB.out.2.2⟩
                                have h1 := lb_step HZ.out.1 HM.out HE.out.1 HF.out.1 HZE.out.2 hV.1 (by rw [HOV.out.1, HOV.out.2]; exact HCN.out.1 hV.2.1) hlt HKC.out
                                rw [HBV.out.1] at h1
                                exact h1)
                              clear hV
                              go_wp2_with fail
                              go_roundg (2 - (j + 1))
                              case measure => omega
                              case rel => exact ⟨j + 1, true, _, rfl, by go_num, by omega, Nat.le_refl _, HN⟩
                            | false =>
                              have hV := of_decide_eq_false HV.out
                              have HN : Hid (LbRel w5 wC bb m ds b ∧ PS m b0 b more (CF ds b x ∧ CFk ds b x k ∧ CFw ds b x k e f (j + 1)) ∧ Row wC X 42 (ecells e) ∧ Row wC Y 42 (ecells f) ∧ Row wC B 3 [.int .i64 e.a, .int .i64 e.b]) := Lib.hid
                                ⟨HLC.out, HZ.out.2.1.imp (fun h => ⟨h.1, h.2.1, h.2.2.next HZE.out.1 (fun ht hc hlt => hV ⟨ht, HCN.out.2 (by rw [← HOV.out.1, ← HOV.out.2]; exact hc), by rw [← HBV.out.1, ← HBV.out.2]; exact hlt⟩)⟩), HXC.out, HYC.out, HBC.out⟩
                              clear hV
                              go_wp2_with fail
                              go_roundg (2 - (j + 1))
                              case measure => omega
                              case rel => exact ⟨j + 1, more, _, rfl, by go_num, by omega, Nat.le_refl _, HN⟩
                        · obtain rfl : j = 2 := by omega
                          have HN : Hid (LbRel w5 wr bb m ds b ∧ PS m b0 b more (CF ds b x ∧ CFk ds b x (k + 1)) ∧ Row wr X 42 (ecells e)) := Lib.hid
                            ⟨HZ.out.1, HZ.out.2.1.imp (fun h => ⟨h.1, h.2.1.next HE.out.1 HF.out.1 h.2.2⟩), HZ.out.2.2.1⟩
                          clear HZ
                          go_wp2_with fail
                          go_roundg (m - (k + 1))
                          case measure => omega
                          case rel => exact ⟨k + 1, more, b, rfl, by go_num, by omega, Nat.le_refl _, HN⟩
                    · obtain rfl : m = k := by omega
                      have HN : Hid (LbRel w5 wr bb m ds b ∧ PS m b0 b more (CF ds b (x + 1))) := Lib.hid
                        ⟨HY.out.1, HY.out.2.1.imp (fun h => h.1.next (by rw [HM.out]; exact h.2))⟩
                      clear HY
                      go_wp2_with fail
                      go_roundg (m - (x + 1))
                      case measure => omega
                      case rel => exact ⟨x + 1, more, b, rfl, by go_num, by omega, Nat.le_refl _, HN⟩
                · obtain rfl : m = x := by omega
                  obtain ⟨μ, hμ, hμl⟩ : ∃ μ, (if more = true then sumB m b + 1 else 0) = μ ∧ μ < sumB m b0 + 1 := ⟨_, rfl, by
                    rcases HX.out.2 with ⟨h1, h2⟩ | ⟨h1, h2, h3⟩
                    · rw [h1, if_pos rfl]; omega
                    · rw [h1]; simp⟩
                  have HN : Hid (LbRel w5 wr bb m ds b ∧ (more = false → FixDone ds b)) := Lib.hid ⟨HX.out.1, fun hf => by
                    rcases HX.out.2 with ⟨h1, h2⟩ | ⟨h1, h2, h3⟩
                    · rw [hf] at h1; cases h1
                    · rw [← HM.out] at h3; exact h3.done⟩
                  clear HX
                  go_wp2_with fail
                  go_roundg μ
                  case measure => omega
                  case rel => exact ⟨more, b, rfl, by rw [hμ]; exact Nat.le_refl _, HN⟩
            | false =>
              have hFD := HB.out.2 rfl
              obtain ⟨w7, rfl⟩ : ∃ w' : World, w' = wr := ⟨_, rfl⟩
              have HC : Hid (Canon ds.length b) := Lib.hid (HB.out.1.inv.canon HS.out hFD)
              have HBL : Hid (BlkList ds ((parts ds.length b).map (fun p => p.map (idAt ds)))) := Lib.hid (fix_list HS.out HB.out.1.inv hFD)
              have hmm := HMM.out
              have HG0 : Hid (GrpRel w7 ds b 0 none 0 0 [] [] (w7.alloc (.map #[] 0))) := Lib.hid ⟨Mat.nil _ _ _ _, MapAt.made encN DN w7, fun x _ => by simp [mget_nil], (Keep.refl Nb w7).alloc _⟩
              have HKK : Hid (Keep (fun k => k = bb) w1 w7) := Lib.hid ((HK5.out.of_nb).trans HB.out.1.keep)
              have HRB := Lib.hid HB.out.1.row
              have HBW := Lib.hid HB.out.1.row.lt
              have HZ7 : Hid (w1.heap.size ≤ w7.heap.size) := Lib.hid HKK.out.size
              clear HB hgm hFD
              go_wp2_with fail
              clear hmm
              go_loopg [15, 132] m (fun ky s15 s132 wr => ∃ (k mo c : Nat) (o : Option Addr) (rows : List Rw) (mp : List (Nat × Value)), s15 = .slice o mo c ∧ s132 = .int .i64 k ∧ k ≤ m ∧ m - k ≤ ky ∧ Hid (GrpRel w7 ds b k o mo c rows mp wr))
              case atStart => exact ⟨0, 0, 0, none, [], [], rfl, rfl, Nat.zero_le _, by omega, HG0⟩
              case round =>
                clear HG0
                obtain ⟨k, mo, c, o, rows, mp, rfl, rfl, hk, hgk, HQ⟩ := hrel
                by_cases hkm : k < m
                · have hkd : k < ds.length := by rw [HM.out]; exact hkm
                  obtain ⟨e, he⟩ : ∃ e, ds[k]? = some e := ⟨_, List.getElem?_eq_getElem hkd⟩
                  have kE : Keep (fun k => k = bb) w1 wr := HKK.out.trans HQ.out.keep.of_nb
                  obtain ⟨ge, rfl, hFe, hnc, hrow⟩ := (HS1.out.keep kE (fun j hj e => by have := HB5.out.1; omega)).pos (by omega)
                  have d1 := hrow.edges.id _ _ he
                  have d2 := hrow.edges.a _ _ he
                  have d3 := hrow.edges.b _ _ he
                  have HID := Lib.hid (idAt_some he)
                  obtain ⟨X, hX⟩ : ∃ X, wr.heap.size = X := ⟨_, rfl⟩
                  obtain ⟨wI, hwI⟩ : ∃ wI, wr.alloc (.cells #[.int .i64 e.id, .int .i64 e.a, .int .i64 e.b] 42) = wI := ⟨_, rfl⟩
                  have kI : Keep Nb wr wI := by rw [← hwI]; exact (Keep.refl Nb wr).alloc _
                  have hXR : Row wI X 42 (ecells e) := by rw [← hwI, ← hX]; exact Row.new wr #[.int .i64 e.id, .int .i64 e.a, .int .i64 e.b] 42
                  have hXz : w7.heap.size < X := by have := HQ.out.map.lt; omega
                  have q0 := (HRB.out.keep (HQ.out.keep.trans kI) (fun e => e)).cell (fints_get b hkm)
                  obtain ⟨r, hr⟩ : ∃ r, b k = r := ⟨_, rfl⟩
                  rw [hr] at q0
                  have hrk : r ≤ k := by rw [← hr]; exact HC.out.le k hkd
                  have hdn : DN r := by unfold DN; omega
                  have hMapI := HQ.out.map.keep kI (fun e => e)
                  have hget := HQ.out.get k hkd
                  rw [hr] at hget
                  have hlook := hMapI.look (encN_enc Tryz.underlying3) Tryz.underlying134 (zero_int wI) hdn true
                  rw [hget] at hlook
                  have hMat1 := HQ.out.mat.keep kI (fun _ _ e => e)
                  have HMI := Lib.hid (And.intro hMapI hMat1)
                  have HXR := Lib.hid (And.intro hXR hXz)
                  have HXZ := Lib.hid hX
                  have HKI := Lib.hid kI
                  have HRV := Lib.hid hr
                  have HDN := Lib.hid hdn
                  clear he kE hrow kI hXR hr hdn hMapI hget hMat1 hXz
                  go_upto_region 36 with (fail)
                  try rw [hwI]
                  try rw [hX]
                  clear hwI hX d1 d2 d3
                  by_cases hroot : r = k
                  · as_aux_lemma =>
                    obtain rfl : k = r := hroot.symm
                    rw [if_neg (show ¬ k < k by omega)] at hlook
                    simp only [if_true, Option.getD_none, Option.isSome_none, encN] at hlook
                    obtain ⟨w2, hrun2, hm2, hk2⟩ := HMI.out.1.store (encN_enc Tryz.underlying3) Tryz.underlying134 HDN.out (.int .i64 (mo : Nat))
                    have hsz1 := HMI.out.1.lt
                    have hMat2 := HMI.out.2.keep hk2 (fun j hj e => by omega)
                    have hmk := HQ.out.mat.n_eq
                    rw [List.length_map] at hmk
                    have hmk2 := parts_len_le k b
                    have hmo : mo ≤ 120 := by omega
                    have hXn : X ≠ w7.heap.size := by have := HXR.out.2; omega
                    have hXlt := HXR.out.1.lt
                    obtain ⟨go, c1, w3, happ3, hS3, hk3, hg3⟩ := run_app1 (P := Tryz.prog) 29 29 33 Tryz.underlying29 elem_ints rfl hMat2.out (.slice none 0 0) rfl (by omega) (by omega)
                    obtain ⟨go', e3, hFg, hmc, hrow3⟩ := hS3.pos (by omega)
                    obtain rfl : go = go' := by simpa using e3
                    have hcell : w3.cell? ⟨go, mo, none⟩ = some (.slice none 0 0) := hrow3.cell (by
                      have : mo = (rows.map Rw.val).length := by rw [List.length_map, HMI.out.2.len, List.length_map]; exact hmk
                      rw [this]; simp)
                    have hfr := hrow3.frozen mo none
                    have nbX : ¬ Bl o X := fun ⟨a, ha, hb⟩ => by
                      have h1 := HQ.out.mat.out.lt ha
                      have h2 := HKI.out.size
                      have h3 := HXR.out.1.lt
                      have hb : a.block = X := hb
                      have h4 := HXZ.out
                      omega
                    have x3 := ((HXR.out.1.keep hk2 hXn).keep hk3 nbX).cell (i := 0) rfl
                    have hcell' := ((Keep.refl Nb w3).alloc (.cells #[.int .i64 (e.id : Nat)] 3)).drew.cell hcell (fun e => e)
                    obtain ⟨g, c', w4, happ4, hS4, hk4, hg4⟩ := run_app_nil1 (P := Tryz.prog) (w := w3.drew) (fun j => w7.heap.size < j) 33 33 3 Tryz.underlying33 elem_int rfl (.int .i64 (e.id : Nat)) rfl (by omega)
                    have hcell4 := hk4.cell (p := ⟨go, mo, none⟩) hcell (fun e => e)
                    have x4 := hk4.cell (p := ⟨X, 0, none⟩) x3 (fun e => e)
                    have hgX : go ≠ X := fun e => by
                      rcases hg3 with h | h
                      · exact nbX ⟨_, h, e⟩
                      · have h1 := hk2.size; omega
                    have hfr4 := (hk4.frozen (p := ⟨go, mo, none⟩) hrow3.lt (fun e => e)).trans hfr
                    have hnext := grp_root HC.out HQ.out hkd HRV.out HKI.out HID.out (by rw [HRV.out]; exact hm2) hk2 hS3 hk3 hg3 ((Keep.refl Nb w3).drew) hS4 hk4 hg4
                    have HN := Lib.hid hnext
                    have hz2 : w3.drew.heap.size = w3.heap.size := rfl
                    rw [hz2] at happ4
                    have H2 := Lib.hid hrun2
                    have H3 := Lib.hid happ3
                    have H4 := Lib.hid happ4
                    have mixed : (Tryz.prog).follows Departure.mixedOrders = true := by kernel_rfl
                    clear hrun2 happ3 happ4 hS4 hk4 hg4 hS3 hk3 hg3 hm2 hk2 hMat2 hmk hmk2 e3 hrow3 hsz1 hnext hz2 nbX hXn hXlt
                    go_wp2_with (first | (at_mapUpdate; refine wpList_mapset rfl _ _ _ _ rfl rfl rfl rfl H2.out ?_) | (at_builtin; refine wpList_app rfl _ _ _ rfl rfl rfl H3.out ?_))
                    have hb1 : (0 : Int) ≤ (mo : Int) := by omega
                    have hb2 : (mo : Int) < (mo : Int) + 1 := by omega
                    refine beginZ (S := (fun w' => w'.cell? ⟨X, 0, none⟩ = some (.int .i64 e.id) ∧ w'.cell? ⟨go, mo, none⟩ = some (.slice none 0 0))) (z := 11) (by kernel_rfl) ?_ (fun hHeld => ?_)
                    · go_keep
                    refine yesZ (i := 0) [10, 11] (d := some 159) (v := ?_) rfl (by kernel_rfl) (by kernel_rfl) (by kernel_rfl) (by kernel_rfl) (by kernel_rfl) (fun _ _ _ h => h) (by kernel_rfl) ?_ (by assumption) ?_
                    rotate_left
                    · (intro w hSw; clear hSw; go_simp; try (with_reducible rfl))
                    try simp only [Act.put, List.setIfInBounds_toArray, List.set_cons_zero, List.set_cons_succ]
                    refine yesZ (i := 1) [10, 11] (d := some 160) (v := ?_) rfl (by kernel_rfl) (by kernel_rfl) (by kernel_rfl) (by kernel_rfl) (by kernel_rfl) (fun _ _ _ h => h) (by kernel_rfl) ?_ (by assumption) ?_
                    rotate_left
                    · (intro w hSw; clear hSw; go_simp; try (with_reducible rfl))
                    try simp only [Act.put, List.setIfInBounds_toArray, List.set_cons_zero, List.set_cons_succ]
                    refine yesZ (i := 2) [4, 5, 9, 11] (d := some 161) (v := ?_) rfl (by kernel_rfl) (by kernel_rfl) (by kernel_rfl) (by kernel_rfl) (by kernel_rfl) (fun _ _ _ h => h) (by kernel_rfl) ?_ (by assumption) ?_
                    rotate_left
                    · (intro w hSw; clear hSw; go_simp; try (with_reducible rfl))
                    try simp only [Act.put, List.setIfInBounds_toArray, List.set_cons_zero, List.set_cons_succ]
                    refine yesZ (i := 3) [4, 5, 9, 11] (d := some 162) (v := ?_) rfl (by kernel_rfl) (by kernel_rfl) (by kernel_rfl) (by kernel_rfl) (by kernel_rfl) (fun _ _ _ h => h) (by kernel_rfl) ?_ (by assumption) ?_
                    rotate_left
                    · (intro w hSw; clear hSw; go_simp; try (with_reducible rfl))
                    try simp only [Act.put, List.setIfInBounds_toArray, List.set_cons_zero, List.set_cons_succ]
                    refine yesZ (i := 4) [5, 9, 11] (d := some 163) (v := ?_) rfl (by kernel_rfl) (by kernel_rfl) (by kernel_rfl) (by kernel_rfl) (by kernel_rfl) (fun _ _ _ h => h) (by kernel_rfl) ?_ (by assumption) ?_
                    rotate_left
                    · (intro w hSw; clear hSw; go_simp; try (with_reducible rfl))
                    try simp only [Act.put, List.setIfInBounds_toArray, List.set_cons_zero, List.set_cons_succ]
                    refine yesZ (i := 5) [9, 11] (d := some 164) (v := ?_) rfl (by kernel_rfl) (by kernel_rfl) (by kernel_rfl) (by kernel_rfl) (by kernel_rfl) (fun _ _ _ h => h) (by kernel_rfl) ?_ (by assumption) ?_
                    rotate_left
                    · (intro w hSw; (try dsimp only at hSw); go_simp; try (with_reducible rfl))
                    try simp only [Act.put, List.setIfInBounds_toArray, List.set_cons_zero, List.set_cons_succ]
                    refine yesZ (i := 6) [7, 8, 9, 11] (d := some 165) (v := ?_) rfl (by kernel_rfl) (by kernel_rfl) (by kernel_rfl) (by kernel_rfl) (by kernel_rfl) (fun _ _ _ h => h) (by kernel_rfl) ?_ (by assumption) ?_
                    rotate_left
                    · (intro w hSw; clear hSw; go_simp; try (with_reducible rfl))
                    try simp only [Act.put, List.setIfInBounds_toArray, List.set_cons_zero, List.set_cons_succ]
                    refine yesZ (i := 7) [8, 9, 11] (d := some 166) (v := ?_) rfl (by kernel_rfl) (by kernel_rfl) (by kernel_rfl) (by kernel_rfl) (by kernel_rfl) (fun _ _ _ h => h) (by kernel_rfl) ?_ (by assumption) ?_
                    rotate_left
                    · (intro w hSw; (try dsimp only at hSw); go_simp; try (with_reducible rfl))
                    try simp only [Act.put, List.setIfInBounds_toArray, List.set_cons_zero, List.set_cons_succ]
                    refine oneZ (i := 8) (by kernel_rfl) rfl (fun K hK => ?_)
                    go_simp
                    refine hK.out _ _ ?_ (fun hHeld => ?_)
                    · go_keep
                    clear hK K
                    try simp only [Act.put, List.setIfInBounds_toArray, List.set_cons_zero, List.set_cons_succ]
                    refine oneZ (i := 9) (by kernel_rfl) rfl (fun K hK => ?_)
                    refine step_app_run rfl _ _ 33 33 rfl (.slice none 0 0) (.slice (some ⟨w3.heap.size, 0, none⟩) 1 1) (by simp [Act.eval, Act.put]) (by simp [Act.eval, Act.put]) H4.out ?_
                    refine hK.out _ _ ?_ (fun hHeld => ?_)
                    · go_keep
                    clear hK K
                    try simp only [Act.put, List.setIfInBounds_toArray, List.set_cons_zero, List.set_cons_succ]
                    refine yesZ (i := 10) [11] (d := some 169) (v := ?_) rfl (by kernel_rfl) (by kernel_rfl) (by kernel_rfl) (by kernel_rfl) (by kernel_rfl) (fun _ _ _ h => h) (by kernel_rfl) ?_ (by assumption) ?_
                    rotate_left
                    · (intro w hSw; clear hSw; go_simp; try (with_reducible rfl))
                    try simp only [Act.put, List.setIfInBounds_toArray, List.set_cons_zero, List.set_cons_succ]
                    refine lastZ (i := 11) (by kernel_rfl) rfl (by kernel_rfl) rfl (fun K hK => ?_)
                    go_simp
                    refine hK.out _ _ ?_
                    clear hK K
                    all_goals
                      (try go_wp2_with fail)
                      go_roundg (m - (k + 1))
                      case measure => omega
                      case rel => exact ⟨k + 1, mo + 1, c1, _, _, _, rfl, by go_num, by omega, Nat.le_refl _, HN⟩
                  · as_aux_lemma =>
                    have hle : r < k := by omega
                    rw [if_pos hle] at hlook
                    simp only [if_true, Option.getD_some, Option.isSome_some, encN] at hlook
                    obtain ⟨ix, hix⟩ : ∃ ix, cnt r (isRoot b) = ix := ⟨_, rfl⟩
                    obtain ⟨l0, hl0⟩ := parts_get hle (by rw [← HRV.out]; exact HC.out.idem k hkd)
                    have hl : ((parts k b).map (fun p => p.map (idAt ds)))[ix]? = some (l0.map (idAt ds)) := by rw [List.getElem?_map, ← hix, hl0]; rfl
                    rw [hix] at hlook
                    obtain ⟨go, r0, rfl, hrow0, him, hmc, hcell, hfr, hSl, hrn, hnb⟩ := mat_at HMI.out.2 hl
                    have hmk := HQ.out.mat.n_eq
                    rw [List.length_map] at hmk
                    have hmk2 := parts_len_le k b
                    have hmo : mo ≤ 120 := by omega
                    have hll := parts_part_le hl0
                    have hrl : r0.n ≤ 120 := by rw [hrn, List.length_map]; omega
                    have x3 := HXR.out.1.cell (i := 0) rfl
                    have hcell' := ((Keep.refl Nb wI).alloc (.cells #[.int .i64 (e.id : Nat)] 3)).drew.cell hcell (fun e => e)
                    have hSd := hSl.keep ((Keep.refl Nb wI).drew) (fun _ _ e => e)
                    obtain ⟨g, c', w4, happ, hS4, hk4, hg4⟩ := run_app1 (P := Tryz.prog) 33 33 3 Tryz.underlying33 elem_int rfl hSd (.int .i64 (e.id : Nat)) rfl (by omega) (by omega)
                    have hcell4 := hk4.cell (p := ⟨go, ix, none⟩) hcell hnb
                    have hgX : go ≠ X := fun e => by
                      have h1 := HQ.out.mat.out.lt rfl
                      have h2 := HXZ.out
                      have h1 : go < wr.heap.size := h1
                      omega
                    have nbX : ¬ Bl r0.o X := fun ⟨a, ha, hb⟩ => by
                      have h1 := HQ.out.mat.rowLt hrow0 ha
                      have h2 := HXZ.out
                      have hb : a.block = X := hb
                      omega
                    have x4 := hk4.cell (p := ⟨X, 0, none⟩) x3 nbX
                    have hfr4 := (hk4.frozen (p := ⟨go, ix, none⟩) (World.block_lt_of_cell? wI _ hcell) hnb).trans hfr
                    have hnext := grp_other HC.out HQ.out hkd (by rw [HRV.out]; exact hroot) HKI.out.drew (r := r0) (by rw [HRV.out, hix]; exact hrow0) (l := l0.map (idAt ds)) (by rw [HRV.out, hix]; exact hl) HID.out hS4 hk4 hg4
                    rw [HRV.out, hix] at hnext
                    have HN := Lib.hid hnext
                    have hz2 : wI.drew.heap.size = wI.heap.size := rfl
                    rw [hz2] at happ
                    have H4 := Lib.hid happ
                    obtain ⟨ro, hro⟩ : ∃ x, r0.o = x := ⟨_, rfl⟩
                    obtain ⟨rn, hrn2⟩ : ∃ x, r0.n = x := ⟨_, rfl⟩
                    obtain ⟨rc, hrc⟩ : ∃ x, r0.c = x := ⟨_, rfl⟩
                    rw [hrn2] at hrl
                    rw [hro, hrn2, hrc] at hcell hcell' H4 hcell4
                    rw [hrn2] at HN
                    have mixed : (Tryz.prog).follows Departure.mixedOrders = true := by kernel_rfl
                    clear happ hS4 hk4 hg4 hmk hmk2 hnext hz2 hl hl0 hix hrow0 hSl hSd hnb hrn hll hro hrn2 hrc
                    go_wp2_with fail
                    refine beginZ (S := (fun w' => w'.cell? ⟨X, 0, none⟩ = some (.int .i64 e.id) ∧ w'.cell? ⟨go, ix, none⟩ = some (.slice ro rn rc))) (z := 11) (by kernel_rfl) ?_ (fun hHeld => ?_)
                    · go_keep
                    refine yesZ (i := 0) [10, 11] (d := some 159) (v := ?_) rfl (by kernel_rfl) (by kernel_rfl) (by kernel_rfl) (by kernel_rfl) (by kernel_rfl) (fun _ _ _ h => h) (by kernel_rfl) ?_ (by assumption) ?_
                    rotate_left
                    · (intro w hSw; clear hSw; go_simp; try (with_reducible rfl))
                    try simp only [Act.put, List.setIfInBounds_toArray, List.set_cons_zero, List.set_cons_succ]
                    refine yesZ (i := 1) [10, 11] (d := some 160) (v := ?_) rfl (by kernel_rfl) (by kernel_rfl) (by kernel_rfl) (by kernel_rfl) (by kernel_rfl) (fun _ _ _ h => h) (by kernel_rfl) ?_ (by assumption) ?_
                    rotate_left
                    · (intro w hSw; clear hSw; go_simp; try (with_reducible rfl))
                    try simp only [Act.put, List.setIfInBounds_toArray, List.set_cons_zero, List.set_cons_succ]
                    refine yesZ (i := 2) [4, 5, 9, 11] (d := some 161) (v := ?_) rfl (by kernel_rfl) (by kernel_rfl) (by kernel_rfl) (by kernel_rfl) (by kernel_rfl) (fun _ _ _ h => h) (by kernel_rfl) ?_ (by assumption) ?_
                    rotate_left
                    · (intro w hSw; clear hSw; go_simp; try (with_reducible rfl))
                    try simp only [Act.put, List.setIfInBounds_toArray, List.set_cons_zero, List.set_cons_succ]
                    refine yesZ (i := 3) [4, 5, 9, 11] (d := some 162) (v := ?_) rfl (by kernel_rfl) (by kernel_rfl) (by kernel_rfl) (by kernel_rfl) (by kernel_rfl) (fun _ _ _ h => h) (by kernel_rfl) ?_ (by assumption) ?_
                    rotate_left
                    · (intro w hSw; clear hSw; go_simp; try (with_reducible rfl))
                    try simp only [Act.put, List.setIfInBounds_toArray, List.set_cons_zero, List.set_cons_succ]
                    refine yesZ (i := 4) [5, 9, 11] (d := some 163) (v := ?_) rfl (by kernel_rfl) (by kernel_rfl) (by kernel_rfl) (by kernel_rfl) (by kernel_rfl) (fun _ _ _ h => h) (by kernel_rfl) ?_ (by assumption) ?_
                    rotate_left
                    · (intro w hSw; clear hSw; go_simp; try (with_reducible rfl))
                    try simp only [Act.put, List.setIfInBounds_toArray, List.set_cons_zero, List.set_cons_succ]
                    refine yesZ (i := 5) [9, 11] (d := some 164) (v := ?_) rfl (by kernel_rfl) (by kernel_rfl) (by kernel_rfl) (by kernel_rfl) (by kernel_rfl) (fun _ _ _ h => h) (by kernel_rfl) ?_ (by assumption) ?_
                    rotate_left
                    · (intro w hSw; (try dsimp only at hSw); go_simp; try (with_reducible rfl))
                    try simp only [Act.put, List.setIfInBounds_toArray, List.set_cons_zero, List.set_cons_succ]
                    refine yesZ (i := 6) [7, 8, 9, 11] (d := some 165) (v := ?_) rfl (by kernel_rfl) (by kernel_rfl) (by kernel_rfl) (by kernel_rfl) (by kernel_rfl) (fun _ _ _ h => h) (by kernel_rfl) ?_ (by assumption) ?_
                    rotate_left
                    · (intro w hSw; clear hSw; go_simp; try (with_reducible rfl))
                    try simp only [Act.put, List.setIfInBounds_toArray, List.set_cons_zero, List.set_cons_succ]
                    refine yesZ (i := 7) [8, 9, 11] (d := some 166) (v := ?_) rfl (by kernel_rfl) (by kernel_rfl) (by kernel_rfl) (by kernel_rfl) (by kernel_rfl) (fun _ _ _ h => h) (by kernel_rfl) ?_ (by assumption) ?_
                    rotate_left
                    · (intro w hSw; (try dsimp only at hSw); go_simp; try (with_reducible rfl))
                    try simp only [Act.put, List.setIfInBounds_toArray, List.set_cons_zero, List.set_cons_succ]
                    refine oneZ (i := 8) (by kernel_rfl) rfl (fun K hK => ?_)
                    go_simp
                    refine hK.out _ _ ?_ (fun hHeld => ?_)
                    · go_keep
                    clear hK K
                    try simp only [Act.put, List.setIfInBounds_toArray, List.set_cons_zero, List.set_cons_succ]
                    refine oneZ (i := 9) (by kernel_rfl) rfl (fun K hK => ?_)
                    refine step_app_run rfl _ _ 33 33 rfl (.slice ro rn rc) (.slice (some ⟨wI.heap.size, 0, none⟩) 1 1) (by simp [Act.eval, Act.put]) (by simp [Act.eval, Act.put]) H4.out ?_
                    refine hK.out _ _ ?_ (fun hHeld => ?_)
                    · go_keep
                    clear hK K
                    try simp only [Act.put, List.setIfInBounds_toArray, List.set_cons_zero, List.set_cons_succ]
                    refine yesZ (i := 10) [11] (d := some 169) (v := ?_) rfl (by kernel_rfl) (by kernel_rfl) (by kernel_rfl) (by kernel_rfl) (by kernel_rfl) (fun _ _ _ h => h) (by kernel_rfl) ?_ (by assumption) ?_
                    rotate_left
                    · (intro w hSw; clear hSw; go_simp; try (with_reducible rfl))
                    try simp only [Act.put, List.setIfInBounds_toArray, List.set_cons_zero, List.set_cons_succ]
                    refine lastZ (i := 11) (by kernel_rfl) rfl (by kernel_rfl) rfl (fun K hK => ?_)
                    go_simp
                    refine hK.out _ _ ?_
                    clear hK K
                    all_goals
                      (try go_wp2_with fail)
                      go_roundg (m - (k + 1))
                      case measure => omega
                      case rel => exact ⟨k + 1, mo, c, _, _, _, rfl, by go_num, by omega, Nat.le_refl _, HN⟩
                · obtain rfl : m = k := by omega
                  have HPO : Hid (RBlocksPost w ds (.returned (.slice o mo c)) wr) := Lib.hid ⟨_, o, mo, c, rows, rfl, HBL.out, by
                    have h1 := HQ.out.mat
                    rw [← HM.out] at h1
                    exact h1.mono (fun j hj => by have := HK1.out.size; have := HZ7.out; omega),
                    (HK1.out.trans' HKK.out (fun _ _ e => e) (fun j hj e => by have h1 := HK1.out.size; have h2 := HB5.out.1; omega)).trans HQ.out.keep⟩
                  clear HQ
                  go_wp2_with fail
                  go_ret
                  exact HPO.out

end Go.Proofs.YtkpoobnldgfapabGreatDoor
