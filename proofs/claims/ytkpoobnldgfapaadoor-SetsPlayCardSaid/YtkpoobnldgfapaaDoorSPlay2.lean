/- isthmuslaw.SetsPlay at a list that is short enough: the walk. -/
import Derived.Test.YtkpoobnldgfapaaDoorSPlay1
set_option linter.unusedVariables false
set_option linter.unusedSimpArgs false
namespace Go.Proofs.YtkpoobnldgfapaaDoor
open Go.RowKit Pl

set_option maxHeartbeats 4000000 in
set_option maxRecDepth 100000 in
theorem setsPlay_short (n b0 off len cap : Nat) (oa : Option Addr) (hoa : 0 < len → oa = some ⟨b0, off, none⟩) (A0 B0 : Nat → Int) (hn : n ≤ 40) (hlen : len ≤ 80) (hcap : len ≤ cap) (w : World) (hP : Prs w b0 off len A0 B0) (hE : ErrT w) :
    Calls Tryd.prog 3 #[.int .i64 n, .slice oa len cap] w fun e w' => e = .returned (.bool true) ∧ Keep Nb w w' := by
  have HOA := Lib.hid hoa
  have HP := Lib.hid hP
  have HE := Lib.hid hE
  have hlen' : ¬ (80 : Int) < (len : Int) := by omega
  clear hoa hP hE
  go_enter Tryd.func3, Tryd.ntmps3
  go_wp2_with fail
  refine (new_any n hn w).mono ?_
  rintro e w1 ⟨b, rfl, hS, hk1⟩
  have HS1 := Lib.hid hS
  have HK1 := Lib.hid hk1
  have hz1 := hk1.size
  clear hS hk1
  obtain ⟨w2, q1, q2, q3⟩ := run_make1 (P := Tryd.prog) w1 30 3 Tryd.underlying30 elem_int rfl n (by omega) (by omega)
  have hz2 := q3.size
  have hz2' : w1.heap.size < w2.heap.size := q2.lt rfl
  obtain ⟨q, hq⟩ : ∃ q, w1.heap.size = q := ⟨_, rfl⟩
  obtain ⟨B, hB⟩ : ∃ B, w2.heap.size = B := ⟨_, rfl⟩
  have HR0 : Hid (LeastRow w1.heap.size (w2.alloc (.cells #[.slice (some ⟨q, 0, none⟩) n n] 30)) n B q (fun _ => 0) ∧ Keep Nb w1 (w2.alloc (.cells #[.slice (some ⟨q, 0, none⟩) n n] 30))) := Lib.hid (by
    refine ⟨⟨?_, ?_, by omega, by omega, by omega⟩, q3.alloc _⟩
    · rw [← hB, World.cell?_alloc_at _ _ _ _ rfl]; rfl
    · have h := q2.own
      have h2 : Row w2 q 3 (fints n (fun _ => 0)) := by
        have e : List.replicate n (Value.int IntKind.i64 0) = fints n (fun _ => 0) := by
          unfold fints ints
          rw [List.map_map]
          exact (List.map_const' ..).symm ▸ by simp
        rcases q2.cases with ⟨h0, _⟩ | ⟨g, h1, _, _, _, h5, _⟩
        · cases h0
        · have : g = q := by
            have := Option.some.inj h1
            rw [← hq]; injection this with h6; exact h6.symm
          rw [← e, ← this]; exact h5
      exact h2.alloc _)
  have HQ := Lib.hid hq
  have HB := Lib.hid hB
  rw [hq] at q1
  clear q2 q3 hq
  go_wp2_with fail
  obtain ⟨wI, hwI⟩ : ∃ wI, w2.alloc (.cells #[.slice (some ⟨q, 0, none⟩) n n] 30) = wI := ⟨_, rfl⟩
  rw [hwI] at HR0 ⊢
  have H0 : Hid (LeastRow w1.heap.size wI n B q (fun z => if z < 0 then z else 0) ∧ Keep Nb w1 wI) := Lib.hid ⟨HR0.out.1.congr (fun x _ => by simp), HR0.out.2⟩
  clear q1 HR0 hwI hB hz2 hz2'
  go_loopg [8] n (fun kx s wr => ∃ k : Nat, s = .int .i64 k ∧ k ≤ n ∧ n - k ≤ kx ∧ Hid (LeastRow w1.heap.size wr n B q (fun z => if z < k then z else 0) ∧ Keep Nb w1 wr))
  case atStart => exact ⟨0, rfl, Nat.zero_le _, by omega, H0⟩
  case round =>
    clear H0
    obtain ⟨k, rfl, hk, hg, HR⟩ := hrel
    by_cases hlt : k < n
    · as_aux_lemma =>
      have d0 := HR.out.1.box
      have d1 := HR.out.1.row.cell (fints_get (fun z => if z < k then z else 0) hlt)
      have f1 := HR.out.1.row.frozen k none
      have HN : Hid (LeastRow w1.heap.size (wr.setCell ⟨q, k, none⟩ (.int .i64 k)) n B q (fun z => if z < k + 1 then z else 0) ∧ Keep Nb w1 (wr.setCell ⟨q, k, none⟩ (.int .i64 k))) := Lib.hid
        ⟨HR.out.1.set hlt (fun x _ => by
          by_cases e : x = k
          · subst e; simp
          · by_cases e2 : x < k
            · simp [e, e2]; omega
            · have e3 : ¬ x < k + 1 := by omega
              simp [e, e2, e3]), HR.out.2.setCell (.inr HR.out.1.q) _⟩
      clear HR
      go_wp2_with fail
      go_roundg (n - (k + 1))
      case measure => omega
      case rel => exact ⟨k + 1, rfl, by omega, Nat.le_refl _, HN⟩
    · obtain rfl : k = n := by omega
      have HR0 : Hid (SpRel w w1 k b B q (fun z => z) wr) := Lib.hid ⟨HS1.out.lkeep HR.out.2 (fun _ _ e => e), HR.out.1.congr (fun x hx => by simp [hx]), HK1.out.trans HR.out.2⟩
      clear HR HS1 HQ HB hg
      obtain ⟨n, rfl⟩ : ∃ n', n' = k := ⟨_, rfl⟩
      go_wp2_with fail
      go_loopg [9] len (fun kx s wr => ∃ (i : Nat) (L : Nat → Nat), s = .int .i64 i ∧ i ≤ len ∧ len - i ≤ kx ∧ Hid (SpRel w w1 n b B q L wr))
      case atStart => exact ⟨0, _, rfl, Nat.zero_le _, by omega, HR0⟩
      case round =>
        clear HR0
        obtain ⟨i, L, rfl, hi, hg, HR⟩ := hrel
        obtain ⟨wr0, rfl⟩ : ∃ w' : World, w' = wr := ⟨_, rfl⟩
        by_cases hlt : i < len
        · as_aux_lemma =>
          obtain rfl := HOA.out (by omega)
          have hP' := HP.out.keep HR.out.2.2 (fun e => e)
          have a0 := hP'.a i hlt
          have b1 := hP'.b i hlt
          obtain ⟨x, hx⟩ : ∃ x, A0 i = x := ⟨_, rfl⟩
          obtain ⟨y, hy⟩ : ∃ y, B0 i = y := ⟨_, rfl⟩
          rw [hx] at a0
          rw [hy] at b1
          clear hP' hx hy
          go_upto_region 16 with (fail)
          go_cut [10, 11] (fun s10 s11 wc => s10 = .int .i64 x ∧ s11 = .int .i64 y ∧ ∃ m, wc = wr0.drewN m)
          case first =>
            go_quiet (fail)
            go_wp2_with fail
            go_meet
            exact ⟨rfl, rfl, _, rfl⟩
          case rest =>
            obtain ⟨rfl, rfl, m0, rfl⟩ := hcut
            have HRd : Hid (SpIn w w1 n b B q L L (wr0.drewN m0)) := Lib.hid (SpIn.drewN HR.out m0)
            obtain ⟨wd, hwd⟩ : ∃ wd, wr0.drewN m0 = wd := ⟨_, rfl⟩
            rw [hwd] at HRd ⊢
            clear HR hwd a0 b1
            go_upto_region 17 with (fail)
            obtain ⟨ob, hob⟩ : ∃ ob, (outB n x || outB n y) = ob := ⟨_, rfl⟩
            have HOB := Lib.hid hob
            go_cut [103] (fun v wc => v = .bool ob ∧ wc = wd)
            case first => as_aux_lemma =>
              clear HP HE HOA HRd HOB
              by_cases h1 : x < 0
              · have ht : ob = true := by rw [← hob]; simp [outB, h1]
                subst ht
                clear hob
                go_wp2_with fail
                go_meet
                exact ⟨rfl, rfl⟩
              · by_cases h2 : (n : Int) ≤ x
                · have ht : ob = true := by rw [← hob]; simp [outB, h2]
                  subst ht
                  clear hob
                  go_wp2_with fail
                  go_meet
                  exact ⟨rfl, rfl⟩
                · by_cases h3 : y < 0
                  · have ht : ob = true := by rw [← hob]; simp [outB, h3]
                    subst ht
                    clear hob
                    go_wp2_with fail
                    go_meet
                    exact ⟨rfl, rfl⟩
                  · by_cases h4 : (n : Int) ≤ y
                    · have ht : ob = true := by rw [← hob]; simp [outB, h4]
                      subst ht
                      clear hob
                      go_wp2_with fail
                      go_meet
                      exact ⟨rfl, rfl⟩
                    · have ht : ob = false := by rw [← hob]; simp [outB, h1, h2, h3, h4]
                      subst ht
                      clear hob
                      go_wp2_with fail
                      go_meet
                      exact ⟨rfl, rfl⟩
            case rest => as_aux_lemma =>
              obtain ⟨rfl, rfl⟩ := hcut
              obtain ⟨wd, rfl⟩ : ∃ w' : World, w' = wc := ⟨_, rfl⟩
              clear hob
              cases ob with
              | true => as_aux_lemma =>
                have hor : outB n x = true ∨ outB n y = true := by have := HOB.out; simpa using this
                have HOR := Lib.hid hor
                clear hor
                go_wp2_with fail
                refine (join_err _ _ b n L x y HOR.out HRd.out.1).mono ?_
                rintro e wA ⟨rfl, hkA⟩
                have HKA := Lib.hid hkA
                clear hkA
                go_wp2_with fail
                refine (same_err _ _ b n L x y HOR.out (HRd.out.1.lkeep HKA.out (fun _ _ e => e))).mono ?_
                rintro e wB ⟨rfl, hkB⟩
                have HKB := Lib.hid (HKA.out.trans hkB)
                clear hkB
                go_wp2_with fail
                refine (lbare_any rangeV 2 2 rangeV_err _ (HE.out.keep (HRd.out.2.2.trans HKB.out) (fun e => e))).mono ?_
                rintro e wC ⟨rfl, hkC⟩
                have HKC := Lib.hid (HKB.out.trans hkC)
                clear hkC
                go_wp2_with fail
                refine (lbare_any rangeV 2 2 rangeV_err _ (HE.out.keep (HRd.out.2.2.trans HKC.out) (fun e => e))).mono ?_
                rintro e wD ⟨rfl, hkD⟩
                have HKD := Lib.hid (HKC.out.trans hkD)
                clear hkD
                have HN : Hid (SpRel w w1 n b B q L wD) := Lib.hid (SpIn.same HRd.out HKD.out)
                go_wp2_with fail
                go_roundg (len - (i + 1))
                case measure => omega
                case rel => exact ⟨i + 1, L, by go_num, by omega, Nat.le_refl _, HN⟩
              | false => as_aux_lemma =>
                have hor : outB n x = false ∧ outB n y = false := by have := HOB.out; simpa using this
                obtain ⟨hx0, hxn⟩ := outB_false.1 hor.1
                obtain ⟨hy0, hyn⟩ := outB_false.1 hor.2
                clear hor HOB
                obtain ⟨x', rfl⟩ := Int.eq_ofNat_of_zero_le hx0
                obtain ⟨y', rfl⟩ := Int.eq_ofNat_of_zero_le hy0
                have hxn' : x' < n := by omega
                have hyn' : y' < n := by omega
                clear hx0 hxn hy0 hyn
                go_wp2_with fail
                refine (join_any _ _ b n L x' y' hxn' hyn' HRd.out.1).mono ?_
                rintro e wA ⟨he, hSA, hkA⟩
                obtain ⟨ok, hok⟩ : ∃ ok, decide (L x' ≠ L y') = ok := ⟨_, rfl⟩
                rw [hok] at he
                subst he
                have HRA := Lib.hid (SpIn.sets HRd.out hkA hSA)
                clear hSA hkA HRd
                obtain ⟨lx, hlx⟩ : ∃ lx, L x' = lx := ⟨_, rfl⟩
                obtain ⟨ly, hly⟩ : ∃ ly, L y' = ly := ⟨_, rfl⟩
                have d0 := HRA.out.2.1.box
                have d1 := HRA.out.2.1.row.cell (fints_get L hxn')
                have d2 := HRA.out.2.1.row.cell (fints_get L hyn')
                rw [hlx] at d1
                rw [hly] at d2
                have hne : ((lx : Int) != (ly : Int)) = ok := by rw [← hok, hlx, hly, Bool.eq_iff_iff, bne_iff_ne, decide_eq_true_eq]; omega
                have HLX := Lib.hid hlx
                have HLY := Lib.hid hly
                clear hok hlx hly
                go_upto_region 23 with (fail)
                go_cut [147] (fun v wc => v = .bool false ∧ ∃ m, wc = wA.drewN m)
                case first => as_aux_lemma =>
                  go_quiet (fail)
                  go_wp2_with fail
                  go_meet
                  exact ⟨rfl, _, rfl⟩
                case rest => as_aux_lemma =>
                  obtain ⟨rfl, m1, rfl⟩ := hcut
                  have HRB := Lib.hid (SpIn.drewN HRA.out m1)
                  obtain ⟨wB, hwB⟩ : ∃ wB, wA.drewN m1 = wB := ⟨_, rfl⟩
                  rw [hwB] at HRB ⊢
                  clear hne HRA d0 d1 d2 hwB
                  have d0 := HRB.out.2.1.box
                  have d1 := HRB.out.2.1.row.cell (fints_get L hxn')
                  have d2 := HRB.out.2.1.row.cell (fints_get L hyn')
                  rw [HLX.out] at d1
                  rw [HLY.out] at d2
                  obtain ⟨mn, hmn⟩ : ∃ mn, min lx ly = mn := ⟨_, rfl⟩
                  obtain ⟨mx, hmx⟩ : ∃ mx, max lx ly = mx := ⟨_, rfl⟩
                  go_upto_region 25 with (fail)
                  go_cut [18, 19] (fun s t wc => s = .int .i64 mn ∧ t = .int .i64 mx ∧ ∃ m, wc = wB.drewN m)
                  case first =>
                    clear HP HE HOA HRB HLX HLY
                    have hmn' : (min (lx : Int) (ly : Int)) = (mn : Int) := by omega
                    have hmx' : (max (lx : Int) (ly : Int)) = (mx : Int) := by omega
                    clear hmn hmx
                    go_quiet (fail)
                    all_goals (try go_wp2_with fail)
                    all_goals
                      go_meet
                      exact ⟨by first | rfl | (congr 1; omega), by first | rfl | (congr 1; omega), _, rfl⟩
                  case rest => as_aux_lemma =>
                    obtain ⟨rfl, rfl, m2, rfl⟩ := hcut
                    have HRC0 := Lib.hid (SpIn.drewN HRB.out m2)
                    obtain ⟨wC, hwC⟩ : ∃ wC, wB.drewN m2 = wC := ⟨_, rfl⟩
                    rw [hwC] at HRC0 ⊢
                    clear HRB d0 d1 d2 hwC
                    obtain ⟨LJ, hLJ⟩ : ∃ LJ, joinL L x' y' = LJ := ⟨_, rfl⟩
                    have HLJ : Hid (∀ z, LJ z = if L z = mx then mn else L z) := Lib.hid (by
                      intro z
                      rw [← hLJ, ← hmn, ← hmx, ← HLX.out, ← HLY.out]; rfl)
                    rw [hLJ] at HRC0
                    have HRC : Hid (SpIn w w1 n b B q LJ (fun z => if z < 0 then LJ z else L z) wC) := Lib.hid (SpIn.congr HRC0.out (fun z _ => by simp))
                    clear HRC0 hLJ hmn hmx HLX HLY
                    go_wp2_with fail
                    go_loopg [20] n (fun kx s wr => ∃ k : Nat, s = .int .i64 k ∧ k ≤ n ∧ n - k ≤ kx ∧ Hid (SpIn w w1 n b B q LJ (fun z => if z < k then LJ z else L z) wr))
                    case atStart => exact ⟨0, rfl, Nat.zero_le _, by omega, HRC⟩
                    case round =>
                      clear HRC
                      obtain ⟨k, rfl, hk, hgk, HRK⟩ := hrel
                      by_cases hltk : k < n
                      · as_aux_lemma =>
                        have d0 := HRK.out.2.1.box
                        have d1 := HRK.out.2.1.row.cell (fints_get (fun z => if z < k then LJ z else L z) hltk)
                        simp only [Nat.lt_irrefl, if_false] at d1
                        have f1 := HRK.out.2.1.row.frozen k none
                        obtain ⟨lk, hlk⟩ : ∃ lk, L k = lk := ⟨_, rfl⟩
                        rw [hlk] at d1
                        by_cases he : lk = mx
                        · have HN : Hid (SpIn w w1 n b B q LJ (fun z => if z < k + 1 then LJ z else L z) (wr.setCell ⟨q, k, none⟩ (.int .i64 mn))) := Lib.hid (SpIn.row hz1 HRK.out hltk (fun x hx => by
                            by_cases e : x = k
                            · subst e
                              simp only [Nat.lt_succ_self, if_true]
                              rw [HLJ.out, hlk, if_pos he]
                            · simp only [if_neg e]
                              by_cases e2 : x < k
                              · rw [if_pos e2, if_pos (by omega)]
                              · rw [if_neg e2, if_neg (by omega)]))
                          subst he
                          clear HP HE HOA HRK HLJ hlk
                          go_wp2_with fail
                          go_roundg (n - (k + 1))
                          case measure => omega
                          case rel => exact ⟨k + 1, rfl, by omega, Nat.le_refl _, HN⟩
                        · have hne : ((lk : Int) == (mx : Int)) = false := by rw [beq_eq_false_iff_ne]; omega
                          have HN : Hid (SpIn w w1 n b B q LJ (fun z => if z < k + 1 then LJ z else L z) wr) := Lib.hid (SpIn.congr HRK.out (fun x hx => by
                            by_cases e : x = k
                            · subst e
                              simp only [Nat.lt_succ_self, if_true, Nat.lt_irrefl, if_false]
                              rw [HLJ.out, hlk, if_neg he]
                            · by_cases e2 : x < k
                              · rw [if_pos e2, if_pos (by omega)]
                              · rw [if_neg e2, if_neg (by omega)]))
                          clear HP HE HOA HRK HLJ hlk he
                          go_wp2_with fail
                          go_roundg (n - (k + 1))
                          case measure => omega
                          case rel => exact ⟨k + 1, rfl, by omega, Nat.le_refl _, HN⟩
                      · as_aux_lemma =>
                        obtain rfl : k = n := by omega
                        have HRM : Hid (SpIn w w1 k b B q LJ LJ wr) := Lib.hid (SpIn.congr HRK.out (fun x hx => by simp [hx]))
                        clear HRK hgk HLJ
                        obtain ⟨n, rfl⟩ : ∃ n', n' = k := ⟨_, rfl⟩
                        obtain ⟨wD, rfl⟩ : ∃ w' : World, w' = wr := ⟨_, rfl⟩
                        have hP' := HP.out.keep HRM.out.2.2 (fun e => e)
                        have a0 : wD.cell? ⟨b0, off, none⟩ = some (.int .i64 (A0 0)) := by have := hP'.a 0 (by omega); simpa using this
                        obtain ⟨z0, hz0⟩ : ∃ z0, A0 0 = z0 := ⟨_, rfl⟩
                        rw [hz0] at a0
                        have hl0 : 0 < len := by omega
                        clear hP' hz0
                        obtain ⟨oz, hoz⟩ : ∃ oz, outB n z0 = oz := ⟨_, rfl⟩
                        have HOZ := Lib.hid hoz
                        go_upto_region 32 with (fail)
                        go_cut [191] (fun v wc => v = .bool oz ∧ wc = wD)
                        case first => as_aux_lemma =>
                          clear HP HE HOA HRM HOZ
                          by_cases h1 : z0 < 0
                          · have ht : oz = true := by rw [← hoz]; simp [outB, h1]
                            subst ht
                            clear hoz
                            go_wp2_with fail
                            go_meet
                            exact ⟨rfl, rfl⟩
                          · by_cases h2 : (n : Int) ≤ z0
                            · have ht : oz = true := by rw [← hoz]; simp [outB, h2]
                              subst ht
                              clear hoz
                              go_wp2_with fail
                              go_meet
                              exact ⟨rfl, rfl⟩
                            · have ht : oz = false := by rw [← hoz]; simp [outB, h1, h2]
                              subst ht
                              clear hoz
                              go_wp2_with fail
                              go_meet
                              exact ⟨rfl, rfl⟩
                        case rest => as_aux_lemma =>
                          obtain ⟨rfl, rfl⟩ := hcut
                          obtain ⟨wD, rfl⟩ : ∃ w' : World, w' = wc := ⟨_, rfl⟩
                          clear hoz a0
                          go_upto_if 191 with (fail)
                          go_cut [21] (fun s wc => (∃ z : Nat, z < n ∧ s = .int .i64 z) ∧ wc = wD)
                          case first => as_aux_lemma =>
                            clear HP HE HOA HRM
                            cases oz with
                            | true =>
                              clear HOZ
                              go_wp2_with fail
                              go_meet
                              exact ⟨⟨x', hxn', rfl⟩, rfl⟩
                            | false =>
                              obtain ⟨q1, q2⟩ := outB_false.1 HOZ.out
                              obtain ⟨z, rfl⟩ := Int.eq_ofNat_of_zero_le q1
                              clear HOZ q1
                              have q3 : z < n := by omega
                              clear q2
                              go_wp2_with fail
                              go_meet
                              exact ⟨⟨z, q3, rfl⟩, rfl⟩
                          case rest => as_aux_lemma =>
                            obtain ⟨⟨z, hz, rfl⟩, rfl⟩ := hcut
                            obtain ⟨wD, rfl⟩ : ∃ w' : World, w' = wc := ⟨_, rfl⟩
                            clear HOZ
                            have HZ0 : Hid (SpIn w w1 n b B q LJ LJ wD) := HRM
                            go_wp2_with fail
                            go_loopg [22, 23, 24] n (fun kx s22 s23 s24 wr => ∃ k : Nat, s22 = .int .i64 (cnt k (fun t => decide (LJ t = LJ z)) : Nat) ∧ s23 = .int .i64 (cnt k (isRoot LJ) : Nat) ∧ s24 = .int .i64 k ∧ k ≤ n ∧ n - k ≤ kx ∧ Hid (SpIn w w1 n b B q LJ LJ wr))
                            case atStart => exact ⟨0, rfl, rfl, rfl, Nat.zero_le _, by omega, HRM⟩
                            case round =>
                              clear HRM HZ0
                              obtain ⟨k, rfl, rfl, rfl, hk, hgk, HRK⟩ := hrel
                              have hc1 := cnt_le k (fun t => decide (LJ t = LJ z))
                              have hc2 := cnt_le k (isRoot LJ)
                              by_cases hltk : k < n
                              · as_aux_lemma =>
                                have s1 := cnt_succ k (fun t => decide (LJ t = LJ z))
                                have s2 := cnt_succ k (isRoot LJ)
                                simp only [isRoot, decide_eq_true_eq] at s1 s2
                                obtain ⟨c1, e1⟩ : ∃ c1, cnt k (fun t => decide (LJ t = LJ z)) = c1 := ⟨_, rfl⟩
                                obtain ⟨c2, e2⟩ : ∃ c2, cnt k (isRoot LJ) = c2 := ⟨_, rfl⟩
                                obtain ⟨d1', e3⟩ : ∃ c1, cnt (k + 1) (fun t => decide (LJ t = LJ z)) = c1 := ⟨_, rfl⟩
                                obtain ⟨d2', e4⟩ : ∃ c2, cnt (k + 1) (isRoot LJ) = c2 := ⟨_, rfl⟩
                                have s2' : d2' = c2 + if LJ k = k then 1 else 0 := by rw [← e2, ← e4]; have := cnt_succ k (isRoot LJ); simp only [isRoot, decide_eq_true_eq] at this ⊢; exact this
                                rw [e1, e3] at s1
                                rw [e1] at hc1 ⊢
                                rw [e2] at hc2 ⊢
                                have HN : Hid (∀ wx, SpIn w w1 n b B q LJ LJ wx → ∃ k' : Nat, Value.int .i64 (d1' : Nat) = .int .i64 (cnt k' (fun t => decide (LJ t = LJ z)) : Nat) ∧ Value.int .i64 (d2' : Nat) = .int .i64 (cnt k' (isRoot LJ) : Nat) ∧ Value.int .i64 ((k : Int) + 1) = .int .i64 k' ∧ k' ≤ n ∧ n - k' ≤ n - (k + 1) ∧ Hid (SpIn w w1 n b B q LJ LJ wx)) := Lib.hid (fun wx h => ⟨k + 1, by rw [e3], by rw [e4], rfl, by omega, Nat.le_refl _, Lib.hid h⟩)
                                clear s2 e1 e2 e3 e4
                                have d0 := HRK.out.2.1.box
                                have d1 := HRK.out.2.1.row.cell (fints_get LJ hltk)
                                have d2 := HRK.out.2.1.row.cell (fints_get LJ hz)
                                obtain ⟨lk, hlk⟩ : ∃ lk, LJ k = lk := ⟨_, rfl⟩
                                obtain ⟨lz, hlz⟩ : ∃ lz, LJ z = lz := ⟨_, rfl⟩
                                rw [hlk] at d1 s1 s2'
                                rw [hlz] at d2 s1
                                obtain ⟨wo, rfl⟩ : ∃ w' : World, w' = wr := ⟨_, rfl⟩
                                obtain ⟨ek, hek⟩ : ∃ ek, ((lk : Int) == (lz : Int)) = ek := ⟨_, rfl⟩
                                have HEK := Lib.hid hek
                                have HLK := Lib.hid hlk
                                clear hlk hlz
                                go_upto_region 38 with (fail)
                                go_cut [206] (fun v wc => v = .bool ek ∧ ∃ m, wc = wo.drewN m)
                                case first => as_aux_lemma =>
                                  clear HP HE HOA HRK HN HEK s1 s2' hc1 hc2
                                  go_quiet (fail)
                                  go_wp2_with fail
                                  go_meet
                                  exact ⟨rfl, _, rfl⟩
                                case rest => as_aux_lemma =>
                                  obtain ⟨rfl, m3, rfl⟩ := hcut
                                  have HRL := Lib.hid (SpIn.drewN HRK.out m3)
                                  obtain ⟨wE, hwE⟩ : ∃ wE, wo.drewN m3 = wE := ⟨_, rfl⟩
                                  rw [hwE] at HRL ⊢
                                  clear hek HRK d0 d1 d2 hwE
                                  have d0 := HRL.out.2.1.box
                                  have d1 := HRL.out.2.1.row.cell (fints_get LJ hltk)
                                  have HX := Lib.hid (HN.out wE HRL.out)
                                  rw [HLK.out] at d1
                                  clear HN HRL HP HE HOA HLK
                                  cases ek with
                                  | true =>
                                    have e5 : lk = lz := by have := HEK.out; rw [beq_iff_eq] at this; omega
                                    rw [if_pos e5] at s1
                                    subst s1
                                    by_cases hr : lk = k
                                    · rw [if_pos hr] at s2'
                                      have hr' := hr.symm
                                      subst s2' hr'
                                      clear e5 HEK
                                      go_wp2_with fail
                                      go_roundg (n - (k + 1))
                                      case measure => omega
                                      case rel => exact HX.out
                                    · rw [if_neg hr] at s2'
                                      have hne : ((lk : Int) == (k : Int)) = false := by rw [beq_eq_false_iff_ne]; omega
                                      subst s2'
                                      clear e5 HEK hr
                                      go_wp2_with fail
                                      go_roundg (n - (k + 1))
                                      case measure => omega
                                      case rel => exact HX.out
                                  | false =>
                                    have e5 : ¬ lk = lz := by have := HEK.out; rw [beq_eq_false_iff_ne] at this; omega
                                    rw [if_neg e5] at s1
                                    subst s1
                                    by_cases hr : lk = k
                                    · rw [if_pos hr] at s2'
                                      have hr' := hr.symm
                                      subst s2' hr'
                                      clear e5 HEK
                                      go_wp2_with fail
                                      go_roundg (n - (k + 1))
                                      case measure => omega
                                      case rel => exact HX.out
                                    · rw [if_neg hr] at s2'
                                      have hne : ((lk : Int) == (k : Int)) = false := by rw [beq_eq_false_iff_ne]; omega
                                      subst s2'
                                      clear e5 HEK hr
                                      go_wp2_with fail
                                      go_roundg (n - (k + 1))
                                      case measure => omega
                                      case rel => exact HX.out
                              · as_aux_lemma =>
                                obtain rfl : k = n := by omega
                                clear hgk
                                obtain ⟨n, rfl⟩ : ∃ n', n' = k := ⟨_, rfl⟩
                                obtain ⟨c1, e1⟩ : ∃ c1, cnt n (fun t => decide (LJ t = LJ z)) = c1 := ⟨_, rfl⟩
                                obtain ⟨c2, e2⟩ : ∃ c2, cnt n (isRoot LJ) = c2 := ⟨_, rfl⟩
                                rw [e1] at hc1 ⊢
                                rw [e2] at hc2 ⊢
                                have E1 := Lib.hid e1
                                have E2 := Lib.hid e2
                                clear e1 e2
                                obtain ⟨sm, hsm⟩ : ∃ sm, decide (LJ z = LJ y') = sm := ⟨_, rfl⟩
                                have HSM := Lib.hid hsm
                                clear hsm
                                go_wp2_with fail
                                refine (same_any _ _ b n LJ z y' hz hyn' HRK.out.1).mono ?_
                                rintro e wE ⟨rfl, hSE, hkE⟩
                                have HRE := Lib.hid (SpIn.sets HRK.out hkE hSE)
                                clear hSE hkE HRK
                                rw [HSM.out]
                                go_wp2_with fail
                                refine (least_any _ _ b n LJ z hz HRE.out.1).mono ?_
                                rintro e wF ⟨rfl, hSF, hkF⟩
                                have HRF := Lib.hid (SpIn.sets HRE.out hkF hSF)
                                clear hSF hkF HRE
                                obtain ⟨lz, hlz⟩ : ∃ lz, LJ z = lz := ⟨_, rfl⟩
                                rw [hlz]
                                have HLZ := Lib.hid hlz
                                clear hlz
                                go_wp2_with fail
                                refine (size_any _ _ b n LJ z hz HRF.out.1).mono ?_
                                rintro e wG ⟨rfl, hSG, hkG⟩
                                have HRG := Lib.hid (SpIn.sets HRF.out hkG hSG)
                                clear hSG hkG HRF
                                rw [E1.out]
                                have HQM : Hid (∀ m, Calls Tryd.prog 12 #[.pointer (some ⟨b, 0, none⟩)] (wG.drewN m) fun e w' => e = .returned (.int .i64 c2) ∧ ∃ j, w' = (wG.drewN m).drewN j) := Lib.hid (fun m =>
                                  (many_any _ _ b n LJ (SpIn.drewN HRG.out m).1).mono (fun e w' h => by
                                    obtain ⟨h1, h2⟩ := h
                                    exact ⟨by rw [h1, E2.out], 0, h2.symm⟩))
                                have d0 := HRG.out.2.1.box
                                have d1 := HRG.out.2.1.row.cell (fints_get LJ hz)
                                have d2 := HRG.out.2.1.row.cell (fints_get LJ hyn')
                                rw [HLZ.out] at d1
                                obtain ⟨ly2, hly2⟩ : ∃ lz, LJ y' = lz := ⟨_, rfl⟩
                                rw [hly2] at d2
                                have hsm2 : ((lz : Int) == (ly2 : Int)) = sm := by rw [← HSM.out, ← HLZ.out, ← hly2, Bool.eq_iff_iff, beq_iff_eq, decide_eq_true_eq]; omega
                                have hb1 : (sm != sm) = false := by simp
                                clear hly2
                                obtain ⟨wG0, hwG0⟩ : ∃ w', w' = wG := ⟨_, rfl⟩
                                go_upto_region 45 with (fail)
                                go_cut [277] (fun v wc => v = .bool false ∧ ∃ m, wc = wG.drewN m)
                                case first => as_aux_lemma =>
                                  clear HP HE HOA HRG E1 E2 HSM HLZ hwG0
                                  go_quiet ((go_at_call 12; exact Calls.quiet_of (HQM.out _)))
                                  go_wp2_with fail
                                  go_meet
                                  exact ⟨rfl, _, rfl⟩
                                case rest => as_aux_lemma =>
                                  obtain ⟨rfl, m4, rfl⟩ := hcut
                                  have HN : Hid (SpRel w w1 n b B q LJ (wG.drewN m4)) := Lib.hid (SpIn.drewN HRG.out m4)
                                  clear hsm2 hb1 d0 d1 d2 HQM HRG hwG0
                                  go_wp2_with fail
                                  go_roundg (len - (i + 1))
                                  case measure => omega
                                  case rel => exact ⟨i + 1, LJ, by go_num, by omega, Nat.le_refl _, HN⟩
        · obtain rfl : i = len := by omega
          obtain ⟨len, rfl⟩ : ∃ n', n' = i := ⟨_, rfl⟩
          have hon : outB n (n : Int) = true := by simp [outB]
          have ho1 : outB n (-1) = true := by simp [outB]
          have HON := Lib.hid hon
          have HO1 := Lib.hid ho1
          clear hon ho1 hg
          go_wp2_with fail
          refine (least_err _ _ b n L n HON.out HR.out.1).mono ?_
          rintro e wA ⟨rfl, hkA⟩
          have HKA := Lib.hid hkA
          clear hkA
          go_wp2_with fail
          refine (size_err _ _ b n L (-1) HO1.out (HR.out.1.lkeep HKA.out (fun _ _ e => e))).mono ?_
          rintro e wB ⟨rfl, hkB⟩
          have HKB := Lib.hid (HKA.out.trans hkB)
          clear hkB
          go_wp2_with fail
          refine (lbare_any rangeV 2 2 rangeV_err _ (HE.out.keep (HR.out.2.2.trans HKB.out) (fun e => e))).mono ?_
          rintro e wC ⟨rfl, hkC⟩
          have HKC := Lib.hid (HKB.out.trans hkC)
          clear hkC
          go_wp2_with fail
          refine (lbare_any rangeV 2 2 rangeV_err _ (HE.out.keep (HR.out.2.2.trans HKC.out) (fun e => e))).mono ?_
          rintro e wD ⟨rfl, hkD⟩
          have HRD := Lib.hid (SpIn.same HR.out (HKC.out.trans hkD))
          clear hkD HKC HKB HKA HR
          go_wp2_with fail
          refine (all_any _ _ b n L HRD.out.1).mono ?_
          rintro e wE ⟨o1, m1, c1, rows1, rfl, hM1, hS1, hkE⟩
          have HRE := Lib.hid (SpIn.sets HRD.out hkE hS1)
          have HM1 := Lib.hid hM1
          have HCan := Lib.hid (Sets.canon hS1)
          clear hS1 hkE HRD hM1
          go_wp2_with fail
          trace_state
          refine (parts_any wE n L (.pointer (some ⟨B, 0, none⟩)) hn HCan.out (fun W hW x y hx hy => alike_fn w1.heap.size wE n B q L HRE.out.2.1 W hW x y hx hy hn)).mono ?_
          rintro e wF ⟨o2, m2, c2, rows2, rfl, hM2, hkF⟩
          have HM1' := Lib.hid (HM1.out.keep hkF (fun _ _ e => e))
          have HM2 := Lib.hid hM2
          have HRF := Lib.hid (SpIn.same HRE.out hkF)
          clear hM2 hkF HRE HM1
          go_wp2_with fail
          refine (lsames_q _ _ _ o1 o2 m1 m2 c1 c2 rows1 rows2 (parts n L) HM1'.out HM2.out (by have := parts_len_le n L; omega) (fun l hl => by
            obtain ⟨i, hi⟩ := List.mem_iff_getElem?.1 hl
            have := parts_part_le hi
            omega)).mono ?_
          rintro e wG ⟨rfl, mG, rfl⟩
          have HP2 : Hid (Keep Nb w (wF.drewN mG)) := Lib.hid (HRF.out.2.2.drewN mG)
          clear HM1' HM2 HRF
          go_wp2_with fail
          go_ret
          exact ⟨rfl, HP2.out⟩

end Go.Proofs.YtkpoobnldgfapaaDoor
