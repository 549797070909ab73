/- isthmusref: Cuts. -/
import Derived.Test.YtkpoobnldgfapabGreatDoorRBr
import Derived.Test.YtkpoobnldgfapabGreatDoorRWhole
import Derived.Test.YtkpoobnldgfapabGreatDoorD1
import Derived.Deep.DeepCutAuto
set_option linter.unusedVariables false
set_option linter.unusedSimpArgs false
namespace Go.Proofs.YtkpoobnldgfapabGreatDoor
open Go.RowKit Pl

def cutB (fs : List E) (x a b : Nat) : Bool := decide (a ≠ x ∧ b ≠ x ∧ Conn (ends fs) a b ∧ ¬ Conn (ends (withoutEs [] [x] fs)) a b)
def midP (fs : List E) (x a : Nat) : Bool := (List.range a).any (fun a' => (List.range a').any (cutB fs x a'))
def cutsE (n : Nat) (fs : List E) : List Nat := (List.range n).filter (fun x => midP fs x n)

theorem midP_succ (fs : List E) (x a : Nat) : midP fs x (a + 1) = (midP fs x a || (List.range a).any (cutB fs x a)) := by
  unfold midP; rw [List.range_succ, List.any_append]; simp
theorem inP_succ (fs : List E) (x a b : Nat) : (List.range (b + 1)).any (cutB fs x a) = ((List.range b).any (cutB fs x a) || cutB fs x a b) := by
  rw [List.range_succ, List.any_append]; simp
theorem cutsE_succ (n i : Nat) (fs : List E) : ((List.range (i + 1)).filter (fun x => midP fs x n)) = (List.range i).filter (fun x => midP fs x n) ++ (if midP fs i n = true then [i] else []) := by
  rw [List.range_succ, List.filter_append]
  congr 1
  by_cases h : midP fs i n = true <;> simp [h]

theorem Conn.bound {n : Nat} {es : List E} (ho : ∀ e, e ∈ es → e.a < n ∧ e.b < n) {a b : Nat} (c : Conn (ends es) a b) : a = b ∨ (a < n ∧ b < n) :=
  Conn.ind (R := fun a b => a = b ∨ (a < n ∧ b < n)) (fun _ => .inl rfl) (fun _ _ h => by omega) (fun _ _ _ h g => by omega) (fun p hp => by
    obtain ⟨e, he, rfl⟩ := List.mem_map.1 hp
    exact .inr (ho e he)) c

theorem mem_cutsE {n : Nat} {fs : List E} (ho : ∀ e, e ∈ fs → e.a < n ∧ e.b < n) {x : Nat} : x ∈ cutsE n fs ↔ x < n ∧ Sep fs x := by
  have e1 : withoutEs [] [x] fs = less1 fs x := by
    unfold withoutEs less1
    refine List.filter_congr fun e _ => ?_
    unfold keeps
    simp [Bool.eq_iff_iff]
  unfold cutsE
  rw [List.mem_filter, List.mem_range]
  refine and_congr Iff.rfl ?_
  unfold midP
  simp only [List.any_eq_true, List.mem_range]
  constructor
  · rintro ⟨a, ha, b, hb, hc⟩
    unfold cutB at hc
    rw [decide_eq_true_eq, e1] at hc
    exact ⟨a, b, hc.1, hc.2.1, hc.2.2.1, hc.2.2.2⟩
  · rintro ⟨a, b, ha, hb, hc, hs⟩
    have hab : a ≠ b := fun e => hs (e ▸ Conn.refl _ _)
    rcases Conn.bound ho hc with h | ⟨h1, h2⟩
    · exact absurd h hab
    · by_cases hlt : b < a
      · exact ⟨a, h1, b, hlt, by unfold cutB; rw [decide_eq_true_eq, e1]; exact ⟨ha, hb, hc, hs⟩⟩
      · exact ⟨b, h2, a, by omega, by unfold cutB; rw [decide_eq_true_eq, e1]; exact ⟨hb, ha, hc.symm, fun h => hs h.symm⟩⟩

def PEq (p q : Bool) : Prop := p = q

set_option maxRecDepth 100000 in
set_option maxHeartbeats 4000000 in
theorem rcuts_any (F : Nat → Prop) (w : World) (g n : Nat) (fs : List E) (hG : RGr F w g n fs) (hn : n ≤ 40) (hl : fs.length ≤ 120) (ho : Over n fs) :
    Calls Tryz.prog 44 #[.pointer (some ⟨g, 0, none⟩)] w (RListPost w (cutsE n fs)) := by
  have HG := Lib.hid hG
  have HO := Lib.hid ho
  have HL := Lib.hid (rlabels_any F w g n fs hG hn (by omega) ho)
  clear hG ho
  go_enter Tryz.func44, Tryz.ntmps44
  go_wp2_with fail
  refine HL.out.mono ?_
  rintro e1 w1 ⟨qw, rfl, hs1, hk1⟩
  obtain ⟨og, cg, hM⟩ := HG.out.keep hk1 (fun _ _ e => e)
  have g0 := hM.head.cell (i := 0) rfl
  have HS1 := Lib.hid hs1
  have HK1 := Lib.hid hk1
  clear hs1 hk1 hM HL
  go_wp2_with fail
  clear g0
  go_loopg [4, 16] n (fun kx s4 s16 wr => ∃ (i : Nat) (o : Option Addr) (m c : Nat), s4 = .slice o m c ∧ s16 = .int .i64 i ∧ i ≤ n ∧ n - i ≤ kx ∧ m ≤ i ∧ Hid (Sl (fun k => w1.heap.size ≤ k) wr 3 1 o m c (ints ((List.range i).filter (fun x => midP fs x n))) ∧ ((List.range i).filter (fun x => midP fs x n)).length = m ∧ Keep Nb w1 wr))
  case atStart => exact ⟨0, none, 0, 0, rfl, rfl, Nat.zero_le _, by omega, Nat.le_refl _, Lib.hid ⟨Sl.nil _ _ _ _, rfl, Keep.refl _ _⟩⟩
  case round =>
    obtain ⟨i, o, m, c, rfl, rfl, hi, hg, hmi, HR⟩ := hrel
    by_cases hlt : i < n
    · have hGr := HG.out.keep (HK1.out.trans HR.out.2.2) (fun _ _ e => e)
      have hSw := HS1.out.keep HR.out.2.2 (fun _ _ e => e)
      obtain ⟨ls, hls⟩ : ∃ ls, withoutEs [] [i] fs = ls := ⟨_, rfl⟩
      have hlo : Over n ls := fun x hx => HO.out x (by rw [← hls] at hx; exact (List.mem_filter.1 hx).1)
      have hll : ls.length ≤ 1000 := by rw [← hls]; exact Nat.le_trans (List.length_filter_le _ _) (by omega)
      have HLS := Lib.hid hls
      have HWO : Hid (Calls Tryz.prog 79 #[.pointer (some ⟨g, 0, none⟩), .slice none 0 0, .slice (some ⟨wr.heap.size, 0, none⟩) 1 1] (wr.alloc (.cells #[.int .i64 (i : Nat)] 3)) fun e w' => ∃ rb, e = .returned (.pointer (some ⟨rb, 0, none⟩)) ∧ RGr (fun k => wr.heap.size ≤ k) w' rb n ls ∧ Keep Nb wr w') := Lib.hid (by
        have kA : Keep Nb wr (wr.alloc (.cells #[.int .i64 (i : Nat)] 3)) := (Keep.refl Nb wr).alloc _
        have hS : Sl (fun k => k = wr.heap.size) (wr.alloc (.cells #[.int .i64 (i : Nat)] 3)) 3 1 (some ⟨wr.heap.size, 0, none⟩) 1 1 (ints [i]) :=
          Sl.built wr 3 1 1 [.int .i64 (i : Nat)] rfl (by simp only [maxLen]; omega)
        refine (rwithout_any F (fun _ => False) (fun k => k = wr.heap.size) _ g n fs none (some ⟨wr.heap.size, 0, none⟩) 0 1 [] [i] (hGr.keep kA (fun _ _ e => e)) (by omega) (Sl.nil _ _ _ _) hS (by simp) (by simp)).mono ?_
        rintro e w' ⟨rfl, h2, h3⟩
        rw [hls] at h2
        exact ⟨_, rfl, h2.mono (fun j hj => by have := kA.size; omega), kA.trans h3⟩)
      have HLA : Hid (∀ wx rb, RGr (fun k => wr.heap.size ≤ k) wx rb n ls → Calls Tryz.prog 78 #[.pointer (some ⟨rb, 0, none⟩)] wx (RLabelsPost wx n ls)) := Lib.hid (fun wx rb h => rlabels_any _ wx rb n ls h hn hll hlo)
      clear hGr hSw hls hlo hll
      go_wp2_with fail
      refine HWO.out.mono ?_
      rintro e2 w2 ⟨rb, rfl, hG2, hk2⟩
      have HLA2 := Lib.hid (HLA.out w2 rb hG2)
      have HK2 := Lib.hid hk2
      clear hG2 hk2 HWO HLA
      go_wp2_with fail
      refine HLA2.out.mono ?_
      rintro e3 w3 ⟨ql, rfl, hs3, hk3⟩
      have HK3 := Lib.hid (HK2.out.trans hk3)
      obtain ⟨og, cg, hM⟩ := HG.out.keep (HK1.out.trans (HR.out.2.2.trans HK3.out)) (fun _ _ e => e)
      have g0 := hM.head.cell (i := 0) rfl
      obtain ⟨q', hq', _, _, hrowl⟩ := hs3.pos (by omega)
      cases hq'
      obtain ⟨q', hq', _, _, hroww⟩ := (HS1.out.keep (HR.out.2.2.trans HK3.out) (fun _ _ e => e)).pos (by omega)
      cases hq'
      have HRL := Lib.hid hrowl
      have HRW := Lib.hid hroww
      clear hs3 hk3 hM hrowl hroww HLA2 HK2
      go_wp2_with fail
      clear g0
      go_loopg [7, 28] n (fun ky s7 s28 wr2 => ∃ (a : Nat) (p : Bool), s7 = .bool p ∧ s28 = .int .i64 a ∧ a ≤ n ∧ n - a ≤ ky ∧ Hid (PEq p (midP fs i a) ∧ Keep Nb w3 wr2))
      case atStart => exact ⟨0, false, rfl, rfl, Nat.zero_le _, by omega, Lib.hid ⟨rfl, Keep.refl _ _⟩⟩
      case round =>
        obtain ⟨a, p, rfl, rfl, ha, hga, HP⟩ := hrel
        by_cases hal : a < n
        · go_wp2_with fail
          go_loopg [7, 32] a (fun kz s7 s32 wr3 => ∃ (b : Nat) (p : Bool), s7 = .bool p ∧ s32 = .int .i64 b ∧ b ≤ a ∧ a - b ≤ kz ∧ Hid (PEq p (midP fs i a || (List.range b).any (cutB fs i a)) ∧ Keep Nb w3 wr3))
          case atStart => exact ⟨0, p, rfl, rfl, Nat.zero_le _, by omega, Lib.hid ⟨by have := HP.out.1; unfold PEq at *; rw [this]; simp, HP.out.2⟩⟩
          case round =>
            clear HP
            obtain ⟨b, p, rfl, rfl, hb, hgb, HP⟩ := hrel
            by_cases hbl : b < a
            · have hbn : b < n := by omega
              have HNX : Hid (∀ p' : Bool, p' = (p || cutB fs i a b) → ∀ wq, Keep Nb wr wq → PEq p' (midP fs i a || (List.range (b + 1)).any (cutB fs i a)) ∧ Keep Nb w3 wq) := Lib.hid (fun p' hp wq kq => ⟨by
                have := HP.out.1; unfold PEq at *; rw [inP_succ, hp, this, Bool.or_assoc], HP.out.2.trans kq⟩)
              have d1 := (HRW.out.keep HP.out.2 (fun e => e)).cell (fints_get (labG fs) hal)
              have d2 := (HRW.out.keep HP.out.2 (fun e => e)).cell (fints_get (labG fs) hbn)
              have d3 := (HRL.out.keep HP.out.2 (fun e => e)).cell (fints_get (labG ls) hal)
              have d4 := (HRL.out.keep HP.out.2 (fun e => e)).cell (fints_get (labG ls) hbn)
              obtain ⟨v1, hv1⟩ : ∃ v, labG fs a = v := ⟨_, rfl⟩
              obtain ⟨v2, hv2⟩ : ∃ v, labG fs b = v := ⟨_, rfl⟩
              obtain ⟨v3, hv3⟩ : ∃ v, labG ls a = v := ⟨_, rfl⟩
              obtain ⟨v4, hv4⟩ : ∃ v, labG ls b = v := ⟨_, rfl⟩
              rw [hv1] at d1
              rw [hv2] at d2
              rw [hv3] at d3
              rw [hv4] at d4
              have HC : Hid (cutB fs i a b = decide (a ≠ i ∧ b ≠ i ∧ v1 = v2 ∧ ¬ v3 = v4)) := Lib.hid (by
                unfold cutB
                rw [HLS.out, ← hv1, ← hv2, ← hv3, ← hv4]
                rfl)
              clear HP hv1 hv2 hv3 hv4
              cases p
              · by_cases hai : a = i
                · have b1 : ((a : Int) != (i : Int)) = false := by simp; omega
                  have HN := Lib.hid (HNX.out false (by rw [HC.out]; simp [hai]))
                  clear hai HC HNX
                  go_wp2_with fail
                  go_quiet (fail)
                  go_wp2_with fail
                  go_roundg (a - (b + 1))
                  case measure => omega
                  case rel => exact ⟨b + 1, false, rfl, by go_num, by omega, Nat.le_refl _, Lib.hid (HN.out _ ((Keep.refl Nb wr).drewN nq))⟩
                · have b1 : ((a : Int) != (i : Int)) = true := by rw [bne_iff_ne]; omega
                  by_cases hbi : b = i
                  · have b2 : ((b : Int) != (i : Int)) = false := by simp; omega
                    have HN := Lib.hid (HNX.out false (by rw [HC.out]; simp [hbi]))
                    clear hai hbi HC HNX
                    go_wp2_with fail
                    go_quiet (fail)
                    go_wp2_with fail
                    go_roundg (a - (b + 1))
                    case measure => omega
                    case rel => exact ⟨b + 1, false, rfl, by go_num, by omega, Nat.le_refl _, Lib.hid (HN.out _ ((Keep.refl Nb wr).drewN nq))⟩
                  · have b2 : ((b : Int) != (i : Int)) = true := by rw [bne_iff_ne]; omega
                    by_cases h12 : v1 = v2
                    · have b3 : ((v1 : Int) == (v2 : Int)) = true := by simp; omega
                      by_cases h34 : v3 = v4
                      · have b4 : ((v3 : Int) != (v4 : Int)) = false := by simp; omega
                        have HN := Lib.hid (HNX.out false (by rw [HC.out]; simp [h34]))
                        clear hai hbi h12 h34 HC HNX
                        go_wp2_with fail
                        go_quiet (fail)
                        go_wp2_with fail
                        go_roundg (a - (b + 1))
                        case measure => omega
                        case rel => exact ⟨b + 1, false, rfl, by go_num, by omega, Nat.le_refl _, Lib.hid (HN.out _ ((Keep.refl Nb wr).drewN nq))⟩
                      · have b4 : ((v3 : Int) != (v4 : Int)) = true := by rw [bne_iff_ne]; omega
                        have HN := Lib.hid (HNX.out true (by rw [HC.out]; simp [hai, hbi, h12, h34]))
                        clear hai hbi h12 h34 HC HNX
                        go_wp2_with fail
                        go_quiet (fail)
                        go_wp2_with fail
                        go_roundg (a - (b + 1))
                        case measure => omega
                        case rel => exact ⟨b + 1, true, rfl, by go_num, by omega, Nat.le_refl _, Lib.hid (HN.out _ ((Keep.refl Nb wr).drewN nq))⟩
                    · have b3 : ((v1 : Int) == (v2 : Int)) = false := by simp; omega
                      have HN := Lib.hid (HNX.out false (by rw [HC.out]; simp [h12]))
                      clear hai hbi h12 HC HNX
                      go_wp2_with fail
                      go_quiet (fail)
                      go_wp2_with fail
                      go_roundg (a - (b + 1))
                      case measure => omega
                      case rel => exact ⟨b + 1, false, rfl, by go_num, by omega, Nat.le_refl _, Lib.hid (HN.out _ ((Keep.refl Nb wr).drewN nq))⟩
              · have HN := Lib.hid (HNX.out true (by simp))
                clear HC HNX
                go_wp2_with fail
                go_quiet (fail)
                go_wp2_with fail
                go_roundg (a - (b + 1))
                case measure => omega
                case rel => exact ⟨b + 1, true, rfl, by go_num, by omega, Nat.le_refl _, Lib.hid (HN.out _ ((Keep.refl Nb wr).drewN nq))⟩
            · obtain rfl : b = a := by omega
              have HN : Hid (PEq p (midP fs i (b + 1)) ∧ Keep Nb w3 wr) := Lib.hid ⟨by have := HP.out.1; unfold PEq at *; rw [midP_succ]; exact this, HP.out.2⟩
              clear HP
              go_wp2_with fail
              go_roundg (n - (b + 1))
              case measure => omega
              case rel => exact ⟨b + 1, p, rfl, by go_num, by omega, Nat.le_refl _, HN⟩
        · obtain rfl : n = a := by omega
          have hpe := HP.out.1
          unfold PEq at hpe
          have hSo := HR.out.1.keep (HK3.out.trans HP.out.2) (fun _ _ e => e)
          have HLN := Lib.hid HR.out.2.1
          have HKF := Lib.hid (HR.out.2.2.trans (HK3.out.trans HP.out.2))
          cases p
          · have HN : Hid (Sl (fun k => w1.heap.size ≤ k) wr 3 1 o m c (ints ((List.range (i + 1)).filter (fun x => midP fs x n))) ∧ ((List.range (i + 1)).filter (fun x => midP fs x n)).length = m ∧ Keep Nb w1 wr) := Lib.hid (by
              rw [cutsE_succ, ← hpe]
              simp only [Bool.false_eq_true, if_false, List.append_nil]
              exact ⟨hSo, HLN.out, HKF.out⟩)
            clear hSo hpe HP HR
            go_wp2_with fail
            go_roundg (n - (i + 1))
            case measure => omega
            case rel => exact ⟨i + 1, o, m, c, rfl, by go_num, by omega, Nat.le_refl _, by omega, HN⟩
          · obtain ⟨gq, cq, w5, r1, r2, r3, r4⟩ := run_app1 (P := Tryz.prog) 33 33 3 Tryz.underlying33 elem_int rfl hSo (.int .i64 i) rfl (by omega) (by omega)
            have HN : Hid (Sl (fun k => w1.heap.size ≤ k) w5 3 1 (some ⟨gq, 0, none⟩) (m + 1) cq (ints ((List.range (i + 1)).filter (fun x => midP fs x n))) ∧ ((List.range (i + 1)).filter (fun x => midP fs x n)).length = m + 1 ∧ Keep Nb w1 w5) := Lib.hid (by
              rw [cutsE_succ, ← hpe]
              simp only [if_true]
              have zk := HKF.out.size
              refine ⟨?_, by rw [List.length_append, HLN.out]; rfl, HKF.out.trans' r3 (fun _ _ e => e) (fun x hx e => ?_)⟩
              · rw [ints_append]
                exact r2.mono (fun x hx => by rcases hx with hx | hx; exact hx; show w1.heap.size ≤ x; omega)
              · obtain ⟨a, ha, hb⟩ := e
                have := hSo.foot a ha
                have hb : a.block = x := hb
                have this : w1.heap.size ≤ a.block := this
                show False; omega)
            have R1 := Lib.hid r1
            clear r1 r2 r3 r4 hSo hpe HP HR
            go_wp2_with (at_builtin; refine wpList_app rfl _ _ _ rfl rfl rfl R1.out ?_)
            go_roundg (n - (i + 1))
            case measure => omega
            case rel => exact ⟨i + 1, some ⟨gq, 0, none⟩, m + 1, cq, rfl, by go_num, by omega, Nat.le_refl _, by omega, HN⟩
    · obtain rfl : i = n := by omega
      have HF : Hid (RListPost w (cutsE i fs) (.returned (.slice o m c)) wr) := Lib.hid ⟨o, m, c, rfl, HR.out.1.mono (fun k hk => Nat.le_trans HK1.out.size hk), HR.out.2.1, HK1.out.trans HR.out.2.2⟩
      clear HR
      go_wp2_with fail
      go_ret
      exact HF.out

end Go.Proofs.YtkpoobnldgfapabGreatDoor
