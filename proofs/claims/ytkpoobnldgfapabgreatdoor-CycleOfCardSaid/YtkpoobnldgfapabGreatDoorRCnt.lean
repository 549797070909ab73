/- isthmusref: parts (how many); Pairs' closure. -/
import Derived.Test.YtkpoobnldgfapabGreatDoorRLabels
import Derived.Test.YtkpoobnldgfapabGreatDoorPlRings
import Derived.Deep.LoopGhost
import Derived.Deep.RegionHeld3
import Derived.Deep.QuietTactic
import Derived.BigQuiet
import Derived.BigRegion
import Derived.Deep.DeepCutAuto
set_option linter.unusedVariables false
set_option linter.unusedSimpArgs false
namespace Go.Proofs.YtkpoobnldgfapabGreatDoor
open Go.RowKit Pl

set_option maxRecDepth 100000 in
set_option maxHeartbeats 1000000 in
theorem rcnt_any (F : Nat → Prop) (w : World) (o : Option Addr) (n c : Nat) (L : Nat → Nat) (hS : Sl F w 3 1 o n c (fints n L)) (hn : n ≤ 40) :
    Calls Tryz.prog 80 #[.slice o n c] w fun e w' => e = .returned (.int .i64 (cnt n (isRoot L) : Nat)) ∧ w' = w := by
  have HS := Lib.hid hS
  clear hS
  go_enter Tryz.func80, Tryz.ntmps80
  go_wp2_with fail
  go_loopg [3, 8] n (fun kx s3 s8 wr => ∃ (i k : Nat), s3 = .int .i64 k ∧ s8 = .int .i64 i ∧ i ≤ n ∧ n - i ≤ kx ∧ k ≤ i ∧ Hid (cnt i (isRoot L) = k) ∧ wr = w)
  case atStart => exact ⟨0, 0, rfl, rfl, Nat.zero_le _, by omega, Nat.le_refl _, Lib.hid rfl, rfl⟩
  case round =>
    obtain ⟨i, k, rfl, rfl, hi, hg, hki, HC, rfl⟩ := hrel
    by_cases hlt : i < n
    · obtain ⟨g, rfl, _, hnc, hrow⟩ := HS.out.pos (by omega)
      have d1 := hrow.cell (fints_get L hlt)
      obtain ⟨p, hp⟩ : ∃ p, L i = p := ⟨_, rfl⟩
      rw [hp] at d1
      clear hrow
      by_cases hip : p = i
      · subst hip
        have HN : Hid (cnt (p + 1) (isRoot L) = k + 1) := Lib.hid (by rw [cnt_succ, HC.out]; simp [isRoot, hp])
        clear hp HC
        go_wp2_with fail
        go_roundg (n - (p + 1))
        case measure => omega
        case rel => exact ⟨p + 1, k + 1, by go_num, by go_num, by omega, Nat.le_refl _, by omega, HN, rfl⟩
      · have HN : Hid (cnt (i + 1) (isRoot L) = k) := Lib.hid (by rw [cnt_succ, HC.out]; simp [isRoot, hp, hip])
        have b1 : ((i : Int) == (p : Int)) = false := by simp; omega
        clear hp HC
        go_wp2_with fail
        go_roundg (n - (i + 1))
        case measure => omega
        case rel => exact ⟨i + 1, k, rfl, by go_num, by omega, Nat.le_refl _, by omega, HN, rfl⟩
    · obtain rfl : i = n := by omega
      have HN := HC.out
      clear HC
      go_wp2_with fail
      go_ret
      exact ⟨by rw [HN]; rfl, rfl⟩

set_option maxRecDepth 100000 in
set_option maxHeartbeats 2000000 in
theorem rfine_any (F : Nat → Prop) (w : World) (B Q g n k id : Nat) (fs : List E) (hB : w.cell? ⟨B, 0, none⟩ = some (.pointer (some ⟨g, 0, none⟩))) (hQ : w.cell? ⟨Q, 0, none⟩ = some (.int .i64 (k : Nat))) (hG : RGr F w g n fs) (hn : n ≤ 40) (hl : fs.length ≤ 120) (ho : Over n fs) (hk : k ≤ 40) :
    Calls Tryz.prog 81 #[.int .i64 (id : Nat), .pointer (some ⟨B, 0, none⟩), .pointer (some ⟨Q, 0, none⟩)] w fun e w' => e = .returned (.bool (decide (cntP n (withoutEs [id] [] fs) = k))) ∧ Keep Nb w w' := by
  have HBQ := Lib.hid (And.intro hB hQ)
  obtain ⟨ls, hls⟩ : ∃ ls, withoutEs [id] [] fs = ls := ⟨_, rfl⟩
  have hol : Over n ls := fun f hf => ho f (by rw [← hls] at hf; exact (List.mem_filter.1 hf).1)
  have hll : ls.length ≤ 1000 := by rw [← hls]; exact Nat.le_trans (List.length_filter_le _ _) (by omega)
  have HW : Hid (Calls Tryz.prog 79 #[.pointer (some ⟨g, 0, none⟩), .slice (some ⟨w.heap.size, 0, none⟩) 1 1, .slice none 0 0] (w.alloc (.cells #[.int .i64 (id : Nat)] 3)).drew fun e w' => ∃ rb, e = .returned (.pointer (some ⟨rb, 0, none⟩)) ∧ RGr (fun k => w.heap.size ≤ k) w' rb n ls ∧ Keep Nb w w') := Lib.hid (by
    have kA : Keep Nb w (w.alloc (.cells #[.int .i64 (id : Nat)] 3)).drew := ((Keep.refl Nb w).alloc _).drew
    have hS : Sl (fun k => k = w.heap.size) (w.alloc (.cells #[.int .i64 (id : Nat)] 3)).drew 3 1 (some ⟨w.heap.size, 0, none⟩) 1 1 (ints [id]) :=
      (Sl.built w 3 1 1 [.int .i64 (id : Nat)] rfl (by simp only [maxLen]; omega)).keep ((Keep.refl Nb _).drew) (fun _ _ e => e)
    refine (rwithout_any F (fun k => k = w.heap.size) (fun _ => False) _ g n fs (some ⟨w.heap.size, 0, none⟩) none 1 0 [id] [] (hG.keep kA (fun _ _ e => e)) (by omega) hS (Sl.nil _ _ _ _) (by simp) (by simp)).mono ?_
    rintro e w' ⟨rfl, h2, h3⟩
    rw [hls] at h2
    exact ⟨_, rfl, h2.mono (fun j hj => by have := kA.size; omega), kA.trans h3⟩)
  have HL : Hid (∀ wx rb, RGr (fun k => w.heap.size ≤ k) wx rb n ls → Calls Tryz.prog 78 #[.pointer (some ⟨rb, 0, none⟩)] wx (RLabelsPost wx n ls)) := Lib.hid (fun wx rb h => rlabels_any _ wx rb n ls h hn hll hol)
  have HC : Hid (∀ z wx q, Sl (fun k => z ≤ k) wx 3 1 (some ⟨q, 0, none⟩) n n (fints n (labG ls)) → Calls Tryz.prog 80 #[.slice (some ⟨q, 0, none⟩) n n] wx fun e w' => e = .returned (.int .i64 (cntP n ls : Nat)) ∧ w' = wx) := Lib.hid (fun z wx q h => rcnt_any _ wx _ n n (labG ls) h hn)
  have hcn : cntP n ls ≤ n := cnt_le _ _
  obtain ⟨kc, hkc⟩ : ∃ kc, cntP n ls = kc := ⟨_, rfl⟩
  rw [hls, hkc]
  rw [hkc] at HC hcn
  clear hG ho hls hol hll hkc
  go_enter Tryz.func81, Tryz.ntmps81
  go_wp2_with fail
  go_region_held3 (fun w' => w'.cell? ⟨B, 0, none⟩ = some (.pointer (some ⟨g, 0, none⟩)) ∧ w'.cell? ⟨Q, 0, none⟩ = some (.int .i64 (k : Nat))) (go_keep) ((first
    | (go_at_call 79; refine HW.out.mono ?_; rintro e1 wA ⟨rb, rfl, hA, kA⟩; have a0 := kA.cell (p := ⟨B, 0, none⟩) HBQ.out.1 (fun e => e); have a1 := kA.cell (p := ⟨Q, 0, none⟩) HBQ.out.2 (fun e => e); have HA := Lib.hid hA; have KA := Lib.hid kA; clear hA kA)
    | (go_at_call 78; refine (HL.out _ _ (HA.out.keep (show Keep Nb wA _ from (by (repeat (first | exact Keep.refl _ _ | refine Keep.alloc ?_ _ | refine Keep.drew ?_)))) (fun _ _ e => e))).mono ?_; rintro e2 wB ⟨q, rfl, hB, kB⟩; have kB' := KA.out.trans (Keep.trans (show Keep Nb wA _ from (by (repeat (first | exact Keep.refl _ _ | refine Keep.alloc ?_ _ | refine Keep.drew ?_)))) kB); have b0 := kB'.cell (p := ⟨B, 0, none⟩) HBQ.out.1 (fun e => e); have b1 := kB'.cell (p := ⟨Q, 0, none⟩) HBQ.out.2 (fun e => e); have HB := Lib.hid hB; have KB := Lib.hid kB'; clear hB kB kB')
    | (go_at_call 80; refine (HC.out _ _ _ (HB.out.keep (show Keep Nb wB _ from (by (repeat (first | exact Keep.refl _ _ | refine Keep.alloc ?_ _ | refine Keep.drew ?_)))) (fun _ _ e => e))).mono ?_; rintro e3 wC ⟨rfl, rfl⟩)))
  have e1 : ((kc : Int) == (k : Int)) = decide (kc = k) := by by_cases h : kc = k <;> simp [h]; omega
  rw [e1]
  clear HW HL HC HA HB b0 b1 a0 a1 hB hQ HBQ
  go_wp2_with fail
  go_ret
  exact ⟨rfl, KB.out⟩

end Go.Proofs.YtkpoobnldgfapabGreatDoor
