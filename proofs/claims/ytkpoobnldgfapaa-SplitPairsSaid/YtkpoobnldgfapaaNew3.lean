/- sets.New: the loop. -/
import Derived.Test.YtkpoobnldgfapaaNew2
namespace Go.Proofs.Ytkpoobnldgfapaa
open Go.RowKit Pl

open Classical in
theorem ni_start {lo b k n cu cs cl : Nat} {ou os ol : Option Addr} {wr : World} {a0 : Act} (hsz : a0.tmps.size = 51) (hdf : a0.defers = [])
    (hM : SetsMem (fun j => lo ≤ j) wr b k (fun x => x) (fun _ => 1) (fun x => x) n ou os ol cu cs cl) : NI lo b k n cu cs cl ou os ol wr a0 (fun _ => false) a0 wr.drew := by
  refine ⟨hsz, hdf, fun _ _ => rfl, fun _ _ h => (by cases h), (Keep.refl _ wr).drew, fun j => if j = b then 0 else if Bl ou j then 1 else if Bl os j then 2 else if Bl ol j then 3 else 5, by simp, fun j hj => ?_, fun j hj => ?_, ?_, ?_, ?_, ?_⟩
  · dsimp only at hj
    by_cases h0 : j = b
    · rw [h0]; exact hM.hb
    · rw [if_neg h0] at hj
      by_cases h1 : Bl ou j
      · obtain ⟨a, ha, rfl⟩ := h1; exact hM.u.foot a ha
      · rw [if_neg h1] at hj
        by_cases h2 : Bl os j
        · obtain ⟨a, ha, rfl⟩ := h2; exact hM.s.foot a ha
        · rw [if_neg h2] at hj
          by_cases h3 : Bl ol j
          · obtain ⟨a, ha, rfl⟩ := h3; exact hM.l.foot a ha
          · rw [if_neg h3] at hj; omega
  · have e0 : j ≠ b := by have := hM.head.lt; intro e; subst e; exact Nat.not_lt.2 hj this
    have e1 : ¬ Bl ou j := by rintro ⟨a, ha, rfl⟩; exact Nat.not_lt.2 hj (hM.u.lt ha)
    have e2 : ¬ Bl os j := by rintro ⟨a, ha, rfl⟩; exact Nat.not_lt.2 hj (hM.s.lt ha)
    have e3 : ¬ Bl ol j := by rintro ⟨a, ha, rfl⟩; exact Nat.not_lt.2 hj (hM.l.lt ha)
    show (if j = b then 0 else if Bl ou j then 1 else if Bl os j then 2 else if Bl ol j then 3 else 5) = 5
    rw [if_neg e0, if_neg e1, if_neg e2, if_neg e3]
  · exact hM.head.drew
  · refine ⟨fun h => (by cases h), fun _ => ⟨hM.u.drew.own, fun a ha => ?_⟩, fun h => (by cases h)⟩
    show (if a.block = b then 0 else if Bl ou a.block then 1 else if Bl os a.block then 2 else if Bl ol a.block then 3 else 5) = 1
    rw [if_neg (hM.du a ha), if_pos ⟨a, ha, rfl⟩]
  · refine ⟨fun h => (by cases h), fun _ => ⟨hM.s.drew.own, fun a ha => ?_⟩, fun h => (by cases h)⟩
    have e1 : ¬ Bl ou a.block := by rintro ⟨c, hc, e⟩; exact hM.dus c a hc ha e
    show (if a.block = b then 0 else if Bl ou a.block then 1 else if Bl os a.block then 2 else if Bl ol a.block then 3 else 5) = 2
    rw [if_neg (hM.ds a ha), if_neg e1, if_pos ⟨a, ha, rfl⟩]
  · refine ⟨fun h => (by cases h), fun _ => ⟨hM.l.drew.own, fun a ha => ?_⟩, fun h => (by cases h)⟩
    have e1 : ¬ Bl ou a.block := by rintro ⟨c, hc, e⟩; exact hM.dul c a hc ha e
    have e2 : ¬ Bl os a.block := by rintro ⟨c, hc, e⟩; exact hM.dsl c a hc ha e
    show (if a.block = b then 0 else if Bl ou a.block then 1 else if Bl os a.block then 2 else if Bl ol a.block then 3 else 5) = 3
    rw [if_neg (hM.dl a ha), if_neg e1, if_neg e2, if_pos ⟨a, ha, rfl⟩]

theorem ni_end {lo b k n cu cs cl : Nat} {ou os ol : Option Addr} {wr w : World} {a0 a : Act} {done : Nat → Bool} (h : NI lo b k n cu cs cl ou os ol wr a0 done a w) (hall : ∀ i, i < 32 → done i = true) :
    ∃ ou' os' ol' cu' cs' cl', SetsMem (fun j => lo ≤ j) w b (k + 1) (fun x => x) (fun _ => 1) (fun x => x) n ou' os' ol' cu' cs' cl' := by
  obtain ⟨own, o1, o2, o3, hrow, hU, hS, hL⟩ := h.mem
  obtain ⟨gu, cu', eu, su⟩ := hU.new (hall 9 (by omega))
  obtain ⟨gs, cs', es, ss⟩ := hS.new (hall 15 (by omega))
  obtain ⟨gl, cl', el, sl⟩ := hL.new (hall 22 (by omega))
  rw [hall 25 (by omega), hall 28 (by omega), hall 31 (by omega), eu, es, el] at hrow
  have fu := su.foot _ rfl
  have fs := ss.foot _ rfl
  have fl := sl.foot _ rfl
  simp only at fu fs fl
  refine ⟨some ⟨gu, 0, none⟩, some ⟨gs, 0, none⟩, some ⟨gl, 0, none⟩, cu', cs', cl', hrow, o2 b (by omega), ?_, ?_, ?_, ?_, ?_, ?_, ?_, ?_, ?_⟩
  · rw [fints_snoc]; exact su.mono (fun j hj => o2 j (by omega))
  · rw [fints_snoc]; exact ss.mono (fun j hj => o2 j (by omega))
  · rw [fints_snoc]; exact sl.mono (fun j hj => o2 j (by omega))
  · intro a ha e; simp at ha; subst ha; simp at e; subst e; omega
  · intro a ha e; simp at ha; subst ha; simp at e; subst e; omega
  · intro a ha e; simp at ha; subst ha; simp at e; subst e; omega
  · intro a c ha hc e; simp at ha hc; subst ha hc; simp at e; subst e; omega
  · intro a c ha hc e; simp at ha hc; subst ha hc; simp at e; subst e; omega
  · intro a c ha hc e; simp at ha hc; subst ha hc; simp at e; subst e; omega

def NewPost (w : World) (n : Nat) (e : Ending) (w' : World) : Prop :=
  ∃ b, e = .returned (.tuple #[.pointer (some ⟨b, 0, none⟩), .nilIface]) ∧ Sets (Iv w.heap.size w'.heap.size) w' b n (fun x => x) ∧ Keep Nb w w'

theorem new_fin {w wr : World} {b n : Nat} {ou os ol : Option Addr} {cu cs cl : Nat} (hn : n ≤ 40) (hM : SetsMem (fun j => w.heap.size ≤ j) wr b n (fun x => x) (fun _ => 1) (fun x => x) n ou os ol cu cs cl) (hk : Keep Nb w wr) :
    NewPost w n (.returned (.tuple #[.pointer (some ⟨b, 0, none⟩), .nilIface])) wr :=
  ⟨b, rfl, ⟨_, _, _, _, _, _, _, _, _, _, hM.tight.mono (fun _ h => h), SetsInv.new n, hn⟩, hk⟩

set_option maxHeartbeats 2000000 in
set_option maxRecDepth 100000 in
theorem new_any (n : Nat) (hn : n ≤ 40) (w : World) : Calls Try.prog 12 #[.int .i64 n] w (NewPost w n) := by
  have H0 : SetsMem (fun j => w.heap.size ≤ j) (w.alloc (.cells #[.slice none 0 0, .slice none 0 0, .slice none 0 0, .int .i64 n] 77)) w.heap.size 0 (fun x => x) (fun _ => 1) (fun x => x) n none none none 0 0 0 :=
    ⟨Row.new w _ _, Nat.le_refl _, Sl.nil _ _ _ _, Sl.nil _ _ _ _, Sl.nil _ _ _ _, fun _ h => (by cases h), fun _ h => (by cases h), fun _ h => (by cases h), fun _ _ h => (by cases h), fun _ _ h => (by cases h), fun _ _ h => (by cases h)⟩
  have HH := Lib.hid H0
  clear H0
  go_enter Try.func12, Try.ntmps12
  go_wp2_with fail
  go_loopw [17] (fun i wr => ∃ (k : Nat) (ou os ol : Option Addr) (cu cs cl : Nat), i = .int .i64 k ∧ k ≤ n ∧ SetsMem (fun j => w.heap.size ≤ j) wr w.heap.size k (fun x => x) (fun _ => 1) (fun x => x) n ou os ol cu cs cl ∧ Keep Nb w wr)
    (fun i _ => n - (intOf i).toNat)
  case atStart => exact ⟨0, none, none, none, 0, 0, 0, rfl, Nat.zero_le _, HH.out, (Keep.refl Nb w).alloc _⟩
  case round =>
    obtain ⟨k, ou, os, ol, cu, cs, cl, rfl, hk, hM, hkeep⟩ := hrel
    have HM := Lib.hid hM
    have HK := Lib.hid hkeep
    clear hM hkeep
    by_cases hlt : k < n
    · go_wp2_with fail
      refine wp_region_inv (ops := newOps) (by kernel_rfl) newOrd (NI w.heap.size w.heap.size k n cu cs cl ou os ol wr _) (ni_start rfl rfl HM.out) (new_step (by omega) HK.out.size rfl rfl _) ?_
      intro done a w1 hall hI
      have hend := ni_end hI (fun i hi => hall i (by rw [newSize]; exact hi))
      have f0 : a.eval (.tmp 0) = .int .i64 n := hI.fr 0 (.inl (by omega))
      have f1 : a.eval (.tmp 1) = undef := hI.fr 1 (.inl (by omega))
      have f2 : a.eval (.tmp 2) = .pointer none := hI.fr 2 (.inl (by omega))
      have f3 : a.eval (.tmp 3) = .nilIface := hI.fr 3 (.inl (by omega))
      have f4 : a.eval (.tmp 4) = .pointer (some ⟨w.heap.size, 0, none⟩) := hI.fr 4 (.inl (by omega))
      have f5 : a.eval (.tmp 5) = .int .i64 k := hI.fr 5 (.inl (by omega))
      have f6 : a.eval (.tmp 6) = .int .i64 n := hI.fr 6 (.inl (by omega))
      have f7 : a.eval (.tmp 7) = .bool (decide ((n : Int) < 0)) := hI.fr 7 (.inl (by omega))
      have f8 : a.eval (.tmp 8) = .bool (decide ((n : Int) < 0)) := hI.fr 8 (.inl (by omega))
      have f9 : a.eval (.tmp 9) = .int .i64 n := hI.fr 9 (.inl (by omega))
      have f10 : a.eval (.tmp 10) = .bool (decide (40 < (n : Int))) := hI.fr 10 (.inl (by omega))
      have f11 : a.eval (.tmp 11) = .bool (decide ((n : Int) < 0) || decide (40 < (n : Int))) := hI.fr 11 (.inl (by omega))
      have f12 : a.eval (.tmp 12) = undef := hI.fr 12 (.inl (by omega))
      have f13 : a.eval (.tmp 13) = .int .i64 n := hI.fr 13 (.inl (by omega))
      have f14 : a.eval (.tmp 14) = .agg #[.slice none 0 0, .slice none 0 0, .slice none 0 0, .int .i64 n] := hI.fr 14 (.inl (by omega))
      have f15 : a.eval (.tmp 15) = .pointer (some ⟨w.heap.size, 0, none⟩) := hI.fr 15 (.inl (by omega))
      have f16 : a.eval (.tmp 16) = .int .i64 n := hI.fr 16 (.inl (by omega))
      have f17 : a.eval (.tmp 17) = .int .i64 k := hI.fr 17 (.inl (by omega))
      have f18 : a.eval (.tmp 18) = .bool true := hI.fr 18 (.inl (by omega))
      have f19 : a.eval (.tmp 19) = .int .i64 k := hI.fr 19 (.inl (by omega))
      have f49 : a.eval (.tmp 49) = u49 := hI.fr 49 (.inr (by omega))
      have f50 : a.eval (.tmp 50) = undef := hI.fr 50 (.inr (by omega))
      rw [act_lit51 hI.sz hI.df, f0, f1, f2, f3, f4, f5, f6, f7, f8, f9, f10, f11, f12, f13, f14, f15, f16, f17, f18, f19, f49, f50]
      have hk2 := hI.keep
      clear hI f0 f1 f2 f3 f4 f5 f6 f7 f8 f9 f10 f11 f12 f13 f14 f15 f16 f17 f18 f19 f49 f50
      generalize a.eval (.tmp 20) = v20
      generalize a.eval (.tmp 21) = v21
      generalize a.eval (.tmp 22) = v22
      generalize a.eval (.tmp 23) = v23
      generalize a.eval (.tmp 24) = v24
      generalize a.eval (.tmp 25) = v25
      generalize a.eval (.tmp 26) = v26
      generalize a.eval (.tmp 27) = v27
      generalize a.eval (.tmp 28) = v28
      generalize a.eval (.tmp 29) = v29
      generalize a.eval (.tmp 30) = v30
      generalize a.eval (.tmp 31) = v31
      generalize a.eval (.tmp 32) = v32
      generalize a.eval (.tmp 33) = v33
      generalize a.eval (.tmp 34) = v34
      generalize a.eval (.tmp 35) = v35
      generalize a.eval (.tmp 36) = v36
      generalize a.eval (.tmp 37) = v37
      generalize a.eval (.tmp 38) = v38
      generalize a.eval (.tmp 39) = v39
      generalize a.eval (.tmp 40) = v40
      generalize a.eval (.tmp 41) = v41
      generalize a.eval (.tmp 42) = v42
      generalize a.eval (.tmp 43) = v43
      generalize a.eval (.tmp 44) = v44
      generalize a.eval (.tmp 45) = v45
      generalize a.eval (.tmp 46) = v46
      generalize a.eval (.tmp 47) = v47
      generalize a.eval (.tmp 48) = v48
      obtain ⟨ou', os', ol', cu', cs', cl', hM'⟩ := hend
      have HM' := Lib.hid hM'
      have HK' := Lib.hid (HK.out.trans' hk2 (H := Nb) (fun _ _ h => h) (fun j hj e => by omega))
      clear hM' hk2 hall
      go_wp2_with fail
      go_roundw
      case rel => exact ⟨k + 1, ou', os', ol', cu', cs', cl', by go_num, by omega, HM'.out, HK'.out⟩
      case measure => simp [intOf]; omega
    · have hkn : k = n := by omega
      have hfin := Lib.hid (new_fin hn (hkn ▸ HM.out) HK.out)
      clear hkn
      go_wp2_with fail
      go_ret2
      exact hfin.out

end Go.Proofs.Ytkpoobnldgfapaa
