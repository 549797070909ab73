/- isthmuslaw: made, the walk. -/
import Derived.Test.YtkpoobnldgfapabGreatDoorE1
import Derived.Test.YtkpoobnldgfapabGreatDoorP3
import Derived.Test.YtkpoobnldgfapabGreatDoorA1
set_option linter.unusedVariables false
set_option linter.unusedSimpArgs false
namespace Go.Proofs.YtkpoobnldgfapabGreatDoor
open Go.RowKit Pl

/-- The number of the i-th edge. -/
def idL (i : Nat) : Int := ((i : Int) * 7).tmod 61
def madeG (n : Nat) (A B : Nat → Int) : Nat → List E
  | 0 => []
  | i + 1 => addEs n (madeG n A B i) (idL i) (A i) (B i)
def madeR (n : Nat) (A B : Nat → Int) : Nat → List E
  | 0 => []
  | i + 1 => raddEs n (madeR n A B i) (idL i) (A i) (B i)

theorem idL_range (i : Nat) : 0 ≤ idL i ∧ idL i ≤ 60 := by
  unfold idL
  have h := Int.tmod_lt_of_pos ((i : Int) * 7) (show (0 : Int) < 61 by omega)
  have h0 := Int.tmod_nonneg (61 : Int) (show 0 ≤ (i : Int) * 7 by omega)
  omega

theorem made_made (n : Nat) (A B : Nat → Int) (i : Nat) : Made n i (madeG n A B i) (madeR n A B i) := by
  induction i with
  | zero => exact Made.nil n
  | succ i ih =>
    have hid := idL_range i
    show Made n (i + 1) (addEs n (madeG n A B i) (idL i) (A i) (B i)) (raddEs n (madeR n A B i) (idL i) (A i) (B i))
    unfold addEs raddEs
    rw [← ih.hasId, ← ih.len]
    by_cases hb : addBad n (idL i) (A i) (B i) ∨ A i = B i ∨ hasId (madeG n A B i) (idL i) = true ∨ 120 ≤ (madeG n A B i).length
    · rw [if_pos hb, if_pos hb]; exact ih.same
    · rw [if_neg hb, if_neg hb]
      have h1 : ¬ addBad n (idL i) (A i) (B i) := fun h => hb (.inl h)
      have h2 : hasId (madeG n A B i) (idL i) = false := by
        cases h : hasId (madeG n A B i) (idL i) with
        | false => rfl
        | true => exact absurd (.inr (.inr (.inl h))) hb
      unfold addBad at h1
      have e1 : ((mkE (idL i) (A i) (B i)).id : Int) = idL i := by unfold mkE; simp only; omega
      have := ih.add (e := mkE (idL i) (A i) (B i)) (by rw [e1]; exact h2) (by unfold mkE; simp only; omega) (by unfold mkE; simp only; omega)
      rw [e1] at this
      exact this

/-- Both graphs, in blocks of their own. -/
def MadeRel (w : World) (n : Nat) (A B : Nat → Int) (gb rb i : Nat) (wr : World) : Prop :=
  ∃ F1 F2 : Nat → Prop, Gr F1 wr gb n (madeG n A B i) ∧ RGr F2 wr rb n (madeR n A B i) ∧ (∀ k, F1 k → w.heap.size ≤ k ∧ k < wr.heap.size) ∧ (∀ k, F2 k → w.heap.size ≤ k ∧ k < wr.heap.size) ∧ (∀ k, F1 k → ¬ F2 k) ∧ Keep Nb w wr

theorem MadeRel.g {w wr w' : World} {n gb rb i : Nat} {A B : Nat → Int} {F1 F2 : Nat → Prop} {e : Ending} (h2 : RGr F2 wr rb n (madeR n A B i)) (f1 : ∀ k, F1 k → w.heap.size ≤ k ∧ k < wr.heap.size) (f2 : ∀ k, F2 k → w.heap.size ≤ k ∧ k < wr.heap.size) (f3 : ∀ k, F1 k → ¬ F2 k) (hk : Keep Nb w wr)
    (h : AddPost F1 wr gb n (madeG n A B i) (idL i) (A i) (B i) e w') :
    ∃ G1 : Nat → Prop, Gr G1 w' gb n (madeG n A B (i + 1)) ∧ RGr F2 w' rb n (madeR n A B i) ∧ (∀ k, G1 k → w.heap.size ≤ k ∧ k < w'.heap.size) ∧ (∀ k, F2 k → w.heap.size ≤ k ∧ k < w'.heap.size) ∧ (∀ k, G1 k → ¬ F2 k) ∧ Keep Nb w w' := by
  obtain ⟨_, hg, hk'⟩ := h
  have z := hk.size
  have z' := hk'.size
  refine ⟨_, hg.tightT, h2.keep hk' (fun k a b => f3 k b a), fun k h => ?_, fun k h => by have := f2 k h; omega, fun k h h' => ?_, hk.trans' hk' (fun _ _ e => e) (fun k hk e => by have := f1 k e; omega)⟩
  · obtain ⟨h | h, h'⟩ := h
    · have := f1 k h; omega
    · omega
  · obtain ⟨h | h, _⟩ := h
    · exact f3 k h h'
    · have := f2 k h'; omega

theorem MadeRel.r {w wr w' : World} {n gb rb i : Nat} {A B : Nat → Int} {F1 F2 : Nat → Prop} {e : Ending} (h1 : Gr F1 wr gb n (madeG n A B (i + 1))) (f1 : ∀ k, F1 k → w.heap.size ≤ k ∧ k < wr.heap.size) (f2 : ∀ k, F2 k → w.heap.size ≤ k ∧ k < wr.heap.size) (f3 : ∀ k, F1 k → ¬ F2 k) (hk : Keep Nb w wr)
    (h : RAddPost F2 wr rb n (madeR n A B i) (idL i) (A i) (B i) e w') : MadeRel w n A B gb rb (i + 1) w' := by
  obtain ⟨_, hg, hk'⟩ := h
  have z := hk.size
  have z' := hk'.size
  refine ⟨F1, _, h1.keep hk' (fun k a b => f3 k a b), hg.tight, fun k h => by have := f1 k h; omega, fun k h => ?_, fun k h' h => ?_, hk.trans' hk' (fun _ _ e => e) (fun k hk e => by have := f2 k e; omega)⟩
  · obtain ⟨h | h, h'⟩ := h
    · have := f2 k h; omega
    · omega
  · obtain ⟨h | h, _⟩ := h
    · exact f3 k h' h
    · have := f1 k h'; omega

def LMadePost (w : World) (n : Nat) (A B : Nat → Int) (len : Nat) (e : Ending) (w' : World) : Prop :=
  ∃ gb rb, e = .returned (.tuple #[.pointer (some ⟨gb, 0, none⟩), .pointer (some ⟨rb, 0, none⟩), .bool true]) ∧ MadeRel w n A B gb rb len w'

set_option maxRecDepth 100000 in
theorem lmade_none (n : Int) (oa : Option Addr) (len cap : Nat) (h : n < 0 ∨ 16 < n ∨ 60 < len) (w : World) :
    Calls Tryz.prog 11 #[.int .i64 n, .slice oa len cap] w fun e w' => e = .returned (.tuple #[.pointer none, .pointer none, .bool false]) ∧ Keep Nb w w' := by
  by_cases h1 : n < 0
  · go_enter Tryz.func11, Tryz.ntmps11
    go_wp2_with fail
    go_ret3
    exact ⟨rfl, Keep.refl _ _⟩
  · by_cases h2 : 16 < n
    · go_enter Tryz.func11, Tryz.ntmps11
      go_wp2_with fail
      go_ret3
      exact ⟨rfl, Keep.refl _ _⟩
    · have h3 : (60 : Int) < (len : Int) := by omega
      clear h
      go_enter Tryz.func11, Tryz.ntmps11
      go_wp2_with fail
      go_ret3
      exact ⟨rfl, Keep.refl _ _⟩

set_option maxRecDepth 100000 in
set_option maxHeartbeats 1000000 in
theorem lmade_any (n : Nat) (b off len cap : Nat) (oa : Option Addr) (hoa : 0 < len → oa = some ⟨b, off, none⟩) (A B : Nat → Int) (hn : n ≤ 16) (hlen : len ≤ 60) (hcap : len ≤ cap) (w : World) (hbw : 0 < len → b < w.heap.size) (hP : Prs w b off len A B) :
    Calls Tryz.prog 11 #[.int .i64 n, .slice oa len cap] w (LMadePost w n A B len) := by
  have HOA := Lib.hid hoa
  have HPP := Lib.hid hP
  have HBW := Lib.hid hbw
  have h3 : ¬ (60 : Int) < (len : Int) := by omega
  clear hoa hP hbw
  go_enter Tryz.func11, Tryz.ntmps11
  go_wp2_with fail
  refine (gnew_any _ n (by omega)).mono ?_
  rintro e1 w1 ⟨rfl, hG1, hk1, hz1⟩
  have H0 : Hid (MadeRel w n A B w.heap.size w1.heap.size 0 (w1.alloc (.cells #[.int .i64 n, .slice none 0 0] 56))) := Lib.hid
    ⟨_, fun k => k = w1.heap.size, hG1.alloc _, ⟨none, 0, Row.new w1 #[.int .i64 n, .slice none 0 0] 56, rfl, (Sl.nil _ w1 42 3).alloc _, fun _ h => by cases h⟩,
      fun k hk => by subst hk; simp; omega, fun k hk => by subst hk; simp; omega, fun k hk hk' => by subst hk; omega, hk1.alloc _⟩
  clear hG1 hk1 hz1
  go_wp2_with fail
  go_loopg [10] len (fun kx s wr => ∃ i : Nat, s = .int .i64 i ∧ i ≤ len ∧ len - i ≤ kx ∧ Hid (MadeRel w n A B w.heap.size w1.heap.size i wr))
  case atStart => exact ⟨0, rfl, Nat.zero_le _, by omega, H0⟩
  case round =>
    clear H0
    obtain ⟨i, rfl, hi, hg, HR⟩ := hrel
    by_cases hlt : i < len
    · have ho := HOA.out (by omega)
      subst ho
      obtain ⟨F1, F2, m1, m2, m3, m4, m5, m6⟩ := HR.out
      have M1 := Lib.hid m1
      have M2 := Lib.hid m2
      have M3 := Lib.hid m3
      have M4 := Lib.hid m4
      have M5 := Lib.hid m5
      have M6 := Lib.hid m6
      have hP' := HPP.out.keep m6 (fun e => e)
      have a0 := hP'.a i hlt
      have b0 := hP'.b i hlt
      have hbw : b < w.heap.size := HBW.out (by omega)
      have hid : ((i : Int) * 7) % 61 = idL i := by
        unfold idL; rw [Int.tmod_eq_emod_of_nonneg (by omega)]
      obtain ⟨id, hidd⟩ : ∃ id, idL i = id := ⟨_, rfl⟩
      have hrange := idL_range i
      rw [hidd] at hid hrange
      have HID := Lib.hid hidd
      have hMM := made_made n A B i
      have HMM := Lib.hid hMM
      have HL1 : Hid ((madeG n A B i).length ≤ 120 ∧ (madeR n A B i).length ≤ 120) := Lib.hid ⟨by have := hMM.le; omega, by have := hMM.le; have := hMM.len; omega⟩
      have nb1 : ¬ F1 b := fun h => by have := m3 b h; omega
      have nb2 : ¬ F2 b := fun h => by have := m4 b h; omega
      have A0 := Lib.hid a0
      have B0 := Lib.hid b0
      clear m1 m2 m3 m4 m5 m6 hP' hidd hMM HR
      go_wp2_with fail
      go_region_held3 (fun w' => w'.cell? ⟨b, off + i * 2, none⟩ = some (.int .i64 (A i)) ∧ w'.cell? ⟨b, off + i * 2 + 1, none⟩ = some (.int .i64 (B i))) (go_keep) ((first | (go_at_call 72; refine (add_any F1 _ _ n (madeG n A B i) id (A i) (B i) M1.out.drew (fun k hk => (M3.out k hk).2) HMM.out.sorted (by omega) HL1.out.1).mono ?_; rintro e1 w2 hAdd; rw [← HID.out] at hAdd; have hk2 := hAdd.2.2; have a2 := hk2.cell (p := ⟨b, off + i * 2, none⟩) A0.out nb1; have b2 := hk2.cell (p := ⟨b, off + i * 2 + 1, none⟩) B0.out nb1; obtain ⟨v1, hv1⟩ : ∃ v, e1 = .returned v := ⟨_, hAdd.1⟩; subst hv1; have HAdd := Lib.hid hAdd; clear hAdd hk2)))
      obtain ⟨G1, q1, q2, q3, q4, q5, q6⟩ := MadeRel.g (e := .returned v1) (w := w) (M2.out.drew) (fun k hk => M3.out k hk) (fun k hk => M4.out k hk) M5.out M6.out.drew HAdd.out
      have Q1 := Lib.hid q1
      have Q2 := Lib.hid q2
      have Q3 := Lib.hid q3
      have Q4 := Lib.hid q4
      have Q5 := Lib.hid q5
      have Q6 := Lib.hid q6
      have A2 := Lib.hid a2
      have B2 := Lib.hid b2
      clear q1 q2 q3 q4 q5 q6 a0 b0
      go_wp2_with fail
      go_region_held3 (fun w' => w'.cell? ⟨b, off + i * 2, none⟩ = some (.int .i64 (A i)) ∧ w'.cell? ⟨b, off + i * 2 + 1, none⟩ = some (.int .i64 (B i))) (go_keep) ((first | (go_at_call 30; refine (radd_any F2 _ _ n (madeR n A B i) id (A i) (B i) Q2.out.drew (fun k hk => (Q4.out k hk).2) (by omega) HL1.out.2).mono ?_; rintro e1 w3 hAdd3; rw [← HID.out] at hAdd3; have hk3 := hAdd3.2.2; have a3 := hk3.cell (p := ⟨b, off + i * 2, none⟩) A2.out nb2; have b3 := hk3.cell (p := ⟨b, off + i * 2 + 1, none⟩) B2.out nb2; obtain ⟨v3, hv3⟩ : ∃ v, e1 = .returned v := ⟨_, hAdd3.1⟩; subst hv3; have HAdd3 := Lib.hid hAdd3; clear hAdd3 hk3)))
      have HN : Hid (MadeRel w n A B w.heap.size w1.heap.size (i + 1) w3) := Lib.hid (MadeRel.r (e := .returned v3) (Q1.out.drew) (fun k hk => Q3.out k hk) (fun k hk => Q4.out k hk) Q5.out Q6.out.drew HAdd3.out)
      clear a2 b2 a3 b3
      go_wp2_with fail
      go_roundg (len - (i + 1))
      case measure => omega
      case rel => exact ⟨i + 1, rfl, by omega, Nat.le_refl _, HN⟩
    · obtain rfl : i = len := by omega
      have HP : Hid (LMadePost w n A B i (.returned (.tuple #[.pointer (some ⟨w.heap.size, 0, none⟩), .pointer (some ⟨w1.heap.size, 0, none⟩), .bool true])) wr) := Lib.hid ⟨_, _, rfl, HR.out⟩
      clear HR
      go_wp2_with fail
      go_ret3
      exact HP.out

end Go.Proofs.YtkpoobnldgfapabGreatDoor
