/- Joined: Keep1 KMade. -/
import Derived.Test.YtkpoobnldgfapabA3
import Derived.Test.YtkpoobnldgfapabA8
import Derived.Test.YtkpoobnldgfapabA1
import Derived.Test.YtkpoobnldgfapabP3
set_option linter.unusedVariables false
set_option linter.unusedSimpArgs false
/- isthmuskeep: pick, joined. -/
namespace Go.Proofs.Ytkpoobnldgfapab
open Go.RowKit Pl

/-- What pick picks. -/
def pickN (a : Int) (n : Nat) : Nat := ((IntKind.u64.wrap a).tmod n).toNat

theorem u64_nonneg (a : Int) : 0 ≤ IntKind.u64.wrap a := by
  have h : IntKind.u64.wrap a = a % 18446744073709551616 := by
    simp only [IntKind.wrap]; rfl
  rw [h]; omega

theorem pickN_lt (a : Int) {n : Nat} (hn : 0 < n) : pickN a n < n := by
  have h := Int.tmod_lt_of_pos (IntKind.u64.wrap a) (show (0 : Int) < n by omega)
  have h0 := Int.tmod_nonneg (n : Int) (u64_nonneg a)
  unfold pickN; omega

theorem pickN_eq (a : Int) {n : Nat} (hn : 0 < n) (hn2 : n ≤ 1000000) : wrap64 ((IntKind.u64.wrap a).tmod n) = (pickN a n : Nat) := by
  have h := Int.tmod_lt_of_pos (IntKind.u64.wrap a) (show (0 : Int) < n by omega)
  have h0 := Int.tmod_nonneg (n : Int) (u64_nonneg a)
  unfold pickN wrap64
  omega

theorem pick_any (a : Int) (n : Nat) (hn : 0 < n) (hn2 : n ≤ 1000000) (w : World) : Calls Try.prog 17 #[.int .i64 a, .int .i64 n] w fun e w' => e = .returned (.int .i64 (pickN a n : Nat)) ∧ w = w' := by
  have he := Lib.hid (pickN_eq a hn hn2)
  go_enter Try.func17, Try.ntmps17
  go_wp2
  go_ret
  exact ⟨by rw [← he.out]; rfl, rfl⟩

theorem pick_int (a m : Int) (n : Nat) (hm : m = n) (hn : 0 < n) (hn2 : n ≤ 1000000) (w : World) : Calls Try.prog 17 #[.int .i64 a, .int .i64 m] w fun e w' => e = .returned (.int .i64 (pickN a n : Nat)) ∧ w = w' := by
  subst hm; exact pick_any a n hn hn2 w


end Go.Proofs.Ytkpoobnldgfapab

/- isthmuskeep: made, together. -/
namespace Go.Proofs.Ytkpoobnldgfapab
open Go.RowKit Pl

def kedge (n : Nat) (A B : Nat → Int) (i : Nat) : List E := if pickN (A i) n = pickN (B i) n then [] else [⟨i, min (pickN (A i) n) (pickN (B i) n), max (pickN (A i) n) (pickN (B i) n)⟩]
def madeK (n : Nat) (A B : Nat → Int) : Nat → List E
  | 0 => []
  | i + 1 => madeK n A B i ++ kedge n A B i

theorem madeK_mem {n : Nat} {A B : Nat → Int} (hn : 0 < n) {i : Nat} {e : E} (h : e ∈ madeK n A B i) : e.id < i ∧ e.a < n ∧ e.b < n ∧ e.a < e.b := by
  induction i with
  | zero => cases h
  | succ i ih =>
    rcases List.mem_append.1 h with h | h
    · have := ih h; omega
    · unfold kedge at h
      have h1 := pickN_lt (A i) hn
      have h2 := pickN_lt (B i) hn
      split at h
      · cases h
      · rw [List.mem_singleton] at h; subst h; simp only; omega

theorem madeK_len (n : Nat) (A B : Nat → Int) (i : Nat) : (madeK n A B i).length ≤ i := by
  induction i with
  | zero => exact Nat.le_refl _
  | succ i ih =>
    show (madeK n A B i ++ kedge n A B i).length ≤ i + 1
    rw [List.length_append]
    unfold kedge
    split <;> simp <;> omega

theorem madeK_sorted {n : Nat} {A B : Nat → Int} (hn : 0 < n) (i : Nat) : Sorted (madeK n A B i) := by
  induction i with
  | zero => exact List.Pairwise.nil
  | succ i ih =>
    show Sorted (madeK n A B i ++ kedge n A B i)
    unfold Sorted
    rw [List.pairwise_append]
    refine ⟨ih, ?_, fun e he f hf => ?_⟩
    · unfold kedge; split <;> simp
    · have h1 := (madeK_mem hn he).1
      unfold kedge at hf
      split at hf
      · cases hf
      · rw [List.mem_singleton] at hf; subst hf; exact h1

theorem madeK_ok {n : Nat} {A B : Nat → Int} (hn : 0 < n) {i : Nat} (hi : i ≤ 1000) : EOk n (madeK n A B i) :=
  ⟨fun e he => by have := madeK_mem hn he; omega, fun e he => by have := madeK_mem hn he; omega, fun e he => by have := madeK_mem hn he; omega, madeK_sorted hn i⟩

theorem posOf_all {es : List E} {t : Int} (h : ∀ e, e ∈ es → (e.id : Int) < t) : posOf es t = es.length := by
  unfold posOf
  rw [List.countP_eq_length]
  intro e he; simpa using h e he

theorem addK {n : Nat} {A B : Nat → Int} (hn : 0 < n) {i : Nat} (hi : i < 50) (hne : pickN (A i) n ≠ pickN (B i) n) :
    addEs n (madeK n A B i) i (pickN (A i) n) (pickN (B i) n) = madeK n A B (i + 1) ∧ addErr n (madeK n A B i) i (pickN (A i) n) (pickN (B i) n) = 0 := by
  have h1 := pickN_lt (A i) hn
  have h2 := pickN_lt (B i) hn
  have hl := madeK_len n A B i
  have b1 : ¬ addBad n (i : Int) (pickN (A i) n) (pickN (B i) n) := by unfold addBad; omega
  have b2 : ¬ ((pickN (A i) n : Nat) : Int) = (pickN (B i) n : Nat) := by omega
  have b3 : hasId (madeK n A B i) (i : Int) = false := by
    cases h : hasId (madeK n A B i) (i : Int) with
    | false => rfl
    | true =>
      obtain ⟨e, he, hid⟩ := hasId_iff.1 h
      have := (madeK_mem hn he).1
      omega
  have b4 : ¬ 120 ≤ (madeK n A B i).length := by omega
  constructor
  · unfold addEs
    rw [if_neg (by rintro (h | h | h | h); exact b1 h; exact b2 h; rw [b3] at h; cases h; exact b4 h)]
    rw [posOf_all (fun e he => by have := (madeK_mem hn he).1; omega)]
    unfold ins
    rw [List.take_length, List.drop_length]
    show _ = madeK n A B i ++ kedge n A B i
    unfold kedge mkE
    rw [if_neg hne]
    congr 2
    simp only [E.mk.injEq]
    refine ⟨by omega, by omega, by omega⟩
  · unfold addErr
    rw [if_neg b1, if_neg b2, if_neg (by rw [b3]; simp), if_neg b4]

theorem kedge_eq {n : Nat} {A B : Nat → Int} {i : Nat} (h : pickN (A i) n = pickN (B i) n) : madeK n A B (i + 1) = madeK n A B i := by
  show madeK n A B i ++ kedge n A B i = _
  unfold kedge; rw [if_pos h, List.append_nil]

def KMRel (w : World) (n : Nat) (A B : Nat → Int) (gb i : Nat) (wr : World) : Prop :=
  Gr (fun k => w.heap.size ≤ k ∧ k < wr.heap.size) wr gb n (madeK n A B i) ∧ Keep Nb w wr

def KMadePost (w : World) (n : Nat) (A B : Nat → Int) (m : Nat) (e : Ending) (w' : World) : Prop :=
  ∃ gb, e = .returned (.pointer (some ⟨gb, 0, none⟩)) ∧ KMRel w n A B gb m w'

theorem pick_q {x : Int} {n t : Nat} (h : ∀ w, Calls Try.prog 17 #[.int .i64 x, .int .i64 n] w fun e w' => e = .returned (.int .i64 t) ∧ w = w') {w : World} {m : Nat} :
    Calls Try.prog 17 #[.int .i64 x, .int .i64 n] (w.drewN m) fun e w'' => e = .returned (.int .i64 t) ∧ ∃ m, w'' = w.drewN m :=
  (h _).mono fun _ _ hh => ⟨hh.1, m, hh.2.symm⟩

theorem pick_tt (a : Int) (n t : Nat) (ht : pickN a n = t) (hn : 0 < n) (hn2 : n ≤ 1000000) : ∀ w, Calls Try.prog 17 #[.int .i64 a, .int .i64 n] w fun e w' => e = .returned (.int .i64 t) ∧ w = w' := by
  subst ht; exact pick_any a n hn hn2

set_option maxRecDepth 100000 in
set_option maxHeartbeats 1000000 in
theorem kmade_any (n0 : Int) (b off len cap : Nat) (oa : Option Addr) (hoa : 0 < len → oa = some ⟨b, off, none⟩) (A B : Nat → Int) (n m : Nat) (hn0 : n = 2 + pickN n0 13) (hm : m = min len 50) (hlen : len ≤ 1000) (hcap : len ≤ cap) (w : World) (hbw : 0 < len → b < w.heap.size) (hP : Prs w b off len A B) :
    Calls Try.prog 5 #[.int .i64 n0, .slice oa len cap] w (KMadePost w n A B m) := by
  have HOA := Lib.hid hoa
  have HPP := Lib.hid hP
  have HBW := Lib.hid hbw
  have hn15 : n ≤ 14 := by have := pickN_lt n0 (n := 13) (by omega); omega
  have hn2 : 2 ≤ n := by omega
  have HM := Lib.hid hm
  obtain ⟨p0, hp0⟩ : ∃ p0, pickN n0 13 = p0 := ⟨_, rfl⟩
  have HP0 := Lib.hid (pick_tt n0 13 p0 hp0 (by omega) (by omega))
  rw [hp0] at hn0
  have hnn : (2 : Int) + (p0 : Nat) = (n : Nat) := by omega
  have hp13 : p0 ≤ 12 := by omega
  clear hoa hP hbw hp0 hn0 hm
  go_enter Try.func5, Try.ntmps5
  go_wp2_with fail
  refine (HP0.out _).mono ?_
  rintro e w1 ⟨rfl, rfl⟩
  go_wp2_with fail
  refine (gnew_any _ n (by omega)).mono ?_
  rintro e1 w1 ⟨rfl, hG1, hk1, hz1⟩
  have H0 : Hid (KMRel w n A B w.heap.size 0 w1) := Lib.hid ⟨hG1.mono (fun k hk => by omega), hk1⟩
  clear hG1 hk1 hz1 hnn
  go_wp2_with fail
  go_loopg [7] 50 (fun kx s wr => ∃ i : Nat, s = .int .i64 i ∧ i ≤ len ∧ i ≤ 50 ∧ 50 - i ≤ kx ∧ Hid (KMRel w n A B w.heap.size i wr))
  case atStart => exact ⟨0, rfl, Nat.zero_le _, Nat.zero_le _, by omega, H0⟩
  case round =>
    clear H0
    obtain ⟨i, rfl, hi, hi50, hg, HR⟩ := hrel
    by_cases hlt : i < len ∧ i < 50
    · obtain ⟨hlt, hlt2⟩ := hlt
      have ho := HOA.out (by omega)
      subst ho
      have hP' := HPP.out.keep HR.out.2 (fun e => e)
      have a0 := hP'.a i hlt
      have b0 := hP'.b i hlt
      obtain ⟨pa, hpa⟩ : ∃ pa, pickN (A i) n = pa := ⟨_, rfl⟩
      obtain ⟨pb, hpb⟩ : ∃ pb, pickN (B i) n = pb := ⟨_, rfl⟩
      have HX := Lib.hid (pick_tt (A i) n pa hpa (by omega) (by omega))
      have HY := Lib.hid (pick_tt (B i) n pb hpb (by omega) (by omega))
      have hpan : pa < n := by rw [← hpa]; exact pickN_lt _ (by omega)
      have hpbn : pb < n := by rw [← hpb]; exact pickN_lt _ (by omega)
      have HPA := Lib.hid hpa
      have HPB := Lib.hid hpb
      clear hpa hpb hP'
      go_wp2_with fail
      go_quiet (first | (go_at_call_of 17 (Value.int IntKind.i64 (A i)); exact pick_q HX.out) | (go_at_call_of 17 (Value.int IntKind.i64 (B i)); exact pick_q HY.out))
      by_cases hab : pa = pb
      · have HN : Hid (KMRel w n A B w.heap.size (i + 1) (wr.drewN nq)) := Lib.hid (by
          unfold KMRel
          rw [kedge_eq (by rw [HPA.out, HPB.out, hab])]
          exact ⟨HR.out.1.keep ((Keep.refl Nb wr).drewN nq) (fun _ _ e => e), HR.out.2.drewN nq⟩)
        subst hab
        clear a0 b0
        go_wp2_with fail
        go_roundg (50 - (i + 1))
        case measure => omega
        case rel => exact ⟨i + 1, rfl, by omega, by omega, Nat.le_refl _, HN⟩
      · have hne : ((pa : Int) != (pb : Int)) = true := by rw [bne_iff_ne]; omega
        have hK := addK (A := A) (B := B) (n := n) (by omega) hlt2 (by rw [HPA.out, HPB.out]; exact hab)
        rw [HPA.out, HPB.out] at hK
        have HK := Lib.hid hK
        clear hK hab a0 b0
        go_wp2_with fail
        refine (add_any (fun k => w.heap.size ≤ k ∧ k < wr.heap.size) _ _ n (madeK n A B i) i pa pb (HR.out.1.keep ((Keep.refl Nb wr).drewN nq) (fun _ _ e => e)) (fun k hk => hk.2) (madeK_sorted (by omega) i) (by omega) (by have := madeK_len n A B i; omega)).mono ?_
        rintro e1 w2 ⟨he, hg2, hk2⟩
        rw [HK.out.2, if_pos rfl] at he
        rw [HK.out.1] at hg2
        subst he
        have HN : Hid (KMRel w n A B w.heap.size (i + 1) w2) := Lib.hid (by
          have z := HR.out.2.size
          have z2 := hk2.size
          have hzd : (wr.drewN nq).heap.size = wr.heap.size := rfl
          refine ⟨hg2.tight.mono (fun k hk => by omega), (HR.out.2.drewN nq).trans' hk2 (fun _ _ e => e) (fun k hk e => by show False; omega)⟩)
        clear hg2 hk2
        go_wp2_with fail
        go_roundg (50 - (i + 1))
        case measure => omega
        case rel => exact ⟨i + 1, rfl, by omega, by omega, Nat.le_refl _, HN⟩
    · have him : i = m := by have := HM.out; omega
      have HP : Hid (KMadePost w n A B m (.returned (.pointer (some ⟨w.heap.size, 0, none⟩))) wr) := Lib.hid ⟨_, rfl, by rw [← him]; exact HR.out⟩
      clear HR him
      have hge : ¬ (i < len) ∨ ¬ (i < 50) := by omega
      by_cases h1 : i < len
      · have h2 : ¬ i < 50 := by omega
        go_wp2_with fail
        go_ret
        exact HP.out
      · go_wp2_with fail
        go_ret
        exact HP.out


end Go.Proofs.Ytkpoobnldgfapab
