/- Part 6 of the proof: SSeq. -/
import Derived.Test.YtkpoobnldgfapabGreatDoorIl03
import Derived.Test.YtkpoobnldgfapabGreatDoorIl04
import Derived.Test.YtkpoobnldgfapabGreatDoorIl05
import Derived.RangeFuncBox
import Derived.TacticsIn
import Derived.LoopIn
import Derived.OwnWalkIn
import Derived.Shelf.Strings.Search3
set_option linter.unusedVariables false
set_option linter.unusedSimpArgs false
namespace Go.Proofs.YtkpoobnldgfapabGreatDoor
open Go.RowKit
attribute [local go_sem] Oper.semAt_some
theorem sseq_any (w : World) (s sep : ByteArray) : Calls Tryz.prog 111 #[.string s, .string sep] w fun e w' =>
    e = .returned (.func (.func 250) #[] #[.pointer (some ⟨w.heap.size + 1, 0, none⟩), .pointer (some ⟨w.heap.size, 0, none⟩), .pointer (some ⟨w.heap.size + 2, 0, none⟩)]) ∧
    w' = ((w.alloc (.cells #[.string s] 9)).alloc (.cells #[.string sep] 9)).alloc (.cells #[.int .i64 0] 3) := by
  go_enter Tryz.func111, Tryz.ntmps111
  go_wp2
  go_ret
  exact ⟨rfl, rfl⟩
theorem index1_any (w : World) (s : List UInt8) (c : UInt8) : Calls Tryz.prog 247 #[.string (bstr s), .string ⟨#[c]⟩] w fun e w' => e = .returned (.int .i64 (Lib.indexByte s c)) ∧ w' = w := by
  have := Any.strings_Index_one Tryz.lays143 (bstr s) c w
  have hs : (bstr s).data.toList = s := by simp [bstr]
  rw [hs] at this
  exact this
theorem bstr_cut (s : List UInt8) (i : Nat) : (bstr s).extract 0 i = bstr (s.take i) := by
  apply ByteArray.ext; apply Array.ext'; simp [bstr]
theorem bstr_rest (s : List UInt8) (i : Nat) : (bstr s).extract i s.length = bstr (s.drop i) := by
  apply ByteArray.ext; apply Array.ext'; simp [bstr]
  exact List.take_of_length_le (by simp)
def strLen (w : World) (B : Nat) : Nat := match w.cell? ⟨B, 0, none⟩ with | some (.string s) => s.size | _ => 0
set_option maxRecDepth 100000 in
set_option maxHeartbeats 2000000 in
theorem sseq_runs (m : Nat) (B : Nat) (c : UInt8) (l : List UInt8) (w : World) (hl : l.length < 4294967281) (h0 : w.heap[B]? = some (.cells #[.string (bstr l)] 9 (0, 0))) (h1 : w.heap[B + 1]? = some (.cells #[.string ⟨#[c]⟩] 9 (0, 0))) (h2 : w.heap[B + 2]? = some (.cells #[.int .i64 0] 3 (0, 0))) :
    SeqRuns Fence.wide m Tryz.prog 250 #[.pointer (some ⟨B + 1, 0, none⟩), .pointer (some ⟨B, 0, none⟩), .pointer (some ⟨B + 2, 0, none⟩)] (fun x : List UInt8 => #[.string (bstr x)]) (pcz c l) B w := by
  intro y J Jx W hB hz hJ hJx hY hj0
  refine callsIn_of_wp Tryz.func250 rfl trivial ?_ rfl
  simp only [Tryz.ntmps250, List.size_toArray, List.length_cons, List.length_nil, Nat.reduceAdd, Nat.reduceSub, Array.replicate_succ, Array.replicate_zero, List.push_toArray, List.append_toArray, List.nil_append, List.cons_append]
  have g1 : W.cell? ⟨B + 1, 0, none⟩ = some (.string ⟨#[c]⟩) := Boxed.cell (t := 9) ((hB _ (by omega) (by omega)).trans h1)
  have HYD := Lib.hid hY
  have HJ := Lib.hid (And.intro hJ hJx)
  clear hY hJ hJx
  gi_wp2
  gi_loopw [7] (fun _ wr => ∃ (pre : List (List UInt8)) (rest : List UInt8), Hid (pcz c l = pre ++ pcz c rest ∧ rest.length ≤ l.length) ∧ Hid (J pre wr) ∧ wr.heap[B]? = some (.cells #[.string (bstr rest)] 9 (0, 0)) ∧ wr.heap[B + 1]? = some (.cells #[.string ⟨#[c]⟩] 9 (0, 0)) ∧ wr.heap[B + 2]? = some (.cells #[.int .i64 0] 3 (0, 0)))
    (fun _ wr => strLen wr B)
  case atStart => exact ⟨[], l, Lib.hid ⟨rfl, Nat.le_refl _⟩, Lib.hid hj0, (hB _ (by omega) (by omega)).trans h0, (hB _ (by omega) (by omega)).trans h1, (hB _ (by omega) (by omega)).trans h2⟩
  case round =>
    obtain ⟨pre, rest, HP, HJR, b0, b1, b2⟩ := hrel
    have d0 := Boxed.cell (t := 9) b0
    have d1 := Boxed.cell (t := 9) b1
    have d2 := Boxed.cell (t := 3) b2
    have f0 := Boxed.frozen (t := 9) b0
    have HB := Lib.hid (And.intro b0 (And.intro b1 b2))
    clear b0 b1 b2
    gi_wp2
    refine And.intro trivial (And.intro (fun h => absurd h (by simp [Fence.wide])) ?_)
    refine ((callsIn_wide (n := m - 1)).2 (index1_any wr rest c)).mono ?_
    rintro e w1 ⟨rfl, rfl⟩
    have hge := Lib.indexByte_ge rest c
    by_cases hm : Lib.indexByte rest c = -1
    · rw [hm]
      have hend : pcz c l = pre ++ rest :: [] := by rw [HP.out.1, pcz_miss hm]
      have HE := Lib.hid hend
      obtain ⟨f1, t1, a1, b1, hy1, hR1⟩ := HYD.out pre rest [] w1 hend HJR.out
      have HR1 := Lib.hid hR1
      clear hR1 hend
      gi_wp2
      refine And.intro (fun h => absurd h (by simp [Fence.wide])) (HR1.out.mono ?_)
      rintro e W1 (⟨rfl, hJ1, _⟩ | ⟨rfl, hx1⟩)
      · have HD := Lib.hid hJ1
        clear hJ1
        gi_wp2
        go_end0
        exact ⟨⟨_, rfl⟩, .inl (by rw [HE.out]; exact HD.out)⟩
      · have HD := Lib.hid hx1
        clear hx1
        gi_wp2
        go_end0
        exact ⟨⟨_, rfl⟩, .inr ⟨_, by rw [HE.out]; exact List.prefix_refl _, HD.out⟩⟩
    · obtain ⟨o, ho⟩ : ∃ o : Nat, Lib.indexByte rest c = o := ⟨(Lib.indexByte rest c).toNat, by omega⟩
      have hpc := pcz_hit ho
      have hlt := (List.getElem?_eq_some_iff.1 (Lib.indexByte_some ho).1).1
      rw [ho]
      have hlr := HP.out.2
      have q1 : wrap64 (o : Int) = o := by unfold wrap64; omega
      have q2 : wrap64 ((o : Int) + 1) = o + 1 := by unfold wrap64; omega
      have q3 : ¬ (rest.length < o) := by omega
      have q4 : ¬ (rest.length < o + 1) := by omega
      have q5 : o ≤ rest.length := by omega
      have q6 : o + 1 ≤ rest.length := by omega
      have q7 : (o : Int) ≤ rest.length := by omega
      have q8 : (o : Int) + 1 ≤ rest.length := by omega
      have hend : pcz c l = pre ++ rest.take o :: pcz c (rest.drop (o + 1)) := by rw [HP.out.1, hpc]
      have HE := Lib.hid hend
      obtain ⟨f1, t1, a1, b1, hy1, hR1⟩ := HYD.out pre _ _ w1 hend HJR.out
      rw [← bstr_cut] at hy1
      have HR1 := Lib.hid hR1
      clear hR1 hend hpc
      gi_wp2
      refine And.intro (fun h => absurd h (by simp [Fence.wide])) (HR1.out.mono ?_)
      rintro e W1 (⟨rfl, hJ1, hb1, hz1⟩ | ⟨rfl, hx1⟩)
      · have HD := Lib.hid hJ1
        have b0 := (hb1 B (by omega) (by omega)).trans HB.out.1
        have b1 := (hb1 (B + 1) (by omega) (by omega)).trans HB.out.2.1
        have b2 := (hb1 (B + 2) (by omega) (by omega)).trans HB.out.2.2
        have d0 := Boxed.cell (t := 9) b0
        have d1 := Boxed.cell (t := 9) b1
        have f0 := Boxed.frozen (t := 9) b0
        have HB1 := Lib.hid (And.intro b0 (And.intro b1 b2))
        clear b0 b1 b2 hJ1 hb1
        gi_wp2
        rw [bstr_rest]
        have hbx : Boxed (W1.setCell ⟨B, 0, none⟩ (.string (bstr (rest.drop (o + 1))))) B 9 (.string (bstr (rest.drop (o + 1)))) := Boxed.set (t := 9) _ HB1.out.1
        have hoth : ∀ k, k ≠ B → (W1.setCell ⟨B, 0, none⟩ (.string (bstr (rest.drop (o + 1))))).heap[k]? = W1.heap[k]? := fun k hk => Below.heap_setCell _ _ _ k hk
        constructor
        · refine ⟨pre ++ [rest.take o], rest.drop (o + 1), Lib.hid ⟨by rw [HE.out, List.append_assoc]; rfl, by rw [List.length_drop]; omega⟩, Lib.hid (HJ.out.1 _ _ _ HD.out ((Keep.refl (fun k => k = B) W1).setCell (.inl rfl) _)), hbx, (hoth _ (by omega)).trans HB1.out.2.1, (hoth _ (by omega)).trans HB1.out.2.2⟩
        · have e1 := hbx.cell
          have e2 := Boxed.cell (t := 9) HB.out.1
          unfold strLen
          rw [e1, e2]
          simp only [bstr_size, List.length_drop]
          omega
      · have HD := Lib.hid hx1
        clear hx1
        gi_wp2
        refine bodyPost_ret (results_none rfl _ _ _) rfl ?_
        exact ⟨⟨_, rfl⟩, .inr ⟨_, by rw [HE.out]; exact ⟨_, by rw [List.append_assoc]; rfl⟩, HD.out⟩⟩
end Go.Proofs.YtkpoobnldgfapabGreatDoor

