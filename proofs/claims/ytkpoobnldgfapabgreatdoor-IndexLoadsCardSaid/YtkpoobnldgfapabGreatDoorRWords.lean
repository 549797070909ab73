/- isthmusref.Words. -/
import Derived.Test.YtkpoobnldgfapabGreatDoorStrKit
import Derived.Test.YtkpoobnldgfapabGreatDoorA1
import Derived.Test.YtkpoobnldgfapabGreatDoorA2
import Derived.Test.YtkpoobnldgfapabGreatDoorPlText
import Derived.Deep.LoopGhost
set_option linter.unusedVariables false
set_option linter.unusedSimpArgs false
namespace Go.Proofs.YtkpoobnldgfapabGreatDoor
open Go.RowKit Pl

theorem elem_str : ElemT Tryz.prog 9 (.string ByteArray.empty) 1 16 := by unfold ElemT; kernel_rfl

/-- Numbers with blanks between. -/
def wordsT (l : List Nat) : List UInt8 := Lib.join (l.map (fun x : Nat => Lib.itoa (x : Int))) [32]

theorem join_cons2 (x y : List UInt8) (r : List (List UInt8)) (sep : List UInt8) : Lib.join (x :: y :: r) sep = x ++ sep ++ Lib.join (y :: r) sep := by
  rw [Lib.join_cons, Lib.join_cons]; simp [Lib.joinTail]

theorem join_len : ∀ (l : List (List UInt8)) (k : Nat), (∀ x, x ∈ l → x.length ≤ k) → (Lib.join l [32]).length ≤ (k + 1) * l.length
  | [], k, _ => by simp [Lib.join_nil]
  | [x], k, h => by have := h x (by simp); rw [Lib.join_one]; simp; omega
  | x :: y :: r, k, h => by
    have h1 := h x (by simp)
    have h2 := join_len (y :: r) k (fun z hz => h z (List.mem_cons_of_mem _ hz))
    rw [join_cons2]
    simp only [List.length_append, List.length_cons, List.length_nil] at h2 ⊢
    have h3 : (k + 1) * (r.length + 1 + 1) = (k + 1) * (r.length + 1) + (k + 1) := by rw [Nat.mul_add, Nat.mul_one]
    omega

set_option maxRecDepth 100000 in
set_option maxHeartbeats 4000000 in
theorem rwords_any (F : Nat → Prop) (w : World) (hL : LibW w) (o : Option Addr) (n c : Nat) (l : List Nat) (hS : Sl F w 3 1 o n c (ints l)) (hn : n ≤ 1000) (hb : ∀ x, x ∈ l → x < 9223372036854775808) :
    Calls Tryz.prog 130 #[.slice o n c] w fun e w' => e = .returned (.string (bstr (wordsT l))) ∧ Keep Nb w w' := by
  have HS := Lib.hid hS.tight
  have HL := Lib.hid hL
  have HB := Lib.hid hb
  have hln : l.length = n := by have := hS.len; rw [ints_length] at this; omega
  have HLN := Lib.hid hln
  clear hS hL hb hln
  go_enter Tryz.func130, Tryz.ntmps130
  go_wp2_with fail
  go_loopg [3, 8] n (fun kx s3 s8 wr => ∃ (i : Nat) (o2 : Option Addr) (c2 : Nat), s3 = .slice o2 i c2 ∧ s8 = .int .i64 i ∧ i ≤ n ∧ n - i ≤ kx ∧ Hid (Sl (fun k => w.heap.size ≤ k) wr 9 1 o2 i c2 (strs ((l.take i).map (fun x : Nat => bstr (Lib.itoa (x : Int))))) ∧ Keep Nb w wr))
  case atStart => exact ⟨0, none, 0, rfl, rfl, Nat.zero_le _, by omega, Lib.hid ⟨Sl.nil _ _ _ _, Keep.refl _ _⟩⟩
  case round =>
    obtain ⟨i, o2, c2, rfl, rfl, hi, hg, HR⟩ := hrel
    by_cases hlt : i < n
    · as_aux_lemma =>
      obtain ⟨x, hx⟩ : ∃ x, l[i]? = some x := ⟨_, List.getElem?_eq_getElem (by rw [HLN.out]; exact hlt)⟩
      obtain ⟨go, rfl, _, hnc, hrow⟩ := (HS.out.keep HR.out.2 (fun _ _ e => e)).pos (by omega)
      have d0 := hrow.cell (ints_get hx)
      have hxb := HB.out x (List.mem_of_getElem? hx)
      have HI := Lib.hid (itoa_any wr (HL.out.keep HR.out.2) (x : Int) (by omega) (by omega))
      have HX := Lib.hid hx
      clear hx hrow hxb
      go_wp2_with fail
      refine HI.out.mono ?_
      rintro e1 w2 ⟨rfl, hk2⟩
      have hS2 := HR.out.1.keep hk2 (fun _ _ e => e)
      obtain ⟨gq, cq, w4, r1, r2, r3, r4⟩ := run_app1 (P := Tryz.prog) 88 88 9 Tryz.underlying88 elem_str rfl hS2 (.string (bstr (Lib.itoa (x : Int)))) rfl (by omega) (by omega)
      have HN : Hid (Sl (fun k => w.heap.size ≤ k) w4 9 1 (some ⟨gq, 0, none⟩) (i + 1) cq (strs ((l.take (i + 1)).map (fun x : Nat => bstr (Lib.itoa (x : Int))))) ∧ Keep Nb w w4) := Lib.hid ⟨by
        have h1 : strs ((l.take (i + 1)).map (fun x : Nat => bstr (Lib.itoa (x : Int)))) = strs ((l.take i).map (fun x : Nat => bstr (Lib.itoa (x : Int)))) ++ [.string (bstr (Lib.itoa (x : Int)))] := by
          rw [List.take_add_one, HX.out]; simp [strs]
        rw [h1]
        exact r2.mono (fun j hj => by
          rcases hj with h | h
          · exact h
          · have h : j = w2.heap.size + 1 := h
            have := HR.out.2.size
            have := hk2.size
            show w.heap.size ≤ j; omega),
        (HR.out.2.trans hk2).trans' r3 (fun _ _ e => e) (fun j hj ⟨a, ha, hb⟩ => by
          have h1 : w.heap.size ≤ a.block := HR.out.1.foot a ha
          rw [hb] at h1; show False; omega)⟩
      have H1 := Lib.hid r1
      clear r1 r2 r3 r4 hS2 hk2 HI
      go_wp2_with (at_builtin; refine wpList_app rfl _ _ _ rfl rfl rfl H1.out ?_)
      go_roundg (n - (i + 1))
      case measure => omega
      case rel => exact ⟨i + 1, _, _, rfl, by go_num, by omega, Nat.le_refl _, HN⟩
    · obtain rfl : n = i := by omega
      have HJ := Lib.hid (sjoin_any _ wr o2 n c2 (l.map (fun x : Nat => bstr (Lib.itoa (x : Int)))) ⟨#[32]⟩ (by
        have h1 := HR.out.1
        rw [← HLN.out, List.take_length] at h1
        rw [← HLN.out]; exact h1) (by omega) (by
          have e1 : (l.map (fun x : Nat => bstr (Lib.itoa (x : Int)))).map (·.data.toList) = l.map (fun x : Nat => Lib.itoa (x : Int)) := by rw [List.map_map]; rfl
          rw [e1]
          have h2 := join_len (l.map (fun x : Nat => Lib.itoa (x : Int))) 21 (fun y hy => by
            obtain ⟨x, hx, rfl⟩ := List.mem_map.1 hy
            exact itoa_len (HB.out x hx))
          rw [List.length_map, HLN.out] at h2
          have e2 : (⟨#[32]⟩ : ByteArray).data.toList = [32] := rfl
          rw [e2]
          omega))
      go_wp2_with fail
      refine HJ.out.mono ?_
      rintro e1 w2 ⟨rfl, hk2⟩
      have HK := Lib.hid (HR.out.2.trans hk2)
      clear hk2
      go_wp2_with fail
      go_ret
      refine ⟨?_, HK.out⟩
      unfold wordsT
      rfl

end Go.Proofs.YtkpoobnldgfapabGreatDoor
