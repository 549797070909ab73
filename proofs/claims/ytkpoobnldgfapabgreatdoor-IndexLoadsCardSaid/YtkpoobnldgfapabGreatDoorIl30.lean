/- Part 30 of the proof: RBr RSav. -/
import Derived.Test.YtkpoobnldgfapabGreatDoorIl19
import Derived.Test.YtkpoobnldgfapabGreatDoorIl23
import Derived.Test.YtkpoobnldgfapabGreatDoorIl27
import Derived.Test.YtkpoobnldgfapabGreatDoorIl28
import Derived.Test.YtkpoobnldgfapabGreatDoorIl29
import Derived.Deep.DeepCutAuto
set_option linter.unusedVariables false
set_option linter.unusedSimpArgs false
namespace Go.Proofs.YtkpoobnldgfapabGreatDoor
open Go.RowKit Pl
theorem sorted_of {es fs ds : List E} (hs : Sorted es) (hp : es.Perm fs) (hd : ds.Perm fs) (hw : ds.Pairwise (fun a b => ¬ b.id < a.id)) : ds = es := by
  have hde : ds.Perm es := hd.trans hp.symm
  refine sorted_ext ?_ hs (fun e => hde.mem_iff)
  have h1 : es.Pairwise (fun e f => e.id ≠ f.id) := hs.imp (fun h e => by omega)
  have h2 : ds.Pairwise (fun e f => e.id ≠ f.id) := (hde.pairwise_iff (fun h e => h e.symm)).2 h1
  exact (hw.and h2).imp (fun h => by have := h.1; have := h.2; omega)
end Go.Proofs.YtkpoobnldgfapabGreatDoor

namespace Go.Proofs.YtkpoobnldgfapabGreatDoor
open Go.RowKit Pl
theorem wordsT1 (x : Nat) : wordsT [x] = Lib.itoa (x : Int) := by simp [wordsT, Lib.join_one]
theorem wordsT3 (x y z : Nat) : wordsT [x, y, z] = Lib.itoa (x : Int) ++ [32] ++ Lib.itoa (y : Int) ++ [32] ++ Lib.itoa (z : Int) := by
  simp [wordsT, join_cons2, Lib.join_one]
theorem bs_app2 (a b : List UInt8) : bstr a ++ bstr b = bstr (a ++ b) := by
  apply ByteArray.ext
  rw [ByteArray.data_append]
  simp
set_option maxRecDepth 100000 in
set_option maxHeartbeats 4000000 in
theorem rsaved_any (F : Nat → Prop) (w : World) (gb n : Nat) (fs es : List E) (hG : RGr F w gb n fs) (hL : LibW w) (hs : Sorted es) (hp : es.Perm fs) (hn : n ≤ 40) (hl : fs.length ≤ 120) (hsm : ∀ e, e ∈ es → e.id < 4611686018427387904 ∧ e.a < n ∧ e.b < n) :
    Calls Tryz.prog 69 #[.pointer (some ⟨gb, 0, none⟩)] w fun e w' => e = .returned (.string (bstr (savedT n es))) ∧ Keep Nb w w' := by
  have HG := Lib.hid hG
  have HL := Lib.hid hL
  have HS := Lib.hid hs
  have HP := Lib.hid hp
  have HSM := Lib.hid hsm
  obtain ⟨og, cg, hGM⟩ := hG
  have g0 := hGM.head.cell (i := 0) rfl
  obtain ⟨tn, htn⟩ : ∃ tn, Lib.itoa (n : Int) = tn := ⟨_, rfl⟩
  have hln : tn.length ≤ 21 := by rw [← htn]; exact itoa_len (by omega)
  have HTN := Lib.hid htn
  have HWD : Hid (Calls Tryz.prog 130 #[.slice (some ⟨w.heap.size, 0, none⟩) 1 1] (w.alloc (.cells #[.int .i64 (n : Nat)] 3)) fun e w' => e = .returned (.string (bstr tn)) ∧ Keep Nb w w') := Lib.hid (by
    have kA : Keep Nb w (w.alloc (.cells #[.int .i64 (n : Nat)] 3)) := (Keep.refl Nb w).alloc _
    have hS : Sl (fun k => k = w.heap.size) (w.alloc (.cells #[.int .i64 (n : Nat)] 3)) 3 1 (some ⟨w.heap.size, 0, none⟩) 1 1 (ints [n]) := Sl.built w 3 1 1 [.int .i64 (n : Nat)] rfl (by simp only [maxLen]; omega)
    refine (rwords_any _ _ (HL.out.keep kA) _ 1 1 [n] hS (by omega) (by simp; omega)).mono ?_
    rintro e w' ⟨rfl, k⟩
    rw [wordsT1, HTN.out]
    exact ⟨rfl, kA.trans k⟩)
  have q1 : ¬ 9223372036854775807 < tn.length + 1 := by omega
  clear hL hs hp hsm htn hGM
  go_enter Tryz.func69, Tryz.ntmps69
  go_wp2_with fail
  refine HWD.out.mono ?_
  rintro e1 w1 ⟨rfl, hk1⟩
  have HSO := Lib.hid (rsorted_any F w1 gb n fs (HG.out.keep hk1 (fun _ _ e => e)) (by omega))
  have HK1 := Lib.hid hk1
  clear hk1 HWD g0
  go_wp2_with fail
  refine HSO.out.mono ?_
  rintro e1 w2 ⟨ds, o2, c2, rfl, hp2, hs2, hS2, hk2⟩
  have hds := sorted_of HS.out HP.out hp2 hs2
  subst hds
  obtain ⟨m, hm⟩ : ∃ m, fs.length = m := ⟨_, rfl⟩
  rw [hm] at hS2 hl ⊢
  have HM : Hid (ds.length = m) := Lib.hid (by rw [HP.out.length_eq]; exact hm)
  have HS2 := Lib.hid hS2
  have HK2 := Lib.hid (HK1.out.trans hk2)
  have HB0 : Hid (bstr tn ++ ⟨#[10]⟩ = bstr (savedT n (ds.take 0))) := Lib.hid (by
    have h2 : (bstr tn ++ ⟨#[10]⟩) = bstr (tn ++ [10]) := bs_app2 _ [10]
    rw [h2, List.take_zero, savedT_zero, HTN.out])
  clear hp2 hs2 hS2 hk2 hm HSO
  go_wp2_with fail
  try rw [HB0.out]
  go_loopg [3, 16] m (fun kx s3 s16 wr => ∃ i : Nat, s3 = .string (bstr (savedT n (ds.take i))) ∧ s16 = .int .i64 i ∧ i ≤ m ∧ m - i ≤ kx ∧ Hid (Keep Nb w2 wr))
  case atStart => exact ⟨0, rfl, rfl, Nat.zero_le _, by omega, Lib.hid (Keep.refl _ _)⟩
  case round =>
    obtain ⟨i, rfl, rfl, hi, hg, HR⟩ := hrel
    by_cases hlt : i < m
    · as_aux_lemma =>
      obtain ⟨e, he⟩ : ∃ e, ds[i]? = some e := ⟨_, List.getElem?_eq_getElem (by rw [HM.out]; exact hlt)⟩
      have hsm := HSM.out e (List.mem_of_getElem? he)
      obtain ⟨go, rfl, hFg, hnc, hrow⟩ := (HS2.out.keep HR.out (fun _ _ e => e)).pos (by omega)
      have d0 := hrow.edges.id _ _ he
      have d1 := hrow.edges.a _ _ he
      have d2 := hrow.edges.b _ _ he
      obtain ⟨X, hX⟩ : ∃ X, wr.heap.size = X := ⟨_, rfl⟩
      obtain ⟨W, hW⟩ : ∃ W, wr.alloc (.cells #[.int .i64 e.id, .int .i64 e.a, .int .i64 e.b] 42) = W := ⟨_, rfl⟩
      have kW : Keep Nb wr W := by rw [← hW]; exact (Keep.refl Nb wr).alloc _
      have hRX : Row W X 42 (ecells e) := by rw [← hW, ← hX]; exact Row.new wr #[.int .i64 e.id, .int .i64 e.a, .int .i64 e.b] 42
      have hzW : W.heap.size = X + 1 := by rw [← hW, ← hX]; simp
      have c0 := hRX.cell (i := 0) rfl
      have c1 := hRX.cell (i := 1) rfl
      have c2 := hRX.cell (i := 2) rfl
      obtain ⟨tl, htl⟩ : ∃ t, wordsT [e.id, e.a, e.b] = t := ⟨_, rfl⟩
      have hline : lineT e = tl ++ [10] := by rw [← htl, wordsT3]; unfold lineT; simp
      have htl66 : tl.length ≤ 66 := by
        have := lineT_len (e := e) (by omega) (by omega) (by omega)
        rw [hline] at this; simp at this; omega
      have hll : (savedT n (ds.take i)).length ≤ 10000 := by
        have h1 := savedT_len (n := n) (es := ds.take i) (by omega) (fun f hf => by have := HSM.out f (List.mem_of_mem_take hf); omega)
        have h2 : (ds.take i).length ≤ i := by rw [List.length_take]; omega
        omega
      obtain ⟨ts, hts⟩ : ∃ t, savedT n (ds.take i) = t := ⟨_, rfl⟩
      have HNX : Hid (bstr ts ++ (bstr tl ++ ⟨#[10]⟩) = bstr (savedT n (ds.take (i + 1)))) := Lib.hid (by
        have h3 : ds.take (i + 1) = ds.take i ++ [e] := by rw [List.take_add_one, he]; rfl
        have b2 : (⟨#[10]⟩ : ByteArray) = bstr [10] := rfl
        rw [h3, savedT_snoc, hline, ← hts, b2, bs_app2, bs_app2])
      have HWD : Hid (Calls Tryz.prog 130 #[.slice (some ⟨X + 1, 0, none⟩) 3 3] (W.alloc (.cells #[.int .i64 e.id, .int .i64 e.a, .int .i64 e.b] 3)) fun e' w' => e' = .returned (.string (bstr tl)) ∧ Keep Nb W w') := Lib.hid (by
        have kA : Keep Nb W (W.alloc (.cells #[.int .i64 e.id, .int .i64 e.a, .int .i64 e.b] 3)) := (Keep.refl Nb W).alloc _
        have hS : Sl (fun k => k = W.heap.size) (W.alloc (.cells #[.int .i64 e.id, .int .i64 e.a, .int .i64 e.b] 3)) 3 1 (some ⟨W.heap.size, 0, none⟩) 3 3 (ints [e.id, e.a, e.b]) := Sl.built W 3 1 3 [.int .i64 e.id, .int .i64 e.a, .int .i64 e.b] rfl (by simp only [maxLen]; omega)
        rw [hzW] at hS
        refine (rwords_any _ _ (HL.out.keep (((HK2.out.trans HR.out).trans kW).trans kA)) _ 3 3 [e.id, e.a, e.b] hS (by omega) (fun x hx => by simp at hx; omega)).mono ?_
        rintro e' w' ⟨rfl, k⟩
        rw [htl]
        exact ⟨rfl, kA.trans k⟩)
      have p1 : ¬ 9223372036854775807 < tl.length + 1 := by omega
      have p2 : ¬ 9223372036854775807 < ts.length + (tl.length + 1) := by rw [← hts]; omega
      rw [hts]
      have HKW := Lib.hid kW
      clear he hrow hRX kW htl hline htl66 hll hts hsm
      go_wp2_with fail
      try rw [hW]
      try rw [hX]
      try rw [hzW]
      refine HWD.out.mono ?_
      rintro e1 w5 ⟨rfl, hk5⟩
      have HN : Hid (Keep Nb w2 w5) := Lib.hid (HR.out.trans (HKW.out.trans hk5))
      clear hk5 HWD hW hX d0 d1 d2 c0 c1 c2
      go_wp2_with fail
      try rw [HNX.out]
      go_roundg (m - (i + 1))
      case measure => omega
      case rel => exact ⟨i + 1, by first | rfl | exact congrArg Value.string HNX.out, by go_num, by omega, Nat.le_refl _, HN⟩
    · obtain rfl : m = i := by omega
      have HF : Hid (savedT n (ds.take m) = savedT n ds) := Lib.hid (by rw [← HM.out, List.take_length])
      rw [HF.out]
      go_wp2_with fail
      go_ret
      exact ⟨rfl, HK2.out.trans HR.out⟩
end Go.Proofs.YtkpoobnldgfapabGreatDoor

