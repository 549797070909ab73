/- Part 41 of the proof: IKept IKn5 A9 IBk. -/
import Derived.Test.YtkpoobnldgfapabGreatDoorIb01
import Derived.Test.YtkpoobnldgfapabGreatDoorIb08
import Derived.Test.YtkpoobnldgfapabGreatDoorIb12
import Derived.Test.YtkpoobnldgfapabGreatDoorIb13
import Derived.Test.YtkpoobnldgfapabGreatDoorIb32
import Derived.Test.YtkpoobnldgfapabGreatDoorIb34
import Derived.Test.YtkpoobnldgfapabGreatDoorIb38
import Derived.Test.YtkpoobnldgfapabGreatDoorIb39
import Derived.Test.YtkpoobnldgfapabGreatDoorIb40
set_option linter.unusedVariables false
set_option linter.unusedSimpArgs false
namespace Go.Proofs.YtkpoobnldgfapabGreatDoor
open Go.RowKit Pl Go.Maps
def esK : List E := [⟨5, 0, 2⟩]
theorem esK_add : addEs 3 [] 5 2 0 = esK := by decide +kernel
theorem esK_err : addErr 3 [] 5 2 0 = 0 := by decide +kernel
theorem esK_sorted : Sorted esK := List.pairwise_singleton _ _
theorem esK_lok : LOk 3 esK := ⟨fun e he => by simp [esK] at he; subst he; decide, by decide⟩
theorem esK_ok : IOk 3 esK := by rw [← esK_add]; exact (IOk.nil (by omega)).add 5 2 0
theorem esK_saved : savedT 3 esK = [51, 10, 53, 32, 48, 32, 50, 10] := by
  unfold savedT esK lineT
  simp only [itoa_nat, List.map_cons, List.map_nil]
  rw [Lib.decDigits_one (by omega), Lib.decDigits_one (by omega), Lib.decDigits_one (by omega), Lib.decDigits_one (by omega)]
  decide
theorem esK_ids {l : List Nat} (h : BridgeIds esK l) : l = [5] := by
  have h5 : 5 ∈ l := (h.mem 5).2 ⟨⟨5, 0, 2⟩, by simp [esK], rfl, by decide +kernel⟩
  have hall : ∀ x, x ∈ l → x = 5 := fun x hx => by
    obtain ⟨e, he, rfl, _⟩ := (h.mem x).1 hx
    simp [esK] at he
    subst he
    rfl
  cases l with
  | nil => cases h5
  | cons x r =>
    obtain rfl := hall x List.mem_cons_self
    cases r with
    | nil => rfl
    | cons y r =>
      obtain rfl := hall y (by simp)
      have := (List.pairwise_cons.1 h.sorted).1 5 (by simp)
      omega
set_option maxRecDepth 100000 in
set_option maxHeartbeats 2000000 in
theorem kept_any (w : World) (hL : LibW w) : Calls Tryz.prog 51 #[] w fun e w' => e = .returned (.bool true) ∧ Keep Nb w w' := by
  have HL := Lib.hid hL
  have HN : Hid (Calls Tryz.prog 53 #[.int .i64 3] w (INewPost w 3)) := Lib.hid (inew_any 3 (by omega) w)
  clear hL
  go_enter Tryz.func51, Tryz.ntmps51
  go_wp2_with fail
  refine HN.out.mono ?_
  rintro e w1 ⟨xb, rfl, hX, hk1⟩
  have HA : Hid (Calls Tryz.prog 55 #[.pointer (some ⟨xb, 0, none⟩), .int .i64 5, .int .i64 2, .int .i64 0] w1 fun e w' => e = .returned (.tuple #[.bool true, .nilIface]) ∧ IxK (fun k => w.heap.size ≤ k) w' xb 3 esK ∧ Keep (fun k => w.heap.size ≤ k) w1 w') := Lib.hid (by
    refine (iaddK_any _ w1 xb 3 [] 5 2 0 hX.known (IOk.nil (by omega))).mono ?_
    rintro e w' ⟨h1, h2, h3⟩
    rw [esK_err, if_pos rfl] at h1
    rw [esK_add] at h2
    have hc : (!decide (Conn (ends []) (2 : Int).toNat (0 : Int).toNat)) = true := by decide +kernel
    rw [hc] at h1
    exact ⟨h1, h2.mono (fun k hk _ => by
      rcases hk with hk | hk
      · exact hk
      · exact Nat.le_trans hk1.size hk), h3⟩)
  have HK1 := Lib.hid hk1
  clear hX hk1 HN
  go_wp2_with fail
  refine HA.out.mono ?_
  rintro e w2 ⟨rfl, hX, hk2⟩
  have HK2 : Hid (Keep Nb w w2) := Lib.hid (HK1.out.trans' hk2 (fun _ _ e => e) (fun j hj e => by show False; omega))
  have HSV : Hid (Calls Tryz.prog 50 #[.pointer (some ⟨xb, 0, none⟩)] w2 fun e w' => e = .returned (.string ⟨#[51, 10, 53, 32, 48, 32, 50, 10]⟩) ∧ Keep Nb w2 w') := Lib.hid (by
    have hX2 := hX
    obtain ⟨Fg, Fb, Fc, gb, bb, fs, r2, r3, r4, hM, -⟩ := hX2
    have h := isaved_any Fg w2 xb gb 3 esK _ _ _ _ hM.row hM.gr (HL.out.keep HK2.out) esK_ok.n40 esK_ok.le (fun e he => ⟨esK_ok.ok.small e he, (esK_ok.ok.over e he).1, (esK_ok.ok.over e he).2⟩)
    rw [esK_saved] at h
    exact h)
  clear hX hk2 HA HK1
  go_wp2_with fail
  refine HSV.out.mono ?_
  rintro e w3 ⟨rfl, hk3⟩
  have HK3 := Lib.hid (HK2.out.trans hk3)
  have HLD : Hid (Calls Tryz.prog 47 #[.string ⟨#[51, 10, 53, 32, 48, 32, 50, 10]⟩] w3 fun e w' => ∃ yb, e = .returned (.tuple #[.pointer (some ⟨yb, 0, none⟩), .nilIface]) ∧ IxK (fun k => w3.heap.size ≤ k) w' yb 3 esK ∧ Keep Nb w3 w') := Lib.hid (by
    refine (iload_any w3 (HL.out.keep HK3.out) [51, 10, 53, 32, 48, 32, 50, 10] (by decide)).mono ?_
    rintro e w' ⟨hk, h⟩
    have hld := ldI_saved (n := 3) (es := esK) (by omega) esK_sorted esK_lok
    rw [esK_saved] at hld
    rcases h with ⟨yb, n, es, rfl, h1, h2, h3, h4⟩ | ⟨_, hno⟩
    · rw [hld] at h1
      cases h1
      exact ⟨yb, rfl, h4.known, hk⟩
    · exact absurd esK_saved (hno 3 esK hld))
  clear hk3 HSV HK2
  go_wp2_with fail
  refine HLD.out.mono ?_
  rintro e w4 ⟨yb, rfl, hY, hk4⟩
  have HK4 := Lib.hid (HK3.out.trans hk4)
  have HB := Lib.hid (ibridgesK_any _ w4 yb 3 esK hY (by decide))
  clear hY hk4 HLD HK3
  go_wp2_with fail
  refine HB.out.mono ?_
  rintro e w5 ⟨l, o, c, rfl, hS, hB, hk5, -⟩
  obtain rfl := esK_ids hB
  have HK5 := Lib.hid (HK4.out.trans hk5)
  have HSA : Hid (Calls Tryz.prog 56 #[.slice o 1 c, .slice (some ⟨w5.heap.size, 0, none⟩) 1 1] (w5.alloc (.cells #[.int .i64 5] 3)) fun e w' => e = .returned (.bool true) ∧ Keep Nb w5 w') := Lib.hid (by
    have kA : Keep Nb w5 (w5.alloc (.cells #[.int .i64 5] 3)) := (Keep.refl Nb w5).alloc _
    have hS2 : Sl (fun k => k = w5.heap.size) (w5.alloc (.cells #[.int .i64 5] 3)) 3 1 (some ⟨w5.heap.size, 0, none⟩) 1 1 (ints [5]) := Sl.built w5 3 1 1 [.int .i64 5] rfl (by simp only [maxLen]; omega)
    refine (same_q _ _ _ o (some ⟨w5.heap.size, 0, none⟩) 1 1 c 1 [5] (hS.keep kA (fun _ _ e => e)) hS2 (by decide)).mono ?_
    rintro e w' ⟨h1, m, rfl⟩
    exact ⟨h1, kA.drewN m⟩)
  clear hS hB hk5 HB HK4
  go_wp2_with fail
  refine HSA.out.mono ?_
  rintro e w6 ⟨rfl, hk6⟩
  have HK6 := Lib.hid (HK5.out.trans hk6)
  clear hk6 HSA HK5
  go_wp2_with fail
  go_ret
  exact ⟨rfl, HK6.out⟩
end Go.Proofs.YtkpoobnldgfapabGreatDoor

namespace Go.Proofs.YtkpoobnldgfapabGreatDoor
open Go.RowKit Pl Go.Maps
set_option maxRecDepth 100000 in
theorem isavedK_any (F : Nat → Prop) (w : World) (xb n : Nat) (es : List E) (hX : IxK F w xb n es) (hL : LibW w) (hI : IOk n es) :
    Calls Tryz.prog 50 #[.pointer (some ⟨xb, 0, none⟩)] w fun e w' => e = .returned (.string (bstr (savedT n es))) ∧ Keep Nb w w' := by
  obtain ⟨Fg, Fb, Fc, gb, bb, fs, r2, r3, r4, hM, -⟩ := hX
  exact isaved_any Fg w xb gb n es _ _ _ _ hM.row hM.gr hL hI.n40 hI.le (fun e he => ⟨hI.ok.small e he, (hI.ok.over e he).1, (hI.ok.over e he).2⟩)
theorem pcs_cell {F : Nat → Prop} {w : World} {o : Option Addr} {m c : Nat} {L : List (Nat × Nat)} (hS : Sl F w 58 2 o m c (pcs L)) {a : Addr} (ha : o = some a) : ∀ (j : Nat) u, (pcs L)[j]? = some u → w.cell? (a.add j) = some u := by
  rcases hS.cases with ⟨rfl, _⟩ | ⟨g, rfl, _, _, _, hrow, _⟩
  · cases ha
  · cases ha
    intro j u hj
    have : (⟨g, 0, none⟩ : Addr).add j = ⟨g, j, none⟩ := by unfold Addr.add; split <;> simp_all
    rw [this]
    exact hrow.cell hj
theorem run_append_zero0 {P : Program} (w : World) (t ty e : TypeId) {z : Value} {size bytes : Nat} (ht : P.underlying t = some (.slice e)) (hE : ElemT P e z size bytes) (a : Addr) (b : Option Addr) (c c2 : Nat) :
    (Builtin.append_ #[t, t] ty #[.slice (some a) 0 c, .slice b 0 c2]).run P w = .ok (.slice (some a) 0 c) w := by
  obtain ⟨i, hi, hz, hs, hb⟩ := info_parts hE
  cases b <;> simp [Builtin.append_, run_underlying ht, sizeOf, typeInfo, hi, Builtin.lenOf, Builtin.firstCells, loadCells, loadCellsFrom, storeCells]
theorem run_copyP (w : World) (F : Nat → Prop) (o : Option Addr) (m c : Nat) (L : List (Nat × Nat)) (hS : Sl F w 58 2 o m c (pcs L)) (hm : m ≤ 100000) :
    ∃ (o' : Option Addr) (c' : Nat) (w' : World), (Builtin.append_ #[22, 22] 22 #[.slice (some ⟨w.heap.size, 0, none⟩) 0 0, .slice o m c]).run Tryz.prog (w.alloc (.cells #[] 58)) = .ok (.slice o' m c') w' ∧
      Sl (fun k => w.heap.size ≤ k) w' 58 2 o' m c' (pcs L) ∧ Keep Nb w w' := by
  have hB : Sl (fun k => k = w.heap.size) (w.alloc (.cells #[] 58)) 58 2 (some ⟨w.heap.size, 0, none⟩) 0 0 [] := Sl.built w 58 2 0 [] rfl (Nat.zero_le _)
  have hS1 := hS.alloc (.cells #[] 58)
  have kA : Keep Nb w (w.alloc (.cells #[] 58)) := (Keep.refl Nb w).alloc _
  have hlen : (pcs L).length = m * 2 := hS.len
  by_cases h0 : m = 0
  · subst h0
    have hp : pcs L = [] := List.eq_nil_of_length_eq_zero (by rw [hlen])
    rw [hp]
    exact ⟨_, 0, _, run_append_zero0 _ 22 22 58 und_pairs elem_pair _ o 0 c, hB.mono (fun k hk => by rw [hk]; exact Nat.le_refl _), kA⟩
  · obtain ⟨g, rfl, _, _, _⟩ := hS.pos (by omega)
    obtain ⟨g', c', w', r1, r2, r3, r4⟩ := run_app (P := Tryz.prog) 22 22 58 und_pairs elem_pair (by rfl) (by omega) hB ⟨g, 0, none⟩ m c (pcs L) hlen (pcs_cell hS1 rfl)
      (fun u hu => by
        unfold pcs at hu
        obtain ⟨p, _, hp⟩ := List.mem_flatMap.1 hu
        exact pcells_one p u hp) (by simp only [maxLen]; omega) (by omega) (by omega)
    rw [Nat.zero_add] at r1 r2
    rw [List.nil_append] at r2
    refine ⟨_, c', w', r1, r2.mono (fun k hk => ?_), kA.trans' r3 (fun _ _ e => e) (fun k hk e => ?_)⟩
    · have hz : (w.alloc (.cells #[] 58)).heap.size = w.heap.size + 1 := by simp
      rcases hk with hk | hk
      · rw [hk]; exact Nat.le_refl _
      · rw [hk, hz]; exact Nat.le_succ _
    · obtain ⟨a, ha, hab⟩ := e
      cases ha
      have hab : w.heap.size = k := hab
      omega
def ISplitsPost (F : Nat → Prop) (w : World) (xb n : Nat) (es : List E) (e : Ending) (w' : World) : Prop :=
  ∃ (o : Option Addr) (c : Nat), e = .returned (.slice o (allS (splitsB n es) n n).length c) ∧ Sl (fun k => w.heap.size ≤ k) w' 58 2 o (allS (splitsB n es) n n).length c (pcs (allS (splitsB n es) n n)) ∧ IStay F w xb n es w'
theorem allS_le (f : Nat → Nat → Bool) (n : Nat) : ∀ a : Nat, (allS f n a).length ≤ a * n
  | 0 => by simp [allS]
  | a + 1 => by
    have ih := allS_le f n a
    have h1 : allS f n (a + 1) = allS f n a ++ rowS f a n := by unfold allS; rw [List.range_succ, List.flatMap_append]; simp
    have h2 : (rowS f a n).length ≤ n := by unfold rowS; rw [List.length_map]; exact Nat.le_trans (List.length_filter_le _ _) (by simp)
    rw [h1, List.length_append, Nat.succ_mul]
    omega
theorem allS_len (f : Nat → Nat → Bool) (n : Nat) (hn : n ≤ 40) : (allS f n n).length ≤ 100000 :=
  Nat.le_trans (allS_le f n n) (Nat.le_trans (Nat.mul_le_mul hn hn) (by decide))
set_option maxRecDepth 100000 in
set_option maxHeartbeats 1000000 in
theorem iSplits_any (F : Nat → Prop) (w : World) (xb n : Nat) (es : List E) (hX : IxK F w xb n es) (hI : IOk n es) :
    Calls Tryz.prog 63 #[.pointer (some ⟨xb, 0, none⟩)] w (ISplitsPost F w xb n es) := by
  obtain ⟨Fg, Fb, Fc, gb, bb, fs, r2, r3, r4, hM, hF⟩ := hX
  have hlen := allS_len (splitsB n es) n hI.n40
  have c0 := hM.row.cell (i := 0) rfl
  have c4 := hM.row.cell (i := 4) rfl
  have f4 := hM.row.frozen 4 none
  have HM := Lib.hid hM
  have HF := Lib.hid hF
  have HI := Lib.hid hI
  have HPS := Lib.hid (pairs_any Fg w gb n es hM.gr (fun k h => (hM.g k h).2.2.2) hI.n40 (by have := hI.le; omega) hI.ok.over)
  unfold PairsPost at HPS
  unfold ISplitsPost
  obtain ⟨L, hL⟩ : ∃ L, allS (splitsB n es) n n = L := ⟨_, rfl⟩
  obtain ⟨m, hm⟩ : ∃ m, L.length = m := ⟨_, rfl⟩
  have hPA : ∀ (F : Nat → Prop) (w : World) (pb : Nat) (o : Option Addr) (c : Nat), Row w pb 22 [.slice o m c] → Sl F w 58 2 o m c (pcs L) → F pb → PsAt F w pb n es := fun F w pb o c h1 h2 h3 => by
    unfold PsAt
    rw [hL, hm]
    exact ⟨o, c, h1, h2, h3⟩
  have hPB : ∀ {F : Nat → Prop} {w : World} {pb : Nat}, PsAt F w pb n es → ∃ (o : Option Addr) (c : Nat), Row w pb 22 [.slice o m c] ∧ Sl F w 58 2 o m c (pcs L) ∧ F pb := fun h => by
    unfold PsAt at h
    rw [hL, hm] at h
    exact h
  rw [hL, hm] at HPS hlen ⊢
  have HPA := Lib.hid hPA
  rcases hM.kn.p with rfl | ⟨pb, rfl, hP⟩
  · clear hM hF hI hL hm hPA hPB
    go_enter Tryz.func63, Tryz.ntmps63
    go_wp2_with fail
    refine HPS.out.mono ?_
    rintro e w1 ⟨o, c, rfl, hS, hk⟩
    obtain ⟨pb, hpb⟩ : ∃ pb, w1.heap.size = pb := ⟨_, rfl⟩
    obtain ⟨W1, hW1⟩ : ∃ W1, w1.alloc (.cells #[.slice none 0 0] 22) = W1 := ⟨_, rfl⟩
    have hR1 : Row W1 pb 22 [.slice none 0 0] := by rw [← hW1, ← hpb]; exact Row.new w1 #[.slice none 0 0] 22
    have kA : Keep Nb w1 W1 := by rw [← hW1]; exact (Keep.refl Nb w1).alloc _
    have d0 := hR1.cell (i := 0) rfl
    have g0 := hR1.frozen 0 none
    obtain ⟨W2, hW2⟩ : ∃ W2, W1.setCell ⟨pb, 0, none⟩ (.slice o m c) = W2 := ⟨_, rfl⟩
    have hwpb : w.heap.size ≤ pb := by rw [← hpb]; exact hk.size
    have hR2 : Row W2 pb 22 [.slice o m c] := by rw [← hW2]; exact hR1.set (i := 0) (by simp) _
    have kB : Keep (fun j => j = pb) W1 W2 := by rw [← hW2]; exact (Keep.refl (fun j => j = pb) W1).setCell (.inl rfl) _
    have k2 : Keep Nb w W2 := (hk.trans kA).trans' kB (fun _ _ e => e) (fun j hj e => by show False; omega)
    have hS2 : Sl (fun k => w.heap.size ≤ k ∧ k < w1.heap.size) W2 58 2 o m c (pcs L) := ((hS.tight).keep kA (fun _ _ e => e)).keep kB (fun j h1 h2 => by have := h1.2; omega)
    have hX2 := HM.out.row.keep k2 (fun e => e)
    have e4 := hX2.cell (i := 4) rfl
    have y4 := hX2.frozen 4 none
    obtain ⟨W3, hW3⟩ : ∃ W3, W2.setCell ⟨xb, 4, none⟩ (.pointer (some ⟨pb, 0, none⟩)) = W3 := ⟨_, rfl⟩
    have kC : Keep (fun j => j = xb) W2 W3 := by rw [← hW3]; exact (Keep.refl (fun j => j = xb) W2).setCell (.inl rfl) _
    have hxl := HM.out.row.lt
    have z1 := hk.size
    have hz2 : pb < W2.heap.size := hR2.lt
    have hX3 : Row W3 xb 155 [.pointer (some ⟨gb, 0, none⟩), .pointer (some ⟨bb, 0, none⟩), r2, r3, .pointer (some ⟨pb, 0, none⟩)] := by rw [← hW3]; exact hX2.set (i := 4) (by simp) (.pointer (some ⟨pb, 0, none⟩))
    have e5 := hX3.cell (i := 4) rfl
    have hR3 := hR2.keep kC (fun e => by omega)
    have d5 := hR3.cell (i := 0) rfl
    have hS3 := hS2.keep kC (fun j h1 h2 => by omega)
    have hST : IStay F w xb n es W3 := by
      rw [← hW3]
      refine HM.out.learn (Fn := fun k => w.heap.size ≤ k ∧ k < W2.heap.size) HF.out k2 rfl (by omega) (fun j hj => hj) ⟨?_, ?_, .inr ⟨pb, rfl, ?_⟩⟩
      · rcases HM.out.kn.b with e | ⟨cv, e, hc⟩
        · exact .inl e
        · exact .inr ⟨cv, e, by rw [hW3]; exact ((hc.keep k2 (fun _ _ e => e)).keep kC (fun k h1 h2 => (HM.out.k k h1).1 h2)).mono (fun _ h => .inl h)⟩
      · rcases HM.out.kn.c with e | ⟨cv, e, hc⟩
        · exact .inl e
        · exact .inr ⟨cv, e, by rw [hW3]; exact ((hc.keep k2 (fun _ _ e => e)).keep kC (fun k h1 h2 => (HM.out.k k h1).1 h2)).mono (fun _ h => .inl h)⟩
      · rw [hW3]
        exact HPA.out _ _ _ _ _ hR3 (hS3.mono (fun k hk => .inr (by omega))) (.inr (by omega))
    obtain ⟨o', c', W4, q1, q2, q3⟩ := run_copyP W3 _ o m c L hS3 hlen
    obtain ⟨WA, hWA⟩ : ∃ WA, W3.alloc (.cells #[] 58) = WA := ⟨_, rfl⟩
    have kWA : Keep Nb W3 WA := by rw [← hWA]; exact (Keep.refl Nb W3).alloc _
    have a4 : WA.cell? ⟨xb, 4, none⟩ = some (.pointer (some ⟨pb, 0, none⟩)) := kWA.cell e5 (fun e => e)
    have a0 : WA.cell? ⟨pb, 0, none⟩ = some (.slice o m c) := kWA.cell d5 (fun e => e)
    rw [hWA] at q1
    have Q1 := Lib.hid q1
    have HE : Hid (∃ (o'' : Option Addr) (c'' : Nat), (Ending.returned (.slice o' m c') : Ending) = .returned (.slice o'' m c'') ∧ Sl (fun k => w.heap.size ≤ k) W4 58 2 o'' m c'' (pcs L) ∧ IStay F w xb n es W4) :=
      Lib.hid ⟨o', c', rfl, q2.mono (fun k hk => by have := hST.2.size; have hk : W3.heap.size ≤ k := hk; omega), hST.keep q3⟩
    clear hS hk hR1 kA hR2 kB k2 hS2 hX2 kC hX3 hR3 hS3 hST q1 q2 q3 HPS c0 c4 f4 kWA e5 d5
    go_wp2_with (at_builtin; refine wpList_app rfl _ _ _ rfl rfl rfl Q1.out ?_)
    go_ret
    exact HE.out
  · obtain ⟨o, c, hR, hS, hpb⟩ := hPB hP
    obtain ⟨o', c', W4, q1, q2, q3⟩ := run_copyP w _ o m c L hS hlen
    obtain ⟨WA, hWA⟩ : ∃ WA, w.alloc (.cells #[] 58) = WA := ⟨_, rfl⟩
    have kWA : Keep Nb w WA := by rw [← hWA]; exact (Keep.refl Nb w).alloc _
    have a4 : WA.cell? ⟨xb, 4, none⟩ = some (.pointer (some ⟨pb, 0, none⟩)) := kWA.cell c4 (fun e => e)
    have a0 : WA.cell? ⟨pb, 0, none⟩ = some (.slice o m c) := kWA.cell (hR.cell (i := 0) rfl) (fun e => e)
    rw [hWA] at q1
    have Q1 := Lib.hid q1
    have HE : Hid (∃ (o'' : Option Addr) (c'' : Nat), (Ending.returned (.slice o' m c') : Ending) = .returned (.slice o'' m c'') ∧ Sl (fun k => w.heap.size ≤ k) W4 58 2 o'' m c'' (pcs L) ∧ IStay F w xb n es W4) :=
      Lib.hid ⟨o', c', rfl, q2, (hM.stays hF).keep q3⟩
    clear hM hF hI hL hm hPA hPB hP hR hS hpb q1 q2 q3 HPS kWA c0 f4
    go_enter Tryz.func63, Tryz.ntmps63
    go_wp2_with (at_builtin; refine wpList_app rfl _ _ _ rfl rfl rfl Q1.out ?_)
    go_ret
    exact HE.out
end Go.Proofs.YtkpoobnldgfapabGreatDoor

namespace Go.Proofs.YtkpoobnldgfapabGreatDoor
open Go.RowKit Pl
def pickN (a : Int) (n : Nat) : Nat := ((IntKind.u64.wrap a).tmod n).toNat
theorem u64_nonneg (a : Int) : 0 ≤ IntKind.u64.wrap a := by
  have h : IntKind.u64.wrap a = a % 18446744073709551616 := by
    simp only [IntKind.wrap]; rfl
  rw [h]; omega
theorem pickN_lt (a : Int) {n : Nat} (hn : 0 < n) : pickN a n < n := by
  have h := Int.tmod_lt_of_pos (IntKind.u64.wrap a) (show (0 : Int) < n by omega)
  have h0 := Int.tmod_nonneg (n : Int) (u64_nonneg a)
  unfold pickN; omega
theorem pickN_eq (a : Int) {n : Nat} (hn : 0 < n) (hn2 : n ≤ 1000000) : wrap64 ((IntKind.u64.wrap a).tmod n) = (pickN a n : Nat) := by
  have h := Int.tmod_lt_of_pos (IntKind.u64.wrap a) (show (0 : Int) < n by omega)
  have h0 := Int.tmod_nonneg (n : Int) (u64_nonneg a)
  unfold pickN wrap64
  omega
theorem pick_any (a : Int) (n : Nat) (hn : 0 < n) (hn2 : n ≤ 1000000) (w : World) : Calls Tryz.prog 52 #[.int .i64 a, .int .i64 n] w fun e w' => e = .returned (.int .i64 (pickN a n : Nat)) ∧ w = w' := by
  have he := Lib.hid (pickN_eq a hn hn2)
  go_enter Tryz.func52, Tryz.ntmps52
  go_wp2
  go_ret
  exact ⟨by rw [← he.out]; rfl, rfl⟩
end Go.Proofs.YtkpoobnldgfapabGreatDoor
namespace Go.Proofs.YtkpoobnldgfapabGreatDoor
open Go.RowKit Pl
theorem pick_tt (a : Int) (n t : Nat) (ht : pickN a n = t) (hn : 0 < n) (hn2 : n ≤ 1000000) : ∀ w, Calls Tryz.prog 52 #[.int .i64 a, .int .i64 n] w fun e w' => e = .returned (.int .i64 t) ∧ w = w' := by
  subst ht; exact pick_any a n hn hn2
end Go.Proofs.YtkpoobnldgfapabGreatDoor

namespace Go.Proofs.YtkpoobnldgfapabGreatDoor
open Go.RowKit Pl Go.Maps
structure Stk (w : World) (b off len : Nat) (I A B : Nat → Int) (G : Nat → Bool) : Prop where
  id : ∀ i, i < len → w.cell? ⟨b, off + i * 4, none⟩ = some (.int .i64 (I i))
  a : ∀ i, i < len → w.cell? ⟨b, off + i * 4 + 1, none⟩ = some (.int .i64 (A i))
  bq : ∀ i, i < len → w.cell? ⟨b, off + i * 4 + 2, none⟩ = some (.int .i64 (B i))
  g : ∀ i, i < len → w.cell? ⟨b, off + i * 4 + 3, none⟩ = some (.bool (G i))
theorem Stk.keep {F : Nat → Prop} {w w' : World} {b off len : Nat} {I A B : Nat → Int} {G : Nat → Bool} (h : Stk w b off len I A B G) (k : Keep F w w') (hb : ¬ F b) : Stk w' b off len I A B G :=
  ⟨fun i hi => k.cell (h.id i hi) hb, fun i hi => k.cell (h.a i hi) hb, fun i hi => k.cell (h.bq i hi) hb, fun i hi => k.cell (h.g i hi) hb⟩
def esI (n : Nat) (I A B : Nat → Int) (G : Nat → Bool) : Nat → List E
  | 0 => []
  | i + 1 => if G i = true then cutEs (esI n I A B G i) (pickN (I i) 30 : Nat) else addEs n (esI n I A B G i) (pickN (I i) 30 : Nat) (pickN (A i) n : Nat) (pickN (B i) n : Nat)
theorem LOk.cut {n : Nat} {es : List E} (h : LOk n es) (t : Int) : LOk n (cutEs es t) := by
  unfold cutEs
  split
  · exact h.sub (delAt_sublist _ _)
  · exact h
theorem esI_ok {n : Nat} (hn : n ≤ 40) (I A B : Nat → Int) (G : Nat → Bool) : ∀ i, IOk n (esI n I A B G i) ∧ LOk n (esI n I A B G i)
  | 0 => ⟨IOk.nil hn, LOk.nil n⟩
  | i + 1 => by
    obtain ⟨h1, h2⟩ := esI_ok hn I A B G i
    unfold esI
    split
    · exact ⟨h1.cut _, h2.cut _⟩
    · exact ⟨h1.add _ _ _, h2.add _ _ _⟩
theorem IOk.drop {n : Nat} {es : List E} (h : IOk n es) (k : Nat) : IOk n (es.drop k) := by
  have hs := List.drop_sublist k es
  exact ⟨h.n40, ⟨fun e he => h.ok.over e (hs.subset he), fun e he => h.ok.ne e (hs.subset he), fun e he => h.ok.small e (hs.subset he), h.ok.sorted.sublist hs⟩, Nat.le_trans hs.length_le h.le⟩
theorem add_back {n : Nat} {es : List E} (h : IOk n es) (ho : LOk n es) {j : Nat} {e : E} (he : es[j]? = some e) : addErr n (es.drop (j + 1)) e.id e.b e.a = 0 ∧ addEs n (es.drop (j + 1)) e.id e.b e.a = es.drop j := by
  have hd : es.drop j = e :: es.drop (j + 1) := drop_get he
  have h1 := (h.drop j).ok.sorted
  have h2 := ho.sub (List.drop_sublist j es)
  rw [hd] at h1 h2
  obtain ⟨a1, a2⟩ := add_first h1 h2
  exact ⟨a1, by rw [a2, hd]⟩
structure BkA (w wr : World) (bx : Nat → Nat) (n : Nat) (es : Nat → List E) (tag : Nat → Nat) : Prop where
  all : ∀ i, 1 ≤ i → i ≤ 3 → IxT tag wr i (bx i) n (es i)
  keep : Keep Nb w wr
  low : ∀ k, 1 ≤ tag k → w.heap.size ≤ k
  hi : ∀ k, wr.heap.size ≤ k → tag k = 0
theorem BkA.still {w wr w' : World} {bx : Nat → Nat} {n : Nat} {es : Nat → List E} {tag : Nat → Nat} (h : BkA w wr bx n es tag) (k : Keep Nb wr w') : BkA w w' bx n es tag :=
  ⟨fun i h1 h2 => (h.all i h1 h2).keep k, h.keep.trans k, h.low, fun j hj => h.hi j (Nat.le_trans k.size hj)⟩
theorem BkA.step {w wr w' : World} {bx : Nat → Nat} {n : Nat} {es : Nat → List E} {tag : Nat → Nat} (h : BkA w wr bx n es tag) {i : Nat} (h1 : 1 ≤ i) {es2 : List E}
    (hx : IxK (fun k => tag k = i ∨ wr.heap.size ≤ k) w' (bx i) n es2) (hk : Keep (fun k => tag k = i) wr w') : BkA w w' bx n (fun j => if j = i then es2 else es j) (retag tag wr w' i) := by
  have hkk : Keep Nb w w' := h.keep.trans' hk (fun _ _ e => e) (fun k hk' e => by show False; have := h.low k (by rw [e]; exact h1); omega)
  have z := h.keep.size
  refine ⟨fun j a b => ?_, hkk, fun k hk' => ?_, fun k hk' => ?_⟩
  · show IxT _ w' j (bx j) n (if j = i then es2 else es j)
    by_cases e : j = i
    · subst e; rw [if_pos rfl]; exact IxT.own hx
    · rw [if_neg e]; exact (h.all j a b).other hk e
  · unfold retag at hk'
    split at hk'
    · omega
    · exact h.low k hk'
  · unfold retag
    rw [if_neg (by omega)]
    exact h.hi k (Nat.le_trans hk.size hk')
theorem BkA.stay {w wr w' : World} {bx : Nat → Nat} {n : Nat} {es : List E} {tag : Nat → Nat} (h : BkA w wr bx n (fun _ => es) tag) {i : Nat} (h1 : 1 ≤ i) (hs : IStay (fun k => tag k = i) wr (bx i) n es w') : BkA w w' bx n (fun _ => es) (retag tag wr w' i) := by
  have := h.step h1 hs.1 hs.2
  have e : (fun j => if j = i then es else es) = fun _ : Nat => es := by funext j; split <;> rfl
  rw [e] at this
  exact this
theorem IxK.ask {F : Nat → Prop} {w w' : World} {xb n : Nat} {es : List E} (h : IxK F w' xb n es) (k : Keep F w w') : IStay F w xb n es w' := ⟨h.mono (fun _ hk _ => .inl hk), k⟩
theorem BkA.free {w wr w' : World} {bx : Nat → Nat} {n : Nat} {es : Nat → List E} {tag : Nat → Nat} (h : BkA w wr bx n es tag) {i j : Nat} (hij : i ≠ j) (h1 : 1 ≤ j) : ∀ k, wr.heap.size ≤ k → ¬ retag tag wr w' i k = j := fun k hk e => by
  unfold retag at e
  split at e
  · exact hij e
  · rw [h.hi k hk] at e; omega
def BkL (w wr : World) (bx : Nat → Nat) (n : Nat) (es : List E) (o : Option Addr) (m c j : Nat) : Prop :=
  ∃ tag, BkA w wr bx n (fun i => if i = 2 then es.drop j else es) tag ∧ Sl (fun k => tag k = 0 ∧ k < wr.heap.size) wr 42 3 o m c (ecs es)
theorem BkL.next {w wr w1 w' : World} {bx : Nat → Nat} {n : Nat} {es : List E} {o : Option Addr} {m c j : Nat} {tag : Nat → Nat} (h : BkA w wr bx n (fun i => if i = 2 then es.drop (j + 1) else es) tag) (hS : Sl (fun k => tag k = 0 ∧ k < wr.heap.size) wr 42 3 o m c (ecs es))
    (k1 : Keep Nb wr w1) (hx : IxK (fun k => tag k = 2 ∨ w1.heap.size ≤ k) w' (bx 2) n (es.drop j)) (hk : Keep (fun k => tag k = 2) w1 w') : BkL w w' bx n es o m c j := by
  have h1 := (h.still k1).step (i := 2) (by omega) hx hk
  refine ⟨retag tag w1 w' 2, ⟨fun i a b => ?_, h1.keep, h1.low, h1.hi⟩, ?_⟩
  · have := h1.all i a b
    by_cases e : i = 2
    · subst e; simpa using this
    · simpa [e] using this
  · have z1 := k1.size
    have z2 := hk.size
    refine ((hS.keep k1 (fun _ _ e => e)).keep hk (fun k a b => by omega)).mono (fun k a => ⟨?_, by omega⟩)
    rw [retag_old (by omega)]
    exact a.1
structure BkQ (w wr : World) (bx : Nat → Nat) (n : Nat) (es : List E) (gA : Nat) (tag : Nat → Nat) : Prop where
  a : BkA w wr bx n (fun _ => es) tag
  row : Row wr gA 66 [.pointer (some ⟨bx 2, 0, none⟩), .pointer (some ⟨bx 3, 0, none⟩)]
  t0 : tag gA = 0
theorem BkQ.still {w wr w' : World} {bx : Nat → Nat} {n : Nat} {es : List E} {gA : Nat} {tag : Nat → Nat} (h : BkQ w wr bx n es gA tag) (k : Keep Nb wr w') : BkQ w w' bx n es gA tag := ⟨h.a.still k, h.row.keep k (fun e => e), h.t0⟩
theorem BkQ.stay {w wr w' : World} {bx : Nat → Nat} {n : Nat} {es : List E} {gA : Nat} {tag : Nat → Nat} (h : BkQ w wr bx n es gA tag) {i : Nat} (h1 : 1 ≤ i) (hs : IStay (fun k => tag k = i) wr (bx i) n es w') : BkQ w w' bx n es gA (retag tag wr w' i) :=
  ⟨h.a.stay h1 hs, h.row.keep hs.2 (fun e => by rw [h.t0] at e; omega), by rw [retag_old h.row.lt]; exact h.t0⟩
theorem BkQ.ix {w wr : World} {bx : Nat → Nat} {n : Nat} {es : List E} {gA : Nat} {tag : Nat → Nat} (h : BkQ w wr bx n es gA tag) {i : Nat} (h1 : 1 ≤ i) (h3 : i ≤ 3) : IxK (fun k => tag k = i) wr (bx i) n es := h.a.all i h1 h3
end Go.Proofs.YtkpoobnldgfapabGreatDoor

