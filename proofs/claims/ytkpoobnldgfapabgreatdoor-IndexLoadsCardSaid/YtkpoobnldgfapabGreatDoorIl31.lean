/- The card of IndexLoads: it returns true at every input (the listed variables tied to the program's text), and leaves its input as it was. -/
import Derived.Test.YtkpoobnldgfapabGreatDoorIl02
import Derived.Test.YtkpoobnldgfapabGreatDoorIl04
import Derived.Test.YtkpoobnldgfapabGreatDoorIl10
import Derived.Test.YtkpoobnldgfapabGreatDoorIl23
import Derived.Test.YtkpoobnldgfapabGreatDoorIl26
import Derived.Test.YtkpoobnldgfapabGreatDoorIl27
import Derived.Test.YtkpoobnldgfapabGreatDoorIl28
import Derived.Test.YtkpoobnldgfapabGreatDoorIl30
import Derived.Deep.RegionHeld3
import Derived.Deep.QuietTactic
import Derived.BigQuiet
import Derived.Test.YtkpoobnldgfapabGreatDoorTie
import Derived.Test.YtkpoobnldgfapabGreatDoorCards
import Derived.SevenTiedAt
import Derived.Conc.Holds
import Derived.Leaving
set_option linter.unusedVariables false
set_option linter.unusedSimpArgs false
namespace Go.Proofs.YtkpoobnldgfapabGreatDoor
open Go.RowKit Pl
theorem rdrop_get {α : Type} {l : List α} {k : Nat} {x : α} (h : l[k]? = some x) : l.drop k = x :: l.drop (k + 1) := by
  obtain ⟨h1, h2⟩ := List.getElem?_eq_some_iff.1 h
  rw [List.drop_eq_getElem_cons h1, h2]
def RLoadPost (w : World) (s : List UInt8) (e : Ending) (w' : World) : Prop :=
  Keep Nb w w' ∧ ((∃ gb n fs es, e = .returned (.tuple #[.pointer (some ⟨gb, 0, none⟩), .int .i64 0]) ∧ rldI (pcz 10 s) = some (n, fs) ∧ es.Perm fs ∧ Sorted es ∧ savedT n es = s ∧ RGr (fun k => w.heap.size ≤ k) w' gb n fs) ∨
    (e = .returned (.tuple #[.pointer none, .int .i64 3]) ∧ ∀ n fs es, rldI (pcz 10 s) = some (n, fs) → es.Perm fs → Sorted es → savedT n es ≠ s))
structure RlRel (w w3 : World) (s : List UInt8) (M c gb n k : Nat) (fs : List E) (wr : World) : Prop where
  keep : Keep Nb w wr
  size : w3.heap.size ≤ wr.heap.size
  row : Sl (fun k => k = w.heap.size) wr 9 1 (some ⟨w.heap.size, 0, none⟩) M c (strs ((pcz 10 s).map bstr))
  gr : RGr (fun j => w3.heap.size ≤ j) wr gb n fs
  ok : LOk n fs
  n40 : n ≤ 40
  rd : rldI (pcz 10 s) = some (n, rldGo n fs ((pcz 10 s).drop (k + 1)))
def kRow (x : List UInt8) (j : Nat) : List Value := [.int .i64 (if 0 < j then kAt x 0 else 0), .int .i64 (if 1 < j then kAt x 1 else 0), .int .i64 (if 2 < j then kAt x 2 else 0)]
theorem kRow_set (x : List UInt8) {j : Nat} (hj : j < 3) : (kRow x j).set j (.int .i64 (kAt x j)) = kRow x (j + 1) := by
  match j, hj with
  | 0, _ => rfl
  | 1, _ => rfl
  | 2, _ => rfl
theorem kRow_at (x : List UInt8) {j : Nat} (hj : j < 3) : (kRow x j)[j]? = some (.int .i64 0) := by
  match j, hj with
  | 0, _ => rfl
  | 1, _ => rfl
  | 2, _ => rfl
theorem kRow_over (x : List UInt8) {j : Nat} (hj : 3 ≤ j) : kRow x (j + 1) = kRow x j := by
  unfold kRow
  rw [if_pos (by omega), if_pos (by omega), if_pos (by omega), if_pos (by omega), if_pos (by omega), if_pos (by omega)]
theorem kAt_over (x : List UInt8) {i : Nat} (h : (pcz 32 x).length ≤ i) : kAt x i = 0 := by
  unfold kAt
  rw [List.getElem?_eq_none h]
  rfl
theorem kRow_end (x : List UInt8) : kRow x (pcz 32 x).length = [.int .i64 (kAt x 0), .int .i64 (kAt x 1), .int .i64 (kAt x 2)] := by
  have h : ∀ i, (if i < (pcz 32 x).length then kAt x i else 0) = kAt x i := fun i => by
    by_cases hi : i < (pcz 32 x).length
    · rw [if_pos hi]
    · rw [if_neg hi, kAt_over x (by omega)]
  unfold kRow
  rw [h, h, h]
theorem kAt_get (x y : List UInt8) {j : Nat} (h : (pcz 32 x)[j]? = some y) : (numT y).getD 0 = kAt x j := by
  unfold kAt
  rw [h]
  rfl
structure RwRel (w2 : World) (X m c2 j : Nat) (x : List UInt8) (o2 : Addr) (wi : World) : Prop where
  keep : Keep (fun k => k = X) w2 wi
  row : Sl (fun k => k = o2.block) wi 9 1 (some o2) m c2 (strs ((pcz 32 x).map bstr))
  arr : Row wi X 148 (kRow x j)
set_option maxRecDepth 100000 in
set_option maxHeartbeats 4000000 in
theorem rload_any (w : World) (hL : LibW w) (s : List UInt8) (hs : s.length ≤ 100000) :
    Calls Tryz.prog 46 #[.string (bstr s)] w (RLoadPost w s) := by
  have HL := Lib.hid hL
  have hsp := split_any w hL (bstr s) ⟨#[10]⟩ (by rw [bstr_size]; omega) (by decide)
  rw [splitB_pcz] at hsp
  have HSP := Lib.hid hsp
  clear hL hsp
  go_enter Tryz.func46, Tryz.ntmps46
  go_wp2_with fail
  refine HSP.out.mono ?_
  rintro e w1 ⟨M, c, rfl, hS1, hM, hk1⟩
  obtain ⟨l0, r0, hr0⟩ : ∃ l r, pcz 10 s = l :: r := by
    cases hp : pcz 10 s with
    | nil => exact absurd hp (pcz_ne 10 s)
    | cons l r => exact ⟨l, r, rfl⟩
  have hM5 : M ≤ 100001 := by have := pcz_len 10 s; simp only [List.length_map] at hM; omega
  have hM0 : 0 < M := by rw [hr0] at hM; simp at hM; omega
  have hl0 : l0.length ≤ 100000 := Nat.le_trans (pcz_mem 10 s l0 (by rw [hr0]; simp)) hs
  obtain ⟨g0, hg0, _, hMc, hrow⟩ := hS1.pos hM0
  cases hg0
  have d0 : w1.cell? ⟨w.heap.size, 0, none⟩ = some (.string (bstr l0)) := hrow.cell (by rw [hr0]; rfl)
  have HS1 := Lib.hid hS1
  have HM := Lib.hid hM
  have HK1 := Lib.hid hk1
  have HR0 := Lib.hid hr0
  have HMC := Lib.hid hMc
  have HNUM := Lib.hid (rnumber_any w1 (HL.out.keep hk1) (bstr l0) (by rw [bstr_size]; omega))
  clear hS1 hM hk1 hrow hr0 hMc HSP
  go_wp2_with fail
  refine HNUM.out.mono ?_
  rintro e w2 ⟨rfl, hk2⟩
  have HK2 := Lib.hid hk2
  clear hk2 HNUM d0
  have hb0 : M ≤ c := HMC.out
  cases hn0 : numT l0 with
  | none =>
    simp only [Option.isSome_none, Option.getD_none]
    have HNO : Hid (∀ n fs es, rldI (pcz 10 s) = some (n, fs) → es.Perm fs → Sorted es → savedT n es ≠ s) := Lib.hid (fun n fs es h _ _ => by
      rw [HR0.out] at h
      simp only [rldI, hn0] at h
      cases h)
    clear hn0
    go_wp2_with fail
    go_ret2
    exact ⟨HK1.out.trans HK2.out, .inr ⟨rfl, HNO.out⟩⟩
  | some v =>
    simp only [Option.isSome_some, Option.getD_some]
    have HN0 := Lib.hid hn0
    clear hn0
    by_cases hin : 0 ≤ v ∧ v ≤ 40
    · obtain ⟨n, rfl⟩ : ∃ n : Nat, v = n := ⟨v.toNat, by omega⟩
      have hn40 : n ≤ 40 := by omega
      have HIN := Lib.hid (in_any (n : Int) 0 40 true (by simp; omega) w2)
      have HRD : Hid (rldI (pcz 10 s) = some (n, rldGo n [] ((pcz 10 s).drop 1))) := Lib.hid (by
        rw [HR0.out]
        simp only [rldI, HN0.out]
        rw [if_pos hin]
        simp)
      clear hin
      go_wp2_with fail
      refine HIN.out.mono ?_
      rintro e w2' ⟨rfl, rfl⟩
      have hzg : w.heap.size < w2.heap.size := by have h := HK1.out.size; have h2 := HK2.out.size; have h3 := HS1.out.lt rfl; have h3 : w.heap.size < w1.heap.size := h3; omega
      obtain ⟨w3, hw3⟩ : ∃ w3, w2.alloc (.cells #[.int .i64 n, .slice none 0 0] 56) = w3 := ⟨_, rfl⟩
      have hk3 : Keep Nb w2 w3 := by rw [← hw3]; exact (Keep.refl Nb w2).alloc _
      have hG3 : RGr (fun j => j = w2.heap.size) w3 w2.heap.size n [] := by
        rw [← hw3]
        exact ⟨none, 0, Row.new w2 #[.int .i64 n, .slice none 0 0] 56, rfl, (Sl.nil _ w2 42 3).alloc _, fun _ h => by cases h⟩
      have HW3 := Lib.hid hw3
      have hz3 : w3.heap.size = w2.heap.size + 1 := by rw [← hw3]; simp
      have HR0' : Hid (RlRel w w2 s M c w2.heap.size n 0 [] w3) := Lib.hid ⟨(HK1.out.trans HK2.out).trans hk3, by omega, (HS1.out.keep HK2.out (fun _ _ e => e)).keep hk3 (fun _ _ e => e), hG3.mono (fun j e => by rw [e]; exact Nat.le_refl _), LOk.nil n, hn40, HRD.out⟩
      obtain ⟨m, hm⟩ : ∃ m, M = m + 1 := ⟨M - 1, by omega⟩
      subst hm
      clear hk3 hG3 hw3
      obtain ⟨gb, hgb⟩ : ∃ gb, w2.heap.size = gb := ⟨_, rfl⟩
      have HZG := Lib.hid hzg
      rw [hgb] at HR0' hz3
      by_cases hc1 : c = 1
      · obtain rfl : m = 0 := by omega
        go_wp2_with fail
        rw [HW3.out]
        go_loopg [35] 0 (fun kx s35 wr => s35 = .int .i64 0 ∧ Hid (RlRel w w2 s (0 + 1) c gb n 0 [] wr))
        case atStart => exact ⟨rfl, HR0'⟩
        case round =>
          obtain ⟨rfl, HR⟩ := hrel
          obtain ⟨fs, hfs⟩ : ∃ fs : List E, fs = [] := ⟨_, rfl⟩
          rw [← hfs] at HR
          have hrd : rldI (pcz 10 s) = some (n, fs) := by
            have h := HR.out.rd
            rw [List.drop_eq_nil_of_le (by have h := HM.out; rw [List.length_map] at h; omega)] at h
            exact h
          obtain ⟨hn40', hlok, hids⟩ := rldI_lok hrd
          obtain ⟨es, hp, hso⟩ := sorted_ex hids
          have hles := hlok.le
          have HSV := Lib.hid (rsaved_any _ wr gb n fs es HR.out.gr (HL.out.keep HR.out.keep) hso hp hn40 hles (fun e he => by have h := hlok.ord e (hp.mem_iff.1 he); omega))
          have HRD2 := Lib.hid (And.intro hrd (And.intro hp hso))
          clear hrd hn40' hlok hids hp hso hles
          go_wp2_with fail
          refine HSV.out.mono ?_
          rintro e wS ⟨rfl, hkS⟩
          have HKS := Lib.hid (HR.out.keep.trans hkS)
          have HGS := Lib.hid (HR.out.gr.keep hkS (fun _ _ e => e))
          clear hkS HSV
          obtain ⟨sv, hsv⟩ : ∃ sv, savedT n es = sv := ⟨_, rfl⟩
          have HSE := Lib.hid hsv
          rw [hsv]
          clear hsv
          by_cases hq : sv = s
          · subst hq
            have hq1 : (sv == sv) = true := by simp
            go_wp2_with fail
            go_ret2
            exact ⟨HKS.out, .inl ⟨gb, n, fs, es, rfl, HRD2.out.1, HRD2.out.2.1, HRD2.out.2.2, HSE.out, HGS.out.mono (fun j hj => Nat.le_trans (Nat.le_of_lt HZG.out) hj)⟩⟩
          · have HQ := Lib.hid hq
            have hq1 : (sv == s) = false := by simp [hq]
            have hq2 : decide (sv = s) = false := by simp [hq]
            go_wp2_with fail
            go_ret2
            refine ⟨HKS.out, .inr ⟨rfl, fun n' fs' es' h hp' hso' => ?_⟩⟩
            rw [HRD2.out.1] at h
            cases h
            rw [sorted_ext hso' HRD2.out.2.2 (fun e => (hp'.trans HRD2.out.2.1.symm).mem_iff), HSE.out]
            exact HQ.out
      · go_wp2_with fail
        rw [HW3.out]
        go_loopg [35] m (fun kx s35 wr => ∃ (k : Nat) (fs : List E), s35 = .int .i64 k ∧ k ≤ m ∧ m - k ≤ kx ∧ Hid (RlRel w w2 s (m + 1) c gb n k fs wr))
        case atStart => exact ⟨0, [], rfl, Nat.zero_le _, by omega, HR0'⟩
        case round =>
          clear HR0'
          obtain ⟨k, fs, rfl, hk, hg, HR⟩ := hrel
          by_cases hlt : k < m
          · as_aux_lemma =>
              obtain ⟨wo, rfl⟩ : ∃ wo : World, wo = wr := ⟨_, rfl⟩
              obtain ⟨x, hx⟩ : ∃ x, (pcz 10 s)[k + 1]? = some x := ⟨(pcz 10 s)[k + 1]'(by have h := HM.out; rw [List.length_map] at h; omega), List.getElem?_eq_getElem _⟩
              have HX := Lib.hid hx
              have hxl : x.length ≤ 100000 := Nat.le_trans (pcz_mem 10 s x (List.mem_of_getElem? hx)) hs
              have dx : wo.cell? ⟨w.heap.size, 1 + k, none⟩ = some (.string (bstr x)) := by
                obtain ⟨g, hg', _, _, hrow⟩ := HR.out.row.pos (by omega)
                cases hg'
                exact hrow.cell (by rw [Nat.add_comm]; simp [strs, hx])
              obtain ⟨W1, hW1⟩ : ∃ W1, wo.alloc (.cells #[.int .i64 0, .int .i64 0, .int .i64 0] 148) = W1 := ⟨_, rfl⟩
              obtain ⟨X, hX⟩ : ∃ X, wo.heap.size = X := ⟨_, rfl⟩
              have hA1 : Row W1 X 148 (kRow x 0) := by rw [← hW1, ← hX]; exact Row.new wo #[.int .i64 0, .int .i64 0, .int .i64 0] 148
              have kA1 : Keep Nb wo W1 := by rw [← hW1]; exact (Keep.refl Nb wo).alloc _
              have hz1 : W1.heap.size = X + 1 := by rw [← hW1, ← hX]; simp
              have hsp := split_any W1 (HL.out.keep (HR.out.keep.trans kA1)) (bstr x) ⟨#[32]⟩ (by rw [bstr_size]; omega) (by decide)
              rw [splitB_pcz] at hsp
              have HSP := Lib.hid hsp
              have HA1 := Lib.hid hA1
              have HKA := Lib.hid kA1
              clear hx hA1 kA1 hsp
              go_wp2_with fail
              try rw [hW1]
              try rw [hX]
              refine HSP.out.mono ?_
              rintro e W2 ⟨m2, c2, rfl, hS2, hM2, hk2⟩
              rw [hz1] at hS2
              rw [hz1]
              have HS2 := Lib.hid hS2
              have HM2 := Lib.hid hM2
              have HK2' := Lib.hid hk2
              have hm2 : m2 ≤ 100001 := by have := pcz_len 32 x; simp only [List.length_map] at hM2; omega
              clear hS2 hM2 hk2 HSP
              have hXW : X < W1.heap.size := by omega
              have HIN0 : Hid (RwRel W2 X m2 c2 0 x ⟨X + 1, 0, none⟩ W2) := Lib.hid ⟨Keep.refl _ _, HS2.out, HA1.out.keep HK2'.out (fun e => e)⟩
              have HKW2 : Hid (Keep Nb w W2) := Lib.hid ((HR.out.keep.trans HKA.out).trans HK2'.out)
              have hXw : w.heap.size ≤ X := by rw [← hX]; exact HR.out.keep.size
              clear hW1 HA1
              go_wp2_with fail
              go_loopg [42] m2 (fun kx s42 wi => ∃ j : Nat, s42 = .int .i64 j ∧ j ≤ m2 ∧ m2 - j ≤ kx ∧ Hid (RwRel W2 X m2 c2 j x ⟨X + 1, 0, none⟩ wi))
              case atStart => exact ⟨0, rfl, Nat.zero_le _, by omega, HIN0⟩
              case round =>
                clear HIN0
                obtain ⟨j, rfl, hj, hg2, HI⟩ := hrel
                by_cases hlt2 : j < m2
                · obtain ⟨y, hy⟩ : ∃ y, (pcz 32 x)[j]? = some y := ⟨(pcz 32 x)[j]'(by have h := HM2.out; rw [List.length_map] at h; omega), List.getElem?_eq_getElem _⟩
                  have hyl : y.length ≤ 100000 := Nat.le_trans (pcz_mem 32 x y (List.mem_of_getElem? hy)) hxl
                  have dy : wr.cell? ⟨X + 1, j, none⟩ = some (.string (bstr y)) := by
                    obtain ⟨g, hg', _, _, hrow⟩ := HI.out.row.pos (by omega)
                    cases hg'
                    exact hrow.cell (by simp [strs, hy])
                  have HKA1 := kAt_get x y hy
                  obtain ⟨v, hv⟩ : ∃ v, (numT y).getD 0 = v := ⟨_, rfl⟩
                  obtain ⟨okv, hokv⟩ : ∃ b, (numT y).isSome = b := ⟨_, rfl⟩
                  have hkw : Keep Nb w wr := HKW2.out.trans' HI.out.keep (fun _ _ e => e) (fun i hi e => by rw [e] at hi; exact Nat.not_lt.2 hXw hi)
                  by_cases h3 : j < 3
                  · have HNUM := Lib.hid (rnumber_any wr (HL.out.keep hkw) (bstr y) (by rw [bstr_size]; omega))
                    have hv2 : (numT (bstr y).data.toList).getD 0 = v := hv
                    have hok2 : (numT (bstr y).data.toList).isSome = okv := hokv
                    rw [hv2, hok2] at HNUM
                    rw [hv] at HKA1
                    have HKJ := Lib.hid HKA1
                    have HKW := Lib.hid hkw
                    have h3' : (j : Int) < 3 := by omega
                    clear HKA1 hkw hv hv2 hokv hok2 hy
                    go_wp2_with fail
                    refine HNUM.out.mono ?_
                    rintro e w5 ⟨rfl, hk5⟩
                    have hA5 := HI.out.arr.keep hk5 (fun e => e)
                    have HA5 := Lib.hid hA5
                    have HK5 := Lib.hid hk5
                    clear hk5 HNUM dy hA5
                    have c5 := HA5.out.cell (kRow_at x h3)
                    have f5 := HA5.out.frozen j none
                    have hjm : IntKind.i64.wrap ((j : Int) + 1) = j + 1 := IntWalk.i64_in _ (by omega)
                    have ks : Keep (fun i => i = X) w5 (w5.setCell ⟨X, j, none⟩ (.int .i64 v)) := (Keep.refl (fun i => i = X) w5).setCell (.inl rfl) _
                    have hS5 := (HI.out.row.keep HK5.out (fun _ _ e => e)).keep ks (fun i h1 h2 => by rw [h2] at h1; have h1 : X = X + 1 := h1; omega)
                    have hset := HA5.out.set (i := j) (by show j < 3; exact h3) (.int .i64 v)
                    rw [HKJ.out, kRow_set x h3, ← HKJ.out] at hset
                    have HN5 : Hid (RwRel W2 X m2 c2 (j + 1) x ⟨X + 1, 0, none⟩ (w5.setCell ⟨X, j, none⟩ (.int .i64 v))) := Lib.hid ⟨(HI.out.keep.trans' HK5.out (fun _ _ e => e) (fun _ _ e => e.elim)).trans ks, hS5, hset⟩
                    clear ks hS5 hset
                    go_wp2_with fail
                    go_roundg (m2 - (j + 1))
                    case measure => omega
                    case rel => exact ⟨j + 1, by go_num, by omega, Nat.le_refl _, HN5⟩
                  · have h3' : ¬ (j : Int) < 3 := by omega
                    have HN5 : Hid (RwRel W2 X m2 c2 (j + 1) x ⟨X + 1, 0, none⟩ wr) := Lib.hid ⟨HI.out.keep, HI.out.row, by rw [kRow_over x (by omega)]; exact HI.out.arr⟩
                    clear hkw HKA1 hv hokv hy
                    go_wp2_with fail
                    go_roundg (m2 - (j + 1))
                    case measure => omega
                    case rel => exact ⟨j + 1, by go_num, by omega, Nat.le_refl _, HN5⟩
                · obtain rfl : m2 = j := by omega
                  have hkE : Keep Nb w wr := HKW2.out.trans' HI.out.keep (fun _ _ e => e) (fun i hi e => by rw [e] at hi; exact Nat.not_lt.2 hXw hi)
                  have hAE := HI.out.arr
                  have hlen : (pcz 32 x).length = m2 := by have h := HM2.out; rw [List.length_map] at h; exact h
                  rw [← hlen, kRow_end] at hAE
                  obtain ⟨a0, ha0⟩ : ∃ a, kAt x 0 = a := ⟨_, rfl⟩
                  obtain ⟨a1, ha1⟩ : ∃ a, kAt x 1 = a := ⟨_, rfl⟩
                  obtain ⟨a2, ha2⟩ : ∃ a, kAt x 2 = a := ⟨_, rfl⟩
                  rw [ha0, ha1, ha2] at hAE
                  have e0 := hAE.cell (i := 0) rfl
                  have e1 := hAE.cell (i := 1) rfl
                  have e2 := hAE.cell (i := 2) rfl
                  have HAD := Lib.hid (radd_any (fun i => w2.heap.size ≤ i ∧ i < X) wr gb n fs a0 a1 a2 (by
                    have h := (((HR.out.gr.tight.keep HKA.out (fun _ _ e => e)).keep HK2'.out (fun _ _ e => e)).keep HI.out.keep (fun i h1 h2 => by have h3 := h1.2; rw [h2, hX] at h3; exact Nat.lt_irrefl _ h3))
                    rw [hX] at h
                    exact h) (fun i hi => Nat.lt_of_lt_of_le hi.2 (by have := HKA.out.size; have := HK2'.out.size; have := HI.out.keep.size; omega)) hn40 HR.out.ok.le)
                  have HKE := Lib.hid hkE
                  have HRD3 : Hid (rldI (pcz 10 s) = some (n, rldGo n (raddEs n fs a0 a1 a2) ((pcz 10 s).drop (k + 1 + 1)))) := Lib.hid (by
                    have h := HR.out.rd
                    rw [rdrop_get HX.out] at h
                    rw [← ha0, ← ha1, ← ha2]
                    exact h)
                  clear hkE hAE hlen ha0 ha1 ha2
                  go_wp2_with fail
                  refine HAD.out.mono ?_
                  rintro e w6 ⟨rfl, hG6, hk6⟩
                  have hz6 := hk6.size
                  have HN6 : Hid (RlRel w w2 s (m + 1) c gb n (k + 1) (raddEs n fs a0 a1 a2) w6) := Lib.hid (by
                    refine ⟨HKE.out.trans' hk6 (fun _ _ e => e) (fun i hi e => by show False; have := e.1; have := HZG.out; omega), ?_, ?_, ?_, HR.out.ok.radd _ _ _, hn40, HRD3.out⟩
                    · have := HR.out.size; have := HKA.out.size; have := HK2'.out.size; have := HI.out.keep.size; omega
                    · exact (((HR.out.row.keep HKA.out (fun _ _ e => e)).keep HK2'.out (fun _ _ e => e)).keep HI.out.keep (fun i h1 h2 => by rw [h2] at h1; have h1 : X = w.heap.size := h1; have := HS1.out.lt rfl; have := HR.out.size; have := HZG.out; omega)).keep hk6 (fun i h1 h2 => by have h1 : i = w.heap.size := h1; have := h2.1; have := HZG.out; omega)
                    · refine hG6.mono (fun i hi => ?_)
                      rcases hi with hi | hi
                      · exact hi.1
                      · have := HR.out.size; have := HKA.out.size; have := HK2'.out.size; have := HI.out.keep.size; show w2.heap.size ≤ i; omega)
                  obtain ⟨ae, hae⟩ : ∃ ae, addErr n fs a0 a1 a2 = ae := ⟨_, rfl⟩
                  rw [hae]
                  clear hae hG6 hk6 HAD e0 e1 e2
                  have hkm : IntKind.i64.wrap ((k : Int) + 1) = k + 1 := IntWalk.i64_in _ (by omega)
                  go_wp2_with fail
                  go_roundg (m - (k + 1))
                  case measure => omega
                  case rel => exact ⟨k + 1, _, by go_num, by omega, Nat.le_refl _, HN6⟩
          · obtain rfl : m = k := by omega
            have hrd : rldI (pcz 10 s) = some (n, fs) := by
              have h := HR.out.rd
              rw [List.drop_eq_nil_of_le (by have h := HM.out; rw [List.length_map] at h; omega)] at h
              exact h
            obtain ⟨hn40', hlok, hids⟩ := rldI_lok hrd
            obtain ⟨es, hp, hso⟩ := sorted_ex hids
            have hles := hlok.le
            have HSV := Lib.hid (rsaved_any _ wr gb n fs es HR.out.gr (HL.out.keep HR.out.keep) hso hp hn40 hles (fun e he => by have h := hlok.ord e (hp.mem_iff.1 he); omega))
            have HRD2 := Lib.hid (And.intro hrd (And.intro hp hso))
            clear hrd hn40' hlok hids hp hso hles
            go_wp2_with fail
            refine HSV.out.mono ?_
            rintro e wS ⟨rfl, hkS⟩
            have HKS := Lib.hid (HR.out.keep.trans hkS)
            have HGS := Lib.hid (HR.out.gr.keep hkS (fun _ _ e => e))
            clear hkS HSV
            obtain ⟨sv, hsv⟩ : ∃ sv, savedT n es = sv := ⟨_, rfl⟩
            have HSE := Lib.hid hsv
            rw [hsv]
            clear hsv
            by_cases hq : sv = s
            · subst hq
              have hq1 : (sv == sv) = true := by simp
              go_wp2_with fail
              go_ret2
              exact ⟨HKS.out, .inl ⟨gb, n, fs, es, rfl, HRD2.out.1, HRD2.out.2.1, HRD2.out.2.2, HSE.out, HGS.out.mono (fun j hj => Nat.le_trans (Nat.le_of_lt HZG.out) hj)⟩⟩
            · have HQ := Lib.hid hq
              have hq1 : (sv == s) = false := by simp [hq]
              have hq2 : decide (sv = s) = false := by simp [hq]
              go_wp2_with fail
              go_ret2
              refine ⟨HKS.out, .inr ⟨rfl, fun n' fs' es' h hp' hso' => ?_⟩⟩
              rw [HRD2.out.1] at h
              cases h
              rw [sorted_ext hso' HRD2.out.2.2 (fun e => (hp'.trans HRD2.out.2.1.symm).mem_iff), HSE.out]
              exact HQ.out
    · have HIN := Lib.hid (in_any v 0 40 false (by simp; omega) w2)
      have HNO : Hid (∀ n fs es, rldI (pcz 10 s) = some (n, fs) → es.Perm fs → Sorted es → savedT n es ≠ s) := Lib.hid (fun n fs es h _ _ => by
        rw [HR0.out] at h
        simp only [rldI, HN0.out] at h
        rw [if_neg hin] at h
        cases h)
      clear hin
      go_wp2_with fail
      refine HIN.out.mono ?_
      rintro e w2' ⟨rfl, rfl⟩
      go_wp2_with fail
      go_ret2
      exact ⟨HK1.out.trans HK2.out, .inr ⟨rfl, HNO.out⟩⟩
end Go.Proofs.YtkpoobnldgfapabGreatDoor

namespace Go.Proofs.YtkpoobnldgfapabGreatDoor
open Go.RowKit Pl
set_option maxRecDepth 100000 in
set_option maxHeartbeats 1000000 in
theorem sameE_q (F F' : Nat → Prop) (w : World) (o o' : Option Addr) (n c c' : Nat) (l : List E) (hl : l.length = n) (hS : Sl F w 42 3 o n c (ecs l)) (hS' : Sl F' w 42 3 o' n c' (ecs l)) (hn : n ≤ 100000) :
    Calls Tryz.prog 48 #[.slice o n c, .slice o' n c'] w fun e w' => e = .returned (.bool true) ∧ ∃ m, w' = w.drewN m := by
  have HL := Lib.hid hl
  have HS := Lib.hid hS
  have HS' := Lib.hid hS'
  have hne : ((n : Int) != (n : Int)) = false := by simp
  clear hS hS' hl
  go_enter Tryz.func48, Tryz.ntmps48
  go_wp2_with fail
  go_loopg [5] n (fun kx s wr => ∃ i : Nat, s = .int .i64 i ∧ i ≤ n ∧ n - i ≤ kx ∧ Hid (∃ m, wr = w.drewN m))
  case atStart => exact ⟨0, rfl, Nat.zero_le _, by omega, Lib.hid ⟨0, rfl⟩⟩
  case round =>
    obtain ⟨i, rfl, hi, hg, HK⟩ := hrel
    obtain ⟨m, hm⟩ := HK.out
    have HKM := Lib.hid hm
    have hkw : Keep Nb w wr := by rw [hm]; exact (Keep.refl Nb w).drewN m
    by_cases hlt : i < n
    · obtain ⟨g, rfl, _, hnc, hrow⟩ := (HS.out.keep hkw (fun _ _ e => e)).pos (by omega)
      obtain ⟨g', rfl, _, hnc', hrow'⟩ := (HS'.out.keep hkw (fun _ _ e => e)).pos (by omega)
      have hy := List.getElem?_eq_getElem (l := l) (i := i) (by rw [HL.out]; exact hlt)
      generalize l[i]'(by rw [HL.out]; exact hlt) = p at hy
      have d1 := hrow.edges.id _ _ hy
      have d2 := hrow.edges.a _ _ hy
      have d3 := hrow.edges.b _ _ hy
      have e1 := hrow'.edges.id _ _ hy
      have e2 := hrow'.edges.a _ _ hy
      have e3 := hrow'.edges.b _ _ hy
      clear hy hrow hrow' hm hkw
      go_wp2_with fail
      go_quiet (fail)
      go_wp2_with fail
      go_roundg (n - (i + 1))
      case measure => omega
      case rel => exact ⟨i + 1, rfl, by omega, Nat.le_refl _, Lib.hid ⟨m + nq, by rw [HKM.out, World.drewN_drewN]⟩⟩
    · clear hm hkw
      go_wp2_with fail
      go_ret
      exact ⟨rfl, HK.out⟩
end Go.Proofs.YtkpoobnldgfapabGreatDoor

namespace Go.Proofs.YtkpoobnldgfapabGreatDoor
open Go.RowKit Pl
set_option maxRecDepth 100000 in
theorem indexloads_long (s : ByteArray) (hs : 1500 < s.size) (w : World) :
    Calls Tryz.prog 6 #[.string s] w fun e w' => e = .returned (.bool true) ∧ Keep Nb w w' := by
  have h1 : (1500 : Int) < (s.size : Int) := by omega
  go_enter Tryz.func6, Tryz.ntmps6
  go_wp2_with fail
  go_ret
  exact ⟨rfl, Keep.refl _ _⟩
set_option maxRecDepth 100000 in
set_option maxHeartbeats 4000000 in
theorem indexloads_any (s : List UInt8) (hs : s.length ≤ 1500) (w : World) (hL : LibW w) (hE : ErrT w) :
    Calls Tryz.prog 6 #[.string (bstr s)] w fun e w' => e = .returned (.bool true) ∧ Keep Nb w w' := by
  have HL := Lib.hid hL
  have h1 : ¬ (1500 : Int) < (s.length : Int) := by omega
  have HRL := Lib.hid (rload_any w hL s (by omega))
  have hsl : s.length ≤ 100000 := by omega
  have HE := Lib.hid hE
  clear hL hs hE
  go_enter Tryz.func6, Tryz.ntmps6
  go_wp2_with fail
  refine HRL.out.mono ?_
  rintro e w1 ⟨hk1, ⟨gb, n, fs, es, rfl, hrd, hp, hso, hsv, hG⟩ | ⟨rfl, hno⟩⟩
  · have HK1 := Lib.hid hk1
    have HRD := Lib.hid (And.intro hrd (And.intro hp (And.intro hso hsv)))
    have HG := Lib.hid hG
    have HIL := Lib.hid (iload_any w1 (HL.out.keep hk1) s hsl)
    clear hk1 hrd hp hso hsv hG HRL
    go_wp2_with fail
    refine HIL.out.mono ?_
    rintro e w2 ⟨hk2, ⟨xb, n', es', rfl, hld, hsv', hI, hX⟩ | ⟨rfl, hno⟩⟩
    · obtain ⟨rfl, rfl⟩ := both_load hI.n40 hI.ok.sorted hld hsv' HRD.out.1 HRD.out.2.1 HRD.out.2.2.1
      have HK2 := Lib.hid hk2
      have HI := Lib.hid hI
      have HX := Lib.hid hX
      have HB := Lib.hid (lbare_any .nilIface 0 0 rfl w2 (HE.out.keep (HK1.out.trans hk2) (fun e => e)))
      clear hk2 hld hsv' hI hX HIL
      go_wp2_with fail
      refine HB.out.mono ?_
      rintro e w3 ⟨rfl, hk3⟩
      have HK3 := Lib.hid hk3
      have HED := Lib.hid (iedges_any _ w3 xb n es _ _ _ (HX.out.keep hk3 (fun _ _ e => e)) (by have := HI.out.le; omega))
      clear hk3 HB
      go_wp2_with fail
      refine HED.out.mono ?_
      rintro e w4 ⟨o4, c4, rfl, hS4, hk4⟩
      have HS4 := Lib.hid hS4
      have HK4 := Lib.hid hk4
      have HRS := Lib.hid (rsorted_any _ w4 gb n fs (((HG.out.keep HK2.out (fun _ _ e => e)).keep HK3.out (fun _ _ e => e)).keep hk4 (fun _ _ e => e)) (by have := HRD.out.2.1.length_eq; have := HI.out.le; omega))
      clear hS4 hk4 HED
      go_wp2_with fail
      refine HRS.out.mono ?_
      rintro e w5 ⟨ds, o5, c5, rfl, hp5, hs5, hS5, hk5⟩
      obtain rfl := sorted_of HRD.out.2.2.1 HRD.out.2.1 hp5 hs5
      obtain ⟨m, hm⟩ : ∃ m, ds.length = m := ⟨_, rfl⟩
      have hm' : fs.length = m := by rw [← HRD.out.2.1.length_eq]; exact hm
      rw [hm'] at hS5 ⊢
      rw [hm] at HS4 ⊢
      have hle := HI.out.le
      have HSE := Lib.hid (sameE_q _ _ w5 o4 o5 m c4 c5 ds hm (HS4.out.keep hk5 (fun _ _ e => e)) hS5 (by omega))
      have HK5 := Lib.hid hk5
      clear hp5 hs5 hS5 hk5 hm hm' HRS
      go_wp2_with fail
      refine HSE.out.mono ?_
      rintro e w6 ⟨rfl, mm, rfl⟩
      have HK6 : Hid (Keep Nb w (w5.drewN mm)) := Lib.hid ((HK1.out.trans (HK2.out.trans (HK3.out.trans (HK4.out.trans HK5.out)))).drewN mm)
      have HSV : Hid (Calls Tryz.prog 50 #[.pointer (some ⟨xb, 0, none⟩)] (w5.drewN mm) fun e w' => e = .returned (.string (bstr s)) ∧ Keep Nb (w5.drewN mm) w') := Lib.hid (by
        obtain ⟨gb', bb, Fg, Fb, fs', x1, x2, -⟩ := HX.out.keep (HK3.out.trans (HK4.out.trans (HK5.out.drewN mm))) (fun _ _ e => e)
        have h := isaved_any Fg (w5.drewN mm) xb gb' n ds _ _ _ _ x1 x2 (HL.out.keep HK6.out) HI.out.n40 HI.out.le (fun e he => ⟨HI.out.ok.small e he, (HI.out.ok.over e he).1, (HI.out.ok.over e he).2⟩)
        rw [HRD.out.2.2.2] at h
        exact h)
      clear HSE
      go_wp2_with fail
      refine HSV.out.mono ?_
      rintro e w7 ⟨rfl, hk7⟩
      have HK7 := Lib.hid (HK6.out.trans hk7)
      have hq1 : (s == s) = true := by simp
      clear hk7 HSV
      go_wp2_with fail
      go_ret
      exact ⟨rfl, HK7.out⟩
    · exfalso
      exact hno n es (load_r HRD.out.1 HRD.out.2.1 HRD.out.2.2.1 HRD.out.2.2.2) HRD.out.2.2.2
  · have HK1 := Lib.hid hk1
    have HNO := Lib.hid hno
    have HIL := Lib.hid (iload_any w1 (HL.out.keep hk1) s hsl)
    clear hk1 hno HRL
    go_wp2_with fail
    refine HIL.out.mono ?_
    rintro e w2 ⟨hk2, ⟨xb, n', es', rfl, hld, hsv', hI, hX⟩ | ⟨rfl, hno⟩⟩
    · exfalso
      exact HNO.out n' es' es' (load_i hI.n40 hld hsv' hI.ok.sorted) (List.Perm.refl _) hI.ok.sorted hsv'
    · have HK2 := Lib.hid (HK1.out.trans hk2)
      have HB := Lib.hid (lbare_any (errVal 3) 3 3 rfl w2 (HE.out.keep (HK1.out.trans hk2) (fun e => e)))
      clear hk2 hno HIL
      unfold errVal at HB ⊢
      go_wp2_with fail
      refine HB.out.mono ?_
      rintro e w3 ⟨rfl, hk3⟩
      have HK3 := Lib.hid (HK2.out.trans hk3)
      clear hk3 HB
      go_wp2_with fail
      go_ret
      exact ⟨rfl, HK3.out⟩
end Go.Proofs.YtkpoobnldgfapabGreatDoor

namespace Go.Proofs.YtkpoobnldgfapabGreatDoor.indexLoads
open Go.RowKit Pl Go.ChangeShapes Go.WideShapes Go.ChangeAt
theorem tied_goes (Lk : Looks) {p : Pinned} {s : OpenSpec} {c : OpenClaim} (al : List (List PathCond)) (kinds : List LaidKind) (tests : Bool) (har : Bool × String) (lk goes : Bool)
    (hc : c.holds p s) (hal : ∀ D ∈ al, (c.withDomain D).holds p s) (hw : c.wfByText s = true) (hwal : ∀ D ∈ al, (c.withDomain D).wfByText s = true)
    (htie : c.laidByTextAt Lk p kinds tests)
    (hst : c.start = .entering) (hnb : c.noBlocks = false ∧ c.again = false) (hm : p.checked.prog.mainIs = some (har.1, har.2.toList)) (hn : (!har.1 && har.2.isEmpty && !lk) = false)
    (hl : ∀ f fn, p.checked.prog.funcNamed c.func = some f → p.checked.prog.funcs[f]? = some fn → lk = p.checked.prog.looks [] ∧ ∀ (j : Nat) t, fn.params[j]? = some t → p.checked.prog.wantsStandIn t = false)
    (hg : goes = c.goesBy p.checked.prog) :
    Claim7.holds p (.plain s) { stood := { row := c, standIns := [], harness := har, looks := lk }, kinds := [], alts := al, laidByText := true, laidKinds := kinds, laidTests := tests, laidLooks := Lk, goes := goes } := by
  have h6 : ∀ r : OpenClaim, Claim7.isSixth { stood := { row := r, standIns := [], harness := har, looks := lk }, kinds := [] } = false := fun r => by simpa [Claim7.isSixth] using hn
  refine ⟨Claim7.tied_new_at Lk kinds tests (Claim7.new_of_sixth hc har lk hst hnb hm (h6 c) hl) hw, fun D hD => ?_, htie, (fun h => by cases h), hg⟩
  exact Claim7.tied_new_at Lk kinds tests (Claim7.new_of_sixth (hal D hD) har lk hst hnb hm (h6 _) hl) (hwal D hD)
set_option maxRecDepth 100000 in
theorem lifted (os : Os) (started : os.Started) (H : Type) (enc : TypeId × Value → H) :
    ReturnsInHanded {} Tryz.checked os 6 .any (fun w args => (Rows.indexLoadsSpec.pre enc Tryz.prog Tryz.f6 [] false w args ∧ laidMetH Tryz.prog laidL w) ∧ sizedMet enc Tryz.prog Tryz.f6 (OpenSpec.ofChange Rows.indexLoadsSpec) false w args)
      (Rows.indexLoadsSpec.post enc Tryz.prog Tryz.f6 false true false false) := by
  refine returns_shaped (C := Tryz.checked) (X := fun w _ => laidMetH Tryz.prog laidL w) (fun _ _ _ hh h => h.of_heap hh) own started (by kernel_rfl) Tryz.func6
    (ChangeSpec.witness_at (enc := enc) (C := Tryz.checked) (os := os) (X := fun w _ => laidMetH Tryz.prog laidL w) false (libWorld os) #[.string ⟨#[]⟩] 8 rfl (by kernel_rfl) (by kernel_rfl) (by kernel_rfl) (by kernel_rfl) (by kernel_rfl) (libWorld_met os _)) ?_
  intro W base args ds gs before hsh hval0 hW hL
  have hval : ∀ (j : Nat) t v, Tryz.f6.params[j]? = some t → args[j]? = some v → Value.okWide Tryz.prog W .any base t v := hval0
  have hW' := hW
  obtain ⟨p, q, hA0, hV0, rfl, hfz, hnd⟩ := hW
  have hA : DataW.TrodAll enc Tryz.prog W 0 (fun _ => true) true Tryz.f6.params.toList args.toList ds p := hA0
  have hV : DataW.TrodVars enc Tryz.prog W (fun _ => true) [] gs q := hV0
  rw [Tryz.params6] at hA hval
  obtain ⟨v0, vs0, d0, ds0, p0, q0, hargs, rfl, rfl, h0, r0⟩ := trodAll_cons hA
  obtain ⟨rfl, rfl, rfl⟩ := trodAll_nil r0
  obtain rfl : args = #[v0] := by cases args; simp_all
  obtain ⟨rfl, rfl⟩ : gs = [] ∧ q = [] := by
    cases gs with
    | nil => exact ⟨rfl, hV⟩
    | cons g r => exact absurd hV (by intro h; cases h)
  obtain ⟨s, rfl, rfl, rfl, w0⟩ := Go.ChangeMaps.open_string Tryz.underlying9 (hval 0 9 v0 rfl rfl) h0
  have hlib := lib_laid hsh hL
  have herr := lib_err hL
  clear hA0 hval0
  have walk : Calls Tryz.prog 6 #[.string s] W fun e w' => e = .returned (.bool true) ∧ Keep Nb W w' := by
    by_cases hn : 1500 < s.size
    · exact indexloads_long s hn W
    · exact indexloads_any s.data.toList (by have : s.data.toList.length = s.size := Array.length_toList; omega) W hlib herr
  refine walk.mono fun e W' ⟨he, hk⟩ => ?_
  have bel : Below W.heap.size W W' := hk.to_below (fun _ _ e => e)
  subst he
  exact ⟨_, rfl, _, _, _, [], _, [], hW', trodAll_mk1 (shut_bool Tryz.underlying4 _), trodAll_cons_mk (Go.ChangeMaps.shut_string Tryz.underlying9 w0) trodAll_mk0, rfl, bel.frame _, fun h => by cases h⟩
theorem leaving_of_handed {a : Assume} {C : Checked} {os : Os} {f : FuncId} {r : Reach} {Pre : World → Array Value → Prop} {Post : World → Array Value → Value → World → Prop} (h : ReturnsInHanded a C os f r Pre Post) : ReturnsInLeavingWide a C os f r Pre Post := fun enter => by
  obtain ⟨h0, h1, h2, h3, h4⟩ := h enter
  refine ⟨h0, h1, h2, h3, fun w tape i hf => ?_⟩
  obtain ⟨n, v, w', a1, a2, a3, a4, ⟨j, last, b1, b2, b3⟩, a5⟩ := h4 w tape i hf
  exact ⟨n, v, w', a1, a2, a3, a4, ⟨j, last, b1, b2, b3.2.1, onlyLeaving_of_quiet b3.1, b3.2.2⟩, a5⟩
theorem and_tt {a b : Bool} (hb : b = true) (ha : a = true) : (a && b) = true := by rw [ha, hb]; rfl
set_option maxHeartbeats 4000000 in
/-- The row's closed facts, one by one. -/
theorem closed : joinedFacts Tryz.prog 6 Tryz.f6 Rows.indexLoadsSpec Rows.indexLoadsRow = true := by
  unfold joinedFacts
  repeat
    with_reducible refine and_tt ?_ ?_
    · as_aux_lemma => kernel_rfl
  as_aux_lemma => kernel_rfl
theorem over : Rows.IndexLoadsSaid :=
  OpenClaim.holds_of_wide_leaving 6 Tryz.f6 rfl rfl rfl rfl rfl rfl rfl ⟨rfl, rfl, rfl, rfl, rfl⟩ rfl rfl rfl rfl rfl (by as_aux_lemma => kernel_rfl) Tryz.func6 closed
    (of_decide_eq_true (by as_aux_lemma => kernel_rfl)) (by unfold Func.isWrapper; first | (rw [if_pos (by decide +kernel)]; kernel_rfl) | (rw [if_neg (by decide +kernel)]; exact ⟨rfl, rfl⟩))
    (fun os started H enc _ => leaving_of_handed (lifted os started H enc))
theorem proved : Rows.IndexLoadsCardSaid :=
  tied_goes .later [] [.data, .data, .data, .data, .handle, .sentinel, .sentinel, .pinned] true Rows.indexLoadsCard.stood.harness true Rows.indexLoadsCard.goes
    over (fun _ h => by cases h) (by kernel_rfl) (fun _ h => by cases h) indexLoads_row_tie rfl ⟨rfl, rfl⟩ (by kernel_rfl) rfl
    (fun f fn hf hfn => by
      obtain rfl : f = 6 := Option.some.inj ((show Tryz.prog.funcNamed Rows.indexLoadsRow.func = some 6 by kernel_rfl).symm.trans hf) |>.symm
      obtain rfl : fn = Tryz.f6 := (Option.some.inj (Tryz.func6.symm.trans hfn)).symm
      exact ⟨by kernel_rfl, fun j t ht => by
        rw [Tryz.params6] at ht
        have hj : j = 0 ∨ 1 ≤ j := by omega
        rcases hj with rfl | hj
        · obtain rfl : 9 = t := by simpa using ht
          exact (show Tryz.prog.wantsStandIn 9 = false by kernel_rfl)
        · rw [Array.getElem?_eq_none (by simpa using hj)] at ht; cases ht⟩)
    (by kernel_rfl)
end Go.Proofs.YtkpoobnldgfapabGreatDoor.indexLoads

