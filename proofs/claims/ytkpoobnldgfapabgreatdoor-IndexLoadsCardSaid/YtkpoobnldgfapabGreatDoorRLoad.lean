/- isthmusref: Load. -/
import Derived.Test.YtkpoobnldgfapabGreatDoorPlLoad
import Derived.Test.YtkpoobnldgfapabGreatDoorRSav
import Derived.Test.YtkpoobnldgfapabGreatDoorRNum
import Derived.Deep.RegionHeld3
set_option linter.unusedVariables false
set_option linter.unusedSimpArgs false
namespace Go.Proofs.YtkpoobnldgfapabGreatDoor
open Go.RowKit Pl

theorem rdrop_get {α : Type} {l : List α} {k : Nat} {x : α} (h : l[k]? = some x) : l.drop k = x :: l.drop (k + 1) := by
  obtain ⟨h1, h2⟩ := List.getElem?_eq_some_iff.1 h
  rw [List.drop_eq_getElem_cons h1, h2]

def RLoadPost (w : World) (s : List UInt8) (e : Ending) (w' : World) : Prop :=
  Keep Nb w w' ∧ ((∃ gb n fs es, e = .returned (.tuple #[.pointer (some ⟨gb, 0, none⟩), .int .i64 0]) ∧ rldI (pcz 10 s) = some (n, fs) ∧ es.Perm fs ∧ Sorted es ∧ savedT n es = s ∧ RGr (fun k => w.heap.size ≤ k) w' gb n fs) ∨
    (e = .returned (.tuple #[.pointer none, .int .i64 3]) ∧ ∀ n fs es, rldI (pcz 10 s) = some (n, fs) → es.Perm fs → Sorted es → savedT n es ≠ s))

/-- Between two lines. -/
structure RlRel (w w3 : World) (s : List UInt8) (M c gb n k : Nat) (fs : List E) (wr : World) : Prop where
  keep : Keep Nb w wr
  size : w3.heap.size ≤ wr.heap.size
  row : Sl (fun k => k = w.heap.size) wr 9 1 (some ⟨w.heap.size, 0, none⟩) M c (strs ((pcz 10 s).map bstr))
  gr : RGr (fun j => w3.heap.size ≤ j) wr gb n fs
  ok : LOk n fs
  n40 : n ≤ 40
  rd : rldI (pcz 10 s) = some (n, rldGo n fs ((pcz 10 s).drop (k + 1)))

/-- Three numbers, so far. -/
def kRow (x : List UInt8) (j : Nat) : List Value := [.int .i64 (if 0 < j then kAt x 0 else 0), .int .i64 (if 1 < j then kAt x 1 else 0), .int .i64 (if 2 < j then kAt x 2 else 0)]
theorem kRow_zero (x : List UInt8) : kRow x 0 = [.int .i64 0, .int .i64 0, .int .i64 0] := rfl
theorem kRow_set (x : List UInt8) {j : Nat} (hj : j < 3) : (kRow x j).set j (.int .i64 (kAt x j)) = kRow x (j + 1) := by
  match j, hj with
  | 0, _ => rfl
  | 1, _ => rfl
  | 2, _ => rfl
theorem kRow_at (x : List UInt8) {j : Nat} (hj : j < 3) : (kRow x j)[j]? = some (.int .i64 0) := by
  match j, hj with
  | 0, _ => rfl
  | 1, _ => rfl
  | 2, _ => rfl
theorem kRow_over (x : List UInt8) {j : Nat} (hj : 3 ≤ j) : kRow x (j + 1) = kRow x j := by
  unfold kRow
  rw [if_pos (by omega), if_pos (by omega), if_pos (by omega), if_pos (by omega), if_pos (by omega), if_pos (by omega)]
theorem kAt_over (x : List UInt8) {i : Nat} (h : (pcz 32 x).length ≤ i) : kAt x i = 0 := by
  unfold kAt
  rw [List.getElem?_eq_none h]
  rfl
theorem kRow_end (x : List UInt8) : kRow x (pcz 32 x).length = [.int .i64 (kAt x 0), .int .i64 (kAt x 1), .int .i64 (kAt x 2)] := by
  have h : ∀ i, (if i < (pcz 32 x).length then kAt x i else 0) = kAt x i := fun i => by
    by_cases hi : i < (pcz 32 x).length
    · rw [if_pos hi]
    · rw [if_neg hi, kAt_over x (by omega)]
  unfold kRow
  rw [h, h, h]
theorem kAt_get (x y : List UInt8) {j : Nat} (h : (pcz 32 x)[j]? = some y) : (numT y).getD 0 = kAt x j := by
  unfold kAt
  rw [h]
  rfl

/-- Between two words. -/
structure RwRel (w2 : World) (X m c2 j : Nat) (x : List UInt8) (o2 : Addr) (wi : World) : Prop where
  keep : Keep (fun k => k = X) w2 wi
  row : Sl (fun k => k = o2.block) wi 9 1 (some o2) m c2 (strs ((pcz 32 x).map bstr))
  arr : Row wi X 148 (kRow x j)

set_option maxRecDepth 100000 in
set_option maxHeartbeats 4000000 in
theorem rload_any (w : World) (hL : LibW w) (s : List UInt8) (hs : s.length ≤ 100000) :
    Calls Tryz.prog 46 #[.string (bstr s)] w (RLoadPost w s) := by
  have HL := Lib.hid hL
  have hsp := split_any w hL (bstr s) ⟨#[10]⟩ (by rw [bstr_size]; omega) (by decide)
  rw [splitB_pcz] at hsp
  have HSP := Lib.hid hsp
  clear hL hsp
  go_enter Tryz.func46, Tryz.ntmps46
  go_wp2_with fail
  refine HSP.out.mono ?_
  rintro e w1 ⟨M, c, rfl, hS1, hM, hk1⟩
  obtain ⟨l0, r0, hr0⟩ : ∃ l r, pcz 10 s = l :: r := by
    cases hp : pcz 10 s with
    | nil => exact absurd hp (pcz_ne 10 s)
    | cons l r => exact ⟨l, r, rfl⟩
  have hM5 : M ≤ 100001 := by have := pcz_len 10 s; simp only [List.length_map] at hM; omega
  have hM0 : 0 < M := by rw [hr0] at hM; simp at hM; omega
  have hl0 : l0.length ≤ 100000 := Nat.le_trans (pcz_mem 10 s l0 (by rw [hr0]; simp)) hs
  obtain ⟨g0, hg0, _, hMc, hrow⟩ := hS1.pos hM0
  cases hg0
  have d0 : w1.cell? ⟨w.heap.size, 0, none⟩ = some (.string (bstr l0)) := hrow.cell (by rw [hr0]; rfl)
  have HS1 := Lib.hid hS1
  have HM := Lib.hid hM
  have HK1 := Lib.hid hk1
  have HR0 := Lib.hid hr0
  have HMC := Lib.hid hMc
  have HNUM := Lib.hid (rnumber_any w1 (HL.out.keep hk1) (bstr l0) (by rw [bstr_size]; omega))
  clear hS1 hM hk1 hrow hr0 hMc HSP
  go_wp2_with fail
  refine HNUM.out.mono ?_
  rintro e w2 ⟨rfl, hk2⟩
  have HK2 := Lib.hid hk2
  clear hk2 HNUM d0
  have hb0 : M ≤ c := HMC.out
  cases hn0 : numT l0 with
  | none =>
    simp only [Option.isSome_none, Option.getD_none]
    have HNO : Hid (∀ n fs es, rldI (pcz 10 s) = some (n, fs) → es.Perm fs → Sorted es → savedT n es ≠ s) := Lib.hid (fun n fs es h _ _ => by
      rw [HR0.out] at h
      simp only [rldI, hn0] at h
      cases h)
    clear hn0
    go_wp2_with fail
    go_ret2
    exact ⟨HK1.out.trans HK2.out, .inr ⟨rfl, HNO.out⟩⟩
  | some v =>
    simp only [Option.isSome_some, Option.getD_some]
    have HN0 := Lib.hid hn0
    clear hn0
    by_cases hin : 0 ≤ v ∧ v ≤ 40
    · obtain ⟨n, rfl⟩ : ∃ n : Nat, v = n := ⟨v.toNat, by omega⟩
      have hn40 : n ≤ 40 := by omega
      have HIN := Lib.hid (in_any (n : Int) 0 40 true (by simp; omega) w2)
      have HRD : Hid (rldI (pcz 10 s) = some (n, rldGo n [] ((pcz 10 s).drop 1))) := Lib.hid (by
        rw [HR0.out]
        simp only [rldI, HN0.out]
        rw [if_pos hin]
        simp)
      clear hin
      go_wp2_with fail
      refine HIN.out.mono ?_
      rintro e w2' ⟨rfl, rfl⟩
      have hzg : w.heap.size < w2.heap.size := by have h := HK1.out.size; have h2 := HK2.out.size; have h3 := HS1.out.lt rfl; have h3 : w.heap.size < w1.heap.size := h3; omega
      obtain ⟨w3, hw3⟩ : ∃ w3, w2.alloc (.cells #[.int .i64 n, .slice none 0 0] 56) = w3 := ⟨_, rfl⟩
      have hk3 : Keep Nb w2 w3 := by rw [← hw3]; exact (Keep.refl Nb w2).alloc _
      have hG3 : RGr (fun j => j = w2.heap.size) w3 w2.heap.size n [] := by
        rw [← hw3]
        exact ⟨none, 0, Row.new w2 #[.int .i64 n, .slice none 0 0] 56, rfl, (Sl.nil _ w2 42 3).alloc _, fun _ h => by cases h⟩
      have HW3 := Lib.hid hw3
      have hz3 : w3.heap.size = w2.heap.size + 1 := by rw [← hw3]; simp
      have HR0' : Hid (RlRel w w2 s M c w2.heap.size n 0 [] w3) := Lib.hid ⟨(HK1.out.trans HK2.out).trans hk3, by omega, (HS1.out.keep HK2.out (fun _ _ e => e)).keep hk3 (fun _ _ e => e), hG3.mono (fun j e => by rw [e]; exact Nat.le_refl _), LOk.nil n, hn40, HRD.out⟩
      obtain ⟨m, hm⟩ : ∃ m, M = m + 1 := ⟨M - 1, by omega⟩
      subst hm
      clear hk3 hG3 hw3
      obtain ⟨gb, hgb⟩ : ∃ gb, w2.heap.size = gb := ⟨_, rfl⟩
      have HZG := Lib.hid hzg
      rw [hgb] at HR0' hz3
      by_cases hc1 : c = 1
      · obtain rfl : m = 0 := by omega
        go_wp2_with fail
        rw [HW3.out]
        go_loopg [35] 0 (fun kx s35 wr => s35 = .int .i64 0 ∧ Hid (RlRel w w2 s (0 + 1) c gb n 0 [] wr))
        case atStart => exact ⟨rfl, HR0'⟩
        case round =>
          obtain ⟨rfl, HR⟩ := hrel
          obtain ⟨fs, hfs⟩ : ∃ fs : List E, fs = [] := ⟨_, rfl⟩
          rw [← hfs] at HR
          have hrd : rldI (pcz 10 s) = some (n, fs) := by
            have h := HR.out.rd
            rw [List.drop_eq_nil_of_le (by have h := HM.out; rw [List.length_map] at h; omega)] at h
            exact h
          obtain ⟨hn40', hlok, hids⟩ := rldI_lok hrd
          obtain ⟨es, hp, hso⟩ := sorted_ex hids
          have hles := hlok.le
          have HSV := Lib.hid (rsaved_any _ wr gb n fs es HR.out.gr (HL.out.keep HR.out.keep) hso hp hn40 hles (fun e he => by have h := hlok.ord e (hp.mem_iff.1 he); omega))
          have HRD2 := Lib.hid (And.intro hrd (And.intro hp hso))
          clear hrd hn40' hlok hids hp hso hles
          go_wp2_with fail
          refine HSV.out.mono ?_
          rintro e wS ⟨rfl, hkS⟩
          have HKS := Lib.hid (HR.out.keep.trans hkS)
          have HGS := Lib.hid (HR.out.gr.keep hkS (fun _ _ e => e))
          clear hkS HSV
          obtain ⟨sv, hsv⟩ : ∃ sv, savedT n es = sv := ⟨_, rfl⟩
          have HSE := Lib.hid hsv
          rw [hsv]
          clear hsv
          by_cases hq : sv = s
          · subst hq
            have hq1 : (sv == sv) = true := by simp
            go_wp2_with fail
            go_ret2
            exact ⟨HKS.out, .inl ⟨gb, n, fs, es, rfl, HRD2.out.1, HRD2.out.2.1, HRD2.out.2.2, HSE.out, HGS.out.mono (fun j hj => Nat.le_trans (Nat.le_of_lt HZG.out) hj)⟩⟩
          · have HQ := Lib.hid hq
            have hq1 : (sv == s) = false := by simp [hq]
            have hq2 : decide (sv = s) = false := by simp [hq]
            go_wp2_with fail
            go_ret2
            refine ⟨HKS.out, .inr ⟨rfl, fun n' fs' es' h hp' hso' => ?_⟩⟩
            rw [HRD2.out.1] at h
            cases h
            rw [sorted_ext hso' HRD2.out.2.2 (fun e => (hp'.trans HRD2.out.2.1.symm).mem_iff), HSE.out]
            exact HQ.out
      · go_wp2_with fail
        rw [HW3.out]
        go_loopg [35] m (fun kx s35 wr => ∃ (k : Nat) (fs : List E), s35 = .int .i64 k ∧ k ≤ m ∧ m - k ≤ kx ∧ Hid (RlRel w w2 s (m + 1) c gb n k fs wr))
        case atStart => exact ⟨0, [], rfl, Nat.zero_le _, by omega, HR0'⟩
        case round =>
          clear HR0'
          obtain ⟨k, fs, rfl, hk, hg, HR⟩ := hrel
          by_cases hlt : k < m
          · as_aux_lemma =>
              obtain ⟨wo, rfl⟩ : ∃ wo : World, wo = wr := ⟨_, rfl⟩
              obtain ⟨x, hx⟩ : ∃ x, (pcz 10 s)[k + 1]? = some x := ⟨(pcz 10 s)[k + 1]'(by have h := HM.out; rw [List.length_map] at h; omega), List.getElem?_eq_getElem _⟩
              have HX := Lib.hid hx
              have hxl : x.length ≤ 100000 := Nat.le_trans (pcz_mem 10 s x (List.mem_of_getElem? hx)) hs
              have dx : wo.cell? ⟨w.heap.size, 1 + k, none⟩ = some (.string (bstr x)) := by
                obtain ⟨g, hg', _, _, hrow⟩ := HR.out.row.pos (by omega)
                cases hg'
                exact hrow.cell (by rw [Nat.add_comm]; simp [strs, hx])
              obtain ⟨W1, hW1⟩ : ∃ W1, wo.alloc (.cells #[.int .i64 0, .int .i64 0, .int .i64 0] 148) = W1 := ⟨_, rfl⟩
              obtain ⟨X, hX⟩ : ∃ X, wo.heap.size = X := ⟨_, rfl⟩
              have hA1 : Row W1 X 148 (kRow x 0) := by rw [← hW1, ← hX]; exact Row.new wo #[.int .i64 0, .int .i64 0, .int .i64 0] 148
              have kA1 : Keep Nb wo W1 := by rw [← hW1]; exact (Keep.refl Nb wo).alloc _
              have hz1 : W1.heap.size = X + 1 := by rw [← hW1, ← hX]; simp
              have hsp := split_any W1 (HL.out.keep (HR.out.keep.trans kA1)) (bstr x) ⟨#[32]⟩ (by rw [bstr_size]; omega) (by decide)
              rw [splitB_pcz] at hsp
              have HSP := Lib.hid hsp
              have HA1 := Lib.hid hA1
              have HKA := Lib.hid kA1
              clear hx hA1 kA1 hsp
              go_wp2_with fail
              try rw [hW1]
              try rw [hX]
              refine HSP.out.mono ?_
              rintro e W2 ⟨m2, c2, rfl, hS2, hM2, hk2⟩
              rw [hz1] at hS2
              rw [hz1]
              have HS2 := Lib.hid hS2
              have HM2 := Lib.hid hM2
              have HK2' := Lib.hid hk2
              have hm2 : m2 ≤ 100001 := by have := pcz_len 32 x; simp only [List.length_map] at hM2; omega
              clear hS2 hM2 hk2 HSP
              have hXW : X < W1.heap.size := by omega
              have HIN0 : Hid (RwRel W2 X m2 c2 0 x ⟨X + 1, 0, none⟩ W2) := Lib.hid ⟨Keep.refl _ _, HS2.out, HA1.out.keep HK2'.out (fun e => e)⟩
              have HKW2 : Hid (Keep Nb w W2) := Lib.hid ((HR.out.keep.trans HKA.out).trans HK2'.out)
              have hXw : w.heap.size ≤ X := by rw [← hX]; exact HR.out.keep.size
              clear hW1 HA1
              go_wp2_with fail
              go_loopg [42] m2 (fun kx s42 wi => ∃ j : Nat, s42 = .int .i64 j ∧ j ≤ m2 ∧ m2 - j ≤ kx ∧ Hid (RwRel W2 X m2 c2 j x ⟨X + 1, 0, none⟩ wi))
              case atStart => exact ⟨0, rfl, Nat.zero_le _, by omega, HIN0⟩
              case round =>
                clear HIN0
                obtain ⟨j, rfl, hj, hg2, HI⟩ := hrel
                by_cases hlt2 : j < m2
                · obtain ⟨y, hy⟩ : ∃ y, (pcz 32 x)[j]? = some y := ⟨(pcz 32 x)[j]'(by have h := HM2.out; rw [List.length_map] at h; omega), List.getElem?_eq_getElem _⟩
                  have hyl : y.length ≤ 100000 := Nat.le_trans (pcz_mem 32 x y (List.mem_of_getElem? hy)) hxl
                  have dy : wr.cell? ⟨X + 1, j, none⟩ = some (.string (bstr y)) := by
                    obtain ⟨g, hg', _, _, hrow⟩ := HI.out.row.pos (by omega)
                    cases hg'
                    exact hrow.cell (by simp [strs, hy])
                  have HKA1 := kAt_get x y hy
                  obtain ⟨v, hv⟩ : ∃ v, (numT y).getD 0 = v := ⟨_, rfl⟩
                  obtain ⟨okv, hokv⟩ : ∃ b, (numT y).isSome = b := ⟨_, rfl⟩
                  have hkw : Keep Nb w wr := HKW2.out.trans' HI.out.keep (fun _ _ e => e) (fun i hi e => by rw [e] at hi; exact Nat.not_lt.2 hXw hi)
                  by_cases h3 : j < 3
                  · have HNUM := Lib.hid (rnumber_any wr (HL.out.keep hkw) (bstr y) (by rw [bstr_size]; omega))
                    have hv2 : (numT (bstr y).data.toList).getD 0 = v := hv
                    have hok2 : (numT (bstr y).data.toList).isSome = okv := hokv
                    rw [hv2, hok2] at HNUM
                    rw [hv] at HKA1
                    have HKJ := Lib.hid HKA1
                    have HKW := Lib.hid hkw
                    have h3' : (j : Int) < 3 := by omega
                    clear HKA1 hkw hv hv2 hokv hok2 hy
                    go_wp2_with fail
                    refine HNUM.out.mono ?_
                    rintro e w5 ⟨rfl, hk5⟩
                    have hA5 := HI.out.arr.keep hk5 (fun e => e)
                    have HA5 := Lib.hid hA5
                    have HK5 := Lib.hid hk5
                    clear hk5 HNUM dy hA5
                    have c5 := HA5.out.cell (kRow_at x h3)
                    have f5 := HA5.out.frozen j none
                    have hjm : IntKind.i64.wrap ((j : Int) + 1) = j + 1 := IntWalk.i64_in _ (by omega)
                    have ks : Keep (fun i => i = X) w5 (w5.setCell ⟨X, j, none⟩ (.int .i64 v)) := (Keep.refl (fun i => i = X) w5).setCell (.inl rfl) _
                    have hS5 := (HI.out.row.keep HK5.out (fun _ _ e => e)).keep ks (fun i h1 h2 => by rw [h2] at h1; have h1 : X = X + 1 := h1; omega)
                    have hset := HA5.out.set (i := j) (by show j < 3; exact h3) (.int .i64 v)
                    rw [HKJ.out, kRow_set x h3, ← HKJ.out] at hset
                    have HN5 : Hid (RwRel W2 X m2 c2 (j + 1) x ⟨X + 1, 0, none⟩ (w5.setCell ⟨X, j, none⟩ (.int .i64 v))) := Lib.hid ⟨(HI.out.keep.trans' HK5.out (fun _ _ e => e) (fun _ _ e => e.elim)).trans ks, hS5, hset⟩
                    clear ks hS5 hset
                    go_wp2_with fail
                    go_roundg (m2 - (j + 1))
                    case measure => omega
                    case rel => exact ⟨j + 1, by go_num, by omega, Nat.le_refl _, HN5⟩
                  · have h3' : ¬ (j : Int) < 3 := by omega
                    have HN5 : Hid (RwRel W2 X m2 c2 (j + 1) x ⟨X + 1, 0, none⟩ wr) := Lib.hid ⟨HI.out.keep, HI.out.row, by rw [kRow_over x (by omega)]; exact HI.out.arr⟩
                    clear hkw HKA1 hv hokv hy
                    go_wp2_with fail
                    go_roundg (m2 - (j + 1))
                    case measure => omega
                    case rel => exact ⟨j + 1, by go_num, by omega, Nat.le_refl _, HN5⟩
                · obtain rfl : m2 = j := by omega
                  have hkE : Keep Nb w wr := HKW2.out.trans' HI.out.keep (fun _ _ e => e) (fun i hi e => by rw [e] at hi; exact Nat.not_lt.2 hXw hi)
                  have hAE := HI.out.arr
                  have hlen : (pcz 32 x).length = m2 := by have h := HM2.out; rw [List.length_map] at h; exact h
                  rw [← hlen, kRow_end] at hAE
                  obtain ⟨a0, ha0⟩ : ∃ a, kAt x 0 = a := ⟨_, rfl⟩
                  obtain ⟨a1, ha1⟩ : ∃ a, kAt x 1 = a := ⟨_, rfl⟩
                  obtain ⟨a2, ha2⟩ : ∃ a, kAt x 2 = a := ⟨_, rfl⟩
                  rw [ha0, ha1, ha2] at hAE
                  have e0 := hAE.cell (i := 0) rfl
                  have e1 := hAE.cell (i := 1) rfl
                  have e2 := hAE.cell (i := 2) rfl
                  have HAD := Lib.hid (radd_any (fun i => w2.heap.size ≤ i ∧ i < X) wr gb n fs a0 a1 a2 (by
                    have h := (((HR.out.gr.tight.keep HKA.out (fun _ _ e => e)).keep HK2'.out (fun _ _ e => e)).keep HI.out.keep (fun i h1 h2 => by have h3 := h1.2; rw [h2, hX] at h3; exact Nat.lt_irrefl _ h3))
                    rw [hX] at h
                    exact h) (fun i hi => Nat.lt_of_lt_of_le hi.2 (by have := HKA.out.size; have := HK2'.out.size; have := HI.out.keep.size; omega)) hn40 HR.out.ok.le)
                  have HKE := Lib.hid hkE
                  have HRD3 : Hid (rldI (pcz 10 s) = some (n, rldGo n (raddEs n fs a0 a1 a2) ((pcz 10 s).drop (k + 1 + 1)))) := Lib.hid (by
                    have h := HR.out.rd
                    rw [rdrop_get HX.out] at h
                    rw [← ha0, ← ha1, ← ha2]
                    exact h)
                  clear hkE hAE hlen ha0 ha1 ha2
                  go_wp2_with fail
                  refine HAD.out.mono ?_
                  rintro e w6 ⟨rfl, hG6, hk6⟩
                  have hz6 := hk6.size
                  have HN6 : Hid (RlRel w w2 s (m + 1) c gb n (k + 1) (raddEs n fs a0 a1 a2) w6) := Lib.hid (by
                    refine ⟨HKE.out.trans' hk6 (fun _ _ e => e) (fun i hi e => by show False; have := e.1; have := HZG.out; omega), ?_, ?_, ?_, HR.out.ok.radd _ _ _, hn40, HRD3.out⟩
                    · have := HR.out.size; have := HKA.out.size; have := HK2'.out.size; have := HI.out.keep.size; omega
                    · exact (((HR.out.row.keep HKA.out (fun _ _ e => e)).keep HK2'.out (fun _ _ e => e)).keep HI.out.keep (fun i h1 h2 => by rw [h2] at h1; have h1 : X = w.heap.size := h1; have := HS1.out.lt rfl; have := HR.out.size; have := HZG.out; omega)).keep hk6 (fun i h1 h2 => by have h1 : i = w.heap.size := h1; have := h2.1; have := HZG.out; omega)
                    · refine hG6.mono (fun i hi => ?_)
                      rcases hi with hi | hi
                      · exact hi.1
                      · have := HR.out.size; have := HKA.out.size; have := HK2'.out.size; have := HI.out.keep.size; show w2.heap.size ≤ i; omega)
                  obtain ⟨ae, hae⟩ : ∃ ae, addErr n fs a0 a1 a2 = ae := ⟨_, rfl⟩
                  rw [hae]
                  clear hae hG6 hk6 HAD e0 e1 e2
                  have hkm : IntKind.i64.wrap ((k : Int) + 1) = k + 1 := IntWalk.i64_in _ (by omega)
                  go_wp2_with fail
                  go_roundg (m - (k + 1))
                  case measure => omega
                  case rel => exact ⟨k + 1, _, by go_num, by omega, Nat.le_refl _, HN6⟩
          · obtain rfl : m = k := by omega
            have hrd : rldI (pcz 10 s) = some (n, fs) := by
              have h := HR.out.rd
              rw [List.drop_eq_nil_of_le (by have h := HM.out; rw [List.length_map] at h; omega)] at h
              exact h
            obtain ⟨hn40', hlok, hids⟩ := rldI_lok hrd
            obtain ⟨es, hp, hso⟩ := sorted_ex hids
            have hles := hlok.le
            have HSV := Lib.hid (rsaved_any _ wr gb n fs es HR.out.gr (HL.out.keep HR.out.keep) hso hp hn40 hles (fun e he => by have h := hlok.ord e (hp.mem_iff.1 he); omega))
            have HRD2 := Lib.hid (And.intro hrd (And.intro hp hso))
            clear hrd hn40' hlok hids hp hso hles
            go_wp2_with fail
            refine HSV.out.mono ?_
            rintro e wS ⟨rfl, hkS⟩
            have HKS := Lib.hid (HR.out.keep.trans hkS)
            have HGS := Lib.hid (HR.out.gr.keep hkS (fun _ _ e => e))
            clear hkS HSV
            obtain ⟨sv, hsv⟩ : ∃ sv, savedT n es = sv := ⟨_, rfl⟩
            have HSE := Lib.hid hsv
            rw [hsv]
            clear hsv
            by_cases hq : sv = s
            · subst hq
              have hq1 : (sv == sv) = true := by simp
              go_wp2_with fail
              go_ret2
              exact ⟨HKS.out, .inl ⟨gb, n, fs, es, rfl, HRD2.out.1, HRD2.out.2.1, HRD2.out.2.2, HSE.out, HGS.out.mono (fun j hj => Nat.le_trans (Nat.le_of_lt HZG.out) hj)⟩⟩
            · have HQ := Lib.hid hq
              have hq1 : (sv == s) = false := by simp [hq]
              have hq2 : decide (sv = s) = false := by simp [hq]
              go_wp2_with fail
              go_ret2
              refine ⟨HKS.out, .inr ⟨rfl, fun n' fs' es' h hp' hso' => ?_⟩⟩
              rw [HRD2.out.1] at h
              cases h
              rw [sorted_ext hso' HRD2.out.2.2 (fun e => (hp'.trans HRD2.out.2.1.symm).mem_iff), HSE.out]
              exact HQ.out
    · have HIN := Lib.hid (in_any v 0 40 false (by simp; omega) w2)
      have HNO : Hid (∀ n fs es, rldI (pcz 10 s) = some (n, fs) → es.Perm fs → Sorted es → savedT n es ≠ s) := Lib.hid (fun n fs es h _ _ => by
        rw [HR0.out] at h
        simp only [rldI, HN0.out] at h
        rw [if_neg hin] at h
        cases h)
      clear hin
      go_wp2_with fail
      refine HIN.out.mono ?_
      rintro e w2' ⟨rfl, rfl⟩
      go_wp2_with fail
      go_ret2
      exact ⟨HK1.out.trans HK2.out, .inr ⟨rfl, HNO.out⟩⟩
end Go.Proofs.YtkpoobnldgfapabGreatDoor
