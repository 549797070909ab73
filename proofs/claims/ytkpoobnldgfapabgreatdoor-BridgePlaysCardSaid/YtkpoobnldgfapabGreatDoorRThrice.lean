/- isthmusref: Thrice. -/
import Derived.Test.YtkpoobnldgfapabGreatDoorRTwos
import Derived.Test.YtkpoobnldgfapabGreatDoorRBr
import Derived.Test.YtkpoobnldgfapabGreatDoorRTake
import Derived.Test.YtkpoobnldgfapabGreatDoorC2
import Derived.Deep.RegionLaw
set_option linter.unusedVariables false
set_option linter.unusedSimpArgs false
namespace Go.Proofs.YtkpoobnldgfapabGreatDoor
open Go.RowKit Pl

def rowsT (fs : List E) (l : List (Nat × Nat)) : List (Nat → Nat) := labG fs :: l.map (fun p => labG (withoutEs [p.1, p.2] [] fs))

theorem rowsT_snoc (fs : List E) (l : List (Nat × Nat)) (p : Nat × Nat) : rowsT fs (l ++ [p]) = rowsT fs l ++ [labG (withoutEs [p.1, p.2] [] fs)] := by simp [rowsT]
theorem rowsT_len (fs : List E) (l : List (Nat × Nat)) : (rowsT fs l).length = l.length + 1 := by simp [rowsT]

/-- In the midst: whose labels have been told, and whose are to come. -/
def TRel (w : World) (A n : Nat) (Z : Nat → Prop) (fs : List E) (done rest : List (Nat × Nat)) (wr : World) : Prop :=
  done ++ rest = twos fs ∧ ∃ o c, Row wr A 29 [.slice o (done.length + 1 : Nat) c] ∧ LRows (fun k => w.heap.size ≤ k ∧ k ≠ A ∧ ¬ Z k) wr n o (done.length + 1) c (rowsT fs done) ∧ Keep Nb w wr

theorem trel_next {w W wB w9 : World} {A n g c c' cq q : Nat} {o : Option Addr} {Z : Nat → Prop} {fs : List E} {done rest : List (Nat × Nat)} {p : Nat × Nat} {rw_ : Nat → Rw} {f : Nat → List Nat}
    (hzA : w.heap.size ≤ A) (hsum : done ++ p :: rest = twos fs) (hA : Row W A 29 [.slice o (done.length + 1 : Nat) c]) (hz : ∀ k, Z k → k < W.heap.size)
    (h2 : ∀ i L, (rowsT fs done)[i]? = some L → f i = (List.range n).map L) (hM : MatR (fun k => w.heap.size ≤ k ∧ k ≠ A ∧ ¬ Z k) W 33 3 o (done.length + 1) c rw_ f) (hk : Keep Nb w W)
    (kB : Keep Nb W wB) (hr : Sl (fun k => W.heap.size ≤ k) wB 3 1 (some ⟨q, 0, none⟩) n cq (fints n (labG (withoutEs [p.1, p.2] [] fs))))
    (hS : Sl (fun k => (w.heap.size ≤ k ∧ k ≠ A ∧ ¬ Z k) ∨ k = wB.heap.size + 1) w9 33 1 (some ⟨g, 0, none⟩) (done.length + 1 + 1) c' ((List.range (done.length + 1)).map (fun i => (rw_ i).val) ++ [.slice (some ⟨q, 0, none⟩) n cq]))
    (k9 : Keep (Bl o) wB w9) (hg : o = some ⟨g, 0, none⟩ ∨ g = wB.heap.size + 1) :
    TRel w A n Z fs (done ++ [p]) rest (w9.setCell ⟨A, 0, none⟩ (.slice (some ⟨g, 0, none⟩) (done.length + 1 + 1) c')) ∧ Row w9 A 29 [.slice o (done.length + 1 : Nat) c] ∧ Keep (fun k => k = A ∨ Bl o k) W (w9.setCell ⟨A, 0, none⟩ (.slice (some ⟨g, 0, none⟩) (done.length + 1 + 1) c')) := by
  have zk := hk.size
  have zB := kB.size
  have z9 := k9.size
  have zA := hA.lt
  have hbl : ∀ k, Bl o k → (w.heap.size ≤ k ∧ k ≠ A ∧ ¬ Z k) ∧ k < W.heap.size := by
    rintro k ⟨x, hx, rfl⟩
    exact ⟨hM.out.foot x hx, hM.out.lt hx⟩
  have hA9 : Row w9 A 29 [.slice o (done.length + 1 : Nat) c] := (hA.keep kB (fun e => e)).keep k9 (fun e => (hbl A e).1.2.1 rfl)
  have hMB := hM.keep kB (fun _ _ e => e)
  have hL0 : LRows (fun k => w.heap.size ≤ k ∧ k ≠ A ∧ ¬ Z k) wB n o (done.length + 1) c (rowsT fs done) := ⟨rowsT_len _ _, rw_, f, h2, hMB⟩
  have hr' : Sl (fun k => w.heap.size ≤ k ∧ k ≠ A ∧ ¬ Z k) wB 3 1 (some ⟨q, 0, none⟩) n cq (fints n (labG (withoutEs [p.1, p.2] [] fs))) := hr.mono fun k hk' => by
    have hk' : W.heap.size ≤ k := hk'
    exact ⟨by omega, by omega, fun e => by have := hz k e; omega⟩
  have hL : LRows (fun k => w.heap.size ≤ k ∧ k ≠ A ∧ ¬ Z k) w9 n (some ⟨g, 0, none⟩) (done.length + 1 + 1) c' (rowsT fs done ++ [labG (withoutEs [p.1, p.2] [] fs)]) := by
    refine ⟨by rw [List.length_append, rowsT_len]; rfl, _, _, fun i L hi => ?_, hMB.push (l := (List.range n).map (labG (withoutEs [p.1, p.2] [] fs))) (by simp) hr' (fun a ha hb => ?_) hS k9 hg ⟨by omega, by omega, fun e => by have := hz _ e; omega⟩⟩
    · by_cases e : i = done.length + 1
      · subst e
        simp only [if_pos rfl]
        rw [List.getElem?_append_right (by rw [rowsT_len]; omega), rowsT_len, Nat.sub_self] at hi
        simp at hi; rw [hi]; simp
      · simp only [if_neg e]
        have hlt : i < done.length + 1 := by
          have := (List.getElem?_eq_some_iff.1 hi).1
          rw [List.length_append, rowsT_len] at this
          simp at this; omega
        rw [List.getElem?_append_left (by rw [rowsT_len]; omega)] at hi
        exact h2 i L hi
    · have h1 := (hbl _ hb).2
      have h2 : W.heap.size ≤ a.block := hr.foot a ha
      omega
  have kS : Keep (fun k => k = A) w9 (w9.setCell ⟨A, 0, none⟩ (.slice (some ⟨g, 0, none⟩) (done.length + 1 + 1) c')) := Keep.setCell (p := ⟨A, 0, none⟩) (Keep.refl (fun k => k = A) w9) (.inl rfl) _
  refine ⟨⟨by rw [← hsum]; simp, some ⟨g, 0, none⟩, c', ?_, ?_, ?_⟩, hA9, ?_⟩
  · have := hA9.set (i := 0) (by simp) (.slice (some ⟨g, 0, none⟩) (done.length + 1 + 1) c')
    simpa using this
  · rw [rowsT_snoc]
    have := hL.keep kS (fun k h e => h.2.1 e)
    simpa using this
  · refine ((hk.trans kB).trans' k9 (fun _ _ e => e) (fun k hk' e => ?_)).trans' kS (fun _ _ e => e) (fun k hk' e => ?_)
    · have := (hbl k e).1.1; show False; omega
    · have h1 : k < w.heap.size := hk'
      have h2 : k = A := e
      show False; omega
  · exact (kB.trans' k9 (fun _ _ e => e.elim) (fun k _ e => .inr e)).trans' kS (fun _ _ e => e) (fun k _ e => .inl e)

def RThrPost (w : World) (n : Nat) (es : List E) (e : Ending) (w' : World) : Prop :=
  ∃ L : Nat → Nat, Canon n L ∧ (∀ x y, x < n → y < n → (L x = L y ↔ Thr es x y)) ∧ QPartsPost w n L e w'

/-- A row of labels that has just been built. -/
theorem LRows.one {F : Nat → Prop} (w : World) {n cq : Nat} {oq : Option Addr} {L : Nat → Nat} (hr : Sl F w 3 1 oq n cq (fints n L)) (hF : F w.heap.size) :
    LRows F (w.alloc (.cells #[.slice oq n cq] 33)) n (some ⟨w.heap.size, 0, none⟩) 1 1 [L] := by
  refine ⟨rfl, fun _ => ⟨oq, n, cq⟩, fun _ => (List.range n).map L, fun i L' h => ?_, ?_, fun i _ => ?_, fun i _ => by simp, fun i a _ ha hb => ?_⟩
  · cases i with
    | zero => simp at h; rw [h]
    | succ i => simp at h
  · exact (Sl.just w 33 1 1 [.slice oq n cq] rfl (by simp [maxLen])).mono (fun k e => e ▸ hF)
  · have : ((List.range n).map L).length = n := by simp
    rw [this]
    exact hr.keep ((Keep.refl Nb w).alloc _) (fun _ _ e => e)
  · obtain ⟨x, hx, hxb⟩ := hb
    simp at hx; subst hx
    have := hr.lt ha
    simp at hxb; omega

set_option maxRecDepth 100000 in
set_option maxHeartbeats 2000000 in
theorem rthrice_any (F : Nat → Prop) (w : World) (g n : Nat) (es fs : List E) (hG : RGr F w g n fs) (hn : n ≤ 40) (hl : fs.length ≤ 120) (hs : Sorted es) (hp : es.Perm fs) (ho : Over n fs) :
    Calls Tryz.prog 23 #[.pointer (some ⟨g, 0, none⟩)] w (RThrPost w n es) := by
  have HG := Lib.hid hG
  have HS := Lib.hid hs
  have HP := Lib.hid hp
  have HO := Lib.hid ho
  have hL := rlabels_any F w g n fs hG hn (by omega) ho
  have HL := Lib.hid hL
  have h120 : (twos fs).length ≤ 14400 := Nat.le_trans (twos_len fs) (Nat.mul_le_mul hl hl)
  have H120 := Lib.hid h120
  clear hG hs hp ho hL h120
  go_enter Tryz.func23, Tryz.ntmps23
  go_wp2_with fail
  refine HL.out.mono ?_
  rintro e1 w1 ⟨q, rfl, hs1, hk1⟩
  have HS1 := Lib.hid hs1
  have HK1 := Lib.hid hk1
  clear hs1 hk1 HL
  go_upto_region 2 with (fail)
  obtain ⟨A, hA⟩ : ∃ A, w1.heap.size + 1 = A := ⟨_, rfl⟩
  obtain ⟨wa, hwa⟩ : ∃ wa, w1.alloc (.cells #[.slice (some ⟨q, 0, none⟩) n n] 33) = wa := ⟨_, rfl⟩
  obtain ⟨w2, hw2⟩ : ∃ w2, wa.alloc (.cells #[.slice (some ⟨w1.heap.size, 0, none⟩) 1 1] 29) = w2 := ⟨_, rfl⟩
  have hzA : w.heap.size ≤ A := by have := HK1.out.size; omega
  have hT0 : TRel w A n (fun _ => False) fs [] (twos fs) w2 := by
    have zk := HK1.out.size
    have hwa1 : wa.heap.size = A := by rw [← hwa, ← hA]; simp
    have k1 : Keep Nb w1 wa := by rw [← hwa]; exact (Keep.refl Nb w1).alloc _
    have k2 : Keep Nb wa w2 := by rw [← hw2]; exact (Keep.refl Nb wa).alloc _
    have hlr : LRows (fun k => w.heap.size ≤ k ∧ k < A) wa n (some ⟨w1.heap.size, 0, none⟩) 1 1 [labG fs] := by
      rw [← hwa]
      exact LRows.one w1 (HS1.out.tight.mono (fun k hk => ⟨hk.1, by omega⟩)) ⟨zk, by omega⟩
    refine ⟨rfl, some ⟨w1.heap.size, 0, none⟩, 1, ?_, (hlr.keep k2 (fun _ _ e => e)).mono (fun k hk => ⟨hk.1, by omega, fun e => e⟩), (HK1.out.trans k1).trans k2⟩
    rw [← hw2, ← hwa1]
    exact Row.new wa #[.slice (some ⟨w1.heap.size, 0, none⟩) 1 1] 29
  have HT0 := Lib.hid hT0
  obtain ⟨og, cg, hM⟩ := HG.out
  have HMG := Lib.hid hM
  have g1 := (hM.keep hT0.2.choose_spec.choose_spec.2.2 (fun _ _ e => e)).head.cell (i := 1) rfl
  obtain ⟨m, hm⟩ : ∃ m, fs.length = m := ⟨_, rfl⟩
  have hm120 : m ≤ 120 := by omega
  have HM : Hid (fs.length = m) := Lib.hid hm
  rw [hm] at g1
  rw [hwa, hw2, hA]
  clear hwa hw2 hA hT0 hM hm
  go_wp2_with fail
  clear g1
  go_loopg [16] m (fun kx s16 wr => ∃ (i : Nat) (done : List (Nat × Nat)), s16 = .int .i64 i ∧ i ≤ m ∧ m - i ≤ kx ∧ Hid (TRel w A n (fun _ => False) fs done (twos (fs.drop i)) wr))
  case atStart => exact ⟨0, [], rfl, Nat.zero_le _, by omega, HT0⟩
  case round =>
    obtain ⟨i, done, rfl, hi, hg, HR⟩ := hrel
    clear HT0
    by_cases hlt : i < m
    · have hltf : i < fs.length := by rw [HM.out]; exact hlt
      obtain ⟨e, hy⟩ : ∃ e, fs[i]? = some e := ⟨_, List.getElem?_eq_getElem hltf⟩
      have hkr : Keep Nb w wr := HR.out.2.choose_spec.choose_spec.2.2
      have hMr := HMG.out.keep hkr (fun _ _ e => e)
      have hSr := hMr.s
      rw [HM.out] at hSr
      obtain ⟨ge, rfl, hFg, hnc, hrow⟩ := hSr.pos (by omega)
      have d1 := hrow.edges.id _ _ hy
      have d2 := hrow.edges.a _ _ hy
      have d3 := hrow.edges.b _ _ hy
      have HY : Hid (fs[i]? = some e ∧ fs.drop i = e :: fs.drop (i + 1)) := Lib.hid ⟨hy, by
        rw [List.drop_eq_getElem_cons hltf]
        have := List.getElem?_eq_getElem hltf
        rw [hy] at this; cases this; rfl⟩
      obtain ⟨X, hX⟩ : ∃ X, wr.heap.size = X := ⟨_, rfl⟩
      obtain ⟨wI, hwI⟩ : ∃ wI, wr.alloc (.cells #[.int .i64 e.id, .int .i64 e.a, .int .i64 e.b] 42) = wI := ⟨_, rfl⟩
      have HI : Hid (Keep Nb wr wI ∧ wI.cell? ⟨X, 0, none⟩ = some (.int .i64 e.id) ∧ wI.heap.size = X + 1) := Lib.hid (by
        rw [← hwI, ← hX]; exact ⟨(Keep.refl Nb wr).alloc _, by rw [World.cell?_alloc_at _ _ _ _ rfl]; rfl, by simp⟩)
      have HR0 : Hid (TRel w A n (fun k => k = X) fs done (twosTo e ((fs.drop i).drop 0) ++ twos (fs.drop (i + 1))) wI ∧ wI.cell? ⟨X, 0, none⟩ = some (.int .i64 e.id)) := Lib.hid ⟨by
        obtain ⟨h1, o, c, h2, h3, h4⟩ := HR.out
        refine ⟨?_, o, c, h2.keep HI.out.1 (fun e => e), ?_, h4.trans HI.out.1⟩
        · rw [List.drop_zero, HY.out.2]; rw [HY.out.2] at h1; exact h1
        · exact (h3.keep HI.out.1 (fun _ _ e => e) |> fun h => by
            have h5 := (h3.tight.keep HI.out.1 (fun _ _ e => e))
            exact h5.mono (fun k hk => ⟨hk.1.1, hk.1.2.1, by have := hk.2; omega⟩)), HI.out.2.1⟩
      have HMI : Hid (RGrMem F wI g n fs (some ⟨ge, 0, none⟩) cg) := Lib.hid (hMr.keep HI.out.1 (fun _ _ e => e))
      have g1 := HMI.out.head.cell (i := 1) rfl
      rw [HM.out] at g1
      have hz3 : (0 : Int) ≤ (i : Int) := by omega
      have hz4 : (i : Int) ≤ (m : Int) := by omega
      have hz5 : m ≤ cg := hnc
      have hz6 : (m : Int) ≤ (cg : Int) := by omega
      have hz7 : (i : Int) ≤ (cg : Int) := by omega
      clear hkr hMr hSr hrow hy HR
      go_upto_region 5 with (fail)
      clear hwI hX d1 d2 d3
      go_cut [26, 27, 28] (fun v n z wc => ∃ (c' : Nat), v = .slice (some ⟨ge, i * 3, none⟩) (m - i) c' ∧ n = .int .i64 (m - i : Nat) ∧ z = .int .i64 0 ∧ m - i ≤ c' ∧ wI = wc)
      case first =>
        have hkc : cg ≠ i := by omega
        go_wp2_with fail
        go_meet
        exact ⟨cg - i, rfl, rfl, rfl, by omega, rfl⟩
      case rest =>
        obtain ⟨c', rfl, rfl, rfl, hc', hwI⟩ := hcut
        obtain ⟨wJ, rfl⟩ : ∃ wJ : World, wJ = wc := ⟨_, rfl⟩
        subst hwI
        clear hz3 hz4 hz5 hz6 hz7 g1
        obtain ⟨j, hj⟩ : ∃ j, m - i = j := ⟨_, rfl⟩
        rw [hj] at hc' ⊢
        have HM2 : Hid (m - i = j ∧ (fs.drop i).length = j) := Lib.hid ⟨hj, by rw [List.length_drop, HM.out]; exact hj⟩
        have hj120 : j ≤ 120 := by omega
        clear hj
        go_wp2_with fail
        go_loopg [28] j (fun ky s28 wr2 => ∃ (k : Nat) (done : List (Nat × Nat)), s28 = .int .i64 k ∧ k ≤ j ∧ j - k ≤ ky ∧ Hid (TRel w A n (fun k => k = X) fs done (twosTo e ((fs.drop i).drop k) ++ twos (fs.drop (i + 1))) wr2 ∧ wr2.cell? ⟨X, 0, none⟩ = some (.int .i64 e.id)))
        case atStart => exact ⟨0, done, rfl, Nat.zero_le _, by omega, HR0⟩
        case round =>
          clear HR0
          obtain ⟨k, done, rfl, hk, hgk, HR⟩ := hrel
          by_cases hkm : k < j
          · have hikf : i + k < fs.length := by have := HM2.out.1; have := HM.out; omega
            obtain ⟨f, hf⟩ : ∃ f, fs[i + k]? = some f := ⟨_, List.getElem?_eq_getElem hikf⟩
            have HD : Hid ((fs.drop i).drop k = f :: (fs.drop i).drop (k + 1)) := Lib.hid (by
              rw [List.drop_drop, List.drop_drop, List.drop_eq_getElem_cons hikf]
              have := List.getElem?_eq_getElem hikf
              rw [hf] at this; cases this; rfl)
            obtain ⟨hsum, o, c, hRA, hLR, hkr⟩ := HR.out.1
            have hcX := HR.out.2
            have hMr := HMG.out.keep hkr (fun _ _ e => e)
            obtain ⟨g', hg', _, _, hrow⟩ := hMr.s.pos (by omega)
            cases hg'
            have d1 := hrow.edges.id _ _ hf
            have d2 := hrow.edges.a _ _ hf
            have d3 := hrow.edges.b _ _ hf
            rw [show (i + k) * 3 = i * 3 + k * 3 by omega] at d1 d2 d3
            have hdl : done.length ≤ 14400 := by
              have h1 := congrArg List.length hsum
              rw [List.length_append] at h1
              have := H120.out
              omega
            obtain ⟨Y, hY⟩ : ∃ Y, wr.heap.size = Y := ⟨_, rfl⟩
            obtain ⟨W, hW⟩ : ∃ W, wr.alloc (.cells #[.int .i64 f.id, .int .i64 f.a, .int .i64 f.b] 42) = W := ⟨_, rfl⟩
            have kW : Keep Nb wr W := by rw [← hW]; exact (Keep.refl Nb wr).alloc _
            have f3 : W.cell? ⟨Y, 0, none⟩ = some (.int .i64 f.id) := by rw [← hW, ← hY, World.cell?_alloc_at _ _ _ _ rfl]; rfl
            have f2 := kW.cell hcX (fun e => e)
            have hRW := hRA.keep kW (fun e => e)
            have a0 := hRW.cell (i := 0) rfl
            have hXA : X ≠ A := by
              intro e; subst e
              have h1 := hRA.cell (i := 0) rfl
              rw [hcX] at h1; cases h1
            have hAz := hRA.lt
            have hXz := World.block_lt_of_cell? _ _ hcX
            obtain ⟨hl1, rw_, ff, hl2, hMM⟩ := (hLR.keep kW (fun _ _ e => e))
            have hYA : Y ≠ A := by omega
            have HBL : Hid (∀ x, Bl o x → x ≠ X ∧ x ≠ Y) := Lib.hid (by
              rintro x ⟨a, ha, rfl⟩
              obtain ⟨_, _, _, _, h5⟩ := hLR
              have h6 := h5.out.lt ha
              have h7 := h5.out.foot a ha
              exact ⟨h7.2.2, by omega⟩)
            have HMM := Lib.hid hMM
            have HL2 := Lib.hid hl2
            have HRW := Lib.hid hRW
            have HKW := Lib.hid (hkr.trans kW)
            have HFF : Hid (W.cell? ⟨X, 0, none⟩ = some (.int .i64 e.id) ∧ W.cell? ⟨Y, 0, none⟩ = some (.int .i64 f.id)) := Lib.hid ⟨f2, f3⟩
            have HSUM : Hid (done ++ (e.id, f.id) :: (twosTo e ((fs.drop i).drop (k + 1)) ++ twos (fs.drop (i + 1))) = twos fs) := Lib.hid (by
              rw [HD.out] at hsum; exact hsum)
            obtain ⟨ls, hls⟩ : ∃ ls, withoutEs [e.id, f.id] [] fs = ls := ⟨_, rfl⟩
            have hlo : Over n ls := fun x hx => HO.out x (by rw [← hls] at hx; exact (List.mem_filter.1 hx).1)
            have hll : ls.length ≤ 1000 := by rw [← hls]; exact Nat.le_trans (List.length_filter_le _ _) (by omega)
            have HLS := Lib.hid hls
            have hgW : RGr F W g n fs := HG.out.keep HKW.out (fun _ _ e => e)
            have HW : Hid (Calls Tryz.prog 79 #[.pointer (some ⟨g, 0, none⟩), .slice (some ⟨W.heap.size, 0, none⟩) 2 2, .slice none 0 0] (W.alloc (.cells #[.int .i64 (e.id : Nat), .int .i64 (f.id : Nat)] 3)).drew fun e w' => ∃ rb, e = .returned (.pointer (some ⟨rb, 0, none⟩)) ∧ RGr (fun k => W.heap.size ≤ k) w' rb n ls ∧ Keep Nb W w') := Lib.hid (by
              have kA : Keep Nb W (W.alloc (.cells #[.int .i64 (e.id : Nat), .int .i64 (f.id : Nat)] 3)).drew := ((Keep.refl Nb W).alloc _).drew
              have hS : Sl (fun k => k = W.heap.size) (W.alloc (.cells #[.int .i64 (e.id : Nat), .int .i64 (f.id : Nat)] 3)).drew 3 1 (some ⟨W.heap.size, 0, none⟩) 2 2 (ints [e.id, f.id]) :=
                (Sl.built W 3 1 2 [.int .i64 (e.id : Nat), .int .i64 (f.id : Nat)] rfl (by simp only [maxLen]; omega)).keep ((Keep.refl Nb _).drew) (fun _ _ e => e)
              refine (rwithout_any F (fun k => k = W.heap.size) (fun _ => False) _ g n fs (some ⟨W.heap.size, 0, none⟩) none 2 0 [e.id, f.id] [] (hgW.keep kA (fun _ _ e => e)) (by omega) hS (Sl.nil _ _ _ _) (by simp) (by simp)).mono ?_
              rintro e w' ⟨rfl, h2, h3⟩
              rw [hls] at h2
              exact ⟨_, rfl, h2.mono (fun j hj => by have := kA.size; omega), kA.trans h3⟩)
            have HL : Hid (∀ wx rb, RGr (fun k => W.heap.size ≤ k) wx rb n ls → Calls Tryz.prog 78 #[.pointer (some ⟨rb, 0, none⟩)] wx (RLabelsPost wx n ls)) := Lib.hid (fun wx rb h => rlabels_any _ wx rb n ls h hn hll hlo)
            have hAW : (W.alloc (.cells #[.int .i64 (e.id : Nat), .int .i64 (f.id : Nat)] 3)).drew.cell? ⟨A, 0, none⟩ = some (.slice o (done.length + 1) c) := (hRW.keep (((Keep.refl Nb W).alloc _).drew) (fun e => e)).cell (i := 0) rfl
            clear hsum hRA hLR hkr hcX hMr hrow hf kW hRW hl1 hl2 hMM hls hlo hll hgW HR
            go_upto_region 8 with (fail)
            clear hY hW d1 d2 d3
            go_region_law ((first
              | (go_simp; go_at_call 79; refine HW.out.mono ?_; rintro e1 wA ⟨rb, rfl, hA, kA⟩; have a2 := kA.cell (p := ⟨X, 0, none⟩) HFF.out.1 (fun e => e); have a3 := kA.cell (p := ⟨Y, 0, none⟩) HFF.out.2 (fun e => e); have aA := (HRW.out.keep kA (fun e => e)).cell (i := 0) rfl; have HA := Lib.hid hA; have KA := Lib.hid kA; clear hA kA; try dsimp only)
              | (go_simp; go_at_call 78; refine (HL.out _ _ (HA.out.keep (show Keep Nb wA _ from (by (repeat (first | exact Keep.refl _ _ | refine Keep.alloc ?_ _ | refine Keep.drew ?_)))) (fun _ _ e => e))).mono ?_; rintro e2 wB ⟨qb, rfl, hB, kB⟩; have kB' := KA.out.trans (Keep.trans (show Keep Nb wA _ from (by (repeat (first | exact Keep.refl _ _ | refine Keep.alloc ?_ _ | refine Keep.drew ?_)))) kB); have b2 := kB'.cell (p := ⟨X, 0, none⟩) HFF.out.1 (fun e => e); have b3 := kB'.cell (p := ⟨Y, 0, none⟩) HFF.out.2 (fun e => e); have bA := (HRW.out.keep kB' (fun e => e)).cell (i := 0) rfl; have bA2 := (HRW.out.keep (kB'.alloc (.cells #[.slice (some ⟨qb, 0, none⟩) n n] 33)) (fun e => e)).cell (i := 0) rfl; have HB := Lib.hid (hB.mono (G := fun k => W.heap.size ≤ k) (fun x hx => by have h0 := KA.out.size; have h1 : wA.heap.size ≤ x := hx; omega)); have KB := Lib.hid kB'; clear hB kB kB'; try dsimp only)
              | (obtain ⟨gq, cq, w9, r1, r2, r3, r4⟩ := run_app1 (P := Tryz.prog) 29 29 33 (by kernel_rfl) elem_ints (by rfl) (HMM.out.keep KB.out (fun _ _ e => e)).out (.slice (some ⟨qb, 0, none⟩) n n) rfl (by omega) (by omega); refine step_app_run rfl _ _ 29 29 rfl (.slice o (done.length + 1) c) (.slice (some ⟨wB.heap.size, 0, none⟩) 1 1) (by simp [Act.eval, Act.put]) (by simp [Act.eval, Act.put]) r1 ?_; obtain ⟨hN1, hN2, hN3⟩ := trel_next hzA HSUM.out HRW.out (fun k e => by have := World.block_lt_of_cell? _ _ HFF.out.1; have e : k = X := e; rw [e]; exact this) HL2.out HMM.out HKW.out KB.out (by rw [HLS.out]; exact HB.out) r2 r3 r4; have c2 := r3.cell b2 (fun h => (HBL.out _ h).1 rfl); have c3 := r3.cell b3 (fun h => (HBL.out _ h).2 rfl); have c9 := hN2.cell (i := 0) rfl; have c8 := fun s => hN2.frozen 0 s; have s2 := hN3.cell (p := ⟨X, 0, none⟩) HFF.out.1 (fun h => h.elim (fun e => hXA e) (fun h => (HBL.out _ h).1 rfl)); have s3 := hN3.cell (p := ⟨Y, 0, none⟩) HFF.out.2 (fun h => h.elim (fun e => hYA e) (fun h => (HBL.out _ h).2 rfl)); have HN := Lib.hid (And.intro hN1 s2); clear r1 r2 r3 r4 hN1 hN2 hN3)
              | (fail "none")))
            all_goals
              go_wp2_with fail
              go_roundg (j - (k + 1))
              case measure => omega
              case rel => exact ⟨k + 1, done ++ [(e.id, f.id)], by go_num, by omega, Nat.le_refl _, HN⟩
          · obtain rfl : k = j := by omega
            have HN : Hid (TRel w A n (fun _ => False) fs done (twos (fs.drop (i + 1))) wr) := Lib.hid (by
              obtain ⟨⟨h1, o, c, h2, h3, h4⟩, _⟩ := HR.out
              rw [List.drop_of_length_le (by rw [HM2.out.2]; exact Nat.le_refl _)] at h1
              exact ⟨by simpa [twosTo] using h1, o, c, h2, h3.mono (fun k hk => ⟨hk.1, hk.2.1, fun e => e⟩), h4⟩)
            clear HR
            go_wp2_with fail
            go_roundg (m - (i + 1))
            case measure => omega
            case rel => exact ⟨i + 1, done, by go_num, by omega, Nat.le_refl _, HN⟩
    · as_aux_lemma =>
      obtain rfl : i = m := by omega
      obtain ⟨L, hC, hLR⟩ := eqv_canon n (R := fun x y => Thr es x y) (fun x => Thr.refl es x) (fun _ _ h => h.symm) (fun _ _ _ h g => h.trans g)
      obtain ⟨hsum, o, c, hRA, hLRw, hkr⟩ := HR.out
      have hdn : done = twos fs := by
        rw [List.drop_of_length_le (by rw [HM.out]; exact Nat.le_refl _)] at hsum
        simpa [twos] using hsum
      have hdl : done.length ≤ 14400 := by rw [hdn]; exact H120.out
      have hf : ∀ W, Keep Nb wr W → ∀ a b : Nat, a < n → b < n → Calls Tryz.prog 87 #[.int .i64 a, .int .i64 b, .pointer (some ⟨A, 0, none⟩)] W fun e w' => e = .returned (.bool (decide (L a = L b))) ∧ Keep Nb W w' := fun W k a b ha hb => by
        have h1 := rthrice1_any _ W A n (done.length + 1) c a b o (rowsT fs done) ((hRA.keep k (fun e => e)).cell (i := 0) rfl) (hLRw.keep k (fun _ _ e => e)) (by omega) ha hb hn
        have h2 : (∀ f, f ∈ rowsT fs done → f a = f b) ↔ L a = L b := by
          rw [hLR a b ha hb, ← thr_twos HS.out (fun e => HP.out.mem_iff.symm), hdn]
          unfold rowsT
          constructor
          · intro h
            refine ⟨(Conn.of_sub (fun e he => HP.out.mem_iff.2 he) (show Conn (ends fs) a b from h (labG fs) (by simp))), fun p hp => ?_⟩
            exact (conn_less HP.out [p.1, p.2]).1 (h _ (List.mem_cons_of_mem _ (List.mem_map.2 ⟨p, hp, rfl⟩)))
          · rintro ⟨h1, h2⟩ f hf
            rcases List.mem_cons.1 hf with rfl | hf
            · exact (Conn.of_sub (fun e he => HP.out.mem_iff.1 he) h1 : Conn (ends fs) a b)
            · obtain ⟨p, hp, rfl⟩ := List.mem_map.1 hf
              exact (conn_less HP.out [p.1, p.2]).2 (h2 p hp)
        rw [decide_eq_decide.2 h2] at h1
        exact h1
      have HQ := Lib.hid (rparts_thrice wr n L (.pointer (some ⟨A, 0, none⟩)) hn hC hf)
      have g0 := (HMG.out.keep hkr (fun _ _ e => e)).head.cell (i := 0) rfl
      have HKR := Lib.hid hkr
      have HLL := Lib.hid (And.intro hC hLR)
      clear hsum hRA hLRw hkr hdn hdl hf hC hLR HR
      go_wp2_with fail
      refine HQ.out.mono ?_
      rintro e1 wz ⟨o, m, c, rows, rfl, hMz, hkz⟩
      have HF : Hid (RThrPost w n es (.returned (.slice o m c)) wz) := Lib.hid ⟨L, HLL.out.1, HLL.out.2, o, m, c, rows, rfl, hMz.mono (fun k hk => ⟨Nat.le_trans HKR.out.size hk.1, hk.2⟩), HKR.out.trans hkz⟩
      clear hMz hkz
      go_wp2_with fail
      go_ret
      exact HF.out

end Go.Proofs.YtkpoobnldgfapabGreatDoor
