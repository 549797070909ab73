/- Merged by a program of mine: Graph6 Graph7 Graph8 Graph9 Graph10 Graph11 Graph12 Bridge1 Split1 Split2 PairKey Split3 MatR Pair1 Split4 Bridge2 Bridge3 Bridge4. -/
import Derived.Test.YtkpoobnldgfapaaMf1
import Derived.Test.YtkpoobnldgfapaaMf2
import Derived.Test.YtkpoobnldgfapaaMf3
import Derived.Test.YtkpoobnldgfapaaMf4
import Derived.Test.YtkpoobnldgfapaaProg
import Derived.DeepKeys5
import Derived.RegionTactic
import Derived.ChangeAlike
import Derived.Deep.RegionHeld3
import Derived.Deep.DeepCutAuto
/- graph: slices.Insert of one edge ahead of others, where there is no room. -/
namespace Go.Proofs.Ytkpoobnldgfapaa
open Go.RowKit Go.Lib Pl

theorem grow_row {α : Type} (L N Z : List α) (a k l : Nat) (hk : N.length = k) (hl : L.length = l) (ha : a ≤ l) (hf : l + k ≤ a + Z.length) (A B : List α)
    (hA : A = (L.take a ++ Z).take a ++ N ++ (L.take a ++ Z).drop (a + N.length)) (hB : B = A.take (a + k) ++ L.drop a ++ A.drop (a + k + (L.drop a).length)) :
    B.take (l + k) = L.take a ++ (N ++ L.drop a) ∧ A.length = a + Z.length ∧ B.length = a + Z.length := by
  have hta : (L.take a).length = a := by simp; omega
  have h1 : (L.take a ++ Z).take a = L.take a := by
    conv => lhs; rw [← hta]
    simp [List.take_left]
  have hAl : A.length = a + Z.length := by rw [hA, h1]; simp; omega
  have h2 : A.take (a + k) = L.take a ++ N := by
    rw [hA, h1]
    have : a + k = (L.take a ++ N).length := by simp; omega
    rw [this, List.take_left]
  have hBl : B.length = a + Z.length := by rw [hB, h2]; simp; omega
  refine ⟨?_, hAl, hBl⟩
  rw [hB, h2]
  have : l + k = (L.take a ++ N ++ L.drop a).length := by simp; omega
  rw [this, List.take_left, List.append_assoc]

set_option maxRecDepth 100000 in
theorem insert_grow (F : Nat → Prop) (w : World) (g c i : Nat) (es : List E) (vb : Nat) (e : E) (hS : Sl F w 54 3 (some ⟨g, 0, none⟩) es.length c (ecs es)) (hn : es.length ≤ 1000)
    (hv : w.heap[vb]? = some (.cells (ecells e).toArray 54 (0, 0))) (hi : i < es.length) (hroom : ¬ es.length + 1 ≤ c) :
    Calls Try.prog 82 #[.slice (some ⟨g, 0, none⟩) es.length c, .int .i64 i, .slice (some ⟨vb, 0, none⟩) 1 1] w (InsPost F w (some ⟨g, 0, none⟩) es i e) := by
  rcases hS.cases with ⟨h0, _⟩ | ⟨g0, h0, hFg, hnc, hcm, hrow, cur, hcur, hcs⟩
  · cases h0
  obtain rfl : g = g0 := by simpa using h0
  have hcn : c = es.length := by omega
  subst hcn
  have hel := ecs_length es
  have hgw : g < w.heap.size := hrow.lt
  have hvw : vb < w.heap.size := (Array.getElem?_eq_some_iff.1 hv).1
  obtain ⟨i0, hi0, hz0, hzs, hzb⟩ := info_parts (elem_edge)
  have hsz : ((Try.prog).info? 54).map (·.size) = some 3 := by kernel_rfl
  have hold : (Builtin.firstCells i0.size i (.slice (some ⟨g, 0, none⟩) i es.length)).run Try.prog w.drew = .ok ((ecs es).take (i * 3)).toArray w.drew := by
    rw [hzs]
    exact run_firstCells_some w.drew 3 i ⟨g, 0, none⟩ i es.length ((ecs es).take (i * 3)) (by rw [List.length_take]; omega) (fun j v hj => by
      rw [show (⟨g, 0, none⟩ : Addr).add j = ⟨g, j, none⟩ from by unfold Addr.add; split <;> simp_all]
      rw [List.getElem?_take] at hj
      split at hj
      · exact hrow.cell hj
      · cases hj)
  have hik : i + (es.length + 1 - i) = es.length + 1 := by omega
  have hkk : (es.length : Int) + 1 - (i : Int) = ((es.length + 1 - i : Nat) : Int) := by omega
  have hG63 := grownCap_le_maxLen w (es.length + 1) es.length 54 (by unfold maxLen; omega)
  have hGn := grownCap_ge w (es.length + 1) es.length 54
  have hrz : ∀ ty, (Builtin.append_ #[51, 3] ty #[.slice (some ⟨g, 0, none⟩) i es.length, .int .i64 ((es.length : Int) + 1 - (i : Int))]).run Try.prog w =
      .ok (.slice (some ⟨w.heap.size, 0, none⟩) (es.length + 1) (grownCap w (es.length + 1) es.length 54))
        (w.drew.alloc (.cells (((ecs es).take (i * 3)).toArray ++ Builtin.zeroCells (Value.agg #[.int .i64 0, .int .i64 0, .int .i64 0]).cells (es.length + 1 - i) ++ Builtin.zeroCells (Value.agg #[.int .i64 0, .int .i64 0, .int .i64 0]).cells (grownCap w (es.length + 1) es.length 54 - (es.length + 1))) 54)) := fun ty => by
    have h := Lib.run_append_grow_zeros w 51 3 ty 54 i0 _ .i64 .i64 und_edges (by kernel_rfl) hi0 hz0 (some ⟨g, 0, none⟩) i es.length ((ecs es).take (i * 3)) hold (es.length + 1 - i) (by omega) (by omega) (by omega) (by omega) (by rw [hzb]; omega) (by rw [hzb, hik]; exact growslice_fits (by omega) (by omega))
    rw [hik] at h
    rw [hkk]
    exact h
  generalize hG : grownCap w (es.length + 1) es.length 54 = G at *
  have hzl : ∀ k, (Builtin.zeroCells (Value.agg #[.int .i64 0, .int .i64 0, .int .i64 0]).cells k).size = k * 3 := fun k => by rw [size_zeroCells]; rfl
  obtain ⟨Z, hZ, hZl⟩ : ∃ Z : List Value, ((ecs es).take (i * 3)).toArray ++ Builtin.zeroCells (Value.agg #[.int .i64 0, .int .i64 0, .int .i64 0]).cells (es.length + 1 - i) ++ Builtin.zeroCells (Value.agg #[.int .i64 0, .int .i64 0, .int .i64 0]).cells (G - (es.length + 1)) = ((ecs es).take (i * 3) ++ Z).toArray ∧ i * 3 + Z.length = G * 3 := by
    refine ⟨(Builtin.zeroCells (Value.agg #[.int .i64 0, .int .i64 0, .int .i64 0]).cells (es.length + 1 - i)).toList ++ (Builtin.zeroCells (Value.agg #[.int .i64 0, .int .i64 0, .int .i64 0]).cells (G - (es.length + 1))).toList, ?_, ?_⟩
    · apply Array.ext'; simp [List.append_assoc]
    · have e1 := hzl (es.length + 1 - i)
      have e2 := hzl (G - (es.length + 1))
      simp only [List.length_append, Array.length_toList]
      omega
  rw [hZ] at hrz
  obtain ⟨RA, hRA⟩ : ∃ RA, RA = ((ecs es).take (i * 3) ++ Z).take (i * 3) ++ ecells e ++ ((ecs es).take (i * 3) ++ Z).drop (i * 3 + (ecells e).length) := ⟨_, rfl⟩
  obtain ⟨RB, hRB⟩ : ∃ RB, RB = RA.take (i * 3 + 3) ++ (ecs es).drop (i * 3) ++ RA.drop (i * 3 + 3 + ((ecs es).drop (i * 3)).length) := ⟨_, rfl⟩
  obtain ⟨hr1, hr2, hr3⟩ := grow_row (ecs es) (ecells e) Z (i * 3) 3 (es.length * 3) rfl hel (by omega) (by omega) RA RB hRA hRB
  have hd : ((ecs es).drop (i * 3)).length = (es.length - i) * 3 := by rw [List.length_drop, hel]; omega
  have hcpA : ∀ W : World, W.heap[w.heap.size]? = some (.cells ((ecs es).take (i * 3) ++ Z).toArray 54 (0, 0)) → W.heap[vb]? = w.heap[vb]? → ∀ ty dc, (Builtin.copy_ #[51, 51] ty #[.slice (some ⟨w.heap.size, i * 3, none⟩) (es.length + 1 - i) dc, .slice (some ⟨vb, 0, none⟩) 1 1]).run Try.prog W =
      .ok (goInt 1) (W.setRow w.heap.size RA.toArray) := fun W hWg hWv ty dc => by
    rw [hRA]
    exact run_copyN W _ _ ty 54 w.heap.size (i * 3) (es.length + 1 - i) dc ⟨vb, 0, none⟩ 1 1 _ 54 (ecells e) 3 1 und_edges hsz hWg
      (by simp only [Nat.min_def]; split <;> omega) rfl
      (fun j u hj => by
        rw [show (⟨vb, 0, none⟩ : Addr).add j = ⟨vb, j, none⟩ from by unfold Addr.add; split <;> simp_all]
        simp [World.cell?, hWv, hv]
        simpa using hj)
      (by rw [List.size_toArray, List.length_append, List.length_take, hel, show (ecells e).length = 3 from rfl]; omega) (fun u hu => ecs_one [e] u (by simpa [ecs] using hu))
  have hcpB : ∀ W : World, W.heap[w.heap.size]? = some (.cells RA.toArray 54 (0, 0)) → W.heap[g]? = w.heap[g]? → ∀ ty dc sc, (Builtin.copy_ #[51, 51] ty #[.slice (some ⟨w.heap.size, (i + 1) * 3, none⟩) (es.length - i) dc, .slice (some ⟨g, i * 3, none⟩) (es.length - i) sc]).run Try.prog W =
      .ok (goInt (es.length - i : Nat)) (W.setRow w.heap.size RB.toArray) := fun W hWg hWo ty dc sc => by
    have e0 : (i + 1) * 3 = i * 3 + 3 := by omega
    rw [e0, hRB]
    exact run_copyN W _ _ ty 54 w.heap.size (i * 3 + 3) (es.length - i) dc ⟨g, i * 3, none⟩ (es.length - i) sc RA.toArray 54 ((ecs es).drop (i * 3)) 3 (es.length - i) und_edges hsz hWg
      (by simp) hd
      (fun j v hj => by
        rw [List.getElem?_drop] at hj
        rw [show (⟨g, i * 3, none⟩ : Addr).add j = ⟨g, i * 3 + j, none⟩ from by unfold Addr.add; split <;> simp_all]
        exact (hrow.of_heap hWo).cell hj)
      (by rw [List.size_toArray, hr2, hd]; omega) (fun v hv => ecs_one es v (List.mem_of_mem_drop hv))
  have hP : ∀ W : World, W.heap = ((w.alloc (.cells ((ecs es).take (i * 3) ++ Z).toArray 54)).setRow w.heap.size RA.toArray).heap → W.os = w.os → W.tape = w.tape → W.output = w.output →
      InsPost F w (some ⟨g, 0, none⟩) es i e (.returned (.slice (some ⟨w.heap.size, 0, none⟩) (es.length + 1) G)) (W.setRow w.heap.size RB.toArray) := by
    intro W hW ho ht hou
    have hA0 : (w.alloc (.cells ((ecs es).take (i * 3) ++ Z).toArray 54)).heap[w.heap.size]? = some (.cells ((ecs es).take (i * 3) ++ Z).toArray 54 (0, 0)) := heap_alloc_new w _
    have hWg : W.heap[w.heap.size]? = some (.cells RA.toArray 54 (0, 0)) := by rw [hW]; exact setRow_heap _ _ _ _ _ _ hA0
    have hlen : (ecs (ins es i e)).length = (es.length + 1) * 3 := by rw [ecs_length]; congr 1; simp [ins]; omega
    refine ⟨w.heap.size, G, rfl, ⟨⟨hlen, .inr ⟨w.heap.size, G, _, rfl, Nat.zero_le _, setRow_heap W _ _ _ _ _ hWg, hGn, hG63, ?_, ?_⟩⟩, fun a ha => .inr (by simp at ha; rw [← ha]; exact Nat.le_refl _)⟩, ⟨ho, ht, hou, ?_, fun k hk _ => ?_⟩, .inr (Nat.le_refl _)⟩
    · rw [List.size_toArray, hr3, hZl]
    · rw [show (es.length + 1) * 3 = es.length * 3 + 3 by omega]
      show List.take _ (_ : List Value) = _
      rw [hr1, ecs_ins, ecs_take, ecs_drop]
    · have : W.heap.size = w.heap.size + 1 := by rw [hW]; simp
      simp [this]
    · have hkg : k ≠ w.heap.size := by omega
      rw [setRow_other W _ k _ hkg, hW, setRow_other _ _ k _ hkg]
      exact Below.heap_alloc w _ k hk
  have H0 := Lib.hid hrz
  obtain ⟨WA, hWA⟩ : ∃ WA, WA = (w.alloc (.cells ((ecs es).take (i * 3) ++ Z).toArray 54)).drew := ⟨_, rfl⟩
  have hA1 : WA.heap[w.heap.size]? = some (.cells ((ecs es).take (i * 3) ++ Z).toArray 54 (0, 0)) := by rw [hWA]; exact heap_alloc_new w _
  have hA2 : ∀ k, k < w.heap.size → WA.heap[k]? = w.heap[k]? := fun k hk => by rw [hWA]; exact Below.heap_alloc w _ k hk
  have HW1 := Lib.hid (hcpA WA hA1 (hA2 _ hvw))
  have HW2 := Lib.hid (hcpB (WA.setRow w.heap.size RA.toArray).drew (setRow_heap WA _ _ _ _ _ hA1) ((setRow_other WA _ g _ (by omega)).trans (hA2 _ hgw)))
  have HWA := Lib.hid hWA
  have HPA := Lib.hid (show InsPost F w (some ⟨g, 0, none⟩) es i e (.returned (.slice (some ⟨w.heap.size, 0, none⟩) (es.length + 1) G)) ((WA.setRow w.heap.size RA.toArray).drew.setRow w.heap.size RB.toArray) from hP _ (by rw [hWA]; rfl) (by rw [hWA]; rfl) (by rw [hWA]; rfl) (by rw [hWA]; rfl))
  rw [hWA] at HW1 HW2 HPA
  clear HWA hA1 hA2 hWA WA
  have HC := Lib.hid hcur
  have HV := Lib.hid hvw
  have HGW := Lib.hid hgw
  clear hrz hcpA hcpB hP hr1 hr2 hr3 hRA hRB hel hrow hcs hd hsz hv hcur hS h0 hold hi0 hz0 hzs hzb hZ hZl hzl hG hkk hik hgw hvw
  simp only [maxLen] at hG63 hcm
  have hin : i ≤ es.length := by omega
  have htn : ((i : Int) + 1).toNat = i + 1 := by omega
  have hb2 : ¬ (G = i + 1) := by omega
  have hb4 : ¬ (G = i) := by omega
  have hb5 : ¬ (es.length = i) := by omega
  have hz2 : ¬ ((i : Int) = (es.length : Int)) := by omega
  have hw1 : IntKind.i64.wrap ((i : Int) + 1) = (i : Int) + 1 := IntWalk.i64_in _ (by omega)
  have hb1 : (0 : Int) ≤ (i : Int) + 1 := by omega
  have mixed : (Try.prog).follows Departure.mixedOrders = true := by kernel_rfl
  generalize es.length = n at *
  go_enter Try.func82, Try.ntmps82
  go_wp2_with ((at_builtin; refine Lib.wpList_append_run _ rfl _ _ _ _ rfl _ _ rfl rfl _ _ (H0.out _) ?_))
  go_wp2_with (rw [HW1.out])
  go_region_law_o (refine step_copy_runI rfl _ _ 51 51 rfl (.slice (some ⟨w.heap.size, (i + 1) * 3, none⟩) (n - i) (G - (i + 1))) (.slice (some ⟨g, i * 3, none⟩) (n - i) (n - i)) (by simp [Act.eval, Act.put]) (by simp [Act.eval, Act.put]) (HW2.out 3 (G - (i + 1)) (n - i)) ?_)
  go_wp2
  go_ret
  exact HPA.out

end Go.Proofs.Ytkpoobnldgfapaa

/- graph: slices.Insert of one edge; Add. -/
namespace Go.Proofs.Ytkpoobnldgfapaa
open Go.RowKit Go.Lib Pl

theorem insert_any (F : Nat → Prop) (w : World) (o : Option Addr) (c i : Nat) (es : List E) (vb : Nat) (e : E) (hS : Sl F w 54 3 o es.length c (ecs es)) (hn : es.length ≤ 1000)
    (hv : w.heap[vb]? = some (.cells (ecells e).toArray 54 (0, 0))) (hne : ¬ F vb) (hi : i ≤ es.length) :
    Calls Try.prog 82 #[.slice o es.length c, .int .i64 i, .slice (some ⟨vb, 0, none⟩) 1 1] w (InsPost F w o es i e) := by
  by_cases h : i = es.length
  · subst h; exact insert_end F w o c es vb e hS hn hv
  · obtain ⟨g, rfl, hF, _, _⟩ := hS.pos (by omega)
    by_cases hr : es.length + 1 ≤ c
    · exact insert_shift F w g c i es vb e hS hn hv (fun e => hne (e ▸ hF)) (by omega) hr
    · exact insert_grow F w g c i es vb e hS hn hv (by omega) hr

def errVal (r : Int) : Value := .iface 75 (.int .i64 r)

/-- Add's answer (0: none), and the edges then. -/
def addBad (n : Nat) (id a b : Int) : Prop := id < 0 ∨ 1099511627776 < id ∨ a < 0 ∨ (n : Int) ≤ a ∨ b < 0 ∨ (n : Int) ≤ b
instance (n : Nat) (id a b : Int) : Decidable (addBad n id a b) := by unfold addBad; infer_instance
def mkE (id a b : Int) : E := ⟨id.toNat, (min a b).toNat, (max a b).toNat⟩
def addEs (n : Nat) (es : List E) (id a b : Int) : List E :=
  if addBad n id a b ∨ a = b ∨ hasId es id = true ∨ 120 ≤ es.length then es else ins es (posOf es id) (mkE id a b)
def addErr (n : Nat) (es : List E) (id a b : Int) : Int :=
  if addBad n id a b then 2 else if a = b then 1 else if hasId es id = true then 9 else if 120 ≤ es.length then 12 else 0

def AddPost (F : Nat → Prop) (w : World) (g n : Nat) (es : List E) (id a b : Int) (e : Ending) (w' : World) : Prop :=
  e = .returned (if addErr n es id a b = 0 then .nilIface else errVal (addErr n es id a b)) ∧ Gr (fun k => F k ∨ w.heap.size ≤ k) w' g n (addEs n es id a b) ∧ Keep F w w'

theorem AddPost.err {F : Nat → Prop} {w w' : World} {g n : Nat} {es : List E} {id a b r : Int} (hG : Gr F w g n es) (hk : Keep Nb w w') (h1 : addErr n es id a b = r) (h2 : addEs n es id a b = es) (h0 : r ≠ 0) :
    AddPost F w g n es id a b (.returned (.iface 75 (.int .i64 r))) w' := by
  refine ⟨by rw [h1, if_neg h0]; rfl, ?_, hk.of_nb⟩
  rw [h2]
  exact (hG.keep hk (fun _ _ h => h)).mono (fun _ h => .inl h)

set_option maxRecDepth 100000 in
set_option maxHeartbeats 1000000 in
theorem add_bad (F : Nat → Prop) (w : World) (g n : Nat) (es : List E) (id a b : Int) (hG : Gr F w g n es) (hb : addBad n id a b) :
    Calls Try.prog 54 #[.pointer (some ⟨g, 0, none⟩), .int .i64 id, .int .i64 a, .int .i64 b] w (AddPost F w g n es id a b) := by
  have hP : AddPost F w g n es id a b (.returned (.iface 75 (.int .i64 2))) w :=
    AddPost.err hG (Keep.refl Nb w) (by unfold addErr; rw [if_pos hb]) (by unfold addEs; rw [if_pos (.inl hb)]) (by omega)
  obtain ⟨o, c, hM⟩ := hG
  have c0 := hM.head.cell (i := 0) rfl
  have HP := Lib.hid hP
  clear hP hM
  unfold addBad at hb
  by_cases h1 : id < 0
  · clear hb
    go_enter Try.func54, Try.ntmps54
    go_wp2
    go_ret
    exact HP.out
  · by_cases h2 : 1099511627776 < id
    · clear hb
      go_enter Try.func54, Try.ntmps54
      go_wp2
      go_ret
      exact HP.out
    · by_cases h3 : a < 0
      · clear hb
        go_enter Try.func54, Try.ntmps54
        go_wp2
        go_ret
        exact HP.out
      · by_cases h4 : (n : Int) ≤ a
        · clear hb
          go_enter Try.func54, Try.ntmps54
          go_wp2
          go_ret
          exact HP.out
        · by_cases h5 : b < 0
          · clear hb
            go_enter Try.func54, Try.ntmps54
            go_wp2
            go_ret
            exact HP.out
          · have h6 : (n : Int) ≤ b := by omega
            clear hb
            go_enter Try.func54, Try.ntmps54
            go_wp2
            go_ret
            exact HP.out

end Go.Proofs.Ytkpoobnldgfapaa

/- graph: Add. -/
namespace Go.Proofs.Ytkpoobnldgfapaa
open Go.RowKit Go.Lib Pl

theorem add_done {F : Nat → Prop} {w w1 w2 w3 : World} {g n c : Nat} {o : Option Addr} {es : List E} {i : Nat} {e : E} {id a b : Int} {v : Value} (hM : GrMem F w g n es o c) (hk1 : Keep Nb w w1) (hk2 : Keep Nb w1 w2) {e3 : Ending}
    (h3 : InsPost F w2 o es i e e3 w3) (he : e3 = .returned v) (hE : addEs n es id a b = ins es i e) (h0 : addErr n es id a b = 0) :
    AddPost F w g n es id a b (.returned .nilIface) (w3.setCell ⟨g, 1, none⟩ v) := by
  obtain ⟨q, c', h3a, hS, hK, hq⟩ := h3
  rw [h3a] at he
  cases he
  have hk12 := hk1.trans hk2
  have hlen : (ins es i e).length = es.length + 1 := by
    have := hS.len
    rw [ecs_length] at this; omega
  have hsz := hk12.size
  have hgw := hM.head.lt
  have hbl : ∀ k, Bl o k → F k ∧ k ≠ g := by
    rintro k ⟨x, hx, rfl⟩
    exact ⟨hM.s.foot x hx, hM.d x hx⟩
  have hhead : Row w3 g 92 [.int .i64 n, .slice o es.length c] := (hM.head.keep hk12 (fun h => h)).keep hK (fun h => (hbl _ h).2 rfl)
  have hqg : q ≠ g := by
    rcases hq with h | h
    · exact hM.d _ h
    · omega
  refine ⟨by rw [h0]; rfl, ⟨some ⟨q, 0, none⟩, c', ?_⟩, ?_⟩
  · rw [hE]
    refine ⟨?_, .inl hM.hb, ?_, fun x hx => by cases hx; exact hqg⟩
    · have := hhead.set (i := 1) (by simp) (.slice (some ⟨q, 0, none⟩) (es.length + 1) c')
      rw [hlen]
      exact this
    · rw [hlen]
      exact (hS.mono (G := fun k => F k ∨ w.heap.size ≤ k) (fun k hk => by rcases hk with h | h; exact .inl h; exact .inr (by omega))).set_ne (p := ⟨g, 1, none⟩) (fun x hx => by cases hx; exact hqg) _
  · exact ((hk12.of_nb).trans' hK (H := F) (fun _ _ h => h) (fun k _ h => (hbl k h).1)).setCell (.inl hM.hb) _

set_option maxRecDepth 100000 in
set_option maxHeartbeats 1000000 in
theorem add_any (F : Nat → Prop) (w : World) (g n : Nat) (es : List E) (id a b : Int) (hG : Gr F w g n es) (hF : ∀ k, F k → k < w.heap.size) (hs : Sorted es) (hn : n ≤ 40) (hl : es.length ≤ 120) :
    Calls Try.prog 54 #[.pointer (some ⟨g, 0, none⟩), .int .i64 id, .int .i64 a, .int .i64 b] w (AddPost F w g n es id a b) := by
  by_cases hb : addBad n id a b
  · exact add_bad F w g n es id a b hG hb
  have HG := Lib.hid hG
  have HB := Lib.hid hb
  have HS := Lib.hid hs
  have HF := Lib.hid hF
  obtain ⟨o, c, hM⟩ := hG
  have c0 := hM.head.cell (i := 0) rfl
  have c1 := hM.head.cell (i := 1) rfl
  have HM := Lib.hid hM
  unfold addBad at hb
  obtain ⟨id, rfl⟩ : ∃ k : Nat, id = k := ⟨id.toNat, by omega⟩
  obtain ⟨a, rfl⟩ : ∃ k : Nat, a = k := ⟨a.toNat, by omega⟩
  obtain ⟨b, rfl⟩ : ∃ k : Nat, b = k := ⟨b.toNat, by omega⟩
  have hi1 : ¬ (1099511627776 < (id : Int)) := by omega
  have ha : a < n := by omega
  have hbn : b < n := by omega
  clear hb hM hs hF
  by_cases hab : a = b
  · subst hab
    have hP : AddPost F w g n es id a a (.returned (.iface 75 (.int .i64 1))) w :=
      AddPost.err HG.out (Keep.refl Nb w) (by unfold addErr; rw [if_neg HB.out, if_pos rfl]) (by unfold addEs; rw [if_pos (.inr (.inl rfl))]) (by omega)
    have HP := Lib.hid hP
    clear hP
    go_enter Try.func54, Try.ntmps54
    go_wp2
    go_ret
    exact HP.out
  · have HAB := Lib.hid (show ¬ ((a : Int) = (b : Int)) by omega)
    cases hh : hasId es id with
    | true =>
      have HH := Lib.hid hh
      clear hh
      go_enter Try.func54, Try.ntmps54
      go_wp2_with fail
      refine (find_any F w g n es id HG.out HS.out (by omega)).mono ?_
      rintro e1 w1 ⟨rfl, hk⟩
      have HK := Lib.hid hk
      clear hk
      rw [HH.out]
      go_wp2
      go_ret
      exact AddPost.err HG.out HK.out (by unfold addErr; rw [if_neg HB.out, if_neg HAB.out, if_pos HH.out]) (by unfold addEs; rw [if_pos (.inr (.inr (.inl HH.out)))]) (by omega)
    | false =>
      have HH := Lib.hid hh
      clear hh
      by_cases hfull : 120 ≤ es.length
      · go_enter Try.func54, Try.ntmps54
        go_wp2_with fail
        refine (find_any F w g n es id HG.out HS.out (by omega)).mono ?_
        rintro e1 w1 ⟨rfl, hk⟩
        have c1' := hk.cell c1 (fun h => h)
        have HK := Lib.hid hk
        clear hk
        rw [HH.out]
        go_wp2
        go_ret
        exact AddPost.err HG.out HK.out (by unfold addErr; rw [if_neg HB.out, if_neg HAB.out, if_neg (by rw [HH.out]; simp), if_pos hfull]) (by unfold addEs; rw [if_pos (.inr (.inr (.inr hfull)))]) (by omega)
      · have HE := Lib.hid (show addEs n es id a b = ins es (posOf es id) (mkE id a b) by
          unfold addEs; rw [if_neg (by rintro (h | h | h | h); exact HB.out h; exact HAB.out h; rw [HH.out] at h; cases h; exact hfull h)])
        have HR := Lib.hid (show addErr n es id a b = 0 by unfold addErr; rw [if_neg HB.out, if_neg HAB.out, if_neg (by rw [HH.out]; simp), if_neg hfull])
        have HMk := Lib.hid (show (ecells (mkE id a b)).toArray = #[.int .i64 id, .int .i64 (min (a : Int) b), .int .i64 (max (a : Int) b)] by
          unfold mkE ecells
          rw [show (((id : Int).toNat : Nat) : Int) = id by omega, show (((min (a : Int) b).toNat : Nat) : Int) = min (a : Int) b by omega, show (((max (a : Int) b).toNat : Nat) : Int) = max (a : Int) b by omega])
        go_enter Try.func54, Try.ntmps54
        go_wp2_with fail
        refine (find_any F w g n es id HG.out HS.out (by omega)).mono ?_
        rintro e1 w1 ⟨rfl, hk⟩
        have c1' := hk.cell c1 (fun h => h)
        have HK := Lib.hid hk
        have hgw : g < w1.heap.size := Nat.lt_of_lt_of_le HM.out.head.lt hk.size
        have hvF : ¬ F w1.heap.size := fun h => by have := HF.out _ h; have := hk.size; omega
        have HVF := Lib.hid hvF
        clear hk hvF
        rw [HH.out]
        go_wp2_with fail
        refine (insert_any F _ o c (posOf es id) es w1.heap.size (mkE id a b) ((HM.out.s.keep HK.out (fun _ _ h => h)).alloc _) (by omega) (by rw [HMk.out]; exact heap_alloc_new w1 _) HVF.out (posOf_le es id)).mono ?_
        intro e3 w3 h3
        have h3' := h3
        obtain ⟨q, c', rfl, _, hK3, _⟩ := h3'
        have hrow3 := ((HM.out.head.keep HK.out (fun h => h)).alloc (.cells #[.int .i64 id, .int .i64 (min (a : Int) b), .int .i64 (max (a : Int) b)] 54)).keep hK3 (fun h => by obtain ⟨x, hx, hxg⟩ := h; exact HM.out.d x hx hxg)
        have hx1 := hrow3.cell (i := 1) rfl
        have hx2 := hrow3.frozen 1 none
        clear hrow3
        have H3 := Lib.hid h3
        clear h3 hK3
        go_wp2
        go_ret
        exact add_done HM.out HK.out ((Keep.refl Nb _).alloc _) H3.out rfl HE.out HR.out

end Go.Proofs.Ytkpoobnldgfapaa

/- graph: New, Edges. -/
namespace Go.Proofs.Ytkpoobnldgfapaa
open Go.RowKit Go.Lib Pl

def GNewPost (w : World) (n : Nat) (e : Ending) (w' : World) : Prop :=
  e = .returned (.tuple #[.pointer (some ⟨w.heap.size, 0, none⟩), .nilIface]) ∧ Gr (fun k => k = w.heap.size) w' w.heap.size n [] ∧ Keep Nb w w' ∧ w'.heap.size = w.heap.size + 1

set_option maxRecDepth 100000 in
theorem gnew_any (w : World) (n : Nat) (hn : n ≤ 40) : Calls Try.prog 53 #[.int .i64 n] w (GNewPost w n) := by
  have h1 : ¬ (40 < (n : Int)) := by omega
  go_enter Try.func53, Try.ntmps53
  go_wp2
  go_ret2
  exact ⟨rfl, ⟨none, 0, Row.new w #[.int .i64 n, .slice none 0 0] 92, rfl, (Sl.nil _ w 54 3).alloc _, fun _ h => by cases h⟩, (Keep.refl Nb w).alloc _, by simp⟩

def EdgesPost (w : World) (es : List E) (e : Ending) (w' : World) : Prop :=
  ∃ o c, e = .returned (.slice o es.length c) ∧ Sl (fun k => w.heap.size ≤ k) w' 54 3 o es.length c (ecs es) ∧ Keep Nb w w'

theorem run_append_zero {P : Program} (w : World) (t ty e : TypeId) {z : Value} {size bytes : Nat} (ht : P.underlying t = some (.slice e)) (hE : ElemT P e z size bytes) (a b : Addr) (c c2 : Nat) :
    (Builtin.append_ #[t, t] ty #[.slice (some a) 0 c, .slice (some b) 0 c2]).run P w = .ok (.slice (some a) 0 c) w := by
  obtain ⟨i, hi, hz, hs, hb⟩ := info_parts hE
  simp [Builtin.append_, run_underlying ht, sizeOf, typeInfo, hi, Builtin.lenOf, Builtin.firstCells, loadCells, loadCellsFrom, storeCells]

set_option maxRecDepth 100000 in
theorem clone_any (F : Nat → Prop) (w : World) (o : Option Addr) (c : Nat) (es : List E) (hS : Sl F w 54 3 o es.length c (ecs es)) (hn : es.length ≤ 1000) :
    Calls Try.prog 65 #[.slice o es.length c] w (EdgesPost w es) := by
  have q22 : ∀ (w : World) (a : Option Addr) (n c n' c' : Nat), (binOp .eql (51) (.slice a n c) (.slice none n' c')).run Try.prog w = .ok (.bool a.isNone) w := fun w a n c n' c' => Lib.run_eql_slice_nil w _ _ a n c n' c' und_edges
  rcases hS.cases with ⟨rfl, h0, rfl, _⟩ | ⟨g, rfl, _, hnc, hcm, hrow, _⟩
  · obtain rfl := List.eq_nil_of_length_eq_zero h0
    have HP : Hid (EdgesPost w [] (.returned (.slice none 0 0)) w) := Lib.hid ⟨none, 0, rfl, Sl.nil _ w _ 3, Keep.refl Nb w⟩
    clear hS
    simp only [List.length_nil]
    go_enter Try.func65, Try.ntmps65
    go_wp2
    go_ret
    exact HP.out
  · have hS0 : Sl (fun k => k = w.heap.size) (w.alloc (.cells #[] 54)) 54 3 (some ⟨w.heap.size, 0, none⟩) 0 0 [] :=
      ⟨⟨rfl, .inr ⟨w.heap.size, 0, _, rfl, Nat.zero_le _, heap_alloc_new w _, Nat.le_refl _, Nat.zero_le _, rfl, rfl⟩⟩, fun a ha => by simp at ha; rw [← ha]⟩
    by_cases h0 : es = []
    · subst h0
      have HP : Hid (EdgesPost w [] (.returned (.slice (some ⟨w.heap.size, 0, none⟩) 0 0)) (w.alloc (.cells #[] 54))) :=
        Lib.hid ⟨_, 0, rfl, hS0.mono (fun k hk => by omega), (Keep.refl Nb w).alloc _⟩
      have H0 := Lib.hid (fun (ty : TypeId) (W : World) => run_append_zero (P := Try.prog) W 51 ty 54 und_edges elem_edge ⟨w.heap.size, 0, none⟩ ⟨g, 0, none⟩ 0 c)
      clear hS hrow hS0 hcm
      simp only [List.length_nil]
      go_enter Try.func65, Try.ntmps65
      go_wp2_with ((at_builtin; refine wpList_app rfl _ _ _ rfl rfl rfl (H0.out _ _) ?_))
      go_ret
      exact HP.out
    · have hpos : 0 < es.length := List.length_pos_iff.2 h0
      obtain ⟨q, c', w', h1, h2, h3, h4⟩ := run_app (P := Try.prog) (w := w.alloc (.cells #[] 54)) 51 51 54 und_edges elem_edge (by rfl) (by omega) hS0 ⟨g, 0, none⟩ es.length c (ecs es) (ecs_length es)
        (fun j u hj => by
          rw [show (⟨g, 0, none⟩ : Addr).add j = ⟨g, j, none⟩ from by unfold Addr.add; split <;> simp_all]
          exact (hrow.alloc _).cell hj) (ecs_one es) (by simp only [maxLen]; omega) (by omega) hpos
      simp only [Nat.zero_add, List.nil_append] at h1 h2
      have HP : Hid (EdgesPost w es (.returned (.slice (some ⟨q, 0, none⟩) es.length c')) w') :=
        Lib.hid ⟨_, c', rfl, h2.mono (fun k hk => by rcases hk with h | h; omega; simp at h; omega), ⟨h3.os, h3.tape, h3.output, by have := h3.size; simp at this; omega, fun k hk _ => by
          rw [h3.block k (by simp; omega) (by rintro ⟨a, ha, hb⟩; cases ha; simp at hb; omega)]
          exact Below.heap_alloc w _ k hk⟩⟩
      have H1 := Lib.hid h1
      clear h1 h2 h3 h4 hS hrow hS0 hcm
      go_enter Try.func65, Try.ntmps65
      go_wp2_with ((at_builtin; refine wpList_app rfl _ _ _ rfl rfl rfl H1.out ?_))
      go_ret
      exact HP.out

set_option maxRecDepth 100000 in
theorem edges_any (F : Nat → Prop) (w : World) (b n : Nat) (es : List E) (hG : Gr F w b n es) (hn : es.length ≤ 1000) :
    Calls Try.prog 27 #[.pointer (some ⟨b, 0, none⟩)] w (EdgesPost w es) := by
  obtain ⟨o, c, hM⟩ := hG
  have c1 := hM.head.cell (i := 1) rfl
  have HM := Lib.hid hM
  clear hM
  go_enter Try.func27, Try.ntmps27
  go_wp2_with fail
  refine (clone_any F w o c es HM.out.s hn).mono ?_
  rintro e1 w1 ⟨q, c', rfl, h1, h2⟩
  have H1 := Lib.hid h1
  have H2 := Lib.hid h2
  clear h1 h2
  go_wp2_with fail
  go_ret
  exact ⟨q, c', rfl, H1.out, H2.out⟩

end Go.Proofs.Ytkpoobnldgfapaa

/- slices.Index and Contains at numbers; Other; Edge. -/
namespace Go.Proofs.Ytkpoobnldgfapaa
open Go.RowKit Pl

set_option maxRecDepth 100000 in
theorem index_any (F : Nat → Prop) (w : World) (o : Option Addr) (c : Nat) (l : List Nat) (x : Nat) (hS : Sl F w 3 1 o l.length c (ints l)) (hn : l.length ≤ 1000) :
    Calls Try.prog 86 #[.slice o l.length c, .int .i64 x] w fun e w' => ∃ r : Int, e = .returned (.int .i64 r) ∧ (0 ≤ r ↔ x ∈ l) ∧ w' = w := by
  have HS := Lib.hid hS
  clear hS
  have HP : Hid (∀ i : Nat, l[i]? = some x → ∃ r : Int, Ending.returned (.int .i64 i) = .returned (.int .i64 r) ∧ (0 ≤ r ↔ x ∈ l)) :=
    Lib.hid (fun i hi => ⟨i, rfl, ⟨fun _ => List.mem_of_getElem? hi, fun _ => by omega⟩⟩)
  have HN : Hid ((∀ j : Nat, j < l.length → l[j]? ≠ some x) → ∃ r : Int, Ending.returned (.int .i64 (-1)) = .returned (.int .i64 r) ∧ (0 ≤ r ↔ x ∈ l)) :=
    Lib.hid (fun h => ⟨-1, rfl, ⟨fun h => by omega, fun h' => by
      obtain ⟨j, hj⟩ := List.mem_iff_getElem?.1 h'
      exact absurd hj (h j (List.getElem?_eq_some_iff.1 hj).1)⟩⟩)
  generalize hPP : (fun (e : Ending) (w' : World) => ∃ r : Int, e = .returned (.int .i64 r) ∧ (0 ≤ r ↔ x ∈ l) ∧ w' = w) = PP
  have HPP := Lib.hid hPP
  clear hPP
  go_enter Try.func86, Try.ntmps86
  go_wp2
  go_loop [8] (fun r => ∃ i : Nat, r = .int .i64 i ∧ i ≤ l.length ∧ Hid (∀ j : Nat, j < i → l[j]? ≠ some x)) (fun r => l.length - (intOf r).toNat)
  case atStart => exact ⟨0, rfl, Nat.zero_le _, Lib.hid (fun j hj => by omega)⟩
  case round =>
    obtain ⟨i, rfl, hi, HJ⟩ := hrel
    by_cases hlt : i < l.length
    · obtain ⟨g, rfl, _, hnc, hrow⟩ := HS.out.pos (by omega)
      have hy := List.getElem?_eq_getElem hlt
      generalize l[i]'hlt = y at hy
      have c1 := hrow.cell (ints_get hy)
      have HY := Lib.hid hy
      clear hy hrow
      by_cases hxy : x = y
      · subst hxy
        go_wp2
        obtain ⟨r, h1, h2⟩ := HP.out i HY.out
        rw [← HPP.out]
        exact ⟨r, h1, h2, rfl⟩
      · have hxy' : ¬ ((x : Int) = (y : Int)) := by omega
        have HX := Lib.hid hxy
        clear hxy
        go_wp2
        go_round
        case rel => exact ⟨i + 1, rfl, by omega, Lib.hid (fun j hj => by
            by_cases e : j = i
            · subst e; rw [HY.out]; intro h; exact HX.out (Option.some.inj h).symm
            · exact HJ.out j (by omega))⟩
        case measure => simp [intOf]; omega
    · go_wp2
      rw [← HPP.out]
      obtain ⟨r, h1, h2⟩ := HN.out (fun j hj => HJ.out j (by omega))
      exact ⟨r, h1, h2, rfl⟩

set_option maxRecDepth 100000 in
theorem contains_any (F : Nat → Prop) (w : World) (o : Option Addr) (c : Nat) (l : List Nat) (x : Nat) (hS : Sl F w 3 1 o l.length c (ints l)) (hn : l.length ≤ 1000) :
    Calls Try.prog 66 #[.slice o l.length c, .int .i64 x] w fun e w' => e = .returned (.bool (decide (x ∈ l))) ∧ w' = w := by
  have HS := Lib.hid hS
  clear hS
  go_enter Try.func66, Try.ntmps66
  go_wp2_with fail
  refine (index_any F w o c l x HS.out hn).mono ?_
  rintro e w1 ⟨r, rfl, hr, rfl⟩
  have HR := Lib.hid hr
  clear hr
  go_wp2_with fail
  go_ret
  exact ⟨by rw [← decide_eq_decide.2 HR.out]; rfl, rfl⟩

set_option maxRecDepth 100000 in
theorem other_any (w : World) (id a b x : Nat) :
    Calls Try.prog 88 #[.agg #[.int .i64 id, .int .i64 a, .int .i64 b], .int .i64 x] w fun e w' => e = .returned (.int .i64 ((if a = x then b else a : Nat) : Int)) ∧ Keep Nb w w' := by
  by_cases h : a = x
  · subst h
    go_enter Try.func88, Try.ntmps88
    go_wp2
    go_ret
    exact ⟨by simp, (Keep.refl Nb w).alloc _⟩
  · have h' : ¬ ((a : Int) = (x : Int)) := by omega
    have H := Lib.hid h
    clear h
    go_enter Try.func88, Try.ntmps88
    go_wp2
    go_ret
    refine ⟨?_, (Keep.refl Nb w).alloc _⟩
    rfl

end Go.Proofs.Ytkpoobnldgfapaa

/- graph: Without. -/
namespace Go.Proofs.Ytkpoobnldgfapaa
open Go.RowKit Pl

/-- Without some edges, and without all edges of some nodes. -/
def keeps (ed nd : List Nat) (e : E) : Bool := !decide (e.id ∈ ed) && !decide (e.a ∈ nd) && !decide (e.b ∈ nd)
def withoutEs (ed nd : List Nat) (es : List E) : List E := es.filter (keeps ed nd)

def WRel (w : World) (n : Nat) (ed nd : List Nat) (es : List E) (i : Nat) (q : Nat) (wr : World) : Prop :=
  q = w.heap.size ∧ Gr (fun k => w.heap.size ≤ k) wr q n (withoutEs ed nd (es.take i)) ∧ Keep Nb w wr

def WithoutPost (w : World) (n : Nat) (ed nd : List Nat) (es : List E) (e : Ending) (w' : World) : Prop :=
  e = .returned (.pointer (some ⟨w.heap.size, 0, none⟩)) ∧ Gr (fun k => w.heap.size ≤ k) w' w.heap.size n (withoutEs ed nd es) ∧ Keep Nb w w'

theorem withoutEs_succ {ed nd : List Nat} {es : List E} {i : Nat} {e : E} (h : es[i]? = some e) : withoutEs ed nd (es.take (i + 1)) = withoutEs ed nd (es.take i) ++ (if keeps ed nd e then [e] else []) := by
  unfold withoutEs
  rw [List.take_add_one, h]
  simp [List.filter_append, List.filter_cons]

theorem withoutEs_len (ed nd : List Nat) (es : List E) : (withoutEs ed nd es).length ≤ es.length := List.length_filter_le _ _

/-- A round that takes none. -/
theorem WRel.skip {w wr w2 : World} {n : Nat} {ed nd : List Nat} {es : List E} {i q : Nat} {e : E} (h : WRel w n ed nd es i q wr) (he : es[i]? = some e) (hk : keeps ed nd e = false) (k : Keep Nb wr w2) : WRel w n ed nd es (i + 1) q w2 := by
  obtain ⟨h1, h2, h3⟩ := h
  refine ⟨h1, ?_, h3.trans k⟩
  rw [withoutEs_succ he, hk]
  simp only [Bool.false_eq_true, if_false, List.append_nil]
  exact h2.keep k (fun _ _ h => h)

/-- A round that takes one. -/
theorem WRel.take {w wr w2 w3 : World} {n : Nat} {ed nd : List Nat} {es : List E} {i : Nat} {e : E} {o : Option Addr} {c : Nat} (hF : Keep Nb w wr) (hM : GrMem (fun k => w.heap.size ≤ k) wr w.heap.size n (withoutEs ed nd (es.take i)) o c) (he : es[i]? = some e) (hk : keeps ed nd e = true)
    (k : Keep Nb wr w2) {g c' m : Nat} (hm : m = (withoutEs ed nd (es.take i)).length) (hS : Sl (fun k => w.heap.size ≤ k ∨ k = w2.heap.size + 1) w3 54 3 (some ⟨g, 0, none⟩) (m + 1) c' (ecs (withoutEs ed nd (es.take i)) ++ ecells e)) (hk3 : Keep (Bl o) w2 w3) (hg : o = some ⟨g, 0, none⟩ ∨ g = w2.heap.size + 1) :
    WRel w n ed nd es (i + 1) w.heap.size (w3.setCell ⟨w.heap.size, 1, none⟩ (.slice (some ⟨g, 0, none⟩) (m + 1) c')) := by
  have hsz := k.size
  have hF1 := hF.size
  have hlt := hM.head.lt
  have hbl : ∀ j, Bl o j → w.heap.size ≤ j ∧ j ≠ w.heap.size := by
    rintro j ⟨x, hx, rfl⟩
    exact ⟨hM.s.foot x hx, hM.d x hx⟩
  have hgq : g ≠ w.heap.size := by
    rcases hg with h | h
    · exact hM.d _ h
    · omega
  have hhead := (hM.head.keep k (fun h => h)).keep hk3 (fun h => (hbl _ h).2 rfl)
  have hes : withoutEs ed nd (es.take (i + 1)) = withoutEs ed nd (es.take i) ++ [e] := by rw [withoutEs_succ he, hk]; rfl
  have hlen : (withoutEs ed nd (es.take (i + 1))).length = m + 1 := by rw [hes, List.length_append, ← hm]; rfl
  refine ⟨rfl, ⟨some ⟨g, 0, none⟩, c', ?_, ?_, ?_, ?_⟩, ?_⟩
  · have := hhead.set (i := 1) (by simp) (.slice (some ⟨g, 0, none⟩) (m + 1) c')
    rw [hlen]
    exact this
  · exact Nat.le_refl _
  · rw [hlen, hes, ecs_append, ecs_cons, ecs_nil, List.append_nil]
    exact (hS.mono (G := fun k => w.heap.size ≤ k) (fun j hj => by rcases hj with h | h; exact h; omega)).set_ne (p := ⟨w.heap.size, 1, none⟩) (fun x hx => by cases hx; exact hgq) _
  · intro x hx; cases hx; exact hgq
  · exact ((hF.trans k).trans' hk3 (H := Nb) (fun _ _ h => h) (fun j hj h => by have := (hbl j h).1; omega)).setCell (.inr (Nat.le_refl _)) _

end Go.Proofs.Ytkpoobnldgfapaa

/- graph: Without, the walk. -/
namespace Go.Proofs.Ytkpoobnldgfapaa
open Go.RowKit Pl

theorem step_app_run {P : Program} {ops : Array Oper} {o : Oper} {a : Act} {w : World} {K : Act → World → Prop} {Q : Exit → Act → World → Prop} {E : Prop}
    (hg : o.guard = none) (d x : Operand) (dT sT : TypeId) (hop : o.op = Op.call { callee := Callee.builtin Builtin.append, args := #[d, x], argTypes := #[dT, sT] })
    (v u : Value) (hd : a.eval d = v) (hx : a.eval x = u) {v' : Value} {w' : World} (hr : (Builtin.append_ #[dT, sT] o.type #[v, u]).run P w = .ok v' w') (hK : K (a.put o.dst v') w') :
    if Region.wanted o (yielded ops a.tmps) = true then Oper.wp P o a w K Q else E := by
  have hw : Region.wanted o (yielded ops a.tmps) = true := by simp [Region.wanted, hg]
  rw [if_pos hw]
  unfold Oper.wp
  simp [execOp, hop, resolve, invoke, builtin, hd, hx, hr, Result.andThen]
  exact hK

set_option maxRecDepth 100000 in
set_option maxHeartbeats 1000000 in
theorem without_any (F Fe Fn : Nat → Prop) (w : World) (b n : Nat) (es : List E) (oe on : Option Addr) (ce cn : Nat) (ed nd : List Nat) (hG : Gr F w b n es) (hn : es.length ≤ 1000)
    (hE : Sl Fe w 3 1 oe ed.length ce (ints ed)) (hN : Sl Fn w 3 1 on nd.length cn (ints nd)) (he : ed.length ≤ 1000) (hnl : nd.length ≤ 1000) :
    Calls Try.prog 29 #[.pointer (some ⟨b, 0, none⟩), .slice oe ed.length ce, .slice on nd.length cn] w (WithoutPost w n ed nd es) := by
  obtain ⟨o, c, hM⟩ := hG
  have c0 := hM.head.cell (i := 0) rfl
  have c1 := hM.head.cell (i := 1) rfl
  have hbw := hM.head.lt
  have HM := Lib.hid hM
  have HE := Lib.hid hE
  have HN := Lib.hid hN
  have H0 : Hid (WRel w n ed nd es 0 w.heap.size (w.alloc (.cells #[.int .i64 n, .slice none 0 0] 92))) :=
    Lib.hid ⟨rfl, ⟨none, 0, Row.new w #[.int .i64 n, .slice none 0 0] 92, Nat.le_refl _, (Sl.nil _ w 54 3).alloc _, fun _ h => by cases h⟩, (Keep.refl Nb w).alloc _⟩
  clear hM hE hN
  go_enter Try.func29, Try.ntmps29
  go_wp2
  go_loopg [21] es.length (fun kx s wr => ∃ i : Nat, s = .int .i64 i ∧ i ≤ es.length ∧ es.length - i ≤ kx ∧ Hid (WRel w n ed nd es i w.heap.size wr))
  case atStart => exact ⟨0, rfl, Nat.zero_le _, by omega, H0⟩
  case round =>
    clear H0
    obtain ⟨i, rfl, hi, hg, HR⟩ := hrel
    by_cases hlt : i < es.length
    · obtain ⟨g, rfl, _, hnc, hrow⟩ := HM.out.s.pos (by omega)
      have hy := List.getElem?_eq_getElem hlt
      generalize es[i]'hlt = e at hy
      have hEr := hrow.edges.keep HR.out.2.2 id
      have d1 := hEr.id _ _ hy
      have d2 := hEr.a _ _ hy
      have d3 := hEr.b _ _ hy
      have HY := Lib.hid hy
      have HE1 := Lib.hid ((HE.out.keep HR.out.2.2 (fun _ _ h => h)).alloc (.cells #[.int .i64 e.id, .int .i64 e.a, .int .i64 e.b] 54))
      have HN1 := Lib.hid ((HN.out.keep HR.out.2.2 (fun _ _ h => h)).alloc (.cells #[.int .i64 e.id, .int .i64 e.a, .int .i64 e.b] 54))
      have HK := Lib.hid ((Keep.refl Nb wr).alloc (.cells #[.int .i64 e.id, .int .i64 e.a, .int .i64 e.b] 54))
      clear hy hrow hEr
      by_cases m1 : e.id ∈ ed
      · go_wp2_with fail
        refine (contains_any Fe _ oe ce ed e.id HE1.out he).mono ?_
        rintro e1 w1 ⟨rfl, rfl⟩
        rw [decide_eq_true m1]
        go_wp2
        go_roundg (es.length - (i + 1))
        case measure => omega
        case rel => exact ⟨i + 1, rfl, by omega, Nat.le_refl _, Lib.hid (HR.out.skip HY.out (by simp [keeps, m1]) HK.out)⟩
      · by_cases m2 : e.a ∈ nd
        · go_wp2_with fail
          refine (contains_any Fe _ oe ce ed e.id HE1.out he).mono ?_
          rintro e1 w1 ⟨rfl, rfl⟩
          rw [decide_eq_false m1]
          go_wp2_with fail
          refine (contains_any Fn _ on cn nd e.a HN1.out hnl).mono ?_
          rintro e1 w1 ⟨rfl, rfl⟩
          rw [decide_eq_true m2]
          go_wp2
          go_roundg (es.length - (i + 1))
          case measure => omega
          case rel => exact ⟨i + 1, rfl, by omega, Nat.le_refl _, Lib.hid (HR.out.skip HY.out (by simp [keeps, m2]) HK.out)⟩
        · by_cases m3 : e.b ∈ nd
          · go_wp2_with fail
            refine (contains_any Fe _ oe ce ed e.id HE1.out he).mono ?_
            rintro e1 w1 ⟨rfl, rfl⟩
            rw [decide_eq_false m1]
            go_wp2_with fail
            refine (contains_any Fn _ on cn nd e.a HN1.out hnl).mono ?_
            rintro e1 w1 ⟨rfl, rfl⟩
            rw [decide_eq_false m2]
            go_wp2_with fail
            refine (contains_any Fn _ on cn nd e.b HN1.out hnl).mono ?_
            rintro e1 w1 ⟨rfl, rfl⟩
            rw [decide_eq_true m3]
            go_wp2
            go_roundg (es.length - (i + 1))
            case measure => omega
            case rel => exact ⟨i + 1, rfl, by omega, Nat.le_refl _, Lib.hid (HR.out.skip HY.out (by simp [keeps, m3]) HK.out)⟩
          · obtain ⟨_, ⟨o2, c2, hM2⟩, hkw⟩ := HR.out
            have hle := withoutEs_len ed nd (es.take i)
            rw [List.length_take] at hle
            have hM3 := (hM2.alloc (.cells #[.int .i64 e.id, .int .i64 e.a, .int .i64 e.b] 54)).drew
            obtain ⟨gq, c', w3, h1, h2, h3, h4⟩ := run_appN (P := Try.prog) 51 51 54 und_edges elem_edge (by rfl) (by omega) hM3.s (ecells e) 1 (fun u hu => ecs_one [e] u (by simpa [ecs] using hu)) rfl (by omega) (by omega) (by omega)
            have hsz2 : (wr.alloc (.cells #[.int .i64 e.id, .int .i64 e.a, .int .i64 e.b] 54)).drew.heap.size = wr.heap.size + 1 := by simp
            have hrow3 := hM3.head.keep h3 (fun h => by obtain ⟨x, hx, hxg⟩ := h; exact hM3.d x hx hxg)
            have x1 := hM2.head.cell (i := 1) rfl
            have x2 := hrow3.cell (i := 1) rfl
            have x3 := hrow3.frozen 1 none
            have x4 := hM2.head.lt
            generalize hm : (withoutEs ed nd (es.take i)).length = m at *
            have HT := Lib.hid (WRel.take hkw hM2 HY.out (by simp [keeps, m1, m2, m3]) (HK.out.drew) hm.symm h2 h3 h4)
            rw [hsz2] at h1
            have H1 := Lib.hid h1
            have mixed : (Try.prog).follows Departure.mixedOrders = true := by kernel_rfl
            clear h1 h2 h3 h4 hM2 hM3 hrow3 hkw hsz2 hm
            go_wp2_with fail
            refine (contains_any Fe _ oe ce ed e.id HE1.out he).mono ?_
            rintro e1 w1 ⟨rfl, rfl⟩
            rw [decide_eq_false m1]
            go_wp2_with fail
            refine (contains_any Fn _ on cn nd e.a HN1.out hnl).mono ?_
            rintro e1 w1 ⟨rfl, rfl⟩
            rw [decide_eq_false m2]
            go_wp2_with fail
            refine (contains_any Fn _ on cn nd e.b HN1.out hnl).mono ?_
            rintro e1 w1 ⟨rfl, rfl⟩
            rw [decide_eq_false m3]
            go_wp2_with fail
            go_region_law_o (refine step_app_run rfl _ _ 51 51 rfl (.slice o2 m c2) (.slice (some ⟨wr.heap.size + 1, 0, none⟩) 1 1) (by simp [Act.eval, Act.put]) (by simp [Act.eval, Act.put]) H1.out ?_)
            all_goals
              (try go_wp2)
              go_roundg (es.length - (i + 1))
              case measure => omega
              case rel => exact ⟨i + 1, rfl, by omega, Nat.le_refl _, HT⟩
    · obtain rfl : i = es.length := by omega
      have hP : WithoutPost w n ed nd es (.returned (.pointer (some ⟨w.heap.size, 0, none⟩))) wr := by
        obtain ⟨_, h2, h3⟩ := HR.out
        rw [List.take_length] at h2
        exact ⟨rfl, h2, h3⟩
      have HP := Lib.hid hP
      clear hP
      go_wp2
      go_ret
      exact HP.out

end Go.Proofs.Ytkpoobnldgfapaa

/- bridge: memory of Bridges; part. -/
namespace Go.Proofs.Ytkpoobnldgfapaa
open Go.RowKit Pl Go.Maps

def stepV (s : Nat × Nat) : Value := .agg #[.int .i64 s.1, .int .i64 s.2]

/-- The memory of Bridges: two sets, the bridges upward, the bridges' numbers. -/
structure BrMem (F : Nat → Prop) (w : World) (b n ws ts um im : Nat) (Fw Ft : Nat → Prop) (Lw T : Nat → Nat) (mU mI : List (Nat × Value)) : Prop where
  head : Row w b 108 [.pointer (some ⟨ws, 0, none⟩), .pointer (some ⟨ts, 0, none⟩), .map (some um), .map (some im)]
  sw : Sets Fw w ws n Lw
  st : Sets Ft w ts n T
  mu : MapAt encN DN w um mU
  mi : MapAt encN DN w im mI
  nb : ¬ Fw b ∧ ¬ Ft b ∧ b ≠ um ∧ b ≠ im
  nu : ¬ Fw um ∧ ¬ Ft um ∧ um ≠ im
  ni : ¬ Fw im ∧ ¬ Ft im
  nf : ∀ k, Fw k → ¬ Ft k
  sub : ∀ k, k = b ∨ k = um ∨ k = im ∨ Fw k ∨ Ft k → F k

theorem Sets.keepG {F G : Nat → Prop} {w w' : World} {b n : Nat} {L : Nat → Nat} (h : Sets F w b n L) (k : Keep G w w') (d : ∀ k, F k → ¬ G k) : Sets F w' b n L := by
  obtain ⟨up, size, low, many, ou, os, ol, cu, cs, cl, hM, hI, hn⟩ := h
  exact ⟨up, size, low, many, ou, os, ol, cu, cs, cl, hM.keep k d, hI, hn⟩

namespace BrMem
variable {F : Nat → Prop} {w : World} {b n ws ts um im : Nat} {Fw Ft : Nat → Prop} {Lw T : Nat → Nat} {mU mI : List (Nat × Value)}

theorem keep {G : Nat → Prop} {w' : World} (h : BrMem F w b n ws ts um im Fw Ft Lw T mU mI) (k : Keep G w w') (d : ∀ k, F k → ¬ G k) : BrMem F w' b n ws ts um im Fw Ft Lw T mU mI :=
  ⟨h.head.keep k (d b (h.sub b (.inl rfl))), h.sw.keepG k (fun j hj => d j (h.sub j (.inr (.inr (.inr (.inl hj)))))), h.st.keepG k (fun j hj => d j (h.sub j (.inr (.inr (.inr (.inr hj)))))),
    h.mu.keep k (d um (h.sub um (.inr (.inl rfl)))), h.mi.keep k (d im (h.sub im (.inr (.inr (.inl rfl))))), h.nb, h.nu, h.ni, h.nf, h.sub⟩

theorem alloc (h : BrMem F w b n ws ts um im Fw Ft Lw T mU mI) (o : Obj) : BrMem F (w.alloc o) b n ws ts um im Fw Ft Lw T mU mI := h.keep ((Keep.refl Nb w).alloc o) (fun _ _ e => e)
theorem drew (h : BrMem F w b n ws ts um im Fw Ft Lw T mU mI) : BrMem F w.drew b n ws ts um im Fw Ft Lw T mU mI := h.keep ((Keep.refl Nb w).drew) (fun _ _ e => e)
theorem mono {G : Nat → Prop} (h : BrMem F w b n ws ts um im Fw Ft Lw T mU mI) (hG : ∀ k, F k → G k) : BrMem G w b n ws ts um im Fw Ft Lw T mU mI :=
  ⟨h.head, h.sw, h.st, h.mu, h.mi, h.nb, h.nu, h.ni, h.nf, fun k hk => hG k (h.sub k hk)⟩

/-- The finer sets have turned (a path shortened, two joined). -/
theorem setT {w' : World} {T' : Nat → Nat} (h : BrMem F w b n ws ts um im Fw Ft Lw T mU mI) (hS : Sets Ft w' ts n T') (k : Keep Ft w w') : BrMem F w' b n ws ts um im Fw Ft Lw T' mU mI :=
  ⟨h.head.keep k h.nb.2.1, h.sw.keepG k h.nf, hS, h.mu.keep k h.nu.2.1, h.mi.keep k h.ni.2, h.nb, h.nu, h.ni, h.nf, h.sub⟩

/-- The coarser ones. -/
theorem setW {w' : World} {L' : Nat → Nat} (h : BrMem F w b n ws ts um im Fw Ft Lw T mU mI) (hS : Sets Fw w' ws n L') (k : Keep Fw w w') : BrMem F w' b n ws ts um im Fw Ft L' T mU mI :=
  ⟨h.head.keep k h.nb.1, hS, h.st.keepG k (fun j a b => h.nf j b a), h.mu.keep k h.nu.1, h.mi.keep k h.ni.1, h.nb, h.nu, h.ni, h.nf, h.sub⟩

theorem setU {w' : World} {mU' : List (Nat × Value)} (h : BrMem F w b n ws ts um im Fw Ft Lw T mU mI) (hm : MapAt encN DN w' um mU') (k : Keep (fun j => j = um) w w') : BrMem F w' b n ws ts um im Fw Ft Lw T mU' mI :=
  ⟨h.head.keep k h.nb.2.2.1, h.sw.keepG k (fun j a e => h.nu.1 (e ▸ a)), h.st.keepG k (fun j a e => h.nu.2.1 (e ▸ a)), hm, h.mi.keep k (fun e => h.nu.2.2 e.symm), h.nb, h.nu, h.ni, h.nf, h.sub⟩

theorem setI {w' : World} {mI' : List (Nat × Value)} (h : BrMem F w b n ws ts um im Fw Ft Lw T mU mI) (hm : MapAt encN DN w' im mI') (k : Keep (fun j => j = im) w w') : BrMem F w' b n ws ts um im Fw Ft Lw T mU mI' :=
  ⟨h.head.keep k h.nb.2.2.2, h.sw.keepG k (fun j a e => h.ni.1 (e ▸ a)), h.st.keepG k (fun j a e => h.ni.2 (e ▸ a)), h.mu.keep k h.nu.2.2, hm, h.nb, h.nu, h.ni, h.nf, h.sub⟩

theorem n40 (h : BrMem F w b n ws ts um im Fw Ft Lw T mU mI) : n ≤ 40 := by
  obtain ⟨_, _, _, _, _, _, _, _, _, _, _, _, hn⟩ := h.st; exact hn
end BrMem

def PartPost (F : Nat → Prop) (w : World) (b n ws ts um im : Nat) (Fw Ft : Nat → Prop) (Lw T : Nat → Nat) (mU mI : List (Nat × Value)) (x : Nat) (e : Ending) (w' : World) : Prop :=
  e = .returned (.int .i64 (T x : Nat)) ∧ BrMem F w' b n ws ts um im Fw Ft Lw T mU mI ∧ Keep Ft w w'

set_option maxRecDepth 100000 in
theorem part_any (F : Nat → Prop) (w : World) (b n ws ts um im : Nat) (Fw Ft : Nat → Prop) (Lw T : Nat → Nat) (mU mI : List (Nat × Value)) (x : Nat) (hx : x < n) (h : BrMem F w b n ws ts um im Fw Ft Lw T mU mI) :
    Calls Try.prog 75 #[.pointer (some ⟨b, 0, none⟩), .int .i64 x] w (PartPost F w b n ws ts um im Fw Ft Lw T mU mI x) := by
  have c1 := h.head.cell (i := 1) rfl
  have H := Lib.hid h
  clear h
  go_enter Try.func75, Try.ntmps75
  go_wp2_with fail
  refine (least_any Ft _ ts n T x hx H.out.st).mono ?_
  rintro e w1 ⟨rfl, hs, hk⟩
  have HP : Hid (PartPost F w b n ws ts um im Fw Ft Lw T mU mI x (.returned (.int .i64 (T x : Nat))) w1) := Lib.hid ⟨rfl, H.out.setT hs hk, hk⟩
  clear hs hk
  go_wp2_with fail
  go_ret
  exact HP.out

theorem zero_step (w : World) : (zeroValue 125).run Try.prog w = .ok (stepV (0, 0)) w := by kernel_rfl

/-- The map of the bridges upward. -/
def UpIs (mU : List (Nat × Value)) (up : Nat → Option (Nat × Nat)) : Prop := ∀ p, mget mU p = (up p).map stepV

theorem UpIs.set {mU : List (Nat × Value)} {up : Nat → Option (Nat × Nat)} (h : UpIs mU up) (p : Nat) (s : Nat × Nat) : UpIs (mset mU p (stepV s)) (upd up p (some s)) := fun q => by
  rw [mget_mset]
  by_cases e : q = p
  · subst e; rw [if_pos rfl, upd_same]; rfl
  · rw [if_neg e, upd_ne _ _ _ _ e]; exact h q

theorem UpIs.del {mU : List (Nat × Value)} {up : Nat → Option (Nat × Nat)} (h : UpIs mU up) (p : Nat) : UpIs (mdel mU p) (upd up p none) := fun q => by
  rw [mget_mdel]
  by_cases e : q = p
  · subst e; rw [if_pos rfl, upd_same]; rfl
  · rw [if_neg e, upd_ne _ _ _ _ e]; exact h q

def stepD (o : Option (Nat × Nat)) : Nat × Nat := o.getD (0, 0)

/-- A look-up in it. -/
theorem BrMem.look {F : Nat → Prop} {w : World} {b n ws ts um im : Nat} {Fw Ft : Nat → Prop} {Lw T : Nat → Nat} {mU mI : List (Nat × Value)} {up : Nat → Option (Nat × Nat)} (h : BrMem F w b n ws ts um im Fw Ft Lw T mU mI) (hU : UpIs mU up) {p : Nat} (hp : p < 40) :
    (Instr.lookup 105 (.map (some um)) (.int .i64 p) true).run Try.prog w = .ok (.tuple #[.agg #[.int .i64 ((stepD (up p)).1 : Nat), .int .i64 ((stepD (up p)).2 : Nat)], .bool (up p).isSome]) w := by
  have hl := h.mu.look (encN_enc Try.underlying3) Try.underlying105 (zero_step w) (nat40 hp) true
  rw [hU p] at hl
  cases hup : up p with
  | none => rw [hup] at hl; exact hl
  | some s => rw [hup] at hl; exact hl

end Go.Proofs.Ytkpoobnldgfapaa

/- split: label. -/
namespace Go.Proofs.Ytkpoobnldgfapaa
open Go.RowKit Pl

/-- The labels of a graph's nodes. -/
def labG (es : List E) : Nat → Nat := labs (ends es)

def LabelPost (w : World) (n : Nat) (es : List E) (e : Ending) (w' : World) : Prop :=
  ∃ o c, e = .returned (.slice o n c) ∧ Sl (fun k => w.heap.size ≤ k) w' 3 1 o n c (fints n (labG es)) ∧ Keep Nb w w'

theorem Sets.keep' {F G : Nat → Prop} {w w' : World} {b n : Nat} {L : Nat → Nat} (h : Sets F w b n L) (k : Keep G w w') (d : ∀ k, F k → ¬ G k) : Sets F w' b n L := by
  obtain ⟨up, size, low, many, ou, os, ol, cu, cs, cl, hM, hI, hn⟩ := h
  exact ⟨up, size, low, many, ou, os, ol, cu, cs, cl, hM.keep k d, hI, hn⟩

def LRel1 (w1 w2 : World) (F : Nat → Prop) (b n : Nat) (es : List E) (i : Nat) (wr : World) : Prop :=
  Sets F wr b n (labs (ends (es.take i))) ∧ Keep F w2 wr

theorem LRel1.next {w1 w2 wr w3 : World} {F : Nat → Prop} {b n i : Nat} {es : List E} {e : E} (h : LRel1 w1 w2 F b n es i wr) (he : es[i]? = some e)
    (hS : Sets F w3 b n (joinL (labs (ends (es.take i))) e.a e.b)) (k : Keep F wr w3) : LRel1 w1 w2 F b n es (i + 1) w3 := by
  refine ⟨?_, h.2.trans k⟩
  rw [List.take_add_one, he]
  unfold ends
  rw [List.map_append]
  exact (labs_snoc _ (e.a, e.b)) ▸ hS

end Go.Proofs.Ytkpoobnldgfapaa

/- split: label, the walk. -/
namespace Go.Proofs.Ytkpoobnldgfapaa
open Go.RowKit Pl

/-- A pointed edge lies over n nodes. -/
def Over (n : Nat) (es : List E) : Prop := ∀ e, e ∈ es → e.a < n ∧ e.b < n

def LRel2 (w2 : World) (F : Nat → Prop) (b n : Nat) (es : List E) (i : Nat) (o : Option Addr) (c : Nat) (wr : World) : Prop :=
  Sets F wr b n (labs (ends es)) ∧ Sl (fun k => w2.heap.size ≤ k) wr 3 1 o i c (fints i (labs (ends es))) ∧ Keep F w2 wr

theorem LRel2.next {w0 w1 w2 wr w5 w' : World} {b n i c c' g : Nat} {es : List E} {o : Option Addr} (h : LRel2 w2 (Iv w0.heap.size w1.heap.size) b n es i o c wr) (h12 : w1.heap.size ≤ w2.heap.size)
    (hs : Sets (Iv w0.heap.size w1.heap.size) w5 b n (labs (ends es))) (hk : Keep (Iv w0.heap.size w1.heap.size) wr w5)
    (h2 : Sl (fun k => w2.heap.size ≤ k ∨ k = w5.heap.size + 1) w' 3 1 (some ⟨g, 0, none⟩) (i + 1) c' (fints i (labs (ends es)) ++ [.int .i64 (labs (ends es) i : Nat)])) (h3 : Keep (Bl o) w5 w') :
    LRel2 w2 (Iv w0.heap.size w1.heap.size) b n es (i + 1) (some ⟨g, 0, none⟩) c' w' := by
  have hbl : ∀ k, Bl o k → w2.heap.size ≤ k := by
    rintro k ⟨x, hx, rfl⟩
    exact h.2.1.foot x hx
  have z1 := h.2.2.size
  have z2 := hk.size
  refine ⟨hs.keep' h3 (fun k hk hb => by have := hk.2; have := hbl k hb; omega), ?_, (h.2.2.trans hk).trans' h3 (fun _ _ h => h) (fun k hk hb => by have := hbl k hb; omega)⟩
  rw [fints_snoc]
  exact h2.mono (fun k hk => by rcases hk with h | h; exact h; omega)

set_option maxRecDepth 100000 in
set_option maxHeartbeats 1000000 in
theorem label_any (F : Nat → Prop) (w : World) (b n : Nat) (es : List E) (hG : Gr F w b n es) (hF : ∀ k, F k → k < w.heap.size) (hn : n ≤ 40) (hl : es.length ≤ 1000) (ho : Over n es) :
    Calls Try.prog 56 #[.pointer (some ⟨b, 0, none⟩)] w (LabelPost w n es) := by
  have HG := Lib.hid hG
  have HF := Lib.hid hF
  have HO := Lib.hid ho
  clear hG hF ho
  go_enter Try.func56, Try.ntmps56
  go_wp2_with fail
  refine (nodes_any F w b n es HG.out).mono ?_
  rintro e1 w0 ⟨rfl, rfl⟩
  go_wp2_with fail
  refine (new_any n hn _).mono ?_
  rintro e1 w1 ⟨s, rfl, hS1, hk1⟩
  have HS1 := Lib.hid hS1
  have HK1 := Lib.hid hk1
  clear hS1 hk1
  go_wp2_with fail
  refine (edges_any F w1 b n es (HG.out.keep HK1.out (fun _ _ h => h)) hl).mono ?_
  rintro e1 w2 ⟨o2, c2, rfl, hS2, hk2⟩
  have HS2 := Lib.hid hS2
  have HK2 := Lib.hid hk2
  clear hS2 hk2
  go_wp2_with fail
  go_loopg [20] es.length (fun kx s20 wr => ∃ i : Nat, s20 = .int .i64 i ∧ i ≤ es.length ∧ es.length - i ≤ kx ∧ Hid (LRel1 w1 w2 (Iv w0.heap.size w1.heap.size) s n es i wr))
  case atStart => exact ⟨0, rfl, Nat.zero_le _, by omega, Lib.hid ⟨HS1.out.keep' HK2.out (fun _ _ h => h), Keep.refl _ w2⟩⟩
  case round =>
    obtain ⟨i, rfl, hi, hg, HR⟩ := hrel
    by_cases hlt : i < es.length
    · obtain ⟨g, rfl, hFg, hnc, hrow⟩ := HS2.out.pos (by omega)
      have hy := List.getElem?_eq_getElem hlt
      generalize es[i]'hlt = e at hy
      have hEr := hrow.edges.keep HR.out.2 (fun h => by have := h.2; omega)
      have d1 := hEr.id _ _ hy
      have d2 := hEr.a _ _ hy
      have d3 := hEr.b _ _ hy
      have HY := Lib.hid hy
      have HOe := Lib.hid (HO.out e (List.mem_of_getElem? hy))
      clear hy hrow hEr
      go_wp2_with fail
      refine (join_any (Iv w0.heap.size w1.heap.size) _ s n _ e.a e.b HOe.out.1 HOe.out.2 (HR.out.1.keep' ((Keep.refl Nb wr).alloc _) (fun _ _ h => h))).mono ?_
      rintro e1 w3 ⟨rfl, hj, hk3⟩
      have HJ := Lib.hid hj
      have HK3 := Lib.hid hk3
      clear hj hk3
      go_wp2_with fail
      go_roundg (es.length - (i + 1))
      case measure => omega
      case rel => exact ⟨i + 1, rfl, by omega, Nat.le_refl _, Lib.hid (HR.out.next HY.out HJ.out ((((Keep.refl Nb wr).alloc _).of_nb).trans HK3.out))⟩
    · obtain rfl : i = es.length := by omega
      have hR := HR.out
      unfold LRel1 at hR
      rw [List.take_length] at hR
      have HR2 := Lib.hid hR
      clear hR HR
      go_wp2_with fail
      refine (nodes_any F wr b n es (((HG.out.keep HK1.out (fun _ _ h => h)).keep HK2.out (fun _ _ h => h)).keep HR2.out.2 (fun k hk h => by have := HF.out k hk; have := h.1; omega))).mono ?_
      rintro e1 w4 ⟨rfl, rfl⟩
      go_wp2_with fail
      go_loopg [7, 36] n (fun kx s7 s36 wr => ∃ (i : Nat) (o : Option Addr) (c : Nat), s7 = .slice o i c ∧ s36 = .int .i64 i ∧ i ≤ n ∧ n - i ≤ kx ∧ Hid (LRel2 w2 (Iv w0.heap.size w1.heap.size) s n es i o c wr))
      case atStart => exact ⟨0, none, 0, rfl, rfl, Nat.zero_le _, by omega, Lib.hid ⟨HR2.out.1, Sl.nil _ _ _ _, HR2.out.2⟩⟩
      case round =>
        obtain ⟨i, o, c, rfl, rfl, hi, hg, HR⟩ := hrel
        by_cases hlt : i < n
        · go_wp2_with fail
          refine (least_any (Iv w0.heap.size w1.heap.size) _ s n _ i hlt HR.out.1).mono ?_
          rintro e1 w5 ⟨rfl, hs5, hk5⟩
          have h12 := HK2.out.size
          obtain ⟨gq, c', w', h1, h2, h3, h4⟩ := run_app1 (P := Try.prog) 37 37 3 (by kernel_rfl) elem_int (by rfl) (HR.out.2.1.keep hk5 (fun k hk h => by have := h.2; have : w2.heap.size ≤ k := hk; omega)) (.int .i64 (labs (ends es) i : Nat)) rfl (by omega) (by omega)
          have HT := Lib.hid (LRel2.next HR.out h12 hs5 hk5 h2 h3)
          have H1 := Lib.hid h1
          clear h1 h2 h3 h4 hs5 hk5 h12
          go_wp2_with ((at_builtin; refine wpList_app rfl _ _ _ rfl rfl rfl H1.out ?_))
          go_roundg (n - (i + 1))
          case measure => omega
          case rel => exact ⟨i + 1, _, _, rfl, rfl, by omega, Nat.le_refl _, HT⟩
        · obtain rfl : i = n := by omega
          have hP : LabelPost w0 i es (.returned (.slice o i c)) wr := by
            obtain ⟨_, h2, h3⟩ := HR.out
            have s1 := HK1.out.size
            have s2 := HK2.out.size
            refine ⟨o, c, rfl, h2.mono (fun k hk => by have : w2.heap.size ≤ k := hk; omega), (HK1.out.trans HK2.out).trans' h3 (fun _ _ h => h) (fun k hk h => by have := h.1; omega)⟩
          have HP := Lib.hid hP
          clear hP
          go_wp2
          go_ret
          exact HP.out

end Go.Proofs.Ytkpoobnldgfapaa

/- Two numbers as a map's key. -/
namespace Go.Proofs.Ytkpoobnldgfapaa
open Go.RowKit Go.Maps

def encP (p : Nat × Nat) : Value := .agg #[.int .i64 p.1, .int .i64 p.2]
def DP (p : Nat × Nat) : Prop := DN p.1 ∧ DN p.2

theorem pair_keyed : Keyed Try.prog 31 :=
  Keyed.of_law (deep_law_laid (m := 5) (by kernel_rfl) (by omega) (of_decide_eq_true (by kernel_rfl)) (by kernel_rfl) (by kernel_rfl))

theorem keyOf_pairs {a b : Int} (ha : (Lit.int .i64 a).wf = true) (hb : (Lit.int .i64 b).wf = true) : ∃ l, keyOf Try.prog 31 (.agg #[.int .i64 a, .int .i64 b]) = some l := by
  have h1 : (Try.prog).keyType 31 = true := by kernel_rfl
  have h2 : (Try.prog).cellsOf 31 = 2 := by kernel_rfl
  have h3 : (Try.prog).cellsOf 3 = 1 := by kernel_rfl
  obtain ⟨m, hm⟩ : ∃ m, (Try.prog).types.size = m + 1 := ⟨(Try.prog).types.size - 1, by kernel_rfl⟩
  unfold keyOf
  simp only [Try.underlying31]
  rw [if_pos (by simp [h1, Value.formed, Try.underlying31, h2]), hm]
  unfold Program.keyLits
  simp only [Try.underlying31, Value.cells]
  rw [if_pos (by rw [h2]; exact ⟨rfl, by kernel_rfl⟩)]
  simp only [Program.keyLits, Try.underlying3, h3, List.mapM_cons, List.mapM_nil]
  simp [ha, hb]

theorem encP_enc : Enc Try.prog 31 encP DP := by
  refine ⟨pair_keyed, fun {a} ha => ?_, fun {a b} h => ?_⟩
  · have hw : ∀ x : Nat, DN x → (Lit.int .i64 (x : Int)).wf = true := fun x hx => by
      unfold DN at hx
      have h1 : IntKind.i64.min = -9223372036854775808 := by decide
      have h2 : IntKind.i64.max = 9223372036854775807 := by decide
      simp only [Lit.wf, h1, h2, Bool.and_eq_true, decide_eq_true_eq]
      omega
    exact keyOf_pairs (hw _ ha.1) (hw _ ha.2)
  · obtain ⟨a1, a2⟩ := a
    obtain ⟨b1, b2⟩ := b
    simp only [encP, Value.agg.injEq, Array.mk.injEq, List.cons.injEq, Value.int.injEq, true_and, and_true] at h
    rw [Prod.mk.injEq]
    omega

end Go.Proofs.Ytkpoobnldgfapaa

/- split: parts, the walk. -/
namespace Go.Proofs.Ytkpoobnldgfapaa
open Go.RowKit Pl

def valN (v : Nat) : Value := .int .i64 (v : Int)

/-- The map holds what the search knows. -/
def PRel (w wr : World) (mb n a b i : Nat) (X Y B : Nat → Nat) (mp : List ((Nat × Nat) × Value)) : Prop :=
  ∃ get : Nat × Nat → Option Nat, (∀ p, mget mp p = (get p).map valN) ∧ PInv i a b X Y B get ∧ MapAt encP DP wr mb mp ∧ Keep Nb w wr ∧ w.heap.size ≤ mb

theorem PRel.keep {w wr : World} {mb n a b i : Nat} {X Y B : Nat → Nat} {mp : List ((Nat × Nat) × Value)} (h : PRel w wr mb n a b i X Y B mp) : Keep Nb w wr := by
  obtain ⟨_, _, _, _, h, _⟩ := h; exact h

theorem PRel.skip {w wr : World} {mb n a b i : Nat} {X Y B : Nat → Nat} {mp : List ((Nat × Nat) × Value)} (h : PRel w wr mb n a b i X Y B mp) (hi : i = a ∨ i = b) : PRel w wr mb n a b (i + 1) X Y B mp := by
  obtain ⟨get, h1, h2, h3⟩ := h; exact ⟨get, h1, h2.skip hi, h3⟩

theorem PRel.same {w wr : World} {mb n a b i : Nat} {X Y B : Nat → Nat} {mp : List ((Nat × Nat) × Value)} {get : Nat × Nat → Option Nat} {x : Obj} (h1 : ∀ p, mget mp p = (get p).map valN) (h2 : PInv i a b X Y B get)
    (h3 : MapAt encP DP (wr.alloc x).drew mb mp) (h4 : Keep Nb w wr) (h5 : w.heap.size ≤ mb) (hg : get (X i, Y i) = some (B i)) : PRel w (wr.alloc x).drew mb n a b (i + 1) X Y B mp :=
  ⟨get, h1, h2.same hg, h3, h4.trans ((Keep.refl Nb wr).alloc x).drew, h5⟩

theorem PRel.store {w wr w2 : World} {mb n a b i : Nat} {X Y B : Nat → Nat} {mp : List ((Nat × Nat) × Value)} {get : Nat × Nat → Option Nat} {x : Obj} (h1 : ∀ p, mget mp p = (get p).map valN) (h2 : PInv i a b X Y B get)
    (h4 : Keep Nb w wr) (h5 : w.heap.size ≤ mb) (ia : i ≠ a) (ib : i ≠ b) (hg : get (X i, Y i) = none) (hm : MapAt encP DP w2 mb (mset mp (X i, Y i) (.int .i64 (B i : Nat)))) (hk : Keep (fun j => j = mb) (wr.alloc x).drew.drew w2) :
    PRel w w2 mb n a b (i + 1) X Y B (mset mp (X i, Y i) (.int .i64 (B i : Nat))) :=
  ⟨fun p => if p = (X i, Y i) then some (B i) else get p, fun p => by
      rw [mget_mset]
      by_cases e : p = (X i, Y i)
      · simp only [if_pos e]; rfl
      · simp only [if_neg e]; exact h1 p, h2.new ia ib hg (fun _ => rfl), hm, (h4.trans ((Keep.refl Nb wr).alloc x).drew.drew).trans' hk (fun _ _ e => e) (fun k hk' e => by omega), h5⟩

def PartsPost (w : World) (n a b : Nat) (X Y B : Nat → Nat) (e : Ending) (w' : World) : Prop :=
  ∃ r : Bool, (r = true ↔ PartsP n a b X Y B) ∧ e = .returned (.bool r) ∧ Keep Nb w w'

set_option maxRecDepth 100000 in
set_option maxHeartbeats 1000000 in
theorem parts_any (F : Nat → Prop) (w : World) (n a b : Nat) (X Y B : Nat → Nat) (ox oy ob : Option Addr) (cx cy cb : Nat) (hn : n ≤ 40) (ha : a < n) (hb : b < n)
    (hX : Sl F w 3 1 ox n cx (fints n X)) (hY : Sl F w 3 1 oy n cy (fints n Y)) (hB : Sl F w 3 1 ob n cb (fints n B)) (bX : ∀ k, X k ≤ k) (bY : ∀ k, Y k ≤ k) (bB : ∀ k, B k ≤ k) :
    Calls Try.prog 57 #[.int .i64 a, .int .i64 b, .slice ox n cx, .slice oy n cy, .slice ob n cb] w (PartsPost w n a b X Y B) := by
  obtain ⟨gx, rfl, _, hcx, rX⟩ := hX.pos (by omega)
  obtain ⟨gy, rfl, _, hcy, rY⟩ := hY.pos (by omega)
  obtain ⟨gb, rfl, _, hcb, rB⟩ := hB.pos (by omega)
  have RX := Lib.hid rX
  have RY := Lib.hid rY
  have RB := Lib.hid rB
  have BX := Lib.hid bX
  have BY := Lib.hid bY
  have BB := Lib.hid bB
  have hst : PRel w (w.alloc (.map #[] 0)) w.heap.size n a b 0 X Y B [] :=
    ⟨fun _ => none, fun _ => rfl, ⟨fun k hk => absurd hk (by omega), fun p v h => by cases h⟩, MapAt.made _ _ w, (Keep.refl Nb w).alloc _, Nat.le_refl _⟩
  have HST := Lib.hid hst
  clear hX hY hB rX rY rB bX bY bB hst
  have hmm := @run_makeMap Try.prog
  go_enter Try.func57, Try.ntmps57
  go_wp2_with fail
  go_loopg [19] n (fun kx s19 wr => ∃ (i : Nat) (mp : List ((Nat × Nat) × Value)), s19 = .int .i64 i ∧ i ≤ n ∧ n - i ≤ kx ∧ Hid (PRel w wr w.heap.size n a b i X Y B mp))
  case atStart => exact ⟨0, [], rfl, Nat.zero_le _, by omega, HST⟩
  case round =>
    clear HST
    obtain ⟨i, mp, rfl, hi, hg, HR⟩ := hrel
    by_cases hlt : i < n
    · have HD : Hid (DP (X i, Y i)) := Lib.hid ⟨nat40 (Nat.lt_of_le_of_lt (BX.out i) (by omega)), nat40 (Nat.lt_of_le_of_lt (BY.out i) (by omega))⟩
      by_cases hia : i = a
      · have hne1 : ((i : Int) == (a : Int)) = true := by simp; omega
        have HR' := Lib.hid (HR.out.skip (.inl hia))
        clear hia
        go_wp2
        go_roundg (n - (i + 1))
        case measure => omega
        case rel => exact ⟨i + 1, mp, rfl, by omega, Nat.le_refl _, HR'⟩
      · have hne1 : ((i : Int) == (a : Int)) = false := by simp; omega
        by_cases hib : i = b
        · have hne2 : ((i : Int) == (b : Int)) = true := by simp; omega
          have HR' := Lib.hid (HR.out.skip (.inr hib))
          clear hib
          go_wp2
          go_roundg (n - (i + 1))
          case measure => omega
          case rel => exact ⟨i + 1, mp, rfl, by omega, Nat.le_refl _, HR'⟩
        · have hne2 : ((i : Int) == (b : Int)) = false := by simp; omega
          have x1 := (RX.out.keep HR.out.keep (fun e => e)).cell (fints_get _ hlt)
          have x2 := (RY.out.keep HR.out.keep (fun e => e)).cell (fints_get _ hlt)
          have x3 := (RB.out.keep HR.out.keep (fun e => e)).cell (fints_get _ hlt)
          have l1 := World.block_lt_of_cell? wr _ x1
          have l2 := World.block_lt_of_cell? wr _ x2
          have l3 := World.block_lt_of_cell? wr _ x3
          obtain ⟨get, hget, hinv, hmap, hk, hle⟩ := HR.out
          have hmap1 := (hmap.alloc (.cells #[.int .i64 (X i : Nat), .int .i64 (Y i : Nat)] 31)).drew
          have hlook := hmap1.look encP_enc Try.underlying135 (zero_int _) HD.out true
          rw [hget] at hlook
          cases hg2 : get (X i, Y i) with
          | none =>
            rw [hg2] at hlook
            simp only [if_true, Option.map_none, Option.getD_none, Option.isSome_none, encP] at hlook
            obtain ⟨w2, hrun2, hm2, hk2⟩ := hmap1.drew.store encP_enc Try.underlying135 HD.out (.int .i64 (B i : Nat))
            simp only [encP] at hrun2
            have HN := Lib.hid (PRel.store (n := n) hget hinv hk hle (fun e => hia e) (fun e => hib e) hg2 hm2 hk2)
            clear hg2 hm2 hk2 hmap1 hmap hk hle hget hinv HD hia hib
            go_wp2_with fail
            go_region
            go_wp2
            go_region
            go_wp2
            go_roundg (n - (i + 1))
            case measure => omega
            case rel => exact ⟨i + 1, _, rfl, by omega, Nat.le_refl _, HN⟩
          | some v =>
            rw [hg2] at hlook
            simp only [if_true, Option.map_some, Option.getD_some, Option.isSome_some, encP, valN] at hlook
            by_cases hv : v = B i
            · have hne : ((v : Int) != (B i : Int)) = false := by simp; omega
              have HN := Lib.hid (PRel.same (n := n) hget hinv hmap1 hk hle (by rw [hg2, hv]))
              clear hg2 hmap1 hmap hk hle hget hinv HD hia hib hv
              go_wp2_with fail
              go_region
              go_wp2
              go_roundg (n - (i + 1))
              case measure => omega
              case rel => exact ⟨i + 1, _, rfl, by omega, Nat.le_refl _, HN⟩
            · have hne : ((v : Int) != (B i : Int)) = true := by simp; omega
              have hP : PartsP n a b X Y B := hinv.found hlt hia hib hg2 hv
              have HP : Hid (PartsPost w n a b X Y B (.returned (.bool true)) (wr.alloc (.cells #[.int .i64 (X i : Nat), .int .i64 (Y i : Nat)] 31)).drew) :=
                Lib.hid ⟨true, by simp [hP], rfl, hk.trans ((Keep.refl Nb wr).alloc _).drew⟩
              clear hg2 hmap1 hmap hk hle hget hinv HD hia hib hv hP
              go_wp2_with fail
              go_region
              go_wp2
              go_ret
              exact HP.out
    · obtain rfl : i = n := by omega
      have HP : Hid (PartsPost w i a b X Y B (.returned (.bool false)) wr) := Lib.hid (by
        obtain ⟨get, _, hinv, _, hk, _⟩ := HR.out
        exact ⟨false, by simp [hinv.none], rfl, hk⟩)
      clear HR
      go_wp2
      go_ret
      exact HP.out

end Go.Proofs.Ytkpoobnldgfapaa

/- Rows of numbers that are only read once they are made. Nothing of one program stands here. -/
namespace Go.Proofs.Ytkpoobnldgfapaa
open Go.RowKit

structure MatR (F : Nat → Prop) (w : World) (T e : TypeId) (o : Option Addr) (n c : Nat) (rw_ : Nat → Rw) (f : Nat → List Nat) : Prop where
  out : Sl F w T 1 o n c ((List.range n).map (fun i => (rw_ i).val))
  row : ∀ i, i < n → Sl F w e 1 (rw_ i).o (f i).length (rw_ i).c (ints (f i))
  num : ∀ i, i < n → (rw_ i).n = (f i).length
  ne : ∀ i a, i < n → (rw_ i).o = some a → ¬ Bl o a.block

namespace MatR
variable {F : Nat → Prop} {w : World} {T e : TypeId} {o : Option Addr} {n c : Nat} {rw_ : Nat → Rw} {f : Nat → List Nat}

theorem nil (F : Nat → Prop) (w : World) (T e : TypeId) (rw_ : Nat → Rw) (f : Nat → List Nat) : MatR F w T e none 0 0 rw_ f :=
  ⟨Sl.nil F w T 1, fun _ h => absurd h (by omega), fun _ h => absurd h (by omega), fun _ _ h => absurd h (by omega)⟩

theorem of_heap {w' : World} (h : MatR F w T e o n c rw_ f) (he : ∀ k, k < w.heap.size → F k → w'.heap[k]? = w.heap[k]?) : MatR F w' T e o n c rw_ f :=
  ⟨h.out.of_heap he, fun i hi => (h.row i hi).of_heap he, h.num, h.ne⟩

theorem keep {G : Nat → Prop} {w' : World} (h : MatR F w T e o n c rw_ f) (k : Keep G w w') (d : ∀ k, F k → ¬ G k) : MatR F w' T e o n c rw_ f := h.of_heap fun i hi hF => k.block i hi (d i hF)
theorem mono {G : Nat → Prop} (h : MatR F w T e o n c rw_ f) (hG : ∀ k, F k → G k) : MatR G w T e o n c rw_ f := ⟨h.out.mono hG, fun i hi => (h.row i hi).mono hG, h.num, h.ne⟩
theorem alloc (h : MatR F w T e o n c rw_ f) (ob : Obj) : MatR F (w.alloc ob) T e o n c rw_ f := h.of_heap fun k hk _ => Below.heap_alloc w ob k hk
theorem drew (h : MatR F w T e o n c rw_ f) : MatR F w.drew T e o n c rw_ f := h.of_heap fun _ _ _ => rfl

theorem tight (h : MatR F w T e o n c rw_ f) : MatR (fun k => F k ∧ k < w.heap.size) w T e o n c rw_ f := ⟨h.out.tight, fun i hi => (h.row i hi).tight, h.num, h.ne⟩

/-- One row's header. -/
theorem cell (h : MatR F w T e o n c rw_ f) {i : Nat} (hi : i < n) : ∃ go, o = some ⟨go, 0, none⟩ ∧ n ≤ c ∧ F go ∧ w.cell? ⟨go, i, none⟩ = some (.slice (rw_ i).o (f i).length (rw_ i).c) := by
  obtain ⟨go, h1, h2, h3, h4⟩ := h.out.pos (by omega)
  refine ⟨go, h1, h3, h2, ?_⟩
  have := h4.cell (i := i) (v := (rw_ i).val) (by simp [hi])
  rw [this, Rw.val, h.num i hi]

/-- One row more. w1: where the row has been made; w': behind the append. -/
theorem push {w' : World} {g c' q cq : Nat} {oq : Option Addr} {l : List Nat} (h : MatR F w T e o n c rw_ f) (hq : q = l.length) (hr : Sl F w e 1 oq q cq (ints l)) (hne : ∀ a, oq = some a → ¬ Bl o a.block)
    (hS : Sl (fun k => F k ∨ k = w.heap.size + 1) w' T 1 (some ⟨g, 0, none⟩) (n + 1) c' ((List.range n).map (fun i => (rw_ i).val) ++ [.slice oq q cq])) (hk : Keep (Bl o) w w') (hg : o = some ⟨g, 0, none⟩ ∨ g = w.heap.size + 1) (hF : F (w.heap.size + 1)) :
    MatR F w' T e (some ⟨g, 0, none⟩) (n + 1) c' (fun i => if i = n then ⟨oq, q, cq⟩ else rw_ i) (fun i => if i = n then l else f i) := by
  subst hq
  have old : ∀ i a, i < n → (rw_ i).o = some a → a.block < w.heap.size := fun i a hi ha => (h.row i hi).lt ha
  refine ⟨?_, fun i hi => ?_, fun i hi => ?_, fun i a hi ha => ?_⟩
  · have e1 : (List.range (n + 1)).map (fun i => (if i = n then (⟨oq, l.length, cq⟩ : Rw) else rw_ i).val) = (List.range n).map (fun i => (rw_ i).val) ++ [.slice oq l.length cq] := by
      rw [List.range_succ, List.map_append]
      congr 1
      · refine List.map_congr_left fun i hi => ?_
        have := List.mem_range.1 hi
        rw [if_neg (by omega)]
      · simp [Rw.val]
    rw [e1]
    exact hS.mono fun k hk => hk.elim id (fun h => h ▸ hF)
  · by_cases hin : i = n
    · simp only [if_pos hin]
      exact hr.of_block fun a ha => hk.block _ (hr.lt ha) (hne a ha)
    · simp only [if_neg hin]
      have h1 := h.row i (by omega)
      exact h1.of_block fun a ha => hk.block _ (h1.lt ha) (h.ne i a (by omega) ha)
  · by_cases hin : i = n
    · simp only [if_pos hin]
    · simp only [if_neg hin]; exact h.num i (by omega)
  · rintro ⟨x, hx, hb⟩
    simp at hx; subst hx
    simp only at hb
    by_cases hin : i = n
    · simp only [if_pos hin] at ha
      rcases hg with hg | hg
      · exact hne a ha ⟨_, hg, hb⟩
      · have := hr.lt ha; omega
    · simp only [if_neg hin] at ha
      rcases hg with hg | hg
      · exact h.ne i a (by omega) ha ⟨_, hg, hb⟩
      · have := old i a (by omega) ha; omega
end MatR

end Go.Proofs.Ytkpoobnldgfapaa

/- Slices of pairs of numbers: their cells. -/
namespace Go.Proofs.Ytkpoobnldgfapaa
open Go.RowKit

def pcells (p : Nat × Nat) : List Value := [.int .i64 p.1, .int .i64 p.2]
def pcs (l : List (Nat × Nat)) : List Value := l.flatMap pcells

@[simp] theorem pcs_length (l : List (Nat × Nat)) : (pcs l).length = l.length * 2 := by
  induction l with
  | nil => rfl
  | cons p l ih => simp only [pcs, List.flatMap_cons, List.length_append] at ih ⊢; rw [ih]; simp [pcells]; omega

theorem pcs_snoc (l : List (Nat × Nat)) (p : Nat × Nat) : pcs (l ++ [p]) = pcs l ++ pcells p := by simp [pcs]
theorem pcells_one (p : Nat × Nat) : ∀ u ∈ pcells p, u.oneCell' = true := by
  intro u hu; simp [pcells] at hu; rcases hu with rfl | rfl <;> rfl

theorem pcs_get {l : List (Nat × Nat)} {i : Nat} {p : Nat × Nat} (h : l[i]? = some p) : (pcs l)[i * 2]? = some (.int .i64 p.1) ∧ (pcs l)[i * 2 + 1]? = some (.int .i64 p.2) := by
  induction l generalizing i with
  | nil => simp at h
  | cons q l ih =>
    cases i with
    | zero => simp at h; subst h; simp [pcs, pcells]
    | succ i =>
      simp at h
      obtain ⟨h1, h2⟩ := ih h
      have e1 : (i + 1) * 2 = i * 2 + 2 := by omega
      rw [e1]
      have e2 : pcs (q :: l) = [.int .i64 q.1, .int .i64 q.2] ++ pcs l := by simp [pcs, pcells]
      rw [e2, List.getElem?_append_right (by simp), List.getElem?_append_right (by simp)]
      simp only [List.length_cons, List.length_nil]
      exact ⟨by rw [show i * 2 + 2 - (0 + 1 + 1) = i * 2 by omega]; exact h1, by rw [show i * 2 + 2 + 1 - (0 + 1 + 1) = i * 2 + 1 by omega]; exact h2⟩

theorem und_pairs : Try.prog.underlying 22 = some (.slice 31) := Try.underlying22
theorem elem_pair : ElemT Try.prog 31 (.agg #[.int .i64 0, .int .i64 0]) 2 16 := by unfold ElemT; kernel_rfl

/-- A slice of pairs, as it is read. -/
theorem Sl.pairs {F : Nat → Prop} {w : World} {g n c : Nat} {l : List (Nat × Nat)} (h : Sl F w 31 2 (some ⟨g, 0, none⟩) n c (pcs l)) {i : Nat} {p : Nat × Nat} (hi : l[i]? = some p) :
    w.cell? ⟨g, i * 2, none⟩ = some (.int .i64 p.1) ∧ w.cell? ⟨g, i * 2 + 1, none⟩ = some (.int .i64 p.2) := by
  have hn : 0 < n := by
    have h1 := h.len
    have h2 := (List.getElem?_eq_some_iff.1 hi).1
    simp at h1; omega
  obtain ⟨g', e, _, _, hrow⟩ := h.pos hn
  obtain rfl : g = g' := by simpa using e
  obtain ⟨h1, h2⟩ := pcs_get hi
  exact ⟨hrow.cell h1, hrow.cell h2⟩

end Go.Proofs.Ytkpoobnldgfapaa

/- split: Pairs, the walk. -/
namespace Go.Proofs.Ytkpoobnldgfapaa
open Go.RowKit Pl

/-- A slice that has just been built. -/
theorem Sl.built (w : World) (T : TypeId) (sz n : Nat) (l : List Value) (hl : l.length = n * sz) (hn : n ≤ maxLen) :
    Sl (fun k => k = w.heap.size) (w.alloc (.cells l.toArray T)) T sz (some ⟨w.heap.size, 0, none⟩) n n l :=
  ⟨⟨hl, .inr ⟨w.heap.size, n, l.toArray, rfl, Nat.zero_le _, heap_alloc_new w _, Nat.le_refl _, hn, by simp [hl], by rw [← hl]; simp⟩⟩, fun a ha => by simp at ha; rw [← ha]⟩

theorem over_without {n : Nat} {es : List E} (h : Over n es) (ed nd : List Nat) : Over n (withoutEs ed nd es) := fun e he => h e (List.mem_filter.1 he).1

theorem Gr.tight {F : Nat → Prop} {w : World} {b n : Nat} {es : List E} (h : Gr F w b n es) : Gr (fun k => F k ∧ k < w.heap.size) w b n es := by
  obtain ⟨o, c, h⟩ := h; exact ⟨o, c, GrMem.tight h⟩

/-- The rows of all labels without one node. -/
def SRel1 (w : World) (n : Nat) (es : List E) (i : Nat) (o : Option Addr) (c : Nat) (wr : World) : Prop :=
  ∃ rw_ f, (∀ x, x < i → f x = (List.range n).map (labG (withoutEs [] [x] es))) ∧ MatR (fun k => w.heap.size ≤ k) wr 37 3 o i c rw_ f ∧ Keep Nb w wr

theorem srel1_next {w w1 w2 w3 w' : World} {n i : Nat} {es : List E} {o oq : Option Addr} {c cq g c' : Nat} {rw_ : Nat → Rw} {f : Nat → List Nat} (h1 : ∀ x, x < i → f x = (List.range n).map (labG (withoutEs [] [x] es))) (h2 : MatR (fun k => w.heap.size ≤ k) w1 37 3 o i c rw_ f) (h3 : Keep Nb w w1) (h12 : Keep Nb w1 w2) (h23 : Keep Nb w2 w3) (hr : Sl (fun k => w2.heap.size ≤ k) w3 3 1 oq n cq (fints n (labG (withoutEs [] [i] es))))
    (hS : Sl (fun k => w.heap.size ≤ k ∨ k = w3.heap.size + 1) w' 37 1 (some ⟨g, 0, none⟩) (i + 1) c' ((List.range i).map (fun i => (rw_ i).val) ++ [.slice oq n cq]))
    (hk : Keep (Bl o) w3 w') (hg : o = some ⟨g, 0, none⟩ ∨ g = w3.heap.size + 1) : SRel1 w n es (i + 1) (some ⟨g, 0, none⟩) c' w' := by
  have z1 := h3.size
  have z2 := h12.size
  have z3 := h23.size
  have h2' := (h2.keep h12 (fun _ _ e => e)).keep h23 (fun _ _ e => e)
  have hbl : ∀ k, Bl o k → w.heap.size ≤ k ∧ k < w1.heap.size := by
    rintro k ⟨x, hx, rfl⟩
    exact ⟨h2.out.foot x hx, h2.out.lt hx⟩
  have hr' : Sl (fun k => w.heap.size ≤ k) w3 3 1 oq n cq (fints n (labG (withoutEs [] [i] es))) := hr.mono fun k hk => by have : w2.heap.size ≤ k := hk; omega
  refine ⟨_, _, fun x hx => ?_, h2'.push (l := (List.range n).map (labG (withoutEs [] [i] es))) (by simp) hr' (fun a ha hb => ?_) hS hk hg (by show w.heap.size ≤ w3.heap.size + 1; omega), ((h3.trans h12).trans h23).trans' hk (fun _ _ e => e) (fun k hk' e => by have := hbl k e; omega)⟩
  · by_cases e : x = i
    · simp only [if_pos e]; rw [e]
    · simp only [if_neg e]; exact h1 x (by omega)
  · have := hbl _ hb
    have : w2.heap.size ≤ a.block := hr.foot a ha
    omega

/-- What is found so far. -/
def SRel2 (wA : World) (l : List (Nat × Nat)) (o : Option Addr) (m c : Nat) (wr : World) : Prop :=
  m = l.length ∧ Sl (fun k => wA.heap.size ≤ k) wr 31 2 o m c (pcs l) ∧ Keep Nb wA wr

def splitsB (n : Nat) (es : List E) (a b : Nat) : Bool := partsB n a b (labG (withoutEs [] [a] es)) (labG (withoutEs [] [b] es)) (labG (withoutEs [] [a, b] es))

def PairsPost (w : World) (n : Nat) (es : List E) (e : Ending) (w' : World) : Prop :=
  ∃ o c, e = .returned (.slice o (allS (splitsB n es) n n).length c) ∧ Sl (fun k => w.heap.size ≤ k) w' 31 2 o (allS (splitsB n es) n n).length c (pcs (allS (splitsB n es) n n)) ∧ Keep Nb w w'

set_option maxRecDepth 100000 in
set_option maxHeartbeats 1000000 in
theorem pairs_any (F : Nat → Prop) (w : World) (b n : Nat) (es : List E) (hG : Gr F w b n es) (hF : ∀ k, F k → k < w.heap.size) (hn : n ≤ 40) (hl : es.length ≤ 1000) (ho : Over n es) :
    Calls Try.prog 20 #[.pointer (some ⟨b, 0, none⟩)] w (PairsPost w n es) := by
  have HG := Lib.hid hG
  have HF := Lib.hid hF
  have HO := Lib.hid ho
  clear hG hF ho
  go_enter Try.func20, Try.ntmps20
  go_wp2_with fail
  refine (nodes_any F w b n es HG.out).mono ?_
  rintro e1 w0 ⟨rfl, rfl⟩
  go_wp2_with fail
  go_loopg [3, 10] n (fun kx s3 s10 wr => ∃ (i : Nat) (o : Option Addr) (c : Nat), s3 = .slice o i c ∧ s10 = .int .i64 i ∧ i ≤ n ∧ n - i ≤ kx ∧ Hid (SRel1 w0 n es i o c wr))
  case atStart => exact ⟨0, none, 0, rfl, rfl, Nat.zero_le _, by omega, Lib.hid ⟨fun _ => ⟨none, 0, 0⟩, fun _ => [], fun _ h => absurd h (by omega), MatR.nil _ _ _ _ _ _, Keep.refl _ _⟩⟩
  case round =>
    obtain ⟨i, o, c, rfl, rfl, hi, hg, HR⟩ := hrel
    by_cases hlt : i < n
    · go_wp2_with fail
      have HGr := Lib.hid ((HG.out.keep HR.out.choose_spec.choose_spec.2.2 (fun _ _ h => h)).alloc (.cells #[.int .i64 (i : Nat)] 3))
      refine (without_any F (fun _ => False) _ _ b n es none (some ⟨wr.heap.size, 0, none⟩) 0 1 [] [i] HGr.out hl (Sl.nil _ _ _ _) (Sl.built wr 3 1 1 [.int .i64 (i : Nat)] rfl (by simp only [maxLen]; omega)) (by simp) (by simp)).mono ?_
      rintro e1 w2 ⟨rfl, hG2, hk2⟩
      simp only [World.size_alloc] at hG2
      have HG2 := Lib.hid hG2
      have HK2 := Lib.hid (((Keep.refl Nb wr).alloc _).trans hk2)
      have HB2 := Lib.hid hk2.size
      clear hG2 hk2 HGr
      go_wp2_with fail
      refine (label_any (fun k => wr.heap.size + 1 ≤ k ∧ k < w2.heap.size) w2 (wr.heap.size + 1) n (withoutEs [] [i] es) HG2.out.tight (fun k hk => hk.2) hn (Nat.le_trans (withoutEs_len _ _ _) hl) (over_without HO.out _ _)).mono ?_
      rintro e1 w3 ⟨oq, cq, rfl, hS3, hk3⟩
      have HS3 := Lib.hid hS3
      have HK3 := Lib.hid hk3
      clear hS3 hk3
      obtain ⟨rw_, f, hf, hM, hk⟩ := HR.out
      obtain ⟨gq, c', w', h1, h2, h3, h4⟩ := run_app1 (P := Try.prog) 35 35 37 (by kernel_rfl) elem_ints (by rfl) (((hM.keep HK2.out (fun _ _ e => e)).keep HK3.out (fun _ _ e => e)).out) (.slice oq n cq) rfl (by omega) (by omega)
      have HN : Hid (SRel1 w0 n es (i + 1) (some ⟨gq, 0, none⟩) c' w') := Lib.hid (srel1_next hf hM hk HK2.out HK3.out HS3.out h2 h3 h4)
      have H1 := Lib.hid h1
      clear h1 h2 h3 h4 hM hf hk
      go_wp2_with ((at_builtin; refine wpList_app rfl _ _ _ rfl rfl rfl H1.out ?_))
      go_roundg (n - (i + 1))
      case measure => omega
      case rel => exact ⟨i + 1, _, _, rfl, rfl, by omega, Nat.le_refl _, HN⟩
    · obtain rfl : i = n := by omega
      obtain ⟨rw_, f, hf, hM0, hk0⟩ := HR.out
      have hM := hM0.tight
      have HM := Lib.hid hM
      have HFF := Lib.hid hf
      have HK0 := Lib.hid hk0
      have HG1 := Lib.hid (HG.out.keep hk0 (fun _ _ h => h))
      have HS0 : Hid (SRel2 wr [] none 0 0 wr) := Lib.hid ⟨rfl, Sl.nil _ _ _ _, Keep.refl _ _⟩
      clear HR hM0 hM hf hk0
      go_wp2_with fail
      refine (nodes_any F wr b i es HG1.out).mono ?_
      rintro e1 wA ⟨rfl, rfl⟩
      go_wp2_with fail
      go_loopg [5, 24] i (fun kx s5 s24 wr => ∃ (a : Nat) (o : Option Addr) (m c : Nat), s5 = .slice o m c ∧ s24 = .int .i64 a ∧ a ≤ i ∧ i - a ≤ kx ∧ Hid (SRel2 wA (allS (splitsB i es) i a) o m c wr))
      case atStart => exact ⟨0, none, 0, 0, rfl, rfl, Nat.zero_le _, by omega, HS0⟩
      case round =>
        clear HS0
        obtain ⟨a, o2, m, c2, rfl, rfl, ha, hg2, HR2⟩ := hrel
        by_cases hlt2 : a < i
        · have HS1 : Hid (SRel2 wA (allS (splitsB i es) i a ++ rowS (splitsB i es) a (a + 1)) o2 m c2 wr) := Lib.hid (by rw [rowS_start, List.append_nil]; exact HR2.out)
          clear HR2
          go_wp2_with fail
          go_loopg [5, 7] i (fun kx s5 s7 wr => ∃ (d : Nat) (o : Option Addr) (m c : Nat), s5 = .slice o m c ∧ s7 = .int .i64 d ∧ a + 1 ≤ d ∧ (d ≤ i ∨ d = a + 1) ∧ i - d ≤ kx ∧ Hid (SRel2 wA (allS (splitsB i es) i a ++ rowS (splitsB i es) a d) o m c wr))
          case atStart => exact ⟨a + 1, o2, m, c2, rfl, by go_num, Nat.le_refl _, .inr rfl, by omega, HS1⟩
          case round =>
            clear HS1
            obtain ⟨d, o3, m3, c3, rfl, rfl, hd, hd2, hg3, HR3⟩ := hrel
            have HG3 := Lib.hid (HG1.out.keep HR3.out.2.2 (fun _ _ h => h))
            by_cases hlt3 : d < i
            · go_wp2_with fail
              refine (nodes_any F wr b i es HG3.out).mono ?_
              rintro e1 wy ⟨rfl, rfl⟩
              have hMx := HM.out.keep HR3.out.2.2 (fun _ _ h => h)
              obtain ⟨go, rfl, hcc, hgo, ca⟩ := hMx.cell hlt2
              obtain ⟨go', e2, _, _, cb⟩ := hMx.cell hlt3
              obtain rfl : go = go' := by simpa using e2
              have la : (f a).length = i := by rw [HFF.out a (by omega)]; simp
              have ld : (f d).length = i := by rw [HFF.out d (by omega)]; simp
              have hra := hMx.row a hlt2
              have hrd := hMx.row d hlt3
              rw [la, HFF.out a (by omega)] at hra
              rw [ld, HFF.out d (by omega)] at hrd
              rw [la] at ca
              rw [ld] at cb
              have HRA := Lib.hid (hra.mono (G := fun _ => True) (fun _ _ => trivial))
              have HRD := Lib.hid (hrd.mono (G := fun _ => True) (fun _ _ => trivial))
              clear e2 hMx la ld hra hrd
              go_wp2_with fail
              have HAB := Lib.hid (show (Over i (withoutEs [] [a, d] es)) from over_without HO.out _ _)
              have lgo : go < wy.heap.size := World.block_lt_of_cell? wy _ ca
              have hgo2 : ¬ wy.heap.size = go := by omega
              have CA := Lib.hid ca
              have CB := Lib.hid cb
              have bz : (wy.alloc (.cells #[.int .i64 (a : Nat), .int .i64 (d : Nat)] 3)).drew.heap.size = wy.heap.size + 1 := World.size_alloc _ _
              have BZ := Lib.hid bz
              clear bz
              go_region_held3 (fun w' => w'.cell? ⟨go, a, none⟩ = some (.slice (rw_ a).o i (rw_ a).c) ∧ w'.cell? ⟨go, d, none⟩ = some (.slice (rw_ d).o i (rw_ d).c)) (go_keep) ((first | (go_at_call 29; refine (without_any F (fun _ => False) _ _ b i es none (some ⟨wy.heap.size, 0, none⟩) 0 2 [] [a, d] (HG3.out.alloc _).drew hl (Sl.nil _ _ _ _) (Sl.built wy 3 1 2 [.int .i64 (a : Nat), .int .i64 (d : Nat)] rfl (by simp only [maxLen]; omega)).drew (by simp) (by simp)).mono ?_; rintro e1 w2 ⟨rfl, hG2, hk2⟩; rw [BZ.out] at hG2; have hkk := ((Keep.refl Nb wy).alloc _).drew.trans hk2; have ca2 := hkk.cell CA.out (fun e => e); have cb2 := hkk.cell CB.out (fun e => e); have HG2 := Lib.hid hG2.tight; have HK2 := Lib.hid hkk; clear hG2 hk2 hkk) | (go_at_call 56; refine (label_any _ _ _ i (withoutEs [] [a, d] es) HG2.out (fun k hk => hk.2) hn (Nat.le_trans (withoutEs_len _ _ _) hl) HAB.out).mono ?_; rintro e1 w3 ⟨oq, cq, rfl, hS3, hk3⟩; have ca3 := hk3.cell ca2 (fun e => e); have cb3 := hk3.cell cb2 (fun e => e); have HS3 := Lib.hid hS3; have HK3 := Lib.hid (HK2.out.trans hk3); clear hS3 hk3) | (go_at_call 57; refine (parts_any (fun _ => True) _ i a d _ _ _ _ _ _ _ _ _ hn hlt2 hlt3 (HRA.out.keep HK3.out (fun _ _ e => e)) (HRD.out.keep HK3.out (fun _ _ e => e)) (HS3.out.mono (fun _ _ => trivial)) (labs_le _) (labs_le _) (labs_le _)).mono ?_; rintro e1 w4 ⟨rb, hrb, rfl, hk4⟩; have ca4 := hk4.cell ca3 (fun e => e); have cb4 := hk4.cell cb3 (fun e => e); have HRB := Lib.hid hrb; have HK4 := Lib.hid (HK3.out.trans hk4); clear hrb hk4)))
              have hrb2 : rb = splitsB i es a d := by
                rw [Bool.eq_iff_iff, HRB.out]; exact partsB_iff.symm
              obtain ⟨hm3, hS3, hk3⟩ := HR3.out
              have hlen : m3 ≤ i * i + i := by
                rw [hm3, List.length_append]
                have h1 := allS_len (splitsB i es) i a
                have h2 := rowS_len (splitsB i es) a d
                have h3 : a * i ≤ i * i := Nat.mul_le_mul_right _ (by omega)
                omega
              have hii : i * i ≤ 40 * 40 := Nat.mul_le_mul hn hn
              have hSx := hS3.keep HK4.out (fun _ _ e => e)
              have hkx := hk3.trans HK4.out
              cases rb with
              | false =>
                have HN : Hid (SRel2 wA (allS (splitsB i es) i a ++ rowS (splitsB i es) a (d + 1)) o3 m3 c3 w4) := Lib.hid (by
                  rw [rowS_succ _ (by omega), ← hrb2, if_neg (by simp), List.append_nil]; exact ⟨hm3, hSx, hkx⟩)
                clear hm3 hS3 hk3 hSx hkx hlen hii hrb2 ca cb ca2 cb2 ca3 cb3 ca4 cb4
                go_wp2
                go_roundg (i - (d + 1))
                case measure => omega
                case rel => exact ⟨d + 1, o3, m3, c3, rfl, by go_num, by omega, .inl (by omega), Nat.le_refl _, HN⟩
              | true =>
                obtain ⟨gq, c', w5, h1, h2, h3, h4⟩ := run_appN (P := Try.prog) 22 22 31 und_pairs elem_pair (by rfl) (by omega) hSx (pcells (a, d)) 1 (pcells_one _) rfl (by omega) (by omega) (by omega)
                have HN : Hid (SRel2 wA (allS (splitsB i es) i a ++ rowS (splitsB i es) a (d + 1)) (some ⟨gq, 0, none⟩) (m3 + 1) c' w5) := Lib.hid (by
                  rw [rowS_succ _ (by omega), ← hrb2, if_pos rfl, ← List.append_assoc]
                  refine ⟨by rw [List.length_append, hm3]; rfl, ?_, hkx.trans' h3 (fun _ _ e => e) (fun k hk e => ?_)⟩
                  · rw [pcs_snoc]
                    have hz := hkx.size
                    exact h2.mono (fun k hk => by
                      rcases hk with hk | hk
                      · exact hk
                      · show wA.heap.size ≤ k; omega)
                  · obtain ⟨x, hx, rfl⟩ := e
                    have : wA.heap.size ≤ x.block := hSx.foot x hx
                    omega)
                have H1 := Lib.hid h1
                clear h1 h2 h3 h4 hm3 hS3 hk3 hSx hkx hrb2 ca cb ca2 cb2 ca3 cb3 ca4 cb4
                go_wp2_with ((at_builtin; refine wpList_app rfl _ _ _ rfl rfl rfl H1.out ?_))
                go_roundg (i - (d + 1))
                case measure => omega
                case rel => exact ⟨d + 1, _, _, _, rfl, by go_num, by omega, .inl (by omega), Nat.le_refl _, HN⟩
            · have HN : Hid (SRel2 wA (allS (splitsB i es) i (a + 1)) o3 m3 c3 wr) := Lib.hid (by
                rw [allS_succ, ← rowS_end (splitsB i es) hd (by omega) hd2]; exact HR3.out)
              go_wp2_with fail
              refine (nodes_any F wr b i es HG3.out).mono ?_
              rintro e1 wy ⟨rfl, rfl⟩
              go_wp2
              go_roundg (i - (a + 1))
              case measure => omega
              case rel => exact ⟨a + 1, o3, m3, c3, rfl, rfl, by omega, Nat.le_refl _, HN⟩
        · obtain rfl : a = i := by omega
          have HP : Hid (PairsPost w0 a es (.returned (.slice o2 m c2)) wr) := Lib.hid (by
            obtain ⟨h1, h2, h3⟩ := HR2.out
            subst h1
            have hz := HK0.out.size
            exact ⟨o2, c2, rfl, h2.mono (fun k hk => by have : wA.heap.size ≤ k := hk; omega), HK0.out.trans h3⟩)
          go_wp2
          go_ret
          exact HP.out

end Go.Proofs.Ytkpoobnldgfapaa

/- bridge: above. -/
namespace Go.Proofs.Ytkpoobnldgfapaa
open Go.RowKit Pl Go.Maps

/-- So far the way upward has been gone. -/
def AbRel (F : Nat → Prop) (w : World) (b n ws ts um im : Nat) (Fw Ft : Nat → Prop) (Lw T : Nat → Nat) (mU mI : List (Nat × Value)) (l : List Nat) (i : Nat) (o : Option Addr) (c : Nat) (wr : World) : Prop :=
  BrMem F wr b n ws ts um im Fw Ft Lw T mU mI ∧ Keep Ft w wr ∧ Sl (fun k => w.heap.size ≤ k) wr 3 1 o (i + 1) c (ints (l.take (i + 1)))

def AbPost (F : Nat → Prop) (w : World) (b n ws ts um im : Nat) (Fw Ft : Nat → Prop) (Lw T : Nat → Nat) (mU mI : List (Nat × Value)) (l : List Nat) (e : Ending) (w' : World) : Prop :=
  ∃ o c, e = .returned (.slice o l.length c) ∧ BrMem F w' b n ws ts um im Fw Ft Lw T mU mI ∧ Keep Ft w w' ∧ Sl (fun k => w.heap.size ≤ k) w' 3 1 o l.length c (ints l)

theorem take_snoc' {α : Type} {l : List α} {i : Nat} {x : α} (h : l[i]? = some x) : l.take (i + 1) = l.take i ++ [x] := by rw [List.take_add_one, h]; rfl

set_option maxRecDepth 100000 in
set_option maxHeartbeats 1000000 in
theorem above_any (F : Nat → Prop) (w : World) (b n ws ts um im : Nat) (Fw Ft : Nat → Prop) (Lw T : Nat → Nat) (mU mI : List (Nat × Value)) (up : Nat → Option (Nat × Nat)) (x : Nat) (l : List Nat) (hx : x < n)
    (h : BrMem F w b n ws ts um im Fw Ft Lw T mU mI) (hF : ∀ k, F k → k < w.heap.size) (hU : UpIs mU up) (hlt : ∀ p s, up p = some s → s.2 < n) (hl : Path T up (T x) l) (hln : l.length ≤ n) (hT : ∀ p, p ∈ l → p < n) :
    Calls Try.prog 76 #[.pointer (some ⟨b, 0, none⟩), .int .i64 x] w (AbPost F w b n ws ts um im Fw Ft Lw T mU mI l) := by
  have hn := h.n40
  have H := Lib.hid h
  have HF := Lib.hid hF
  have HU := Lib.hid hU
  have HLT := Lib.hid hlt
  have HL := Lib.hid hl
  have HT := Lib.hid hT
  clear h hF hU hlt hl hT
  go_enter Try.func76, Try.ntmps76
  go_wp2_with fail
  refine (part_any F _ b n ws ts um im Fw Ft Lw T mU mI x hx H.out).mono ?_
  rintro e w1 ⟨rfl, h1, k1⟩
  obtain ⟨l', hl'⟩ := HL.out.head
  have hpos : 0 < l.length := by rw [hl']; simp
  have HS : Hid (AbRel F w b n ws ts um im Fw Ft Lw T mU mI l 0 (some ⟨w1.heap.size, 0, none⟩) 1 (w1.alloc (.cells #[.int .i64 (T x : Nat)] 3))) := Lib.hid (by
    refine ⟨h1.alloc _, k1.alloc _, ?_⟩
    have e : ints (l.take (0 + 1)) = [Value.int .i64 (T x : Nat)] := by rw [hl']; rfl
    rw [e]
    have z := k1.size
    exact (Sl.built w1 3 1 1 [.int .i64 (T x : Nat)] rfl (by simp only [maxLen]; omega)).mono (fun k hk => by omega))
  have hp0 : l[0]? = some (T x) := by rw [hl']; rfl
  have HP0 := Lib.hid hp0
  clear h1 k1 hp0 hl'
  go_wp2_with fail
  go_loopg [5, 6] l.length (fun kx s5 s6 wr => ∃ (i p : Nat) (o : Option Addr) (c : Nat), s5 = .int .i64 p ∧ s6 = .slice o (i + 1) c ∧ i < l.length ∧ l.length - i ≤ kx ∧ Hid (l[i]? = some p) ∧ Hid (AbRel F w b n ws ts um im Fw Ft Lw T mU mI l i o c wr))
  case atStart => exact ⟨0, T x, _, 1, rfl, rfl, hpos, by omega, HP0, HS⟩
  case round =>
    clear HS HP0
    obtain ⟨i, p, o, c, rfl, rfl, hi, hg, HP, HR⟩ := hrel
    have hp40 : p < 40 := by have := HT.out p (List.mem_of_getElem? HP.out); omega
    have hlook := HR.out.1.look HU.out hp40
    have c2 := HR.out.1.head.cell (i := 2) rfl
    have hat := HL.out.at_ HP.out
    cases hup : up p with
    | none =>
      rw [hup] at hlook
      simp only [stepD, Option.getD_none, Option.isSome_none] at hlook
      have hend : i + 1 = l.length := by
        rcases hat with ⟨h1, _⟩ | ⟨s, h1, _⟩
        · exact h1
        · rw [hup] at h1; cases h1
      have HP2 : Hid (AbPost F w b n ws ts um im Fw Ft Lw T mU mI l (.returned (.slice o (i + 1) c)) (wr.alloc (.cells #[.int .i64 ((0 : Nat) : Int), .int .i64 ((0 : Nat) : Int)] 125))) := Lib.hid (by
        obtain ⟨r1, r2, r3⟩ := HR.out
        rw [List.take_of_length_le (by omega)] at r3
        rw [hend] at r3 ⊢
        exact ⟨o, c, rfl, r1.alloc _, r2.alloc _, r3.alloc _⟩)
      clear hat hup hend HR
      go_wp2_with fail
      go_ret
      exact HP2.out
    | some s =>
      rw [hup] at hlook
      simp only [stepD, Option.getD_some, Option.isSome_some] at hlook
      have hnext : l[i + 1]? = some (T s.2) := by
        rcases hat with ⟨_, h1⟩ | ⟨s', h1, h2⟩
        · rw [hup] at h1; cases h1
        · rw [hup] at h1; cases h1; exact h2
      have hs2 := HLT.out p s hup
      have HN := Lib.hid hnext
      have HA := Lib.hid (HR.out.1.alloc (.cells #[.int .i64 (s.1 : Nat), .int .i64 (s.2 : Nat)] 125))
      clear hat hup hnext
      go_wp2_with fail
      refine (part_any F _ b n ws ts um im Fw Ft Lw T mU mI s.2 hs2 HA.out).mono ?_
      rintro e w2 ⟨rfl, h2, k2⟩
      obtain ⟨r1, r2, r3⟩ := HR.out
      have hFt : ∀ k, Ft k → k < w.heap.size := fun k hk => HF.out k (h2.sub k (.inr (.inr (.inr (.inr hk)))))
      have r3' := (r3.alloc (.cells #[.int .i64 (s.1 : Nat), .int .i64 (s.2 : Nat)] 125)).keep k2 (fun k hk ht => by have := hFt k ht; have : w.heap.size ≤ k := hk; omega)
      obtain ⟨g, c', w3, q1, q2, q3, q4⟩ := run_app1 (P := Try.prog) 37 37 3 (by kernel_rfl) elem_int (by rfl) r3' (.int .i64 (T s.2 : Nat)) rfl (by omega) (by omega)
      have hi2 : i + 1 < l.length := (List.getElem?_eq_some_iff.1 HN.out).1
      have HR2 : Hid (AbRel F w b n ws ts um im Fw Ft Lw T mU mI l (i + 1) (some ⟨g, 0, none⟩) c' w3) := Lib.hid (by
        have z := (r2.alloc (.cells #[.int .i64 (s.1 : Nat), .int .i64 (s.2 : Nat)] 125)).size
        have z2 := k2.size
        have hbl : ∀ k, Bl o k → w.heap.size ≤ k := by
          rintro k ⟨y, hy, rfl⟩
          exact r3'.foot y hy
        refine ⟨h2.keep q3 (fun k hk hb => by have := HF.out k hk; have := hbl k hb; omega), ((r2.alloc _).trans k2).trans' q3 (fun _ _ h => h) (fun k hk hb => by have := hbl k hb; omega), ?_⟩
        rw [take_snoc' HN.out, ints_append]
        exact q2.mono (fun k hk => by rcases hk with h | h; exact h; omega))
      have Q1 := Lib.hid q1
      clear q1 q2 q3 q4 r1 r2 r3 r3' hFt h2 k2
      go_wp2_with ((at_builtin; refine wpList_app rfl _ _ _ rfl rfl rfl Q1.out ?_))
      go_roundg (l.length - (i + 1))
      case measure => omega
      case rel => exact ⟨i + 1, T s.2, _, c', rfl, rfl, hi2, Nat.le_refl _, HN, HR2⟩

end Go.Proofs.Ytkpoobnldgfapaa

/- bridge: turn. -/
namespace Go.Proofs.Ytkpoobnldgfapaa
open Go.RowKit Pl Go.Maps

/-- A tree in the midst of its turn. -/
def TuRel (F : Nat → Prop) (w : World) (b n ws ts um im : Nat) (Fw Ft : Nat → Prop) (Lw T : Nat → Nat) (mI : List (Nat × Value)) (es : List E) (up0 : Nat → Option (Nat × Nat)) (x q p fr : Nat) (o : Option (Nat × Nat)) (wr : World) : Prop :=
  ∃ up mU, TInv n es T up0 up x p fr o ∧ UpIs mU up ∧ BrMem F wr b n ws ts um im Fw Ft Lw T mU mI ∧ Row wr q 125 [.int .i64 ((stepD o).1 : Nat), .int .i64 ((stepD o).2 : Nat)] ∧ Keep (fun k => Ft k ∨ k = um) w wr ∧ w.heap.size ≤ q

def TurnPost (F : Nat → Prop) (w : World) (b n ws ts um im : Nat) (Fw Ft : Nat → Prop) (Lw T : Nat → Nat) (mI : List (Nat × Value)) (es : List E) (up0 : Nat → Option (Nat × Nat)) (x : Nat) (w' : World) : Prop :=
  ∃ up mU, Turned n es T up0 up x ∧ UpIs mU up ∧ BrMem F w' b n ws ts um im Fw Ft Lw T mU mI ∧ Keep (fun k => Ft k ∨ k = um) w w'

set_option maxRecDepth 100000 in
set_option maxHeartbeats 1000000 in
theorem turn_any (F : Nat → Prop) (w : World) (b n ws ts um im : Nat) (Fw Ft : Nat → Prop) (Lw T : Nat → Nat) (mU mI : List (Nat × Value)) (es : List E) (up : Nat → Option (Nat × Nat)) (x : Nat) (l : List Nat) (hx : x < n)
    (h : BrMem F w b n ws ts um im Fw Ft Lw T mU mI) (hF : ∀ k, F k → k < w.heap.size) (hU : UpIs mU up) (hB : BInv n es T up) (hl : Path T up (T x) l) :
    Calls Try.prog 74 #[.pointer (some ⟨b, 0, none⟩), .int .i64 x] w fun e w' => e = .returned (.tuple #[]) ∧ TurnPost F w b n ws ts um im Fw Ft Lw T mI es up x w' := by
  have hn := h.n40
  have H := Lib.hid h
  have HF := Lib.hid hF
  have HU := Lib.hid hU
  have HB := Lib.hid hB
  have HL := Lib.hid hl
  clear h hF hU hB hl
  go_enter Try.func74, Try.ntmps74
  go_wp2_with fail
  refine (part_any F _ b n ws ts um im Fw Ft Lw T mU mI x hx H.out).mono ?_
  rintro e w1 ⟨rfl, h1, k1⟩
  have hpx : T x < n := HB.out.tlt hx
  have hlook := h1.look HU.out (show T x < 40 by omega)
  have c2 := h1.head.cell (i := 2) rfl
  have hbx := h1.head.lt
  obtain ⟨p, hp⟩ : ∃ p, T x = p := ⟨_, rfl⟩
  obtain ⟨o, ho⟩ : ∃ o, up p = o := ⟨_, rfl⟩
  rw [hp, ho] at hlook
  obtain ⟨w2, hd1, hd2, hd3⟩ := (h1.alloc (.cells #[.int .i64 ((stepD o).1 : Nat), .int .i64 ((stepD o).2 : Nat)] 125)).mu.del (encN_enc Try.underlying3) Try.underlying105 (a := p) (nat40 (by omega)) 0
  simp only [encN] at hd1
  have HT0 : Hid (TuRel F w b n ws ts um im Fw Ft Lw T mI es up x w1.heap.size p x o w2) := Lib.hid (by
    have z1 := k1.size
    have z3 := hd3.size
    have t := HB.out.turn_start hx
    rw [hp, ho] at t
    refine ⟨_, _, t, ?_, (h1.alloc _).setU hd2 hd3, (Row.new w1 #[.int .i64 ((stepD o).1 : Nat), .int .i64 ((stepD o).2 : Nat)] 125).keep hd3 (fun e => ?_), ((k1.alloc _).mono (fun _ _ h => .inl h)).trans' hd3 (fun _ _ h => h) (fun _ _ h => .inr h), z1⟩
    · exact HU.out.del p
    · have := HF.out um (H.out.sub um (.inr (.inl rfl)))
      omega)
  have HP0 : Hid (l[0]? = some p) := Lib.hid (by obtain ⟨l', hl'⟩ := HL.out.head; rw [hl', hp]; rfl)
  have hpos : 0 < l.length := (List.getElem?_eq_some_iff.1 HP0.out).1
  have HK1 := Lib.hid k1
  have HD1 := Lib.hid hd1
  clear h1 k1 hd1 hd2 hd3 ho
  rw [hp]
  go_wp2_with ((refine wpList_mapdel rfl _ _ _ _ rfl rfl rfl HD1.out ?_))
  go_loopg [4, 6, 7] l.length (fun kx s4 s6 s7 wr => ∃ (i p fr : Nat) (o : Option (Nat × Nat)), s4 = .int .i64 p ∧ s6 = .bool o.isSome ∧ s7 = .int .i64 fr ∧ i < l.length ∧ l.length - i ≤ kx ∧ Hid (l[i]? = some p) ∧ Hid (TuRel F w b n ws ts um im Fw Ft Lw T mI es up x w1.heap.size p fr o wr))
  case atStart => exact ⟨0, p, x, o, rfl, rfl, rfl, hpos, by omega, HP0, HT0⟩
  case round =>
    clear HT0 HP0 hlook
    obtain ⟨i, p', fr, o', rfl, rfl, rfl, hi, hg, HP, HR⟩ := hrel
    cases o' with
    | none =>
      have HPO : Hid (TurnPost F w b n ws ts um im Fw Ft Lw T mI es up x wr) := Lib.hid (by
        obtain ⟨up', mU', t, r1, r2, r3, r4, _⟩ := HR.out
        exact ⟨up', mU', t.turned, r1, r2, r4⟩)
      clear HR
      simp only [Option.isSome_none]
      go_wp2_with fail
      go_end0
      exact ⟨rfl, HPO.out⟩
    | some s =>
      obtain ⟨up', mU', t, r1, r2, r3, r4, r5⟩ := HR.out
      simp only [Option.isSome_some, stepD, Option.getD_some] at r3 ⊢
      have hup0 : up p' = some s := t.pend.symm
      have hs2 : s.2 < n := (HB.out.key p' s hup0).2.2
      have d1 := r3.cell (i := 0) rfl
      have d2 := r3.cell (i := 1) rfl
      have d3 := r2.head.cell (i := 2) rfl
      have T1 := Lib.hid t
      have R1 := Lib.hid r1
      have R2 := Lib.hid r2
      have R3 := Lib.hid r3
      have R4 := Lib.hid r4
      clear t r1 r2 r3 r4 HR
      go_wp2_with fail
      refine (part_any F _ b n ws ts um im Fw Ft Lw T mU' mI s.2 hs2 R2.out).mono ?_
      rintro e w3 ⟨rfl, h3, k3⟩
      obtain ⟨o2, ho2⟩ : ∃ o2, up' (T s.2) = o2 := ⟨_, rfl⟩
      have hTs : T s.2 < n := HB.out.tlt hs2
      have hlook := h3.look R1.out (show T s.2 < 40 by omega)
      rw [ho2] at hlook
      have HO2 := Lib.hid ho2
      have hne : ¬ Ft w1.heap.size := fun hh => by
        have := HF.out _ (R2.out.sub _ (.inr (.inr (.inr (.inr hh)))))
        omega
      have e1 := k3.cell d1 hne
      have e2 := k3.cell d2 hne
      have e3 := h3.head.cell (i := 2) rfl
      have lq := World.block_lt_of_cell? w3 _ e1
      have lb := World.block_lt_of_cell? w3 _ e3
      obtain ⟨w4, hs1, hs2', hs3⟩ := ((h3.alloc (.cells #[.int .i64 ((stepD o2).1 : Nat), .int .i64 ((stepD o2).2 : Nat)] 125)).drew).mu.store (encN_enc Try.underlying3) Try.underlying105 (a := T s.2) (nat40 (by omega)) (stepV (s.1, fr))
      simp only [encN, stepV] at hs1
      have H3 := Lib.hid h3
      have K3 := Lib.hid k3
      have S2 := Lib.hid hs2'
      have S3 := Lib.hid hs3
      have hum : um < w.heap.size := HF.out um (R2.out.sub um (.inr (.inl rfl)))
      have hw1 := HK1.out.size
      have hw3 : w.heap.size ≤ w3.heap.size := Nat.le_trans R4.out.size k3.size
      have rb2 : Row w4 w3.heap.size 125 [.int .i64 ((stepD o2).1 : Nat), .int .i64 ((stepD o2).2 : Nat)] := ((Row.new w3 #[.int .i64 ((stepD o2).1 : Nat), .int .i64 ((stepD o2).2 : Nat)] 125).drew).keep hs3 (fun e => by omega)
      have rb1 : Row w4 w1.heap.size 125 [.int .i64 (s.1 : Nat), .int .i64 (s.2 : Nat)] := (((R3.out.keep K3.out hne).alloc _).drew).keep hs3 (fun e => by omega)
      have f1 := rb2.cell (i := 0) rfl
      have f2 := rb2.cell (i := 1) rfl
      have f3 := rb1.cell (i := 0) rfl
      have f4 := rb1.cell (i := 1) rfl
      have f5 := rb1.frozen 0 none
      have f6 := rb1.frozen 1 none
      have RB1 := Lib.hid rb1
      have hnext : l[i + 1]? = some (T s.2) := by
        rcases HL.out.at_ HP.out with ⟨_, h1⟩ | ⟨s', h1, h2⟩
        · rw [hup0] at h1; cases h1
        · rw [hup0] at h1; cases h1; exact h2
      have hi2 : i + 1 < l.length := (List.getElem?_eq_some_iff.1 hnext).1
      have HNX := Lib.hid hnext
      have HN : Hid (TuRel F w b n ws ts um im Fw Ft Lw T mI es up x w1.heap.size (T s.2) (T s.2) o2 ((w4.setCell ⟨w1.heap.size, 0, none⟩ (.int .i64 ((stepD o2).1 : Nat))).setCell ⟨w1.heap.size, 1, none⟩ (.int .i64 ((stepD o2).2 : Nat)))) := Lib.hid (by
        obtain ⟨_, t⟩ := T1.out.next
        rw [ho2] at t
        refine ⟨_, _, t, R1.out.set (T s.2) (s.1, fr), (((h3.alloc _).drew).setU S2.out hs3).keep (((Keep.refl (fun k => k = w1.heap.size) w4).setCell (.inl rfl) _).setCell (.inl rfl) _) (fun k hk e => by have := HF.out k hk; omega), ?_, ?_, r5⟩
        · exact (RB1.out.set (i := 0) (by simp) _).set (i := 1) (by simp) _
        · exact ((((R4.out.trans' k3 (fun _ _ h => h) (fun _ _ h => .inl h)).alloc _).drew.trans' hs3 (fun _ _ h => h) (fun _ _ h => .inr h)).setCell (.inr hw1) _).setCell (.inr hw1) _)
      clear h3 k3 hs2' hs3 d1 d2 d3 ho2 rb1 rb2 hnext
      go_wp2_with fail
      go_region
      go_wp2_with fail
      go_roundg (l.length - (i + 1))
      case measure => omega
      case rel => exact ⟨i + 1, T s.2, T s.2, o2, rfl, rfl, rfl, hi2, Nat.le_refl _, HNX, HN⟩

end Go.Proofs.Ytkpoobnldgfapaa

/- bridge: Add, a bridge comes. -/
namespace Go.Proofs.Ytkpoobnldgfapaa
open Go.RowKit Pl Go.Maps

/-- The map of the bridges' numbers. -/
def IdIs (mI : List (Nat × Value)) (up : Nat → Option (Nat × Nat)) : Prop := (∀ id, (mget mI id).isSome = true ↔ Ids up id) ∧ ∀ q, q ∈ mI → q.2 = .bool true

theorem mget_mem {m : List (Nat × Value)} {a : Nat} {v : Value} (h : mget m a = some v) : (a, v) ∈ m := by
  unfold mget at h
  rw [Option.map_eq_some_iff] at h
  obtain ⟨p, hp, rfl⟩ := h
  have h1 := List.find?_some hp
  have h2 := List.mem_of_find?_eq_some hp
  simp at h1
  rw [← h1]; exact h2

theorem mem_mset {m : List (Nat × Value)} {a : Nat} {v : Value} {q : Nat × Value} (h : q ∈ mset m a v) : q ∈ m ∨ q = (a, v) := by
  unfold mset at h
  split at h
  · obtain ⟨p, hp, rfl⟩ := List.mem_map.1 h
    split
    · exact .inr rfl
    · exact .inl hp
  · rcases List.mem_append.1 h with h | h
    · exact .inl h
    · simp at h; exact .inr h

theorem IdIs.set {mI : List (Nat × Value)} {up up' : Nat → Option (Nat × Nat)} (h : IdIs mI up) {id : Nat} (hi : ∀ j, Ids up' j ↔ Ids up j ∨ id = j) : IdIs (mset mI id (.bool true)) up' := by
  refine ⟨fun j => ?_, fun q hq => ?_⟩
  · rw [mget_mset, hi]
    by_cases e : j = id
    · simp [e]
    · rw [if_neg e, h.1 j]; simp [Ne.symm e]
  · rcases mem_mset hq with hq | rfl
    · exact h.2 q hq
    · rfl

theorem IdIs.del {mI : List (Nat × Value)} {up up' : Nat → Option (Nat × Nat)} (h : IdIs mI up) {id : Nat} (hi : ∀ j, Ids up' j ↔ Ids up j ∧ id ≠ j) : IdIs (mdel mI id) up' := by
  refine ⟨fun j => ?_, fun q hq => ?_⟩
  · rw [mget_mdel, hi]
    by_cases e : j = id
    · simp [e]
    · rw [if_neg e, h.1 j]; simp [Ne.symm e]
  · unfold mdel at hq; exact h.2 q (List.mem_filter.1 hq).1

/-- Bridges of these edges. -/
def Brs (F : Nat → Prop) (w : World) (b n : Nat) (es : List E) : Prop :=
  ∃ ws ts um im Fw Ft T mU mI up, BrMem F w b n ws ts um im Fw Ft (labs (ends es)) T mU mI ∧ UpIs mU up ∧ IdIs mI up ∧ BInv n es T up ∧ ∀ e, e ∈ es → e.id < 4611686018427387904

def BAddPost (F : Nat → Prop) (w : World) (b n : Nat) (es : List E) (id x y : Nat) (e : Ending) (w' : World) : Prop :=
  e = .returned (.tuple #[.bool (!decide (Conn (ends es) x y)), .nilIface]) ∧ Brs F w' b n (es ++ [⟨id, x, y⟩]) ∧ Keep F w w'

theorem joinL_comm (L : Nat → Nat) (x y : Nat) : joinL L x y = joinL L y x := by
  funext z; unfold joinL; rw [Nat.max_comm, Nat.min_comm]

theorem h6cell {F : Nat → Prop} {w : World} {b n ws ts um im : Nat} {Fw Ft : Nat → Prop} {Lw T : Nat → Nat} {mU mI : List (Nat × Value)} (h : BrMem F w b n ws ts um im Fw Ft Lw T mU mI) : w.cell? ⟨b, 3, none⟩ = some (.map (some im)) := h.head.cell (i := 3) rfl

/-- Both ends, perhaps turned round. -/
def Swap (x y x' y' : Nat) : Prop := (x' = x ∧ y' = y) ∨ (x' = y ∧ y' = x)

/-- What a bridge leaves. -/
theorem badd_fin {F : Nat → Prop} {w w' : World} {b n ws ts um im : Nat} {Fw Ft : Nat → Prop} {T : Nat → Nat} {mU' mI : List (Nat × Value)} {es : List E} {up up' : Nat → Option (Nat × Nat)} {id x y x' y' : Nat}
    (hor : Swap x y x' y') (hx' : x' < n) (hy' : y' < n) (hid2 : id < 4611686018427387904) (hsm : ∀ e, e ∈ es → e.id < 4611686018427387904) (hid : ∀ f, f ∈ es → f.id ≠ id) (hc : ¬ Conn (ends es) x y)
    (tt : Turned n es T up up' x') (u4 : UpIs mU' up') (hI : IdIs mI up)
    (h : BrMem F w' b n ws ts um im Fw Ft (joinL (labs (ends es)) x' y') T (mset mU' (T x') (stepV (id, y'))) (mset mI id (.bool true))) (k : Keep (fun k => (Ft k ∨ k = um) ∨ Fw k ∨ k = im) w w') :
    BAddPost F w b n es id x y (.returned (.tuple #[.bool true, .nilIface])) w' := by
  have hL : joinL (labs (ends es)) x' y' = labs (ends (es ++ [⟨id, x, y⟩])) := by
    rw [ends_snoc, labs_snoc]
    rcases hor with ⟨rfl, rfl⟩ | ⟨rfl, rfl⟩
    · rfl
    · exact joinL_comm _ _ _
  have hc' : ¬ Conn (ends es) x' y' := by
    rcases hor with ⟨rfl, rfl⟩ | ⟨rfl, rfl⟩
    · exact hc
    · exact fun h => hc h.symm
  obtain ⟨hB, hids⟩ := tt.bridge (e := ⟨id, x, y⟩) hx' hy' (by
    rcases hor with ⟨rfl, rfl⟩ | ⟨rfl, rfl⟩
    · exact .inl ⟨rfl, rfl⟩
    · exact .inr ⟨rfl, rfl⟩) hid hc'
  rw [hL] at h
  refine ⟨by rw [decide_eq_false hc]; rfl, ⟨ws, ts, um, im, Fw, Ft, T, _, _, _, h, u4.set (T x') (id, y'), hI.set hids, hB, fun e he => ?_⟩, k.mono (fun j _ hj => h.sub j ?_)⟩
  · rcases List.mem_append.1 he with he | he
    · exact hsm e he
    · rw [List.mem_singleton] at he; subst he; exact hid2
  · rcases hj with (hj | hj) | hj | hj
    · exact .inr (.inr (.inr (.inr hj)))
    · exact .inr (.inl hj)
    · exact .inr (.inr (.inr (.inl hj)))
    · exact .inr (.inr (.inl hj))

set_option maxRecDepth 100000 in
set_option maxHeartbeats 1000000 in
theorem badd_new (F : Nat → Prop) (w : World) (b n : Nat) (es : List E) (id x y : Nat) (hx : x < n) (hy : y < n) (hxy : x ≠ y) (hid : ∀ f, f ∈ es → f.id ≠ id) (hid2 : id < 4611686018427387904)
    (hB : Brs F w b n es) (hF : ∀ k, F k → k < w.heap.size) (hc : ¬ Conn (ends es) x y) :
    Calls Try.prog 40 #[.pointer (some ⟨b, 0, none⟩), .int .i64 id, .int .i64 x, .int .i64 y] w (BAddPost F w b n es id x y) := by
  obtain ⟨ws, ts, um, im, Fw, Ft, T, mU, mI, up, h, hU, hI, hInv, hsm⟩ := hB
  have hn := h.n40
  have hxy2 : ((x : Int) == (y : Int)) = false := by simp; omega
  have c0 := h.head.cell (i := 0) rfl
  have H := Lib.hid h
  have HU := Lib.hid hU
  have HI := Lib.hid hI
  have HInv := Lib.hid hInv
  have HF := Lib.hid hF
  have HSM := Lib.hid hsm
  have HID := Lib.hid hid
  have HC := Lib.hid hc
  have HXY := Lib.hid hxy
  clear h hU hI hInv hsm hF hid hc hxy
  go_enter Try.func40, Try.ntmps40
  go_wp2_with fail
  refine (same_any Fw _ ws n _ x y hx hy H.out.sw).mono ?_
  rintro e w1 ⟨rfl, s1, k1⟩
  rw [decide_eq_false (show ¬ labs (ends es) x = labs (ends es) y from HC.out)]
  have h1 := H.out.setW s1 k1
  have c1 := h1.head.cell (i := 0) rfl
  have H1 := Lib.hid h1
  have K1 := Lib.hid k1
  clear s1 k1 h1 c0
  go_wp2_with fail
  refine (size_any Fw _ ws n _ x hx H1.out.sw).mono ?_
  rintro e w2 ⟨rfl, s2, k2⟩
  obtain ⟨m1, hm1⟩ : ∃ m1, cnt n (fun z => decide (labs (ends es) z = labs (ends es) x)) = m1 := ⟨_, rfl⟩
  rw [hm1]
  have h2 := H1.out.setW s2 k2
  have c2 := h2.head.cell (i := 0) rfl
  have H2 := Lib.hid h2
  have K2 := Lib.hid (K1.out.trans k2)
  clear s2 k2 h2 c1 hm1
  go_wp2_with fail
  refine (size_any Fw _ ws n _ y hy H2.out.sw).mono ?_
  rintro e w3 ⟨rfl, s3, k3⟩
  obtain ⟨m2, hm2⟩ : ∃ m2, cnt n (fun z => decide (labs (ends es) z = labs (ends es) y)) = m2 := ⟨_, rfl⟩
  rw [hm2]
  have h3 := H2.out.setW s3 k3
  have H3 := Lib.hid h3
  have K3 := Lib.hid (K2.out.trans k3)
  clear s3 k3 h3 c2 hm2
  obtain ⟨x', y', hor, hx', hy', hor2⟩ : ∃ x' y' : Nat, ((x' = y ∧ y' = x ∧ m2 < m1) ∨ (x' = x ∧ y' = y ∧ ¬ m2 < m1)) ∧ x' < n ∧ y' < n ∧ Swap x y x' y' := by
    by_cases hlt : m2 < m1
    · exact ⟨y, x, .inl ⟨rfl, rfl, hlt⟩, hy, hx, .inr ⟨rfl, rfl⟩⟩
    · exact ⟨x, y, .inr ⟨rfl, rfl, hlt⟩, hx, hy, .inl ⟨rfl, rfl⟩⟩
  have HOR := Lib.hid hor2
  clear hor2
  obtain ⟨l, hl⟩ := HInv.out.path (T x')
  have HL := Lib.hid hl
  clear hl
  rcases hor with ⟨e1, e2, hlt⟩ | ⟨e1, e2, hlt⟩
  all_goals
    subst e1
    subst e2
    go_wp2_with fail
    refine (turn_any F _ b n ws ts um im Fw Ft _ T mU mI es up x' l hx' H3.out (fun k hk => Nat.lt_of_lt_of_le (HF.out k hk) K3.out.size) HU.out HInv.out HL.out).mono ?_
    rintro e w4 ⟨rfl, up', mU', tt, u4, h4, k4⟩
    have TT := Lib.hid tt
    have U4 := Lib.hid u4
    have H4 := Lib.hid h4
    have K4 := Lib.hid ((K3.out.mono (fun _ _ h => .inr h)).trans' k4 (H := fun k => (Ft k ∨ k = um) ∨ Fw k) (fun _ _ h => h) (fun _ _ h => .inl h))
    have c2 := h4.head.cell (i := 2) rfl
    clear tt u4 h4 k4
    go_wp2_with fail
    go_region_held3 (fun w' => w'.cell? ⟨b, 2, none⟩ = some (.map (some um))) (go_keep) ((first | (go_at_call 75; refine (part_any F _ b n ws ts um im Fw Ft _ T mU' mI x' hx' H4.out.drew).mono ?_; rintro e w5 ⟨rfl, h5, k5⟩; have c5 := h5.head.cell (i := 2) rfl; obtain ⟨w6, r1, r2, r3⟩ := h5.mu.store (encN_enc Try.underlying3) Try.underlying105 (a := T x') (nat40 (show T x' < 40 by have := HInv.out.tlt hx'; omega)) (stepV (id, y')); simp only [encN, stepV] at r1; have H6 := Lib.hid (h5.setU r2 r3); have K6 := Lib.hid ((K4.out.drew.trans' k5 (H := fun k => (Ft k ∨ k = um) ∨ Fw k) (fun _ _ h => h) (fun _ _ h => .inl (.inl h))).trans' r3 (H := fun k => (Ft k ∨ k = um) ∨ Fw k) (fun _ _ h => h) (fun _ _ h => .inl (.inr h))); have c6 := H6.out.head.cell (i := 2) rfl; clear h5 k5 r2 r3)))
    obtain ⟨w7, q1, q2, q3⟩ := H6.out.mi.store (encN_enc Try.underlying3) Try.underlying106 (a := id) (by unfold DN; omega) (.bool true)
    simp only [encN] at q1
    have h7 := H6.out.setI q2 q3
    have c7 := h6cell H6.out
    have c8 := h7.head.cell (i := 0) rfl
    have H7 := Lib.hid h7
    have K7 := Lib.hid (K6.out.trans' q3 (H := fun k => (Ft k ∨ k = um) ∨ Fw k ∨ k = im) (fun _ _ h => h.imp (fun h => h) .inl) (fun _ _ h => .inr (.inr h)))
    clear h7 q2 q3 c2
    go_wp2_with (first | (at_mapUpdate; refine wpList_mapset rfl _ _ _ _ rfl rfl rfl rfl q1 ?_))
    refine (join_any Fw _ ws n _ x' y' hx' hy' H7.out.sw).mono ?_
    rintro e w8 ⟨rfl, s8, k8⟩
    have HP : Hid (BAddPost F w b n es id _ _ (.returned (.tuple #[.bool true, .nilIface])) w8) := Lib.hid (badd_fin HOR.out hx' hy' hid2 HSM.out HID.out HC.out TT.out U4.out HI.out (H7.out.setW s8 k8) (K7.out.trans' k8 (H := fun k => (Ft k ∨ k = um) ∨ Fw k ∨ k = im) (fun _ _ h => h) (fun _ _ h => .inr (.inl h))))
    clear s8 k8
    go_wp2_with fail
    go_ret2
    exact HP.out

end Go.Proofs.Ytkpoobnldgfapaa
