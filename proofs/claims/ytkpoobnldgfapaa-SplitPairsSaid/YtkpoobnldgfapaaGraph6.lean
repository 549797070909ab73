/- graph: slices.Insert of one edge ahead of others, where there is no room. -/
import Derived.Test.YtkpoobnldgfapaaGraph5
namespace Go.Proofs.Ytkpoobnldgfapaa
open Go.RowKit Go.Lib Pl

theorem grow_row {α : Type} (L N Z : List α) (a k l : Nat) (hk : N.length = k) (hl : L.length = l) (ha : a ≤ l) (hf : l + k ≤ a + Z.length) (A B : List α)
    (hA : A = (L.take a ++ Z).take a ++ N ++ (L.take a ++ Z).drop (a + N.length)) (hB : B = A.take (a + k) ++ L.drop a ++ A.drop (a + k + (L.drop a).length)) :
    B.take (l + k) = L.take a ++ (N ++ L.drop a) ∧ A.length = a + Z.length ∧ B.length = a + Z.length := by
  have hta : (L.take a).length = a := by simp; omega
  have h1 : (L.take a ++ Z).take a = L.take a := by
    conv => lhs; rw [← hta]
    simp [List.take_left]
  have hAl : A.length = a + Z.length := by rw [hA, h1]; simp; omega
  have h2 : A.take (a + k) = L.take a ++ N := by
    rw [hA, h1]
    have : a + k = (L.take a ++ N).length := by simp; omega
    rw [this, List.take_left]
  have hBl : B.length = a + Z.length := by rw [hB, h2]; simp; omega
  refine ⟨?_, hAl, hBl⟩
  rw [hB, h2]
  have : l + k = (L.take a ++ N ++ L.drop a).length := by simp; omega
  rw [this, List.take_left, List.append_assoc]

set_option maxRecDepth 100000 in
theorem insert_grow (F : Nat → Prop) (w : World) (g c i : Nat) (es : List E) (vb : Nat) (e : E) (hS : Sl F w 54 3 (some ⟨g, 0, none⟩) es.length c (ecs es)) (hn : es.length ≤ 1000)
    (hv : w.heap[vb]? = some (.cells (ecells e).toArray 54 (0, 0))) (hi : i < es.length) (hroom : ¬ es.length + 1 ≤ c) :
    Calls Try.prog 82 #[.slice (some ⟨g, 0, none⟩) es.length c, .int .i64 i, .slice (some ⟨vb, 0, none⟩) 1 1] w (InsPost F w (some ⟨g, 0, none⟩) es i e) := by
  rcases hS.cases with ⟨h0, _⟩ | ⟨g0, h0, hFg, hnc, hcm, hrow, cur, hcur, hcs⟩
  · cases h0
  obtain rfl : g = g0 := by simpa using h0
  have hcn : c = es.length := by omega
  subst hcn
  have hel := ecs_length es
  have hgw : g < w.heap.size := hrow.lt
  have hvw : vb < w.heap.size := (Array.getElem?_eq_some_iff.1 hv).1
  obtain ⟨i0, hi0, hz0, hzs, hzb⟩ := info_parts (elem_edge)
  have hsz : ((Try.prog).info? 54).map (·.size) = some 3 := by kernel_rfl
  have hold : (Builtin.firstCells i0.size i (.slice (some ⟨g, 0, none⟩) i es.length)).run Try.prog w.drew = .ok ((ecs es).take (i * 3)).toArray w.drew := by
    rw [hzs]
    exact run_firstCells_some w.drew 3 i ⟨g, 0, none⟩ i es.length ((ecs es).take (i * 3)) (by rw [List.length_take]; omega) (fun j v hj => by
      rw [show (⟨g, 0, none⟩ : Addr).add j = ⟨g, j, none⟩ from by unfold Addr.add; split <;> simp_all]
      rw [List.getElem?_take] at hj
      split at hj
      · exact hrow.cell hj
      · cases hj)
  have hik : i + (es.length + 1 - i) = es.length + 1 := by omega
  have hkk : (es.length : Int) + 1 - (i : Int) = ((es.length + 1 - i : Nat) : Int) := by omega
  have hG63 := grownCap_le_maxLen w (es.length + 1) es.length 54 (by unfold maxLen; omega)
  have hGn := grownCap_ge w (es.length + 1) es.length 54
  have hrz : ∀ ty, (Builtin.append_ #[51, 3] ty #[.slice (some ⟨g, 0, none⟩) i es.length, .int .i64 ((es.length : Int) + 1 - (i : Int))]).run Try.prog w =
      .ok (.slice (some ⟨w.heap.size, 0, none⟩) (es.length + 1) (grownCap w (es.length + 1) es.length 54))
        (w.drew.alloc (.cells (((ecs es).take (i * 3)).toArray ++ Builtin.zeroCells (Value.agg #[.int .i64 0, .int .i64 0, .int .i64 0]).cells (es.length + 1 - i) ++ Builtin.zeroCells (Value.agg #[.int .i64 0, .int .i64 0, .int .i64 0]).cells (grownCap w (es.length + 1) es.length 54 - (es.length + 1))) 54)) := fun ty => by
    have h := Lib.run_append_grow_zeros w 51 3 ty 54 i0 _ .i64 .i64 und_edges (by kernel_rfl) hi0 hz0 (some ⟨g, 0, none⟩) i es.length ((ecs es).take (i * 3)) hold (es.length + 1 - i) (by omega) (by omega) (by omega) (by omega) (by rw [hzb]; omega) (by rw [hzb, hik]; exact growslice_fits (by omega) (by omega))
    rw [hik] at h
    rw [hkk]
    exact h
  generalize hG : grownCap w (es.length + 1) es.length 54 = G at *
  have hzl : ∀ k, (Builtin.zeroCells (Value.agg #[.int .i64 0, .int .i64 0, .int .i64 0]).cells k).size = k * 3 := fun k => by rw [size_zeroCells]; rfl
  obtain ⟨Z, hZ, hZl⟩ : ∃ Z : List Value, ((ecs es).take (i * 3)).toArray ++ Builtin.zeroCells (Value.agg #[.int .i64 0, .int .i64 0, .int .i64 0]).cells (es.length + 1 - i) ++ Builtin.zeroCells (Value.agg #[.int .i64 0, .int .i64 0, .int .i64 0]).cells (G - (es.length + 1)) = ((ecs es).take (i * 3) ++ Z).toArray ∧ i * 3 + Z.length = G * 3 := by
    refine ⟨(Builtin.zeroCells (Value.agg #[.int .i64 0, .int .i64 0, .int .i64 0]).cells (es.length + 1 - i)).toList ++ (Builtin.zeroCells (Value.agg #[.int .i64 0, .int .i64 0, .int .i64 0]).cells (G - (es.length + 1))).toList, ?_, ?_⟩
    · apply Array.ext'; simp [List.append_assoc]
    · have e1 := hzl (es.length + 1 - i)
      have e2 := hzl (G - (es.length + 1))
      simp only [List.length_append, Array.length_toList]
      omega
  rw [hZ] at hrz
  obtain ⟨RA, hRA⟩ : ∃ RA, RA = ((ecs es).take (i * 3) ++ Z).take (i * 3) ++ ecells e ++ ((ecs es).take (i * 3) ++ Z).drop (i * 3 + (ecells e).length) := ⟨_, rfl⟩
  obtain ⟨RB, hRB⟩ : ∃ RB, RB = RA.take (i * 3 + 3) ++ (ecs es).drop (i * 3) ++ RA.drop (i * 3 + 3 + ((ecs es).drop (i * 3)).length) := ⟨_, rfl⟩
  obtain ⟨hr1, hr2, hr3⟩ := grow_row (ecs es) (ecells e) Z (i * 3) 3 (es.length * 3) rfl hel (by omega) (by omega) RA RB hRA hRB
  have hd : ((ecs es).drop (i * 3)).length = (es.length - i) * 3 := by rw [List.length_drop, hel]; omega
  have hcpA : ∀ W : World, W.heap[w.heap.size]? = some (.cells ((ecs es).take (i * 3) ++ Z).toArray 54 (0, 0)) → W.heap[vb]? = w.heap[vb]? → ∀ ty dc, (Builtin.copy_ #[51, 51] ty #[.slice (some ⟨w.heap.size, i * 3, none⟩) (es.length + 1 - i) dc, .slice (some ⟨vb, 0, none⟩) 1 1]).run Try.prog W =
      .ok (goInt 1) (W.setRow w.heap.size RA.toArray) := fun W hWg hWv ty dc => by
    rw [hRA]
    exact run_copyN W _ _ ty 54 w.heap.size (i * 3) (es.length + 1 - i) dc ⟨vb, 0, none⟩ 1 1 _ 54 (ecells e) 3 1 und_edges hsz hWg
      (by simp only [Nat.min_def]; split <;> omega) rfl
      (fun j u hj => by
        rw [show (⟨vb, 0, none⟩ : Addr).add j = ⟨vb, j, none⟩ from by unfold Addr.add; split <;> simp_all]
        simp [World.cell?, hWv, hv]
        simpa using hj)
      (by rw [List.size_toArray, List.length_append, List.length_take, hel, show (ecells e).length = 3 from rfl]; omega) (fun u hu => ecs_one [e] u (by simpa [ecs] using hu))
  have hcpB : ∀ W : World, W.heap[w.heap.size]? = some (.cells RA.toArray 54 (0, 0)) → W.heap[g]? = w.heap[g]? → ∀ ty dc sc, (Builtin.copy_ #[51, 51] ty #[.slice (some ⟨w.heap.size, (i + 1) * 3, none⟩) (es.length - i) dc, .slice (some ⟨g, i * 3, none⟩) (es.length - i) sc]).run Try.prog W =
      .ok (goInt (es.length - i : Nat)) (W.setRow w.heap.size RB.toArray) := fun W hWg hWo ty dc sc => by
    have e0 : (i + 1) * 3 = i * 3 + 3 := by omega
    rw [e0, hRB]
    exact run_copyN W _ _ ty 54 w.heap.size (i * 3 + 3) (es.length - i) dc ⟨g, i * 3, none⟩ (es.length - i) sc RA.toArray 54 ((ecs es).drop (i * 3)) 3 (es.length - i) und_edges hsz hWg
      (by simp) hd
      (fun j v hj => by
        rw [List.getElem?_drop] at hj
        rw [show (⟨g, i * 3, none⟩ : Addr).add j = ⟨g, i * 3 + j, none⟩ from by unfold Addr.add; split <;> simp_all]
        exact (hrow.of_heap hWo).cell hj)
      (by rw [List.size_toArray, hr2, hd]; omega) (fun v hv => ecs_one es v (List.mem_of_mem_drop hv))
  have hP : ∀ W : World, W.heap = ((w.alloc (.cells ((ecs es).take (i * 3) ++ Z).toArray 54)).setRow w.heap.size RA.toArray).heap → W.os = w.os → W.tape = w.tape → W.output = w.output →
      InsPost F w (some ⟨g, 0, none⟩) es i e (.returned (.slice (some ⟨w.heap.size, 0, none⟩) (es.length + 1) G)) (W.setRow w.heap.size RB.toArray) := by
    intro W hW ho ht hou
    have hA0 : (w.alloc (.cells ((ecs es).take (i * 3) ++ Z).toArray 54)).heap[w.heap.size]? = some (.cells ((ecs es).take (i * 3) ++ Z).toArray 54 (0, 0)) := heap_alloc_new w _
    have hWg : W.heap[w.heap.size]? = some (.cells RA.toArray 54 (0, 0)) := by rw [hW]; exact setRow_heap _ _ _ _ _ _ hA0
    have hlen : (ecs (ins es i e)).length = (es.length + 1) * 3 := by rw [ecs_length]; congr 1; simp [ins]; omega
    refine ⟨w.heap.size, G, rfl, ⟨⟨hlen, .inr ⟨w.heap.size, G, _, rfl, Nat.zero_le _, setRow_heap W _ _ _ _ _ hWg, hGn, hG63, ?_, ?_⟩⟩, fun a ha => .inr (by simp at ha; rw [← ha]; exact Nat.le_refl _)⟩, ⟨ho, ht, hou, ?_, fun k hk _ => ?_⟩, .inr (Nat.le_refl _)⟩
    · rw [List.size_toArray, hr3, hZl]
    · rw [show (es.length + 1) * 3 = es.length * 3 + 3 by omega]
      show List.take _ (_ : List Value) = _
      rw [hr1, ecs_ins, ecs_take, ecs_drop]
    · have : W.heap.size = w.heap.size + 1 := by rw [hW]; simp
      simp [this]
    · have hkg : k ≠ w.heap.size := by omega
      rw [setRow_other W _ k _ hkg, hW, setRow_other _ _ k _ hkg]
      exact Below.heap_alloc w _ k hk
  have H0 := Lib.hid hrz
  obtain ⟨WA, hWA⟩ : ∃ WA, WA = (w.alloc (.cells ((ecs es).take (i * 3) ++ Z).toArray 54)).drew := ⟨_, rfl⟩
  have hA1 : WA.heap[w.heap.size]? = some (.cells ((ecs es).take (i * 3) ++ Z).toArray 54 (0, 0)) := by rw [hWA]; exact heap_alloc_new w _
  have hA2 : ∀ k, k < w.heap.size → WA.heap[k]? = w.heap[k]? := fun k hk => by rw [hWA]; exact Below.heap_alloc w _ k hk
  have HW1 := Lib.hid (hcpA WA hA1 (hA2 _ hvw))
  have HW2 := Lib.hid (hcpB (WA.setRow w.heap.size RA.toArray).drew (setRow_heap WA _ _ _ _ _ hA1) ((setRow_other WA _ g _ (by omega)).trans (hA2 _ hgw)))
  have HWA := Lib.hid hWA
  have HPA := Lib.hid (show InsPost F w (some ⟨g, 0, none⟩) es i e (.returned (.slice (some ⟨w.heap.size, 0, none⟩) (es.length + 1) G)) ((WA.setRow w.heap.size RA.toArray).drew.setRow w.heap.size RB.toArray) from hP _ (by rw [hWA]; rfl) (by rw [hWA]; rfl) (by rw [hWA]; rfl) (by rw [hWA]; rfl))
  rw [hWA] at HW1 HW2 HPA
  clear HWA hA1 hA2 hWA WA
  have HC := Lib.hid hcur
  have HV := Lib.hid hvw
  have HGW := Lib.hid hgw
  clear hrz hcpA hcpB hP hr1 hr2 hr3 hRA hRB hel hrow hcs hd hsz hv hcur hS h0 hold hi0 hz0 hzs hzb hZ hZl hzl hG hkk hik hgw hvw
  simp only [maxLen] at hG63 hcm
  have hin : i ≤ es.length := by omega
  have htn : ((i : Int) + 1).toNat = i + 1 := by omega
  have hb2 : ¬ (G = i + 1) := by omega
  have hb4 : ¬ (G = i) := by omega
  have hb5 : ¬ (es.length = i) := by omega
  have hz2 : ¬ ((i : Int) = (es.length : Int)) := by omega
  have hw1 : IntKind.i64.wrap ((i : Int) + 1) = (i : Int) + 1 := IntWalk.i64_in _ (by omega)
  have hb1 : (0 : Int) ≤ (i : Int) + 1 := by omega
  have mixed : (Try.prog).follows Departure.mixedOrders = true := by kernel_rfl
  generalize es.length = n at *
  go_enter Try.func82, Try.ntmps82
  go_wp2_with ((at_builtin; refine Lib.wpList_append_run _ rfl _ _ _ _ rfl _ _ rfl rfl _ _ (H0.out _) ?_))
  go_wp2_with (rw [HW1.out])
  go_region_law_o (refine step_copy_runI rfl _ _ 51 51 rfl (.slice (some ⟨w.heap.size, (i + 1) * 3, none⟩) (n - i) (G - (i + 1))) (.slice (some ⟨g, i * 3, none⟩) (n - i) (n - i)) (by simp [Act.eval, Act.put]) (by simp [Act.eval, Act.put]) (HW2.out 3 (G - (i + 1)) (n - i)) ?_)
  go_wp2
  go_ret
  exact HPA.out

end Go.Proofs.Ytkpoobnldgfapaa
