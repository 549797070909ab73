/- graph: slices.Insert of one edge ahead of others, in place. -/
import Derived.Test.YtkpoobnldgfapaaGraph4
namespace Go.Proofs.Ytkpoobnldgfapaa
open Go.RowKit Go.Lib Pl

theorem shift_row {α : Type} (cur L N : List α) (a k l : Nat) (hk : N.length = k) (hL : cur.take l = L) (hl : L.length = l) (ha : a ≤ l) (hf : l + k ≤ cur.length) :
    ((((cur.take (a + k) ++ L.drop a ++ cur.drop (a + k + (L.drop a).length)).take a) ++ N ++ (cur.take (a + k) ++ L.drop a ++ cur.drop (a + k + (L.drop a).length)).drop (a + N.length)).take (l + k)) = L.take a ++ (N ++ L.drop a) ∧
    ((((cur.take (a + k) ++ L.drop a ++ cur.drop (a + k + (L.drop a).length)).take a) ++ N ++ (cur.take (a + k) ++ L.drop a ++ cur.drop (a + k + (L.drop a).length)).drop (a + N.length))).length = cur.length ∧
    (cur.take (a + k) ++ L.drop a ++ cur.drop (a + k + (L.drop a).length)).length = cur.length := by
  subst hL
  have h3 : (cur.take (a + k) ++ (cur.take l).drop a ++ cur.drop (a + k + ((cur.take l).drop a).length)).length = cur.length := by
    simp; omega
  have h1 : (cur.take (a + k) ++ (cur.take l).drop a ++ cur.drop (a + k + ((cur.take l).drop a).length)).take a = (cur.take l).take a := by
    rw [List.append_assoc, List.take_append_of_le_length (by simp; omega), List.take_take, List.take_take]
    congr 1; omega
  have h2 : (cur.take (a + k) ++ (cur.take l).drop a ++ cur.drop (a + k + ((cur.take l).drop a).length)).drop (a + N.length) = (cur.take l).drop a ++ cur.drop (a + k + ((cur.take l).drop a).length) := by
    rw [List.append_assoc]
    have : a + N.length = (cur.take (a + k)).length := by simp; omega
    rw [this, List.drop_left]
  refine ⟨?_, ?_, h3⟩
  · rw [h1, h2]
    have e : (cur.take l).take a ++ N ++ ((cur.take l).drop a ++ cur.drop (a + k + ((cur.take l).drop a).length)) = ((cur.take l).take a ++ (N ++ (cur.take l).drop a)) ++ cur.drop (a + k + ((cur.take l).drop a).length) := by simp [List.append_assoc]
    rw [e]
    have : l + k = ((cur.take l).take a ++ (N ++ (cur.take l).drop a)).length := by simp; simp at hl; omega
    rw [this, List.take_left]
  · rw [h1, h2]
    simp; omega

set_option maxRecDepth 100000 in
theorem insert_shift (F : Nat → Prop) (w : World) (g c i : Nat) (es : List E) (vb : Nat) (e : E) (hS : Sl F w 54 3 (some ⟨g, 0, none⟩) es.length c (ecs es)) (hn : es.length ≤ 1000)
    (hv : w.heap[vb]? = some (.cells (ecells e).toArray 54 (0, 0))) (hne : vb ≠ g) (hi : i < es.length) (hroom : es.length + 1 ≤ c) :
    Calls Try.prog 82 #[.slice (some ⟨g, 0, none⟩) es.length c, .int .i64 i, .slice (some ⟨vb, 0, none⟩) 1 1] w (InsPost F w (some ⟨g, 0, none⟩) es i e) := by
  rcases hS.cases with ⟨h0, _⟩ | ⟨g0, h0, hFg, hnc, hcm, hrow, cur, hcur, hcs⟩
  · cases h0
  obtain rfl : g = g0 := by simpa using h0
  have htake : cur.toList.take (ecs es).length = ecs es := by
    obtain ⟨cur', hc', ht'⟩ := hrow
    rw [hcur] at hc'; cases hc'; exact ht'
  have hel := ecs_length es
  simp only [maxLen] at hcm
  have hov : ∀ off lb cb, (callFunc 96 #[.slice (some ⟨vb, 0, none⟩) 1 1, .slice (some ⟨g, off, none⟩) lb cb]).run Try.prog w = .ok (.value (.bool false)) w := fun off lb cb => by
    have hsv : w.shape? vb = some (54, 3) := by simp [World.shape?, hv, ecells]
    have hsg : w.shape? g = some (54, c * 3) := by simp [World.shape?, hcur, hcs]
    rw [run_callFunc_extern Try.func96 (by kernel_rfl) (by kernel_rfl) (by kernel_rfl) (e := Extern.SlicesOverlaps.overlaps #[51, 51] #[4]) (by kernel_rfl),
      Lib.run_overlaps_apart w 51 4 54 und_edges 3 (fun w => by kernel_rfl) ⟨vb, 0, none⟩ ⟨g, off, none⟩ 1 1 lb cb hne 54 54 3 (c * 3) hsv hsg (by omega) (by simp [World.frozen?, hv]) (by simp [World.frozen?, hv])]
    rfl
  have hsz : ((Try.prog).info? 54).map (·.size) = some 3 := by kernel_rfl
  have hcsize : cur.toList.length = c * 3 := by simpa using hcs
  obtain ⟨hr1, hr2, hr3⟩ := shift_row cur.toList (ecs es) (ecells e) (i * 3) 3 (es.length * 3) rfl (by rw [← hel]; exact htake) hel (by omega) (by rw [hcsize]; omega)
  have hd : ((ecs es).drop (i * 3)).length = (es.length - i) * 3 := by rw [List.length_drop, hel]; omega
  have hcp1 : ∀ ty dc sc, (Builtin.copy_ #[51, 51] ty #[.slice (some ⟨g, (i + 1) * 3, none⟩) (es.length - i) dc, .slice (some ⟨g, i * 3, none⟩) (es.length + 1 - i) sc]).run Try.prog w.drew =
        .ok (goInt (es.length - i : Nat)) (w.drew.setRow g (cur.toList.take (i * 3 + 3) ++ (ecs es).drop (i * 3) ++ cur.toList.drop (i * 3 + 3 + ((ecs es).drop (i * 3)).length)).toArray) := fun ty dc sc => by
    have e0 : (i + 1) * 3 = i * 3 + 3 := by omega
    rw [e0]
    exact run_copyN w.drew _ _ ty 54 g (i * 3 + 3) (es.length - i) dc ⟨g, i * 3, none⟩ (es.length + 1 - i) sc cur 54 ((ecs es).drop (i * 3)) 3 (es.length - i) und_edges hsz hcur
      (by simp only [Nat.min_def]; split <;> omega) hd
      (fun j v hj => by
        rw [List.getElem?_drop] at hj
        rw [show (⟨g, i * 3, none⟩ : Addr).add j = ⟨g, i * 3 + j, none⟩ from by unfold Addr.add; split <;> simp_all]
        exact hrow.cell hj)
      (by rw [hd]; have := hcs; omega) (fun v hv => ecs_one es v (List.mem_of_mem_drop hv))
  generalize hrow1 : (cur.toList.take (i * 3 + 3) ++ (ecs es).drop (i * 3) ++ cur.toList.drop (i * 3 + 3 + ((ecs es).drop (i * 3)).length)) = row1 at *
  have hcp2 : ∀ (W : World), W.heap[g]? = some (.cells row1.toArray 54 (0, 0)) → W.heap[vb]? = w.heap[vb]? → ∀ ty dc, (Builtin.copy_ #[51, 51] ty #[.slice (some ⟨g, i * 3, none⟩) (es.length + 1 - i) dc, .slice (some ⟨vb, 0, none⟩) 1 1]).run Try.prog W =
      .ok (goInt 1) (W.setRow g (row1.take (i * 3) ++ ecells e ++ row1.drop (i * 3 + (ecells e).length)).toArray) := fun W hWg hWv ty dc =>
    run_copyN W _ _ ty 54 g (i * 3) (es.length + 1 - i) dc ⟨vb, 0, none⟩ 1 1 row1.toArray 54 (ecells e) 3 1 und_edges hsz hWg
      (by simp only [Nat.min_def]; split <;> omega) rfl
      (fun j u hj => by
        rw [show (⟨vb, 0, none⟩ : Addr).add j = ⟨vb, j, none⟩ from by unfold Addr.add; split <;> simp_all]
        simp [World.cell?, hWv, hv]
        simpa using hj)
      (by simp [hr3, ecells, hcs]; omega) (fun u hu => ecs_one [e] u (by simpa [ecs] using hu))
  have hP : ∀ W : World, W.heap = (w.setRow g row1.toArray).heap → W.os = w.os → W.tape = w.tape → W.output = w.output →
      InsPost F w (some ⟨g, 0, none⟩) es i e (.returned (.slice (some ⟨g, 0, none⟩) (es.length + 1) c)) (W.setRow g (row1.take (i * 3) ++ ecells e ++ row1.drop (i * 3 + (ecells e).length)).toArray) := by
    intro W hW ho ht hou
    have hWg : W.heap[g]? = some (.cells row1.toArray 54 (0, 0)) := by rw [hW]; exact setRow_heap w g cur _ _ _ hcur
    have hlen : (ecs (ins es i e)).length = (es.length + 1) * 3 := by rw [ecs_length]; congr 1; simp [ins]; omega
    refine ⟨g, c, rfl, ⟨⟨hlen, .inr ⟨g, c, _, rfl, Nat.zero_le _, setRow_heap W g _ _ _ _ hWg, hroom, by simp only [maxLen]; exact hcm, ?_, ?_⟩⟩, fun a ha => .inl (hS.foot a ha)⟩, ⟨ho, ht, hou, ?_, fun k _ hk => ?_⟩, .inl rfl⟩
    · rw [List.size_toArray, hr2, hcsize]
    · rw [show (es.length + 1) * 3 = es.length * 3 + 3 by omega]
      show List.take _ (_ : List Value) = _
      rw [hr1, ecs_ins, ecs_take, ecs_drop]
    · have : W.heap.size = w.heap.size := by rw [hW]; simp
      simp [this]
    · have hkg : k ≠ g := fun e => hk ⟨_, rfl, e.symm⟩
      rw [setRow_other W g k _ hkg, hW, setRow_other w g k _ hkg]
  generalize row1.take (i * 3) ++ ecells e ++ row1.drop (i * 3 + (ecells e).length) = row2 at hcp2 hP
  have HOv := Lib.hid hov
  have H1 := Lib.hid hcp1
  have H2 := Lib.hid (hcp2 (w.drew.setRow g row1.toArray) (setRow_heap w.drew g cur _ _ _ hcur) (setRow_other w.drew g vb _ hne))
  have HP := Lib.hid hP
  have HC := Lib.hid hcur
  clear hov hcp1 hcp2 hP hr1 hr2 hr3 hrow1 htake hel hrow hcs hcsize hd hsz hv hcur hS h0
  have hin : i ≤ es.length := by omega
  have htn : ((i : Int) + 1).toNat = i + 1 := by omega
  have hb2 : ¬ (c = i + 1) := by omega
  have hb4 : ¬ (c = i) := by omega
  have hz2 : ¬ ((i : Int) = (es.length : Int)) := by omega
  have hw1 : IntKind.i64.wrap ((i : Int) + 1) = (i : Int) + 1 := IntWalk.i64_in _ (by omega)
  have hb1 : (0 : Int) ≤ (i : Int) + 1 := by omega
  have hb3 : (i : Int) ≤ (es.length : Int) + 1 := by omega
  have mixed : (Try.prog).follows Departure.mixedOrders = true := by kernel_rfl
  generalize es.length = n at *
  go_enter Try.func82, Try.ntmps82
  go_wp2_with (simp only [HOv.out])
  go_region_law_o (refine step_copy_runI rfl _ _ 51 51 rfl (.slice (some ⟨g, (i + 1) * 3, none⟩) (n - i) (c - (i + 1))) (.slice (some ⟨g, i * 3, none⟩) (n + 1 - i) (c - i)) (by simp [Act.eval, Act.put]) (by simp [Act.eval, Act.put]) (H1.out 3 (c - (i + 1)) (c - i)) ?_)
  go_wp2_with (rw [H2.out])
  go_ret
  exact HP.out (w.drew.setRow g row1.toArray) rfl rfl rfl rfl

end Go.Proofs.Ytkpoobnldgfapaa
