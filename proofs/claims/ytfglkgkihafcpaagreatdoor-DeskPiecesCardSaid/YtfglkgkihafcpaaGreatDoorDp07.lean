/- Part 7 of the proof: A5. -/
import Derived.Test.YtfglkgkihafcpaaGreatDoorDp06
set_option linter.unusedVariables false
set_option linter.unusedSimpArgs false
namespace Go.Proofs.YtfglkgkihafcpaaGreatDoor
open Go.RowKit Go.Lib Pl
theorem grow_row {α : Type} (L N Z : List α) (a k l : Nat) (hk : N.length = k) (hl : L.length = l) (ha : a ≤ l) (hf : l + k ≤ a + Z.length) (A B : List α)
  (hA : A = (L.take a ++ Z).take a ++ N ++ (L.take a ++ Z).drop (a + N.length)) (hB : B = A.take (a + k) ++ L.drop a ++ A.drop (a + k + (L.drop a).length)) :
  B.take (l + k) = L.take a ++ (N ++ L.drop a) ∧ A.length = a + Z.length ∧ B.length = a + Z.length := by
 have hta : (L.take a).length = a := by simp; omega
 have h1 : (L.take a ++ Z).take a = L.take a := by
  conv => lhs; rw [← hta]
  simp [List.take_left]
 have hAl : A.length = a + Z.length := by rw [hA, h1]; simp; omega
 have h2 : A.take (a + k) = L.take a ++ N := by
  rw [hA, h1]
  have : a + k = (L.take a ++ N).length := by simp; omega
  rw [this, List.take_left]
 have hBl : B.length = a + Z.length := by rw [hB, h2]; simp; omega
 refine ⟨?_, hAl, hBl⟩
 rw [hB, h2]
 have : l + k = (L.take a ++ N ++ L.drop a).length := by simp; omega
 rw [this, List.take_left, List.append_assoc]
set_option maxRecDepth 100000 in
theorem insert_grow (F : Nat → Prop) (w : World) (g c i : Nat) (es : List E) (vb : Nat) (e : E) (hS : Sl F w 125 3 (some ⟨g, 0, none⟩) es.length c (ecs es)) (hn : es.length ≤ 1000)
  (hv : w.heap[vb]? = some (.cells (ecells e).toArray 125 (0, 0))) (hi : i < es.length) (hroom : ¬ es.length + 1 ≤ c) :
  Calls Tryz.prog 167 #[.slice (some ⟨g, 0, none⟩) es.length c, .int .i64 i, .slice (some ⟨vb, 0, none⟩) 1 1] w (InsPost F w (some ⟨g, 0, none⟩) es i e) := by
 rcases hS.cases with ⟨h0, _⟩ | ⟨g0, h0, hFg, hnc, hcm, hrow, cur, hcur, hcs⟩
 ·cases h0
 obtain rfl : g = g0 := by simpa using h0
 have hcn : c = es.length := by omega
 subst hcn
 have hel := ecs_length es
 have hgw : g < w.heap.size := hrow.lt
 have hvw : vb < w.heap.size := (Array.getElem?_eq_some_iff.1 hv).1
 obtain ⟨i0, hi0, hz0, hzs, hzb⟩ := info_parts (elem_edge)
 have hsz : ((Tryz.prog).info? 125).map (·.size) = some 3 := by kernel_rfl
 have hold : (Builtin.firstCells i0.size i (.slice (some ⟨g, 0, none⟩) i es.length)).run Tryz.prog w.drew = .ok ((ecs es).take (i * 3)).toArray w.drew := by
  rw [hzs]
  exact run_firstCells_some w.drew 3 i ⟨g, 0, none⟩ i es.length ((ecs es).take (i * 3)) (by rw [List.length_take]; omega) (fun j v hj => by
   rw [show (⟨g, 0, none⟩ : Addr).add j = ⟨g, j, none⟩ from by unfold Addr.add; split <;> simp_all]
   rw [List.getElem?_take] at hj
   split at hj
   ·exact hrow.cell hj
   ·cases hj)
 have hik : i + (es.length + 1 - i) = es.length + 1 := by omega
 have hkk : (es.length : Int) + 1 - (i : Int) = ((es.length + 1 - i : Nat) : Int) := by omega
 have hG63 := grownCap_le_maxLen w (es.length + 1) es.length 125 (by unfold maxLen; omega)
 have hGn := grownCap_ge w (es.length + 1) es.length 125
 have hrz : ∀ ty, (Builtin.append_ #[117, 3] ty #[.slice (some ⟨g, 0, none⟩) i es.length, .int .i64 ((es.length : Int) + 1 - (i : Int))]).run Tryz.prog w =
   .ok (.slice (some ⟨w.heap.size, 0, none⟩) (es.length + 1) (grownCap w (es.length + 1) es.length 125))
    (w.drew.alloc (.cells (((ecs es).take (i * 3)).toArray ++ Builtin.zeroCells (Value.agg #[.int .i64 0, .int .i64 0, .int .i64 0]).cells (es.length + 1 - i) ++ Builtin.zeroCells (Value.agg #[.int .i64 0, .int .i64 0, .int .i64 0]).cells (grownCap w (es.length + 1) es.length 125 - (es.length + 1))) 125)) := fun ty => by
  have h := Lib.run_append_grow_zeros w 117 3 ty 125 i0 _ .i64 .i64 und_edges (by kernel_rfl) hi0 hz0 (some ⟨g, 0, none⟩) i es.length ((ecs es).take (i * 3)) hold (es.length + 1 - i) (by omega) (by omega) (by omega) (by omega) (by rw [hzb]; omega) (by rw [hzb, hik]; exact growslice_fits (by omega) (by omega))
  rw [hik] at h
  rw [hkk]
  exact h
 generalize hG : grownCap w (es.length + 1) es.length 125 = G at *
 have hzl : ∀ k, (Builtin.zeroCells (Value.agg #[.int .i64 0, .int .i64 0, .int .i64 0]).cells k).size = k * 3 := fun k => by rw [size_zeroCells]; rfl
 obtain ⟨Z, hZ, hZl⟩ : ∃ Z : List Value, ((ecs es).take (i * 3)).toArray ++ Builtin.zeroCells (Value.agg #[.int .i64 0, .int .i64 0, .int .i64 0]).cells (es.length + 1 - i) ++ Builtin.zeroCells (Value.agg #[.int .i64 0, .int .i64 0, .int .i64 0]).cells (G - (es.length + 1)) = ((ecs es).take (i * 3) ++ Z).toArray ∧ i * 3 + Z.length = G * 3 := by
  refine ⟨(Builtin.zeroCells (Value.agg #[.int .i64 0, .int .i64 0, .int .i64 0]).cells (es.length + 1 - i)).toList ++ (Builtin.zeroCells (Value.agg #[.int .i64 0, .int .i64 0, .int .i64 0]).cells (G - (es.length + 1))).toList, ?_, ?_⟩
  ·apply Array.ext'; simp [List.append_assoc]
  ·have e1 := hzl (es.length + 1 - i)
   have e2 := hzl (G - (es.length + 1))
   simp only [List.length_append, Array.length_toList]
   omega
 rw [hZ] at hrz
 obtain ⟨RA, hRA⟩ : ∃ RA, RA = ((ecs es).take (i * 3) ++ Z).take (i * 3) ++ ecells e ++ ((ecs es).take (i * 3) ++ Z).drop (i * 3 + (ecells e).length) := ⟨_, rfl⟩
 obtain ⟨RB, hRB⟩ : ∃ RB, RB = RA.take (i * 3 + 3) ++ (ecs es).drop (i * 3) ++ RA.drop (i * 3 + 3 + ((ecs es).drop (i * 3)).length) := ⟨_, rfl⟩
 obtain ⟨hr1, hr2, hr3⟩ := grow_row (ecs es) (ecells e) Z (i * 3) 3 (es.length * 3) rfl hel (by omega) (by omega) RA RB hRA hRB
 have hd : ((ecs es).drop (i * 3)).length = (es.length - i) * 3 := by rw [List.length_drop, hel]; omega
 have hcpA : ∀ W : World, W.heap[w.heap.size]? = some (.cells ((ecs es).take (i * 3) ++ Z).toArray 125 (0, 0)) → W.heap[vb]? = w.heap[vb]? → ∀ ty dc, (Builtin.copy_ #[117, 117] ty #[.slice (some ⟨w.heap.size, i * 3, none⟩) (es.length + 1 - i) dc, .slice (some ⟨vb, 0, none⟩) 1 1]).run Tryz.prog W =
   .ok (goInt 1) (W.setRow w.heap.size RA.toArray) := fun W hWg hWv ty dc => by
  rw [hRA]
  exact run_copyN W _ _ ty 125 w.heap.size (i * 3) (es.length + 1 - i) dc ⟨vb, 0, none⟩ 1 1 _ 125 (ecells e) 3 1 und_edges hsz hWg
   (by simp only [Nat.min_def]; split <;> omega) rfl
   (fun j u hj => by
    rw [show (⟨vb, 0, none⟩ : Addr).add j = ⟨vb, j, none⟩ from by unfold Addr.add; split <;> simp_all]
    simp [World.cell?, hWv, hv]
    simpa using hj)
   (by rw [List.size_toArray, List.length_append, List.length_take, hel, show (ecells e).length = 3 from rfl]; omega) (fun u hu => ecs_one [e] u (by simpa [ecs] using hu))
 have hcpB : ∀ W : World, W.heap[w.heap.size]? = some (.cells RA.toArray 125 (0, 0)) → W.heap[g]? = w.heap[g]? → ∀ ty dc sc, (Builtin.copy_ #[117, 117] ty #[.slice (some ⟨w.heap.size, (i + 1) * 3, none⟩) (es.length - i) dc, .slice (some ⟨g, i * 3, none⟩) (es.length - i) sc]).run Tryz.prog W =
   .ok (goInt (es.length - i : Nat)) (W.setRow w.heap.size RB.toArray) := fun W hWg hWo ty dc sc => by
  have e0 : (i + 1) * 3 = i * 3 + 3 := by omega
  rw [e0, hRB]
  exact run_copyN W _ _ ty 125 w.heap.size (i * 3 + 3) (es.length - i) dc ⟨g, i * 3, none⟩ (es.length - i) sc RA.toArray 125 ((ecs es).drop (i * 3)) 3 (es.length - i) und_edges hsz hWg
   (by simp) hd
   (fun j v hj => by
    rw [List.getElem?_drop] at hj
    rw [show (⟨g, i * 3, none⟩ : Addr).add j = ⟨g, i * 3 + j, none⟩ from by unfold Addr.add; split <;> simp_all]
    exact (hrow.of_heap hWo).cell hj)
   (by rw [List.size_toArray, hr2, hd]; omega) (fun v hv => ecs_one es v (List.mem_of_mem_drop hv))
 have hP : ∀ W : World, W.heap = ((w.alloc (.cells ((ecs es).take (i * 3) ++ Z).toArray 125)).setRow w.heap.size RA.toArray).heap → W.os = w.os → W.tape = w.tape → W.output = w.output →
   InsPost F w (some ⟨g, 0, none⟩) es i e (.returned (.slice (some ⟨w.heap.size, 0, none⟩) (es.length + 1) G)) (W.setRow w.heap.size RB.toArray) := by
  intro W hW ho ht hou
  have hA0 : (w.alloc (.cells ((ecs es).take (i * 3) ++ Z).toArray 125)).heap[w.heap.size]? = some (.cells ((ecs es).take (i * 3) ++ Z).toArray 125 (0, 0)) := heap_alloc_new w _
  have hWg : W.heap[w.heap.size]? = some (.cells RA.toArray 125 (0, 0)) := by rw [hW]; exact setRow_heap _ _ _ _ _ _ hA0
  have hlen : (ecs (ins es i e)).length = (es.length + 1) * 3 := by rw [ecs_length]; congr 1; simp [ins]; omega
  refine ⟨w.heap.size, G, rfl, ⟨⟨hlen, .inr ⟨w.heap.size, G, _, rfl, Nat.zero_le _, setRow_heap W _ _ _ _ _ hWg, hGn, hG63, ?_, ?_⟩⟩, fun a ha => .inr (by simp at ha; rw [← ha]; exact Nat.le_refl _)⟩, ⟨ho, ht, hou, ?_, fun k hk _ => ?_⟩, .inr (Nat.le_refl _)⟩
  ·rw [List.size_toArray, hr3, hZl]
  ·rw [show (es.length + 1) * 3 = es.length * 3 + 3 by omega]
   show List.take _ (_ : List Value) = _
   rw [hr1, ecs_ins, ecs_take, ecs_drop]
  ·have : W.heap.size = w.heap.size + 1 := by rw [hW]; simp
   simp [this]
  ·have hkg : k ≠ w.heap.size := by omega
   rw [setRow_other W _ k _ hkg, hW, setRow_other _ _ k _ hkg]
   exact Below.heap_alloc w _ k hk
 have H0 := Lib.hid hrz
 obtain ⟨WA, hWA⟩ : ∃ WA, WA = (w.alloc (.cells ((ecs es).take (i * 3) ++ Z).toArray 125)).drew := ⟨_, rfl⟩
 have hA1 : WA.heap[w.heap.size]? = some (.cells ((ecs es).take (i * 3) ++ Z).toArray 125 (0, 0)) := by rw [hWA]; exact heap_alloc_new w _
 have hA2 : ∀ k, k < w.heap.size → WA.heap[k]? = w.heap[k]? := fun k hk => by rw [hWA]; exact Below.heap_alloc w _ k hk
 have HW1 := Lib.hid (hcpA WA hA1 (hA2 _ hvw))
 have HW2 := Lib.hid (hcpB (WA.setRow w.heap.size RA.toArray).drew (setRow_heap WA _ _ _ _ _ hA1) ((setRow_other WA _ g _ (by omega)).trans (hA2 _ hgw)))
 have HWA := Lib.hid hWA
 have HPA := Lib.hid (show InsPost F w (some ⟨g, 0, none⟩) es i e (.returned (.slice (some ⟨w.heap.size, 0, none⟩) (es.length + 1) G)) ((WA.setRow w.heap.size RA.toArray).drew.setRow w.heap.size RB.toArray) from hP _ (by rw [hWA]; rfl) (by rw [hWA]; rfl) (by rw [hWA]; rfl) (by rw [hWA]; rfl))
 rw [hWA] at HW1 HW2 HPA
 clear HWA hA1 hA2 hWA WA
 have HC := Lib.hid hcur
 have HV := Lib.hid hvw
 have HGW := Lib.hid hgw
 clear hrz hcpA hcpB hP hr1 hr2 hr3 hRA hRB hel hrow hcs hd hsz hv hcur hS h0 hold hi0 hz0 hzs hzb hZ hZl hzl hG hkk hik hgw hvw
 simp only [maxLen] at hG63 hcm
 have hin : i ≤ es.length := by omega
 have htn : ((i : Int) + 1).toNat = i + 1 := by omega
 have hb2 : ¬ (G = i + 1) := by omega
 have hb4 : ¬ (G = i) := by omega
 have hb5 : ¬ (es.length = i) := by omega
 have hz2 : ¬ ((i : Int) = (es.length : Int)) := by omega
 have hw1 : IntKind.i64.wrap ((i : Int) + 1) = (i : Int) + 1 := IntWalk.i64_in _ (by omega)
 have hb1 : (0 : Int) ≤ (i : Int) + 1 := by omega
 have mixed : (Tryz.prog).follows Departure.mixedOrders = true := by kernel_rfl
 generalize es.length = n at *
 go_enter Tryz.func167, Tryz.ntmps167
 go_wp2_with ((at_builtin; refine Lib.wpList_append_run _ rfl _ _ _ _ rfl _ _ rfl rfl _ _ (H0.out _) ?_))
 go_wp2_with (rw [HW1.out])
 go_region_law_o (refine step_copy_runI rfl _ _ 117 117 rfl (.slice (some ⟨w.heap.size, (i + 1) * 3, none⟩) (n - i) (G - (i + 1))) (.slice (some ⟨g, i * 3, none⟩) (n - i) (n - i)) (by simp [Act.eval, Act.put]) (by simp [Act.eval, Act.put]) (HW2.out 3 (G - (i + 1)) (n - i)) ?_)
 go_wp2
 go_ret
 exact HPA.out
end Go.Proofs.YtfglkgkihafcpaaGreatDoor
namespace Go.Proofs.YtfglkgkihafcpaaGreatDoor
open Go.RowKit Go.Lib Pl
theorem insert_any (F : Nat → Prop) (w : World) (o : Option Addr) (c i : Nat) (es : List E) (vb : Nat) (e : E) (hS : Sl F w 125 3 o es.length c (ecs es)) (hn : es.length ≤ 1000)
  (hv : w.heap[vb]? = some (.cells (ecells e).toArray 125 (0, 0))) (hne : ¬ F vb) (hi : i ≤ es.length) :
  Calls Tryz.prog 167 #[.slice o es.length c, .int .i64 i, .slice (some ⟨vb, 0, none⟩) 1 1] w (InsPost F w o es i e) := by
 by_cases h : i = es.length
 ·subst h; exact insert_end F w o c es vb e hS hn hv
 ·obtain ⟨g, rfl, hF, _, _⟩ := hS.pos (by omega)
  by_cases hr : es.length + 1 ≤ c
  ·exact insert_shift F w g c i es vb e hS hn hv (fun e => hne (e ▸ hF)) (by omega) hr
  ·exact insert_grow F w g c i es vb e hS hn hv (by omega) hr
def errVal (r : Int) : Value := .iface 47 (.int .i64 r)
def addBad (n : Nat) (id a b : Int) : Prop := id < 0 ∨ 1099511627776 < id ∨ a < 0 ∨ (n : Int) ≤ a ∨ b < 0 ∨ (n : Int) ≤ b
instance (n : Nat) (id a b : Int) : Decidable (addBad n id a b) := by unfold addBad; infer_instance
def mkE (id a b : Int) : E := ⟨id.toNat, (min a b).toNat, (max a b).toNat⟩
def addEs (n : Nat) (es : List E) (id a b : Int) : List E :=
 if addBad n id a b ∨ a = b ∨ hasId es id = true ∨ 120 ≤ es.length then es else ins es (posOf es id) (mkE id a b)
def addErr (n : Nat) (es : List E) (id a b : Int) : Int :=
 if addBad n id a b then 2 else if a = b then 1 else if hasId es id = true then 9 else if 120 ≤ es.length then 12 else 0
def AddPost (F : Nat → Prop) (w : World) (g n : Nat) (es : List E) (id a b : Int) (e : Ending) (w' : World) : Prop :=
 e = .returned (if addErr n es id a b = 0 then .nilIface else errVal (addErr n es id a b)) ∧ Gr (fun k => F k ∨ w.heap.size ≤ k) w' g n (addEs n es id a b) ∧ Keep F w w'
theorem AddPost.err {F : Nat → Prop} {w w' : World} {g n : Nat} {es : List E} {id a b r : Int} (hG : Gr F w g n es) (hk : Keep Nb w w') (h1 : addErr n es id a b = r) (h2 : addEs n es id a b = es) (h0 : r ≠ 0) :
  AddPost F w g n es id a b (.returned (.iface 47 (.int .i64 r))) w' := by
 refine ⟨by rw [h1, if_neg h0]; rfl, ?_, hk.of_nb⟩
 rw [h2]
 exact (hG.keep hk (fun _ _ h => h)).mono (fun _ h => .inl h)
set_option maxRecDepth 100000 in
set_option maxHeartbeats 1000000 in
theorem add_bad (F : Nat → Prop) (w : World) (g n : Nat) (es : List E) (id a b : Int) (hG : Gr F w g n es) (hb : addBad n id a b) :
  Calls Tryz.prog 131 #[.pointer (some ⟨g, 0, none⟩), .int .i64 id, .int .i64 a, .int .i64 b] w (AddPost F w g n es id a b) := by
 have hP : AddPost F w g n es id a b (.returned (.iface 47 (.int .i64 2))) w :=
  AddPost.err hG (Keep.refl Nb w) (by unfold addErr; rw [if_pos hb]) (by unfold addEs; rw [if_pos (.inl hb)]) (by omega)
 obtain ⟨o, c, hM⟩ := hG
 have c0 := hM.head.cell (i := 0) rfl
 have HP := Lib.hid hP
 clear hP hM
 unfold addBad at hb
 by_cases h1 : id < 0
 ·clear hb
  go_enter Tryz.func131, Tryz.ntmps131
  go_wp2
  go_ret
  exact HP.out
 ·by_cases h2 : 1099511627776 < id
  ·clear hb
   go_enter Tryz.func131, Tryz.ntmps131
   go_wp2
   go_ret
   exact HP.out
  ·by_cases h3 : a < 0
   ·clear hb
    go_enter Tryz.func131, Tryz.ntmps131
    go_wp2
    go_ret
    exact HP.out
   ·by_cases h4 : (n : Int) ≤ a
    ·clear hb
     go_enter Tryz.func131, Tryz.ntmps131
     go_wp2
     go_ret
     exact HP.out
    ·by_cases h5 : b < 0
     ·clear hb
      go_enter Tryz.func131, Tryz.ntmps131
      go_wp2
      go_ret
      exact HP.out
     ·have h6 : (n : Int) ≤ b := by omega
      clear hb
      go_enter Tryz.func131, Tryz.ntmps131
      go_wp2
      go_ret
      exact HP.out
end Go.Proofs.YtfglkgkihafcpaaGreatDoor
namespace Go.Proofs.YtfglkgkihafcpaaGreatDoor
open Go.RowKit Go.Lib Pl
theorem add_done {F : Nat → Prop} {w w1 w2 w3 : World} {g n c : Nat} {o : Option Addr} {es : List E} {i : Nat} {e : E} {id a b : Int} {v : Value} (hM : GrMem F w g n es o c) (hk1 : Keep Nb w w1) (hk2 : Keep Nb w1 w2) {e3 : Ending}
  (h3 : InsPost F w2 o es i e e3 w3) (he : e3 = .returned v) (hE : addEs n es id a b = ins es i e) (h0 : addErr n es id a b = 0) :
  AddPost F w g n es id a b (.returned .nilIface) (w3.setCell ⟨g, 1, none⟩ v) := by
 obtain ⟨q, c', h3a, hS, hK, hq⟩ := h3
 rw [h3a] at he
 cases he
 have hk12 := hk1.trans hk2
 have hlen : (ins es i e).length = es.length + 1 := by
  have := hS.len
  rw [ecs_length] at this; omega
 have hsz := hk12.size
 have hgw := hM.head.lt
 have hbl : ∀ k, Bl o k → F k ∧ k ≠ g := by
  rintro k ⟨x, hx, rfl⟩
  exact ⟨hM.s.foot x hx, hM.d x hx⟩
 have hhead : Row w3 g 119 [.int .i64 n, .slice o es.length c] := (hM.head.keep hk12 (fun h => h)).keep hK (fun h => (hbl _ h).2 rfl)
 have hqg : q ≠ g := by
  rcases hq with h | h
  ·exact hM.d _ h
  ·omega
 refine ⟨by rw [h0]; rfl, ⟨some ⟨q, 0, none⟩, c', ?_⟩, ?_⟩
 ·rw [hE]
  refine ⟨?_, .inl hM.hb, ?_, fun x hx => by cases hx; exact hqg⟩
  ·have := hhead.set (i := 1) (by simp) (.slice (some ⟨q, 0, none⟩) (es.length + 1) c')
   rw [hlen]
   exact this
  ·rw [hlen]
   exact (hS.mono (G := fun k => F k ∨ w.heap.size ≤ k) (fun k hk => by rcases hk with h | h; exact .inl h; exact .inr (by omega))).set_ne (p := ⟨g, 1, none⟩) (fun x hx => by cases hx; exact hqg) _
 ·exact ((hk12.of_nb).trans' hK (H := F) (fun _ _ h => h) (fun k _ h => (hbl k h).1)).setCell (.inl hM.hb) _
set_option maxRecDepth 100000 in
set_option maxHeartbeats 1000000 in
theorem add_any (F : Nat → Prop) (w : World) (g n : Nat) (es : List E) (id a b : Int) (hG : Gr F w g n es) (hF : ∀ k, F k → k < w.heap.size) (hs : Sorted es) (hn : n ≤ 40) (hl : es.length ≤ 120) :
  Calls Tryz.prog 131 #[.pointer (some ⟨g, 0, none⟩), .int .i64 id, .int .i64 a, .int .i64 b] w (AddPost F w g n es id a b) := by
 by_cases hb : addBad n id a b
 ·exact add_bad F w g n es id a b hG hb
 have HG := Lib.hid hG
 have HB := Lib.hid hb
 have HS := Lib.hid hs
 have HF := Lib.hid hF
 obtain ⟨o, c, hM⟩ := hG
 have c0 := hM.head.cell (i := 0) rfl
 have c1 := hM.head.cell (i := 1) rfl
 have HM := Lib.hid hM
 unfold addBad at hb
 obtain ⟨id, rfl⟩ : ∃ k : Nat, id = k := ⟨id.toNat, by omega⟩
 obtain ⟨a, rfl⟩ : ∃ k : Nat, a = k := ⟨a.toNat, by omega⟩
 obtain ⟨b, rfl⟩ : ∃ k : Nat, b = k := ⟨b.toNat, by omega⟩
 have hi1 : ¬ (1099511627776 < (id : Int)) := by omega
 have ha : a < n := by omega
 have hbn : b < n := by omega
 clear hb hM hs hF
 by_cases hab : a = b
 ·subst hab
  have hP : AddPost F w g n es id a a (.returned (.iface 47 (.int .i64 1))) w :=
   AddPost.err HG.out (Keep.refl Nb w) (by unfold addErr; rw [if_neg HB.out, if_pos rfl]) (by unfold addEs; rw [if_pos (.inr (.inl rfl))]) (by omega)
  have HP := Lib.hid hP
  clear hP
  go_enter Tryz.func131, Tryz.ntmps131
  go_wp2
  go_ret
  exact HP.out
 ·have HAB := Lib.hid (show ¬ ((a : Int) = (b : Int)) by omega)
  cases hh : hasId es id with
  | true =>
   have HH := Lib.hid hh
   clear hh
   go_enter Tryz.func131, Tryz.ntmps131
   go_wp2_with fail
   refine (find_any F w g n es id HG.out HS.out (by omega)).mono ?_
   rintro e1 w1 ⟨rfl, hk⟩
   have HK := Lib.hid hk
   clear hk
   rw [HH.out]
   go_wp2
   go_ret
   exact AddPost.err HG.out HK.out (by unfold addErr; rw [if_neg HB.out, if_neg HAB.out, if_pos HH.out]) (by unfold addEs; rw [if_pos (.inr (.inr (.inl HH.out)))]) (by omega)
  | false =>
   have HH := Lib.hid hh
   clear hh
   by_cases hfull : 120 ≤ es.length
   ·go_enter Tryz.func131, Tryz.ntmps131
    go_wp2_with fail
    refine (find_any F w g n es id HG.out HS.out (by omega)).mono ?_
    rintro e1 w1 ⟨rfl, hk⟩
    have c1' := hk.cell c1 (fun h => h)
    have HK := Lib.hid hk
    clear hk
    rw [HH.out]
    go_wp2
    go_ret
    exact AddPost.err HG.out HK.out (by unfold addErr; rw [if_neg HB.out, if_neg HAB.out, if_neg (by rw [HH.out]; simp), if_pos hfull]) (by unfold addEs; rw [if_pos (.inr (.inr (.inr hfull)))]) (by omega)
   ·have HE := Lib.hid (show addEs n es id a b = ins es (posOf es id) (mkE id a b) by
     unfold addEs; rw [if_neg (by rintro (h | h | h | h); exact HB.out h; exact HAB.out h; rw [HH.out] at h; cases h; exact hfull h)])
    have HR := Lib.hid (show addErr n es id a b = 0 by unfold addErr; rw [if_neg HB.out, if_neg HAB.out, if_neg (by rw [HH.out]; simp), if_neg hfull])
    have HMk := Lib.hid (show (ecells (mkE id a b)).toArray = #[.int .i64 id, .int .i64 (min (a : Int) b), .int .i64 (max (a : Int) b)] by
     unfold mkE ecells
     rw [show (((id : Int).toNat : Nat) : Int) = id by omega, show (((min (a : Int) b).toNat : Nat) : Int) = min (a : Int) b by omega, show (((max (a : Int) b).toNat : Nat) : Int) = max (a : Int) b by omega])
    go_enter Tryz.func131, Tryz.ntmps131
    go_wp2_with fail
    refine (find_any F w g n es id HG.out HS.out (by omega)).mono ?_
    rintro e1 w1 ⟨rfl, hk⟩
    have c1' := hk.cell c1 (fun h => h)
    have HK := Lib.hid hk
    have hgw : g < w1.heap.size := Nat.lt_of_lt_of_le HM.out.head.lt hk.size
    have hvF : ¬ F w1.heap.size := fun h => by have := HF.out _ h; have := hk.size; omega
    have HVF := Lib.hid hvF
    clear hk hvF
    rw [HH.out]
    go_wp2_with fail
    refine (insert_any F _ o c (posOf es id) es w1.heap.size (mkE id a b) ((HM.out.s.keep HK.out (fun _ _ h => h)).alloc _) (by omega) (by rw [HMk.out]; exact heap_alloc_new w1 _) HVF.out (posOf_le es id)).mono ?_
    intro e3 w3 h3
    have h3' := h3
    obtain ⟨q, c', rfl, _, hK3, _⟩ := h3'
    have hrow3 := ((HM.out.head.keep HK.out (fun h => h)).alloc (.cells #[.int .i64 id, .int .i64 (min (a : Int) b), .int .i64 (max (a : Int) b)] 125)).keep hK3 (fun h => by obtain ⟨x, hx, hxg⟩ := h; exact HM.out.d x hx hxg)
    have hx1 := hrow3.cell (i := 1) rfl
    have hx2 := hrow3.frozen 1 none
    clear hrow3
    have H3 := Lib.hid h3
    clear h3 hK3
    go_wp2
    go_ret
    exact add_done HM.out HK.out ((Keep.refl Nb _).alloc _) H3.out rfl HE.out HR.out
end Go.Proofs.YtfglkgkihafcpaaGreatDoor
namespace Go.Proofs.YtfglkgkihafcpaaGreatDoor
open Go.RowKit Go.Lib Pl
def GNewPost (w : World) (n : Nat) (e : Ending) (w' : World) : Prop :=
 e = .returned (.tuple #[.pointer (some ⟨w.heap.size, 0, none⟩), .nilIface]) ∧ Gr (fun k => k = w.heap.size) w' w.heap.size n [] ∧ Keep Nb w w' ∧ w'.heap.size = w.heap.size + 1
set_option maxRecDepth 100000 in
theorem gnew_any (w : World) (n : Nat) (hn : n ≤ 40) : Calls Tryz.prog 47 #[.int .i64 n] w (GNewPost w n) := by
 have h1 : ¬ (40 < (n : Int)) := by omega
 go_enter Tryz.func47, Tryz.ntmps47
 go_wp2
 go_ret2
 exact ⟨rfl, ⟨none, 0, Row.new w #[.int .i64 n, .slice none 0 0] 119, rfl, (Sl.nil _ w 125 3).alloc _, fun _ h => by cases h⟩, (Keep.refl Nb w).alloc _, by simp⟩
def EdgesPost (w : World) (es : List E) (e : Ending) (w' : World) : Prop :=
 ∃ o c, e = .returned (.slice o es.length c) ∧ Sl (fun k => w.heap.size ≤ k) w' 125 3 o es.length c (ecs es) ∧ Keep Nb w w'
theorem run_append_zero {P : Program} (w : World) (t ty e : TypeId) {z : Value} {size bytes : Nat} (ht : P.underlying t = some (.slice e)) (hE : ElemT P e z size bytes) (a b : Addr) (c c2 : Nat) :
  (Builtin.append_ #[t, t] ty #[.slice (some a) 0 c, .slice (some b) 0 c2]).run P w = .ok (.slice (some a) 0 c) w := by
 obtain ⟨i, hi, hz, hs, hb⟩ := info_parts hE
 simp [Builtin.append_, run_underlying ht, sizeOf, typeInfo, hi, Builtin.lenOf, Builtin.firstCells, loadCells, loadCellsFrom, storeCells]
set_option maxRecDepth 100000 in
theorem clone_any (F : Nat → Prop) (w : World) (o : Option Addr) (c : Nat) (es : List E) (hS : Sl F w 125 3 o es.length c (ecs es)) (hn : es.length ≤ 1000) :
  Calls Tryz.prog 106 #[.slice o es.length c] w (EdgesPost w es) := by
 have q22 : ∀ (w : World) (a : Option Addr) (n c n' c' : Nat), (binOp .eql (117) (.slice a n c) (.slice none n' c')).run Tryz.prog w = .ok (.bool a.isNone) w := fun w a n c n' c' => Lib.run_eql_slice_nil w _ _ a n c n' c' und_edges
 rcases hS.cases with ⟨rfl, h0, rfl, _⟩ | ⟨g, rfl, _, hnc, hcm, hrow, _⟩
 ·obtain rfl := List.eq_nil_of_length_eq_zero h0
  have HP : Hid (EdgesPost w [] (.returned (.slice none 0 0)) w) := Lib.hid ⟨none, 0, rfl, Sl.nil _ w _ 3, Keep.refl Nb w⟩
  clear hS
  simp only [List.length_nil]
  go_enter Tryz.func106, Tryz.ntmps106
  go_wp2
  go_ret
  exact HP.out
 ·have hS0 : Sl (fun k => k = w.heap.size) (w.alloc (.cells #[] 125)) 125 3 (some ⟨w.heap.size, 0, none⟩) 0 0 [] :=
   ⟨⟨rfl, .inr ⟨w.heap.size, 0, _, rfl, Nat.zero_le _, heap_alloc_new w _, Nat.le_refl _, Nat.zero_le _, rfl, rfl⟩⟩, fun a ha => by simp at ha; rw [← ha]⟩
  by_cases h0 : es = []
  ·subst h0
   have HP : Hid (EdgesPost w [] (.returned (.slice (some ⟨w.heap.size, 0, none⟩) 0 0)) (w.alloc (.cells #[] 125))) :=
    Lib.hid ⟨_, 0, rfl, hS0.mono (fun k hk => by omega), (Keep.refl Nb w).alloc _⟩
   have H0 := Lib.hid (fun (ty : TypeId) (W : World) => run_append_zero (P := Tryz.prog) W 117 ty 125 und_edges elem_edge ⟨w.heap.size, 0, none⟩ ⟨g, 0, none⟩ 0 c)
   clear hS hrow hS0 hcm
   simp only [List.length_nil]
   go_enter Tryz.func106, Tryz.ntmps106
   go_wp2_with ((at_builtin; refine wpList_app rfl _ _ _ rfl rfl rfl (H0.out _ _) ?_))
   go_ret
   exact HP.out
  ·have hpos : 0 < es.length := List.length_pos_iff.2 h0
   obtain ⟨q, c', w', h1, h2, h3, h4⟩ := run_app (P := Tryz.prog) (w := w.alloc (.cells #[] 125)) 117 117 125 und_edges elem_edge (by rfl) (by omega) hS0 ⟨g, 0, none⟩ es.length c (ecs es) (ecs_length es)
    (fun j u hj => by
     rw [show (⟨g, 0, none⟩ : Addr).add j = ⟨g, j, none⟩ from by unfold Addr.add; split <;> simp_all]
     exact (hrow.alloc _).cell hj) (ecs_one es) (by simp only [maxLen]; omega) (by omega) hpos
   simp only [Nat.zero_add, List.nil_append] at h1 h2
   have HP : Hid (EdgesPost w es (.returned (.slice (some ⟨q, 0, none⟩) es.length c')) w') :=
    Lib.hid ⟨_, c', rfl, h2.mono (fun k hk => by rcases hk with h | h; omega; simp at h; omega), ⟨h3.os, h3.tape, h3.output, by have := h3.size; simp at this; omega, fun k hk _ => by
     rw [h3.block k (by simp; omega) (by rintro ⟨a, ha, hb⟩; cases ha; simp at hb; omega)]
     exact Below.heap_alloc w _ k hk⟩⟩
   have H1 := Lib.hid h1
   clear h1 h2 h3 h4 hS hrow hS0 hcm
   go_enter Tryz.func106, Tryz.ntmps106
   go_wp2_with ((at_builtin; refine wpList_app rfl _ _ _ rfl rfl rfl H1.out ?_))
   go_ret
   exact HP.out
set_option maxRecDepth 100000 in
theorem edges_any (F : Nat → Prop) (w : World) (b n : Nat) (es : List E) (hG : Gr F w b n es) (hn : es.length ≤ 1000) :
  Calls Tryz.prog 78 #[.pointer (some ⟨b, 0, none⟩)] w (EdgesPost w es) := by
 obtain ⟨o, c, hM⟩ := hG
 have c1 := hM.head.cell (i := 1) rfl
 have HM := Lib.hid hM
 clear hM
 go_enter Tryz.func78, Tryz.ntmps78
 go_wp2_with fail
 refine (clone_any F w o c es HM.out.s hn).mono ?_
 rintro e1 w1 ⟨q, c', rfl, h1, h2⟩
 have H1 := Lib.hid h1
 have H2 := Lib.hid h2
 clear h1 h2
 go_wp2_with fail
 go_ret
 exact ⟨q, c', rfl, H1.out, H2.out⟩
end Go.Proofs.YtfglkgkihafcpaaGreatDoor
namespace Go.Proofs.YtfglkgkihafcpaaGreatDoor
open Go.RowKit Pl
set_option maxRecDepth 100000 in
theorem index_any (F : Nat → Prop) (w : World) (o : Option Addr) (c : Nat) (l : List Nat) (x : Nat) (hS : Sl F w 3 1 o l.length c (ints l)) (hn : l.length ≤ 1000) :
  Calls Tryz.prog 221 #[.slice o l.length c, .int .i64 x] w fun e w' => ∃ r : Int, e = .returned (.int .i64 r) ∧ (0 ≤ r ↔ x ∈ l) ∧ w' = w := by
 have HS := Lib.hid hS
 clear hS
 have HP : Hid (∀ i : Nat, l[i]? = some x → ∃ r : Int, Ending.returned (.int .i64 i) = .returned (.int .i64 r) ∧ (0 ≤ r ↔ x ∈ l)) :=
  Lib.hid (fun i hi => ⟨i, rfl, ⟨fun _ => List.mem_of_getElem? hi, fun _ => by omega⟩⟩)
 have HN : Hid ((∀ j : Nat, j < l.length → l[j]? ≠ some x) → ∃ r : Int, Ending.returned (.int .i64 (-1)) = .returned (.int .i64 r) ∧ (0 ≤ r ↔ x ∈ l)) :=
  Lib.hid (fun h => ⟨-1, rfl, ⟨fun h => by omega, fun h' => by
   obtain ⟨j, hj⟩ := List.mem_iff_getElem?.1 h'
   exact absurd hj (h j (List.getElem?_eq_some_iff.1 hj).1)⟩⟩)
 generalize hPP : (fun (e : Ending) (w' : World) => ∃ r : Int, e = .returned (.int .i64 r) ∧ (0 ≤ r ↔ x ∈ l) ∧ w' = w) = PP
 have HPP := Lib.hid hPP
 clear hPP
 go_enter Tryz.func221, Tryz.ntmps221
 go_wp2
 go_loop [8] (fun r => ∃ i : Nat, r = .int .i64 i ∧ i ≤ l.length ∧ Hid (∀ j : Nat, j < i → l[j]? ≠ some x)) (fun r => l.length - (intOf r).toNat)
 case atStart => exact ⟨0, rfl, Nat.zero_le _, Lib.hid (fun j hj => by omega)⟩
 case round =>
  obtain ⟨i, rfl, hi, HJ⟩ := hrel
  by_cases hlt : i < l.length
  ·obtain ⟨g, rfl, _, hnc, hrow⟩ := HS.out.pos (by omega)
   have hy := List.getElem?_eq_getElem hlt
   generalize l[i]'hlt = y at hy
   have c1 := hrow.cell (ints_get hy)
   have HY := Lib.hid hy
   clear hy hrow
   by_cases hxy : x = y
   ·subst hxy
    go_wp2
    obtain ⟨r, h1, h2⟩ := HP.out i HY.out
    rw [← HPP.out]
    exact ⟨r, h1, h2, rfl⟩
   ·have hxy' : ¬ ((x : Int) = (y : Int)) := by omega
    have HX := Lib.hid hxy
    clear hxy
    go_wp2
    go_round
    case rel => exact ⟨i + 1, rfl, by omega, Lib.hid (fun j hj => by
      by_cases e : j = i
      ·subst e; rw [HY.out]; intro h; exact HX.out (Option.some.inj h).symm
      ·exact HJ.out j (by omega))⟩
    case measure => simp [intOf]; omega
  ·go_wp2
   rw [← HPP.out]
   obtain ⟨r, h1, h2⟩ := HN.out (fun j hj => HJ.out j (by omega))
   exact ⟨r, h1, h2, rfl⟩
set_option maxRecDepth 100000 in
theorem contains_any (F : Nat → Prop) (w : World) (o : Option Addr) (c : Nat) (l : List Nat) (x : Nat) (hS : Sl F w 3 1 o l.length c (ints l)) (hn : l.length ≤ 1000) :
  Calls Tryz.prog 208 #[.slice o l.length c, .int .i64 x] w fun e w' => e = .returned (.bool (decide (x ∈ l))) ∧ w' = w := by
 have HS := Lib.hid hS
 clear hS
 go_enter Tryz.func208, Tryz.ntmps208
 go_wp2_with fail
 refine (index_any F w o c l x HS.out hn).mono ?_
 rintro e w1 ⟨r, rfl, hr, rfl⟩
 have HR := Lib.hid hr
 clear hr
 go_wp2_with fail
 go_ret
 exact ⟨by rw [← decide_eq_decide.2 HR.out]; rfl, rfl⟩
set_option maxRecDepth 100000 in
theorem other_any (w : World) (id a b x : Nat) :
  Calls Tryz.prog 214 #[.agg #[.int .i64 id, .int .i64 a, .int .i64 b], .int .i64 x] w fun e w' => e = .returned (.int .i64 ((if a = x then b else a : Nat) : Int)) ∧ Keep Nb w w' := by
 by_cases h : a = x
 ·subst h
  go_enter Tryz.func214, Tryz.ntmps214
  go_wp2
  go_ret
  exact ⟨by simp, (Keep.refl Nb w).alloc _⟩
 ·have h' : ¬ ((a : Int) = (x : Int)) := by omega
  have H := Lib.hid h
  clear h
  go_enter Tryz.func214, Tryz.ntmps214
  go_wp2
  go_ret
  refine ⟨?_, (Keep.refl Nb w).alloc _⟩
  rfl
end Go.Proofs.YtfglkgkihafcpaaGreatDoor
namespace Go.Proofs.YtfglkgkihafcpaaGreatDoor
open Go.RowKit Pl
def keeps (ed nd : List Nat) (e : E) : Bool := !decide (e.id ∈ ed) && !decide (e.a ∈ nd) && !decide (e.b ∈ nd)
def withoutEs (ed nd : List Nat) (es : List E) : List E := es.filter (keeps ed nd)
def WRel (w : World) (n : Nat) (ed nd : List Nat) (es : List E) (i : Nat) (q : Nat) (wr : World) : Prop :=
 q = w.heap.size ∧ Gr (fun k => w.heap.size ≤ k) wr q n (withoutEs ed nd (es.take i)) ∧ Keep Nb w wr
def WithoutPost (w : World) (n : Nat) (ed nd : List Nat) (es : List E) (e : Ending) (w' : World) : Prop :=
 e = .returned (.pointer (some ⟨w.heap.size, 0, none⟩)) ∧ Gr (fun k => w.heap.size ≤ k) w' w.heap.size n (withoutEs ed nd es) ∧ Keep Nb w w'
theorem withoutEs_succ {ed nd : List Nat} {es : List E} {i : Nat} {e : E} (h : es[i]? = some e) : withoutEs ed nd (es.take (i + 1)) = withoutEs ed nd (es.take i) ++ (if keeps ed nd e then [e] else []) := by
 unfold withoutEs
 rw [List.take_add_one, h]
 simp [List.filter_append, List.filter_cons]
theorem withoutEs_len (ed nd : List Nat) (es : List E) : (withoutEs ed nd es).length ≤ es.length := List.length_filter_le _ _
theorem WRel.skip {w wr w2 : World} {n : Nat} {ed nd : List Nat} {es : List E} {i q : Nat} {e : E} (h : WRel w n ed nd es i q wr) (he : es[i]? = some e) (hk : keeps ed nd e = false) (k : Keep Nb wr w2) : WRel w n ed nd es (i + 1) q w2 := by
 obtain ⟨h1, h2, h3⟩ := h
 refine ⟨h1, ?_, h3.trans k⟩
 rw [withoutEs_succ he, hk]
 simp only [Bool.false_eq_true, if_false, List.append_nil]
 exact h2.keep k (fun _ _ h => h)
theorem WRel.take {w wr w2 w3 : World} {n : Nat} {ed nd : List Nat} {es : List E} {i : Nat} {e : E} {o : Option Addr} {c : Nat} (hF : Keep Nb w wr) (hM : GrMem (fun k => w.heap.size ≤ k) wr w.heap.size n (withoutEs ed nd (es.take i)) o c) (he : es[i]? = some e) (hk : keeps ed nd e = true)
  (k : Keep Nb wr w2) {g c' m : Nat} (hm : m = (withoutEs ed nd (es.take i)).length) (hS : Sl (fun k => w.heap.size ≤ k ∨ k = w2.heap.size + 1) w3 125 3 (some ⟨g, 0, none⟩) (m + 1) c' (ecs (withoutEs ed nd (es.take i)) ++ ecells e)) (hk3 : Keep (Bl o) w2 w3) (hg : o = some ⟨g, 0, none⟩ ∨ g = w2.heap.size + 1) :
  WRel w n ed nd es (i + 1) w.heap.size (w3.setCell ⟨w.heap.size, 1, none⟩ (.slice (some ⟨g, 0, none⟩) (m + 1) c')) := by
 have hsz := k.size
 have hF1 := hF.size
 have hlt := hM.head.lt
 have hbl : ∀ j, Bl o j → w.heap.size ≤ j ∧ j ≠ w.heap.size := by
  rintro j ⟨x, hx, rfl⟩
  exact ⟨hM.s.foot x hx, hM.d x hx⟩
 have hgq : g ≠ w.heap.size := by
  rcases hg with h | h
  ·exact hM.d _ h
  ·omega
 have hhead := (hM.head.keep k (fun h => h)).keep hk3 (fun h => (hbl _ h).2 rfl)
 have hes : withoutEs ed nd (es.take (i + 1)) = withoutEs ed nd (es.take i) ++ [e] := by rw [withoutEs_succ he, hk]; rfl
 have hlen : (withoutEs ed nd (es.take (i + 1))).length = m + 1 := by rw [hes, List.length_append, ← hm]; rfl
 refine ⟨rfl, ⟨some ⟨g, 0, none⟩, c', ?_, ?_, ?_, ?_⟩, ?_⟩
 ·have := hhead.set (i := 1) (by simp) (.slice (some ⟨g, 0, none⟩) (m + 1) c')
  rw [hlen]
  exact this
 ·exact Nat.le_refl _
 ·rw [hlen, hes, ecs_append, ecs_cons, ecs_nil, List.append_nil]
  exact (hS.mono (G := fun k => w.heap.size ≤ k) (fun j hj => by rcases hj with h | h; exact h; omega)).set_ne (p := ⟨w.heap.size, 1, none⟩) (fun x hx => by cases hx; exact hgq) _
 ·intro x hx; cases hx; exact hgq
 ·exact ((hF.trans k).trans' hk3 (H := Nb) (fun _ _ h => h) (fun j hj h => by have := (hbl j h).1; omega)).setCell (.inr (Nat.le_refl _)) _
end Go.Proofs.YtfglkgkihafcpaaGreatDoor
namespace Go.Proofs.YtfglkgkihafcpaaGreatDoor
open Go.RowKit Pl
theorem step_app_run {P : Program} {ops : Array Oper} {o : Oper} {a : Act} {w : World} {K : Act → World → Prop} {Q : Exit → Act → World → Prop} {E : Prop}
  (hg : o.guard = none) (d x : Operand) (dT sT : TypeId) (hop : o.op = Op.call { callee := Callee.builtin Builtin.append, args := #[d, x], argTypes := #[dT, sT] })
  (v u : Value) (hd : a.eval d = v) (hx : a.eval x = u) {v' : Value} {w' : World} (hr : (Builtin.append_ #[dT, sT] o.type #[v, u]).run P w = .ok v' w') (hK : K (a.put o.dst v') w') :
  if Region.wanted o (yielded ops a.tmps) = true then Oper.wp P o a w K Q else E := by
 have hw : Region.wanted o (yielded ops a.tmps) = true := by simp [Region.wanted, hg]
 rw [if_pos hw]
 unfold Oper.wp
 simp [execOp, hop, resolve, invoke, builtin, hd, hx, hr, Result.andThen]
 exact hK
set_option maxRecDepth 100000 in
set_option maxHeartbeats 1000000 in
theorem without_any (F Fe Fn : Nat → Prop) (w : World) (b n : Nat) (es : List E) (oe on : Option Addr) (ce cn : Nat) (ed nd : List Nat) (hG : Gr F w b n es) (hn : es.length ≤ 1000)
  (hE : Sl Fe w 3 1 oe ed.length ce (ints ed)) (hN : Sl Fn w 3 1 on nd.length cn (ints nd)) (he : ed.length ≤ 1000) (hnl : nd.length ≤ 1000) :
  Calls Tryz.prog 177 #[.pointer (some ⟨b, 0, none⟩), .slice oe ed.length ce, .slice on nd.length cn] w (WithoutPost w n ed nd es) := by
 obtain ⟨o, c, hM⟩ := hG
 have c0 := hM.head.cell (i := 0) rfl
 have c1 := hM.head.cell (i := 1) rfl
 have hbw := hM.head.lt
 have HM := Lib.hid hM
 have HE := Lib.hid hE
 have HN := Lib.hid hN
 have H0 : Hid (WRel w n ed nd es 0 w.heap.size (w.alloc (.cells #[.int .i64 n, .slice none 0 0] 119))) :=
  Lib.hid ⟨rfl, ⟨none, 0, Row.new w #[.int .i64 n, .slice none 0 0] 119, Nat.le_refl _, (Sl.nil _ w 125 3).alloc _, fun _ h => by cases h⟩, (Keep.refl Nb w).alloc _⟩
 clear hM hE hN
 go_enter Tryz.func177, Tryz.ntmps177
 go_wp2
 go_loopg [21] es.length (fun kx s wr => ∃ i : Nat, s = .int .i64 i ∧ i ≤ es.length ∧ es.length - i ≤ kx ∧ Hid (WRel w n ed nd es i w.heap.size wr))
 case atStart => exact ⟨0, rfl, Nat.zero_le _, by omega, H0⟩
 case round =>
  clear H0
  obtain ⟨i, rfl, hi, hg, HR⟩ := hrel
  by_cases hlt : i < es.length
  ·obtain ⟨g, rfl, _, hnc, hrow⟩ := HM.out.s.pos (by omega)
   have hy := List.getElem?_eq_getElem hlt
   generalize es[i]'hlt = e at hy
   have hEr := hrow.edges.keep HR.out.2.2 id
   have d1 := hEr.id _ _ hy
   have d2 := hEr.a _ _ hy
   have d3 := hEr.b _ _ hy
   have HY := Lib.hid hy
   have HE1 := Lib.hid ((HE.out.keep HR.out.2.2 (fun _ _ h => h)).alloc (.cells #[.int .i64 e.id, .int .i64 e.a, .int .i64 e.b] 125))
   have HN1 := Lib.hid ((HN.out.keep HR.out.2.2 (fun _ _ h => h)).alloc (.cells #[.int .i64 e.id, .int .i64 e.a, .int .i64 e.b] 125))
   have HK := Lib.hid ((Keep.refl Nb wr).alloc (.cells #[.int .i64 e.id, .int .i64 e.a, .int .i64 e.b] 125))
   clear hy hrow hEr
   by_cases m1 : e.id ∈ ed
   ·go_wp2_with fail
    refine (contains_any Fe _ oe ce ed e.id HE1.out he).mono ?_
    rintro e1 w1 ⟨rfl, rfl⟩
    rw [decide_eq_true m1]
    go_wp2
    go_roundg (es.length - (i + 1))
    case measure => omega
    case rel => exact ⟨i + 1, rfl, by omega, Nat.le_refl _, Lib.hid (HR.out.skip HY.out (by simp [keeps, m1]) HK.out)⟩
   ·by_cases m2 : e.a ∈ nd
    ·go_wp2_with fail
     refine (contains_any Fe _ oe ce ed e.id HE1.out he).mono ?_
     rintro e1 w1 ⟨rfl, rfl⟩
     rw [decide_eq_false m1]
     go_wp2_with fail
     refine (contains_any Fn _ on cn nd e.a HN1.out hnl).mono ?_
     rintro e1 w1 ⟨rfl, rfl⟩
     rw [decide_eq_true m2]
     go_wp2
     go_roundg (es.length - (i + 1))
     case measure => omega
     case rel => exact ⟨i + 1, rfl, by omega, Nat.le_refl _, Lib.hid (HR.out.skip HY.out (by simp [keeps, m2]) HK.out)⟩
    ·by_cases m3 : e.b ∈ nd
     ·go_wp2_with fail
      refine (contains_any Fe _ oe ce ed e.id HE1.out he).mono ?_
      rintro e1 w1 ⟨rfl, rfl⟩
      rw [decide_eq_false m1]
      go_wp2_with fail
      refine (contains_any Fn _ on cn nd e.a HN1.out hnl).mono ?_
      rintro e1 w1 ⟨rfl, rfl⟩
      rw [decide_eq_false m2]
      go_wp2_with fail
      refine (contains_any Fn _ on cn nd e.b HN1.out hnl).mono ?_
      rintro e1 w1 ⟨rfl, rfl⟩
      rw [decide_eq_true m3]
      go_wp2
      go_roundg (es.length - (i + 1))
      case measure => omega
      case rel => exact ⟨i + 1, rfl, by omega, Nat.le_refl _, Lib.hid (HR.out.skip HY.out (by simp [keeps, m3]) HK.out)⟩
     ·obtain ⟨_, ⟨o2, c2, hM2⟩, hkw⟩ := HR.out
      have hle := withoutEs_len ed nd (es.take i)
      rw [List.length_take] at hle
      have hM3 := (hM2.alloc (.cells #[.int .i64 e.id, .int .i64 e.a, .int .i64 e.b] 125)).drew
      obtain ⟨gq, c', w3, h1, h2, h3, h4⟩ := run_appN (P := Tryz.prog) 117 117 125 und_edges elem_edge (by rfl) (by omega) hM3.s (ecells e) 1 (fun u hu => ecs_one [e] u (by simpa [ecs] using hu)) rfl (by omega) (by omega) (by omega)
      have hsz2 : (wr.alloc (.cells #[.int .i64 e.id, .int .i64 e.a, .int .i64 e.b] 125)).drew.heap.size = wr.heap.size + 1 := by simp
      have hrow3 := hM3.head.keep h3 (fun h => by obtain ⟨x, hx, hxg⟩ := h; exact hM3.d x hx hxg)
      have x1 := hM2.head.cell (i := 1) rfl
      have x2 := hrow3.cell (i := 1) rfl
      have x3 := hrow3.frozen 1 none
      have x4 := hM2.head.lt
      generalize hm : (withoutEs ed nd (es.take i)).length = m at *
      have HT := Lib.hid (WRel.take hkw hM2 HY.out (by simp [keeps, m1, m2, m3]) (HK.out.drew) hm.symm h2 h3 h4)
      rw [hsz2] at h1
      have H1 := Lib.hid h1
      have mixed : (Tryz.prog).follows Departure.mixedOrders = true := by kernel_rfl
      clear h1 h2 h3 h4 hM2 hM3 hrow3 hkw hsz2 hm
      go_wp2_with fail
      refine (contains_any Fe _ oe ce ed e.id HE1.out he).mono ?_
      rintro e1 w1 ⟨rfl, rfl⟩
      rw [decide_eq_false m1]
      go_wp2_with fail
      refine (contains_any Fn _ on cn nd e.a HN1.out hnl).mono ?_
      rintro e1 w1 ⟨rfl, rfl⟩
      rw [decide_eq_false m2]
      go_wp2_with fail
      refine (contains_any Fn _ on cn nd e.b HN1.out hnl).mono ?_
      rintro e1 w1 ⟨rfl, rfl⟩
      rw [decide_eq_false m3]
      go_wp2_with fail
      go_region_law_o (refine step_app_run rfl _ _ 117 117 rfl (.slice o2 m c2) (.slice (some ⟨wr.heap.size + 1, 0, none⟩) 1 1) (by simp [Act.eval, Act.put]) (by simp [Act.eval, Act.put]) H1.out ?_)
      all_goals
       (try go_wp2)
       go_roundg (es.length - (i + 1))
       case measure => omega
       case rel => exact ⟨i + 1, rfl, by omega, Nat.le_refl _, HT⟩
  ·obtain rfl : i = es.length := by omega
   have hP : WithoutPost w n ed nd es (.returned (.pointer (some ⟨w.heap.size, 0, none⟩))) wr := by
    obtain ⟨_, h2, h3⟩ := HR.out
    rw [List.take_length] at h2
    exact ⟨rfl, h2, h3⟩
   have HP := Lib.hid hP
   clear hP
   go_wp2
   go_ret
   exact HP.out
end Go.Proofs.YtfglkgkihafcpaaGreatDoor

