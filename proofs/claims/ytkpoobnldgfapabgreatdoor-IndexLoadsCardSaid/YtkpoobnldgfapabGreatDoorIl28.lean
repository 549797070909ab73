/- Part 28 of the proof: SortP RSort. -/
import Derived.Test.YtkpoobnldgfapabGreatDoorIl23
import Derived.Test.YtkpoobnldgfapabGreatDoorIl25
import Derived.Shelf.SlSortFuncK.WholeK
import Derived.Ground.GgsProg
import Derived.Shelf.GgSortFunc.Tiny
import Derived.Test.YtkpoobnldgfapabGreatDoorProg
import Derived.BigQuiet
import Derived.Deep.QuietTactic
set_option linter.unusedVariables false
set_option linter.unusedSimpArgs false
namespace Go.Proofs
open Go.Shelf
def Tryz.sortSl_ren : Go.Shelf.Ren := ⟨fun | 6 => 88 | 10 => 143 | 11 => 144 | 12 => 145 | 13 => 146 | 14 => 147 | 24 => 214 | 25 => 215 | 26 => 216 | 27 => 217 | 28 => 218 | 29 => 219 | 30 => 220 | 31 => 221 | 32 => 222 | 33 => 223 | 34 => 286 | 35 => 287 | 36 => 288 | 37 => 289 | 38 => 290 | 39 => 322 | n => n, fun | 20 => 20 | 26 => 40 | 35 => 199 | 0 => 0 | 37 => 139 | 3 => 3 | 41 => 161 | 44 => 205 | 49 => 182 | 51 => 101 | 4 => 4 | 54 => 265 | 53 => 264 | 58 => 145 | 5 => 5 | 9 => 9 | 60 => 316 | 64 => 319 | 66 => 351 | 67 => 352 | 17 => 17 | 32 => 196 | 33 => 197 | 82 => 393 | 12 => 12 | 75 => 388 | 76 => 324 | 77 => 389 | 78 => 223 | 79 => 390 | 80 => 391 | n => n, fun | n => n⟩
theorem Tryz.sortSl : Go.Proofs.LaysGg.n6 Tryz.prog Tryz.sortSl_ren := {
  mixed := by kernel_rfl
  f6 := Tryz.func88.trans (congrArg some (by kernel_rfl))
  f10 := Tryz.func143.trans (congrArg some (by kernel_rfl))
  f11 := Tryz.func144.trans (congrArg some (by kernel_rfl))
  f12 := Tryz.func145.trans (congrArg some (by kernel_rfl))
  f13 := Tryz.func146.trans (congrArg some (by kernel_rfl))
  f14 := Tryz.func147.trans (congrArg some (by kernel_rfl))
  f24 := Tryz.func214.trans (congrArg some (by kernel_rfl))
  f25 := Tryz.func215.trans (congrArg some (by kernel_rfl))
  f26 := Tryz.func216.trans (congrArg some (by kernel_rfl))
  f27 := Tryz.func217.trans (congrArg some (by kernel_rfl))
  f28 := Tryz.func218.trans (congrArg some (by kernel_rfl))
  f29 := Tryz.func219.trans (congrArg some (by kernel_rfl))
  f30 := Tryz.func220.trans (congrArg some (by kernel_rfl))
  f31 := Tryz.func221.trans (congrArg some (by kernel_rfl))
  f32 := Tryz.func222.trans (congrArg some (by kernel_rfl))
  f33 := Tryz.func223.trans (congrArg some (by kernel_rfl))
  f34 := Tryz.func286.trans (congrArg some (by kernel_rfl))
  f35 := Tryz.func287.trans (congrArg some (by kernel_rfl))
  f36 := Tryz.func288.trans (congrArg some (by kernel_rfl))
  f37 := Tryz.func289.trans (congrArg some (by kernel_rfl))
  f38 := Tryz.func290.trans (congrArg some (by kernel_rfl))
  f39 := Tryz.func322.trans (congrArg some (by kernel_rfl))
  t0 := Tryz.underlying0
  a0 := Tryz.isAgg0
  z0 := Tryz.sizeOf0
  v0 := Tryz.zeroValue0
  i0 := by kernel_rfl
  t3 := Tryz.underlying3
  a3 := Tryz.isAgg3
  z3 := Tryz.sizeOf3
  v3 := Tryz.zeroValue3
  i3 := by kernel_rfl
  t4 := Tryz.underlying4
  a4 := Tryz.isAgg4
  z4 := Tryz.sizeOf4
  v4 := Tryz.zeroValue4
  i4 := by kernel_rfl
  t5 := Tryz.underlying5
  a5 := Tryz.isAgg5
  z5 := Tryz.sizeOf5
  v5 := Tryz.zeroValue5
  i5 := by kernel_rfl
  t9 := Tryz.underlying9
  a9 := Tryz.isAgg9
  z9 := Tryz.sizeOf9
  v9 := Tryz.zeroValue9
  i9 := by kernel_rfl
  t12 := Tryz.underlying12
  a12 := Tryz.isAgg12
  z12 := Tryz.sizeOf12
  v12 := Tryz.zeroValue12
  i12 := by kernel_rfl
  t17 := Tryz.underlying17
  a17 := Tryz.isAgg17
  z17 := Tryz.sizeOf17
  v17 := Tryz.zeroValue17
  i17 := by kernel_rfl
  t20 := Tryz.underlying20
  a20 := Tryz.isAgg20
  z20 := Tryz.sizeOf20
  v20 := Tryz.zeroValue20
  i20 := by kernel_rfl
  t26 := Tryz.underlying40
  a26 := Tryz.isAgg40
  z26 := Tryz.sizeOf40
  v26 := Tryz.zeroValue40
  i26 := by kernel_rfl
  t32 := Tryz.underlying196
  a32 := Tryz.isAgg196
  z32 := Tryz.sizeOf196
  v32 := Tryz.zeroValue196
  i32 := by kernel_rfl
  t33 := Tryz.underlying197
  a33 := Tryz.isAgg197
  z33 := Tryz.sizeOf197
  v33 := Tryz.zeroValue197
  i33 := by kernel_rfl
  t35 := Tryz.underlying199
  a35 := Tryz.isAgg199
  z35 := Tryz.sizeOf199
  v35 := Tryz.zeroValue199
  i35 := by kernel_rfl
  t37 := Tryz.underlying139
  a37 := Tryz.isAgg139
  z37 := Tryz.sizeOf139
  v37 := Tryz.zeroValue139
  i37 := by kernel_rfl
  t41 := Tryz.underlying161
  a41 := Tryz.isAgg161
  z41 := Tryz.sizeOf161
  v41 := Tryz.zeroValue161
  i41 := by kernel_rfl
  t44 := Tryz.underlying205
  a44 := Tryz.isAgg205
  z44 := Tryz.sizeOf205
  v44 := Tryz.zeroValue205
  i44 := by kernel_rfl
  t49 := Tryz.underlying182
  a49 := Tryz.isAgg182
  z49 := Tryz.sizeOf182
  v49 := Tryz.zeroValue182
  i49 := by kernel_rfl
  t51 := Tryz.underlying101
  a51 := Tryz.isAgg101
  z51 := Tryz.sizeOf101
  v51 := Tryz.zeroValue101
  i51 := by kernel_rfl
  t53 := Tryz.underlying264
  a53 := Tryz.isAgg264
  z53 := Tryz.sizeOf264
  v53 := Tryz.zeroValue264
  i53 := by kernel_rfl
  t54 := Tryz.underlying265
  a54 := Tryz.isAgg265
  z54 := Tryz.sizeOf265
  v54 := Tryz.zeroValue265
  i54 := by kernel_rfl
  t58 := Tryz.underlying145
  a58 := Tryz.isAgg145
  z58 := Tryz.sizeOf145
  v58 := Tryz.zeroValue145
  i58 := by kernel_rfl
  t60 := Tryz.underlying316
  a60 := Tryz.isAgg316
  z60 := Tryz.sizeOf316
  v60 := Tryz.zeroValue316
  i60 := by kernel_rfl
  t64 := Tryz.underlying319
  a64 := Tryz.isAgg319
  z64 := Tryz.sizeOf319
  v64 := Tryz.zeroValue319
  i64 := by kernel_rfl
  t66 := Tryz.underlying351
  a66 := Tryz.isAgg351
  z66 := Tryz.sizeOf351
  v66 := Tryz.zeroValue351
  i66 := by kernel_rfl
  t67 := Tryz.underlying352
  a67 := Tryz.isAgg352
  z67 := Tryz.sizeOf352
  v67 := Tryz.zeroValue352
  i67 := by kernel_rfl
  t75 := Tryz.underlying388
  a75 := Tryz.isAgg388
  z75 := Tryz.sizeOf388
  v75 := Tryz.zeroValue388
  i75 := by kernel_rfl
  t76 := Tryz.underlying324
  a76 := Tryz.isAgg324
  z76 := Tryz.sizeOf324
  v76 := Tryz.zeroValue324
  i76 := by kernel_rfl
  t77 := Tryz.underlying389
  a77 := Tryz.isAgg389
  z77 := Tryz.sizeOf389
  v77 := Tryz.zeroValue389
  i77 := by kernel_rfl
  t78 := Tryz.underlying223
  a78 := Tryz.isAgg223
  z78 := Tryz.sizeOf223
  v78 := Tryz.zeroValue223
  i78 := by kernel_rfl
  t79 := Tryz.underlying390
  a79 := Tryz.isAgg390
  z79 := Tryz.sizeOf390
  v79 := Tryz.zeroValue390
  i79 := by kernel_rfl
  t80 := Tryz.underlying391
  a80 := Tryz.isAgg391
  z80 := Tryz.sizeOf391
  v80 := Tryz.zeroValue391
  i80 := by kernel_rfl
  t82 := Tryz.underlying393
  a82 := Tryz.isAgg393
  z82 := Tryz.sizeOf393
  v82 := Tryz.zeroValue393
  i82 := by kernel_rfl }
end Go.Proofs

namespace Go.Proofs.YtkpoobnldgfapabGreatDoor
open Go.RowKit Pl
instance instE : Inhabited E := ⟨⟨0, 0, 0⟩⟩
def ltE (a b : E) : Bool := decide (a.id < b.id)
theorem swo_ltE : Go.Sort.SWO ltE where
  irrefl := fun x => by simp [ltE]
  trans := fun x y z h1 h2 => by simp [ltE] at *; omega
  ntrans := fun x y z h1 h2 => by simp [ltE] at *; omega
noncomputable def seT : TypeInfo := (Tryz.prog.info? 38).get (by kernel_rfl)
noncomputable def seE : TypeInfo := (Tryz.prog.info? 42).get (by kernel_rfl)
theorem seK (n : Nat) (h2 : 2 ≤ n) : Lib.swapperK n seE 25 = 9 := by
  have a : seE.hasPointers = false := by kernel_rfl
  have b : seE.bytes = 24 := by kernel_rfl
  have c : (n == 0) = false := by simp; omega
  have d : (n == 1) = false := by simp; omega
  simp [Lib.swapperK, a, b, c, d]
set_option maxRecDepth 100000 in
/-- The closure by which is sorted. -/
theorem sort_less (blk c Bs size : Nat) (W : World) (G : Nat → Nat) (hs : W.cell? ⟨Bs, 0, none⟩ = some (.slice (some ⟨blk, 0, none⟩) size c))
    (hc : ∀ t, t < size → W.cell? ⟨blk, t * 3, none⟩ = some (.int .i64 (G t))) (i j : Nat) (hi : i < size) (hj : j < size) :
    Calls Tryz.prog 89 #[.int .i64 i, .int .i64 j, .pointer (some ⟨Bs, 0, none⟩)] W fun e w' => e = .returned (.bool (decide (G i < G j))) ∧ ∃ q, w' = W.drewN q := by
  have ci := hc i hi
  have cj := hc j hj
  obtain ⟨x, hx⟩ : ∃ x, G i = x := ⟨_, rfl⟩
  obtain ⟨y, hy⟩ : ∃ y, G j = y := ⟨_, rfl⟩
  rw [hx] at ci ⊢
  rw [hy] at cj ⊢
  clear hc hx hy
  have hr : decide ((x : Int) < (y : Int)) = decide (x < y) := by rw [Bool.eq_iff_iff, decide_eq_true_eq, decide_eq_true_eq]; omega
  go_enter Tryz.func89, Tryz.ntmps89
  go_wp2_with fail
  go_quiet (fail)
  go_wp2_with fail
  go_ret
  exact ⟨by first | rfl | rw [hr] | simp, nq, rfl⟩
theorem ecs_flat (es : List E) (t : Nat) (ht : t < es.length * 3) : (ecs es)[t]? = some ((Go.Sort.flatK ecells 3 es.toArray)[t]!) := by
  have hi : t / 3 < es.length := by omega
  obtain ⟨e, he⟩ : ∃ e, es[t / 3]? = some e := ⟨_, List.getElem?_eq_getElem hi⟩
  obtain ⟨h0, h1, h2⟩ := ecs_get he
  have hd : es.toArray[t / 3]! = e := by
    rw [getElem!_pos es.toArray (t / 3) (by simpa using hi)]
    obtain ⟨_, h⟩ := List.getElem?_eq_some_iff.1 he
    simpa using h
  rw [Go.Sort.get_flatK _ _ _ _ (by simpa using ht), hd]
  have hm : t % 3 = 0 ∨ t % 3 = 1 ∨ t % 3 = 2 := by omega
  rcases hm with h | h | h
  · have e : (ecs es)[t]? = (ecs es)[t / 3 * 3]? := by congr 1; omega
    rw [e, h0, h]; rfl
  · have e' : (ecs es)[t]? = (ecs es)[t / 3 * 3 + 1]? := by congr 1; omega
    rw [e', h1, h]; rfl
  · have e' : (ecs es)[t]? = (ecs es)[t / 3 * 3 + 2]? := by congr 1; omega
    rw [e', h2, h]; rfl
theorem holdsE {w : World} {blk : Nat} {T : TypeId} {es : List E} (h : Row w blk T (ecs es)) : Go.Sort.HoldsK ecells 3 w blk 0 es.toArray := by
  intro j hj
  have hj' : j < es.length * 3 := by simpa using hj
  rw [Nat.zero_add]
  exact ⟨h.cell (ecs_flat es j hj'), h.frozen j none⟩
theorem sorted_row {F : Nat → Prop} {w : World} {blk n c m : Nat} {es ds : List E} (hS : Sl F w 42 3 (some ⟨blk, 0, none⟩) n c (ecs es)) (hn : 0 < n) (hl : ds.length = es.length) (os : Array Obj) :
    Sl F (Go.Sort.grow (Go.Sort.putRowK ecells 3 (Go.Sort.ahead w m) blk 0 ds.toArray) os) 42 3 (some ⟨blk, 0, none⟩) n c (ecs ds) ∧ Keep (fun k => k = blk) w (Go.Sort.grow (Go.Sort.putRowK ecells 3 (Go.Sort.ahead w m) blk 0 ds.toArray) os) := by
  have hes : es.length * 3 = n * 3 := by have := hS.len; rw [ecs_length] at this; exact this
  rcases hS.cases with ⟨h0, _⟩ | ⟨g', e1, hF, hnc, hcm, hrow, cur, hg, hcs⟩
  · cases h0
  · cases e1
    have hlt : blk < w.heap.size := hrow.lt
    have hheap : (Go.Sort.grow (Go.Sort.putRowK ecells 3 (Go.Sort.ahead w m) blk 0 ds.toArray) os).heap = w.heap.modify blk (Go.Sort.onCells (Go.Sort.putCells id 0 (Go.Sort.flatK ecells 3 ds.toArray))) ++ os := rfl
    constructor
    · refine ⟨⟨by rw [ecs_length, hl]; exact hes, .inr ⟨blk, c, Go.Sort.putCells id 0 (Go.Sort.flatK ecells 3 ds.toArray) cur, rfl, Nat.zero_le _, ?_, hnc, hcm, ?_, ?_⟩⟩, hS.foot⟩
      · rw [hheap, Array.getElem?_append_left (by simpa using hlt), Array.getElem?_modify, if_pos rfl, hg]
        rfl
      · unfold Go.Sort.putCells; simpa using hcs
      · apply List.ext_getElem?
        intro t
        rw [List.getElem?_take]
        by_cases ht : t < n * 3
        · rw [if_pos ht, ecs_flat ds t (by rw [hl]; omega)]
          have htc : t < cur.size := by rw [hcs]; have := Nat.mul_le_mul_right 3 hnc; omega
          rw [Array.getElem?_toList]
          unfold Go.Sort.putCells
          rw [Array.getElem?_mapIdx, Array.getElem?_eq_getElem htc]
          have hsz : t < 0 + (Go.Sort.flatK ecells 3 ds.toArray).size := by rw [Go.Sort.size_flatK]; simp; omega
          rw [Option.map_some, if_pos ⟨Nat.zero_le _, hsz⟩]
          rfl
        · rw [if_neg ht, List.getElem?_eq_none (by rw [ecs_length, hl]; omega)]
    · refine ⟨rfl, rfl, rfl, ?_, fun k hk hne => ?_⟩
      · rw [hheap]; simp
      · rw [hheap, Array.getElem?_append_left (by simpa using hk), Array.getElem?_modify, if_neg (fun e => hne e.symm)]
theorem grow_keep (F : Nat → Prop) (w : World) (os : Array Obj) : Keep F w (Go.Sort.grow w os) := by
  refine ⟨rfl, rfl, rfl, ?_, fun k hk _ => ?_⟩
  · show w.heap.size ≤ (w.heap ++ os).size; simp
  · show (w.heap ++ os)[k]? = w.heap[k]?
    rw [Array.getElem?_append_left hk]
def SortPost (w : World) (blk n c : Nat) (es : List E) (e : Ending) (w' : World) : Prop :=
  e = .returned (.tuple #[]) ∧ ∃ ds : List E, ds.Perm es ∧ ds.Pairwise (fun a b => ¬ b.id < a.id) ∧ Sl (fun k => k = blk) w' 42 3 (some ⟨blk, 0, none⟩) n c (ecs ds) ∧ Keep (fun k => k = blk) w w'
set_option maxRecDepth 100000 in
theorem sort_any (w : World) (blk c Bs n : Nat) (es : List E) (hln : es.length = n) (hS : Sl (fun k => k = blk) w 42 3 (some ⟨blk, 0, none⟩) n c (ecs es)) (hB : w.cell? ⟨Bs, 0, none⟩ = some (.slice (some ⟨blk, 0, none⟩) n c)) (hne : Bs ≠ blk) (hn : n ≤ 1000) :
    Calls Tryz.prog 88 #[.iface 38 (.slice (some ⟨blk, 0, none⟩) n c), .func (.func 89) #[] #[.pointer (some ⟨Bs, 0, none⟩)]] w (SortPost w blk n c es) := by
  by_cases h2 : 2 ≤ n
  · have hrow : Row w blk 42 (ecs es) := by
      obtain ⟨g, e, _, _, h⟩ := hS.pos (by omega)
      cases e
      exact h
    have hblk : blk < w.heap.size := hrow.lt
    have hBs : Bs < w.heap.size := World.block_lt_of_cell? _ _ hB
    have hH := holdsE hrow
    have hsz : es.toArray.size = n := by simpa using hln
    have hless : Go.Proofs.LessReadsK Tryz.prog 89 #[.pointer (some ⟨Bs, 0, none⟩)] ecells 3 ltE blk 0 n w := by
      intro m os dk hs i j hi hj
      have e : Go.Proofs.sortWorldK ecells 3 w blk 0 m dk os = Go.Sort.putRowK ecells 3 (Go.Sort.grow (Go.Sort.ahead w m) os) blk 0 dk := by
        unfold Go.Proofs.sortWorldK; rw [Go.Sort.putRowK_grow _ _ (Go.Sort.ahead w m) _ blk 0 _ hblk]
      have hHg : Go.Sort.HoldsK ecells 3 (Go.Sort.grow (Go.Sort.ahead w m) os) blk 0 es.toArray := Go.Sort.holdsK_grow _ _ _ _ blk 0 _ hblk (Go.Sort.holdsK_ahead _ _ _ _ _ _ _ hH)
      refine sort_less blk c Bs n _ (fun t => dk[t]!.id) ?_ (fun t ht => ?_) i j hi hj
      · rw [e, Go.Sort.cell?_putRowK_other _ _ _ blk 0 dk _ (by exact hne), Go.Sort.cell?_grow _ _ _ (by exact hBs)]; exact hB
      · rw [e]
        have := ((Go.Sort.holdsK_putRowK _ _ _ blk 0 _ dk hHg (by omega)).cell (i := t) (c := 0) (by omega) (by omega)).1
        rw [Nat.zero_add, Nat.add_zero] at this
        exact this
    have hf : Tryz.prog.funcs.findIdx? (·.name == "internal/reflectlite" ++ ".Swapper$" ++ toString (Lib.swapperK es.toArray.size seE 25)) = some 213 := by
      rw [hsz, seK _ h2]; kernel_rfl
    have hc := Any.sort_Slice_cells_sorted Tryz.sortSl 38 42 seT seE (by kernel_rfl) (by kernel_rfl) (by kernel_rfl) (by kernel_rfl) 25 (fun _ => by kernel_rfl) ecells 3 (fun _ => rfl) (by kernel_rfl) (fun _ => by kernel_rfl)
      (fun x v hv => by simp [ecells] at hv; rcases hv with rfl | rfl | rfl <;> rfl) ltE swo_ltE 89 #[.pointer (some ⟨Bs, 0, none⟩)]
      (enters_of Tryz.func89 (by kernel_rfl) rfl) blk 0 c es.toArray (by omega) (by omega) 213 hf false
      (fun args W => run_callFunc_extern Tryz.func213 (by kernel_rfl) (by kernel_rfl) (by kernel_rfl) (e := Extern.ReflectliteSwapper.swap false) (by kernel_rfl) args W) w (by rw [hsz]; exact hless) hH hblk
    rw [hsz] at hc
    refine hc.mono ?_
    rintro e w' ⟨rfl, d', m, os, hp, hso, rfl⟩
    obtain ⟨p1, _, p3⟩ := hp
    have hd : d'.size = n := by omega
    have hl : d'.toList.length = es.length := by simp; omega
    have hr := sorted_row (m := m) hS (by omega) hl os
    rw [Array.toArray_toList] at hr
    refine ⟨rfl, d'.toList, ?_, ?_, hr.1, hr.2⟩
    · have e1 : d'.extract 0 n = d' := by rw [← hd]; simp
      have e2 : es.toArray.extract 0 n = es.toArray := by rw [← hsz]; simp
      rw [e1, e2] at p3
      simpa using p3
    · rw [List.pairwise_iff_getElem]
      intro i j hi hj hij
      have h := hso i j (Nat.zero_le _) hij (by simp at hj; omega)
      rw [getElem!_pos d' i (by simpa using hi), getElem!_pos d' j (by simpa using hj)] at h
      simp only [ltE, decide_eq_false_iff_not] at h
      simpa using h
  · have h1 : n ≤ 1 := by omega
    obtain ⟨f, hf⟩ : ∃ f, Tryz.prog.funcs.findIdx? (·.name == "internal/reflectlite" ++ ".Swapper$" ++ toString (Lib.swapperK n seE 25)) = some f := by
      have : n = 0 ∨ n = 1 := by omega
      rcases this with rfl | rfl
      · exact ⟨205, by kernel_rfl⟩
      · exact ⟨206, by kernel_rfl⟩
    have hc := Any.sort_Slice_tiny Tryz.sortSl 38 42 seT seE (by kernel_rfl) (by kernel_rfl) (by kernel_rfl) (by kernel_rfl) 25 (fun _ => by kernel_rfl) (some ⟨blk, 0, none⟩) n c h1 f hf (.func 89) #[] #[.pointer (some ⟨Bs, 0, none⟩)] w
    refine hc.mono ?_
    rintro e w' ⟨rfl, os, rfl⟩
    refine ⟨rfl, es, List.Perm.refl _, ?_, hS.keep (grow_keep Nb w os) (fun _ _ e => e), grow_keep _ w os⟩
    match es, hln with
    | [], _ => exact List.Pairwise.nil
    | [e], _ => exact List.pairwise_singleton _ _
    | _ :: _ :: _, h => simp at h; omega
def RSortPost (w : World) (es : List E) (e : Ending) (w' : World) : Prop :=
  ∃ (ds : List E) (o : Option Addr) (c : Nat), e = .returned (.slice o es.length c) ∧ ds.Perm es ∧ ds.Pairwise (fun a b => ¬ b.id < a.id) ∧ Sl (fun k => w.heap.size ≤ k) w' 42 3 o es.length c (ecs ds) ∧ Keep Nb w w'
set_option maxRecDepth 100000 in
set_option maxHeartbeats 1000000 in
theorem rsorted_any (F : Nat → Prop) (w : World) (g n : Nat) (es : List E) (hG : RGr F w g n es) (hl : es.length ≤ 1000) :
    Calls Tryz.prog 24 #[.pointer (some ⟨g, 0, none⟩)] w (RSortPost w es) := by
  obtain ⟨o, c, hM⟩ := hG
  have c1 := hM.head.cell (i := 1) rfl
  have hgw := hM.head.lt
  obtain ⟨q, cq, w1, r1, S1, K1⟩ := run_app_copy (P := Tryz.prog) (w := w) 38 38 42 und_edges elem_edge (by rfl) (by omega) hM.s (ecs_one es) (by omega) (by omega)
  have R1 := Lib.hid r1
  have HS1 := Lib.hid S1
  have HK1 := Lib.hid K1
  obtain ⟨n', hn'⟩ : ∃ m, es.length = m := ⟨_, rfl⟩
  have HN := Lib.hid hn'
  rw [hn'] at c1 R1 HS1 hl
  clear r1 S1 K1 hM hn'
  go_enter Tryz.func24, Tryz.ntmps24
  go_wp2_with (at_builtin; refine wpList_app rfl _ _ _ rfl rfl rfl R1.out ?_)
  have hq : q < w1.heap.size ∧ w.heap.size ≤ q := by
    refine ⟨?_, HS1.out.foot _ rfl⟩
    rcases HS1.out.cases with ⟨h0, _⟩ | ⟨g', e1, _, _, _, hrow, _⟩
    · cases h0
    · cases e1; exact hrow.lt
  have HQ := Lib.hid hq
  have z1 := Lib.hid (HK1.out.size)
  refine (sort_any _ q cq w1.heap.size n' es HN.out ⟨(HS1.out.alloc _).own, fun a ha => by cases ha; rfl⟩ (by rw [World.cell?_alloc_at _ _ _ _ rfl]; rfl) (by omega) hl).mono ?_
  rintro e w2 ⟨rfl, ds, hp, hs, hS2, hk2⟩
  have c2 := hk2.cell (p := ⟨w1.heap.size, 0, none⟩) (v := .slice (some ⟨q, 0, none⟩) n' cq) (by rw [World.cell?_alloc_at _ _ _ _ rfl]; rfl) (by show ¬ w1.heap.size = q; omega)
  have HP : Hid (RSortPost w es (.returned (.slice (some ⟨q, 0, none⟩) n' cq)) w2) := Lib.hid (by
    have hz := z1.out
    refine ⟨ds, _, cq, by rw [HN.out], hp, hs, by rw [HN.out]; exact hS2.mono (fun k hk => by rw [hk]; exact HQ.out.2), ?_⟩
    exact (HK1.out.trans ((Keep.refl Nb w1).alloc _)).trans' hk2 (fun _ _ e => e) (fun k hk e => by have := HQ.out.2; show False; omega))
  clear hp hs hS2 hk2 hq c1
  go_wp2_with fail
  go_ret
  exact HP.out
end Go.Proofs.YtkpoobnldgfapabGreatDoor

