/- Part 22 of the proof: B5 ShelfC LSame. -/
import Derived.Test.YtkpoobnldgfapabGreatDoorIb01
import Derived.Test.YtkpoobnldgfapabGreatDoorIb05
import Derived.Test.YtkpoobnldgfapabGreatDoorIb12
import Derived.Test.YtkpoobnldgfapabGreatDoorIb13
import Derived.Shelf.SlIterI.Nil
import Derived.Shelf.SortM.Plain
import Derived.Shelf.SortM.SortNone
import Derived.Ground.GgzProg
import Derived.Ground.SlgmProg
import Derived.Test.YtkpoobnldgfapabGreatDoorProg
import Derived.Shelf.Slices.In.Clone
import Derived.Shelf.Slices.In.CompactI
import Derived.Shelf.SlSortCmp.NoneTotal
import Derived.Ground.Names2Prog
import Derived.Ground.SlsfProg
import Derived.Deep.LoopGhost
import Derived.Deep.QuietTactic
import Derived.BigQuiet
set_option linter.unusedVariables false
set_option linter.unusedSimpArgs false
namespace Go.Proofs.YtkpoobnldgfapabGreatDoor
open Go.RowKit Go.Maps Go.Sort Go.Shelf Go.WideElems
theorem insert_perm {H : Type} (x : Lit × DataW H) (l : List (Lit × DataW H)) : (DataW.insert x l).Perm (x :: l) := by
  induction l with
  | nil => exact List.Perm.refl _
  | cons y r ih =>
    unfold DataW.insert
    split
    · exact List.Perm.refl _
    · exact (List.Perm.cons y ih).trans (List.Perm.swap _ _ _)
theorem foldr_insert_perm {H : Type} (l : List (Lit × DataW H)) : (l.foldr DataW.insert []).Perm l := by
  induction l with
  | nil => exact List.Perm.refl _
  | cons x l ih => exact (insert_perm x _).trans (List.Perm.cons x ih)
theorem MapAt.owns {H : Type} {P : Program} {k e : TypeId} {w : World} {b : Nat} {m : List (Nat × Value)} (hk : P.underlying k = some (.int .i64)) (he : P.underlying e = some .bool) (h : MapAt encN DN w b m) (hl : m.length ≤ 1000) (hv : ∀ q, q ∈ m → q.2 = .bool true) :
    ∃ D0 : DataW H, w.ownsMap P k (plainElem P e) b m.length D0 ∧ Maps.size D0 = m.length ∧ (intKeys D0).Perm (m.map (fun p => ((p.1 : Nat) : Int))) := by
  obtain ⟨es, clock, hb, hm, hD, hn, hs, hc⟩ := h
  have hlen : es.toList.length = m.length := by have := congrArg List.length hm; simpa using this
  have hkey : ∀ q, q ∈ m → keyOf P k (encN q.1) = some (.int .i64 q.1) := fun q hq => by
    have := hD q hq
    exact keyOf_int_mk hk (by
      unfold DN at this
      have h1 : IntKind.i64.min = -9223372036854775808 := by decide
      have h2 : IntKind.i64.max = 9223372036854775807 := by decide
      simp only [Lit.wf, h1, h2, Bool.and_eq_true, decide_eq_true_eq]
      omega)
  have hel : plainElem (H := H) P e (.bool true) = some (.lit (.bool true), []) := by simp [plainElem, he]
  let g : Value × Value → Option (Lit × DataW H) := fun kv => (keyOf P k kv.1).bind fun key => (plainElem (H := H) P e kv.2).map fun y => (key, y.1)
  have hg : ∀ q, q ∈ m → g (encN q.1, q.2) = some (.int .i64 q.1, .lit (.bool true)) := fun q hq => by
    show ((keyOf P k (encN q.1)).bind fun key => (plainElem (H := H) P e q.2).map fun y => (key, y.1)) = _
    rw [hkey q hq, hv q hq, hel]; rfl
  have hrd : ∀ x, x ∈ es.toList → ∃ q, q ∈ m ∧ rd P k (plainElem (H := H) P e) x = some (.int .i64 q.1, .lit (.bool true)) := fun x hx => by
    have : (x.key, x.val) ∈ m.map (fun p => (encN p.1, p.2)) := hm ▸ List.mem_map.2 ⟨x, hx, rfl⟩
    obtain ⟨q, hq, hqe⟩ := List.mem_map.1 this
    simp only [Prod.mk.injEq] at hqe
    refine ⟨q, hq, ?_⟩
    have := hg q hq
    rw [hqe.1, hqe.2] at this
    exact this
  have hrg : es.toList.map (rg P k (plainElem (H := H) P e)) = m.map (fun q => ((.int .i64 q.1, .lit (.bool true)) : Lit × DataW H)) := by
    have e1 : es.toList.map (rg P k (plainElem (H := H) P e)) = (es.toList.map (fun x => (x.key, x.val))).map (fun kv => (g kv).getD (.bool false, .nil)) := by rw [List.map_map]; rfl
    rw [e1, hm, List.map_map]
    exact List.map_congr_left fun q hq => by
      show (g (encN q.1, q.2)).getD _ = _
      rw [hg q hq]; rfl
  refine ⟨.map ((es.toList.map (rg P k (plainElem (H := H) P e))).foldr DataW.insert []), ⟨es, clock, hb, ⟨?_, ⟨hc, hs, ?_⟩, fun x hx => ?_⟩, ?_, rfl⟩, ?_, ?_⟩
  · have : es.size = m.length := by simpa using hlen
    rw [this]; simp only [maxLen]; omega
  · have e2 : es.toList.map (·.key) = m.map (fun p => encN p.1) := by
      have := congrArg (List.map Prod.fst) hm
      rw [List.map_map, List.map_map] at this
      exact this
    rw [e2]
    unfold List.Nodup
    rw [List.pairwise_map]
    exact hn.imp fun h e => h (by simp only [encN, Value.int.injEq, true_and] at e; omega)
  · obtain ⟨q, _, hq⟩ := hrd x hx
    exact ⟨_, hq⟩
  · have : es.size = m.length := by simpa using hlen
    omega
  · rw [hrg]
    show ((m.map _).foldr DataW.insert []).length = m.length
    rw [(foldr_insert_perm _).length_eq, List.length_map]
  · rw [hrg]
    exact (List.Perm.map _ (foldr_insert_perm _)).trans (List.Perm.of_eq (by rw [List.map_map]; rfl))
end Go.Proofs.YtkpoobnldgfapabGreatDoor
namespace Go.Proofs
open Go.Shelf
def Tryz.keysA_ren : Go.Shelf.Ren := ⟨fun | 7 => 99 | 10 => 152 | n => n, fun | 23 => 118 | 26 => 3 | 3 => 4 | 28 => 131 | 0 => 0 | 27 => 130 | 33 => 107 | 4 => 4 | n => n, fun | n => n⟩
theorem Tryz.keysA : Go.Proofs.SlLaysZI.n7 Tryz.prog Tryz.keysA_ren := {
  mixed := by kernel_rfl
  f7 := ⟨Tryz.f99.name, by decide, Tryz.func99.trans (congrArg some (by kernel_rfl))⟩
  f10 := ⟨Tryz.f152.name, by decide, Tryz.func152.trans (congrArg some (by kernel_rfl))⟩
  t0 := Tryz.underlying0
  a0 := Tryz.isAgg0
  z0 := Tryz.sizeOf0
  v0 := Tryz.zeroValue0
  t4 := Tryz.underlying4
  a4 := Tryz.isAgg4
  z4 := Tryz.sizeOf4
  v4 := Tryz.zeroValue4
  t23 := Tryz.underlying118
  a23 := Tryz.isAgg118
  z23 := Tryz.sizeOf118
  v23 := Tryz.zeroValue118
  t26 := Tryz.underlying3
  a26 := Tryz.isAgg3
  z26 := Tryz.sizeOf3
  v26 := Tryz.zeroValue3
  t27 := Tryz.underlying130
  a27 := Tryz.isAgg130
  z27 := Tryz.sizeOf130
  v27 := Tryz.zeroValue130
  t28 := Tryz.underlying131
  a28 := Tryz.isAgg131
  z28 := Tryz.sizeOf131
  v28 := Tryz.zeroValue131
  t33 := Tryz.underlying107
  a33 := Tryz.isAgg107
  z33 := Tryz.sizeOf107
  v33 := Tryz.zeroValue107 }
def Tryz.sortedA_ren : Go.Shelf.Ren := ⟨fun | 6 => 98 | 8 => 151 | 9 => 103 | 11 => 225 | 13 => 146 | 12 => 154 | 23 => 214 | 24 => 215 | 14 => 228 | 15 => 229 | 16 => 230 | 17 => 231 | 18 => 232 | 19 => 233 | 20 => 234 | 21 => 235 | 22 => 236 | 25 => 295 | 26 => 296 | 27 => 297 | 28 => 298 | 29 => 299 | 30 => 300 | 31 => 326 | n => n, fun | 26 => 3 | 28 => 131 | 24 => 33 | 0 => 0 | 3 => 3 | 37 => 161 | 48 => 182 | 50 => 101 | 4 => 4 | 40 => 277 | 39 => 276 | 45 => 145 | 5 => 5 | 9 => 9 | 51 => 329 | 55 => 319 | 57 => 363 | 58 => 352 | 33 => 107 | n => n, fun | n => n⟩
theorem Tryz.sortedA : Go.Proofs.SlLaysZI.n6 Tryz.prog Tryz.sortedA_ren := {
  mixed := by kernel_rfl
  f6 := ⟨Tryz.f98.name, by decide, Tryz.func98.trans (congrArg some (by kernel_rfl))⟩
  f8 := ⟨Tryz.f151.name, by decide, Tryz.func151.trans (congrArg some (by kernel_rfl))⟩
  f11 := ⟨Tryz.f225.name, by decide, Tryz.func225.trans (congrArg some (by kernel_rfl))⟩
  t0 := Tryz.underlying0
  a0 := Tryz.isAgg0
  z0 := Tryz.sizeOf0
  v0 := Tryz.zeroValue0
  t24 := Tryz.underlying33
  a24 := Tryz.isAgg33
  z24 := Tryz.sizeOf33
  v24 := Tryz.zeroValue33
  t26 := Tryz.underlying3
  a26 := Tryz.isAgg3
  z26 := Tryz.sizeOf3
  v26 := Tryz.zeroValue3
  t28 := Tryz.underlying131
  a28 := Tryz.isAgg131
  z28 := Tryz.sizeOf131
  v28 := Tryz.zeroValue131
  i26 := by kernel_rfl }
def Tryz.sortA_ren : Go.Shelf.Ren := ⟨fun | 5 => 103 | 8 => 146 | 7 => 154 | 19 => 214 | 20 => 215 | 10 => 228 | 11 => 229 | 12 => 230 | 13 => 231 | 14 => 232 | 15 => 233 | 16 => 234 | 17 => 235 | 18 => 236 | 30 => 295 | 31 => 296 | 32 => 297 | 33 => 298 | 34 => 299 | 35 => 300 | 40 => 326 | n => n, fun | 23 => 33 | 25 => 3 | 3 => 3 | 32 => 161 | 22 => 33 | 0 => 0 | 44 => 182 | 46 => 101 | 4 => 4 | 36 => 277 | 35 => 276 | 41 => 145 | 5 => 5 | 9 => 9 | 53 => 329 | 57 => 319 | 63 => 363 | 64 => 352 | n => n, fun | n => n⟩
theorem Tryz.sortA : Go.Proofs.SlLaysM.n5 Tryz.prog Tryz.sortA_ren := {
  mixed := by kernel_rfl
  f5 := ⟨Tryz.f103.name, by decide, Tryz.func103.trans (congrArg some (by kernel_rfl))⟩
  f7 := ⟨Tryz.f154.name, by decide, Tryz.func154.trans (congrArg some (by kernel_rfl))⟩
  f8 := Tryz.func146.trans (congrArg some (by kernel_rfl))
  f10 := ⟨Tryz.f228.name, by decide, Tryz.func228.trans (congrArg some (by kernel_rfl))⟩
  f11 := ⟨Tryz.f229.name, by decide, Tryz.func229.trans (congrArg some (by kernel_rfl))⟩
  f12 := ⟨Tryz.f230.name, by decide, Tryz.func230.trans (congrArg some (by kernel_rfl))⟩
  f13 := ⟨Tryz.f231.name, by decide, Tryz.func231.trans (congrArg some (by kernel_rfl))⟩
  f14 := ⟨Tryz.f232.name, by decide, Tryz.func232.trans (congrArg some (by kernel_rfl))⟩
  f15 := ⟨Tryz.f233.name, by decide, Tryz.func233.trans (congrArg some (by kernel_rfl))⟩
  f16 := ⟨Tryz.f234.name, by decide, Tryz.func234.trans (congrArg some (by kernel_rfl))⟩
  f17 := ⟨Tryz.f235.name, by decide, Tryz.func235.trans (congrArg some (by kernel_rfl))⟩
  f18 := ⟨Tryz.f236.name, by decide, Tryz.func236.trans (congrArg some (by kernel_rfl))⟩
  f19 := Tryz.func214.trans (congrArg some (by kernel_rfl))
  f20 := Tryz.func215.trans (congrArg some (by kernel_rfl))
  f30 := ⟨Tryz.f295.name, by decide, Tryz.func295.trans (congrArg some (by kernel_rfl))⟩
  f31 := Tryz.func296.trans (congrArg some (by kernel_rfl))
  f32 := Tryz.func297.trans (congrArg some (by kernel_rfl))
  f33 := ⟨Tryz.f298.name, by decide, Tryz.func298.trans (congrArg some (by kernel_rfl))⟩
  f34 := ⟨Tryz.f299.name, by decide, Tryz.func299.trans (congrArg some (by kernel_rfl))⟩
  f35 := ⟨Tryz.f300.name, by decide, Tryz.func300.trans (congrArg some (by kernel_rfl))⟩
  f40 := ⟨Tryz.f326.name, by decide, Tryz.func326.trans (congrArg some (by kernel_rfl))⟩
  t0 := Tryz.underlying0
  a0 := Tryz.isAgg0
  z0 := Tryz.sizeOf0
  v0 := Tryz.zeroValue0
  t3 := Tryz.underlying3
  a3 := Tryz.isAgg3
  z3 := Tryz.sizeOf3
  v3 := Tryz.zeroValue3
  t4 := Tryz.underlying4
  a4 := Tryz.isAgg4
  z4 := Tryz.sizeOf4
  v4 := Tryz.zeroValue4
  t5 := Tryz.underlying5
  a5 := Tryz.isAgg5
  z5 := Tryz.sizeOf5
  v5 := Tryz.zeroValue5
  t9 := Tryz.underlying9
  a9 := Tryz.isAgg9
  z9 := Tryz.sizeOf9
  v9 := Tryz.zeroValue9
  t22 := Tryz.underlying33
  a22 := Tryz.isAgg33
  z22 := Tryz.sizeOf33
  v22 := Tryz.zeroValue33
  t23 := Tryz.underlying33
  a23 := Tryz.isAgg33
  z23 := Tryz.sizeOf33
  v23 := Tryz.zeroValue33
  t25 := Tryz.underlying3
  a25 := Tryz.isAgg3
  z25 := Tryz.sizeOf3
  v25 := Tryz.zeroValue3
  t32 := Tryz.underlying161
  a32 := Tryz.isAgg161
  z32 := Tryz.sizeOf161
  v32 := Tryz.zeroValue161
  t35 := Tryz.underlying276
  a35 := Tryz.isAgg276
  z35 := Tryz.sizeOf276
  v35 := Tryz.zeroValue276
  t36 := Tryz.underlying277
  a36 := Tryz.isAgg277
  z36 := Tryz.sizeOf277
  v36 := Tryz.zeroValue277
  t41 := Tryz.underlying145
  a41 := Tryz.isAgg145
  z41 := Tryz.sizeOf145
  v41 := Tryz.zeroValue145
  t44 := Tryz.underlying182
  a44 := Tryz.isAgg182
  z44 := Tryz.sizeOf182
  v44 := Tryz.zeroValue182
  t46 := Tryz.underlying101
  a46 := Tryz.isAgg101
  z46 := Tryz.sizeOf101
  v46 := Tryz.zeroValue101
  t53 := Tryz.underlying329
  a53 := Tryz.isAgg329
  z53 := Tryz.sizeOf329
  v53 := Tryz.zeroValue329
  t57 := Tryz.underlying319
  a57 := Tryz.isAgg319
  z57 := Tryz.sizeOf319
  v57 := Tryz.zeroValue319
  t63 := Tryz.underlying363
  a63 := Tryz.isAgg363
  z63 := Tryz.sizeOf363
  v63 := Tryz.zeroValue363
  t64 := Tryz.underlying352
  a64 := Tryz.isAgg352
  z64 := Tryz.sizeOf352
  v64 := Tryz.zeroValue352 }
end Go.Proofs
namespace Go.Proofs.YtkpoobnldgfapabGreatDoor
open Go.RowKit Pl Go.Maps Go.Sort Go.Shelf
theorem sortsA (m : Nat) : AnyZI.SortsIn Tryz.prog Tryz.sortedA_ren Fence.wide m :=
  ⟨fun blk off cap ss W hH hblk hsz => callsIn_wide.2 (AnyM.slices_Sort_int Tryz.sortA blk off cap ss W hH hblk hsz),
   fun p cap W => callsIn_wide.2 (AnyM.slices_Sort_int_none Tryz.sortA p cap W)⟩
theorem keys_any (mb : Option Nat) (w : World) : Calls Tryz.prog 99 #[.map mb] w fun e w' => e = .returned (.func (.func 152) #[] #[.pointer (some ⟨w.heap.size, 0, none⟩)]) ∧ w' = w.alloc (.cells #[.map mb] 118) :=
  callsIn_wide.1 (AnyZI.keys_in Tryz.keysA Fence.wide 5 trivial rfl mb w)
theorem Sl.of_row {w : World} {base : Nat} {T : TypeId} {sz : Nat} {v : Value} {n : Nat} {l : List Value} (h : w.ownsRow base T sz v n l) : ∃ o c, v = .slice o n c ∧ Sl (fun k => base ≤ k) w T sz o n c l := by
  rcases h.2 with ⟨rfl, rfl⟩ | ⟨g, cap, cur, rfl, hb, rest⟩
  · exact ⟨none, 0, rfl, ⟨⟨h.1, .inl ⟨rfl, rfl⟩⟩, fun a ha => by cases ha⟩⟩
  · exact ⟨_, _, rfl, ⟨⟨h.1, .inr ⟨g, cap, cur, rfl, Nat.zero_le _, rest⟩⟩, fun a ha => by cases ha; exact hb⟩⟩
def SortedPost (w : World) (b : Nat) (m : List (Nat × Value)) (e : Ending) (w' : World) : Prop :=
  ∃ (l : List Nat) (o : Option Addr) (c : Nat), e = .returned (.slice o l.length c) ∧ Sl (fun k => w.heap.size ≤ k) w' 3 1 o l.length c (ints l) ∧ l.Perm (m.map (·.1)) ∧ l.Pairwise (· < ·) ∧ Keep Nb w w'
theorem sorted_any (w : World) (b : Nat) (m : List (Nat × Value)) (h : MapAt encN DN w b m) (hl : m.length ≤ 1000) (hv : ∀ q, q ∈ m → q.2 = .bool true) (q : Nat) (hq : w.cell? ⟨q, 0, none⟩ = some (.map (some b))) :
    Calls Tryz.prog 98 #[.func (.func 152) #[] #[.pointer (some ⟨q, 0, none⟩)]] w (SortedPost w b m) := by
  obtain ⟨D0, h1, h2, h3⟩ := h.owns (H := Unit) (P := Tryz.prog) Tryz.underlying3 Tryz.underlying4 hl hv
  have hseq : SeqGives Fence.wide 2 Tryz.prog 152 #[.pointer (some ⟨q, 0, none⟩)] encZ (fun ss => ss.Perm (intKeys D0)) (Maps.size D0) w :=
    AnyZI.keys_gives (ρ := Tryz.keysA_ren) { Tryz.keysA with } Fence.wide _ trivial rfl (by omega) q b m.length D0 w (World.block_lt_of_cell? w _ hq) hq h1
  have cS := AnyZI.sorted_in Tryz.sortedA Fence.wide 5 trivial trivial trivial trivial rfl (by omega) (sortsA _) (enters_of Tryz.func103 (by kernel_rfl) rfl) 152 #[.pointer (some ⟨q, 0, none⟩)] trivial (enters_of Tryz.func152 (by kernel_rfl) rfl) _ (Maps.size D0) (by rw [h2]; simp only [maxLen]; omega) (by rw [h2]; omega) w hseq
  change CallsIn _ _ Tryz.prog 98 _ _ _ at cS
  refine (callsIn_wide.1 cS).mono ?_
  rintro e w' ⟨v, ss, rfl, hp, hrow, hnil, hb⟩
  obtain ⟨o, c, rfl, hS⟩ := Sl.of_row hrow
  have hpp := hp.trans h3
  have hsp : (ss.mergeSort (fun x y => decide (x ≤ y))).Perm ss := List.mergeSort_perm _ _
  have hcast : ∀ x, x ∈ ss.mergeSort (fun x y => decide (x ≤ y)) → ((x.toNat : Nat) : Int) = x := fun x hx => by
    have := hpp.mem_iff.1 (hsp.mem_iff.1 hx)
    obtain ⟨p, _, rfl⟩ := List.mem_map.1 this
    omega
  have hints : ints ((ss.mergeSort (fun x y => decide (x ≤ y))).map Int.toNat) = (ss.mergeSort (fun x y => decide (x ≤ y))).map encZ := by
    unfold ints
    rw [List.map_map]
    exact List.map_congr_left fun x hx => by
      show Value.int .i64 ((x.toNat : Nat) : Int) = Value.int .i64 x
      rw [hcast x hx]
  have hlen : ss.length = ((ss.mergeSort (fun x y => decide (x ≤ y))).map Int.toNat).length := by rw [List.length_map, hsp.length_eq]
  have hperm : ((ss.mergeSort (fun x y => decide (x ≤ y))).map Int.toNat).Perm (m.map (·.1)) := by
    have := (hsp.trans hpp).map Int.toNat
    rw [List.map_map] at this
    refine this.trans (List.Perm.of_eq (List.map_congr_left fun p _ => ?_))
    show ((p.1 : Int)).toNat = p.1
    omega
  have hnd : ((ss.mergeSort (fun x y => decide (x ≤ y))).map Int.toNat).Nodup := by
    refine hperm.nodup_iff.2 ?_
    unfold List.Nodup
    rw [List.pairwise_map]
    exact h.nodup
  have hsort : (ss.mergeSort (fun x y => decide (x ≤ y))).Pairwise (fun x y => x ≤ y) := by
    have := List.pairwise_mergeSort (le := fun (x y : Int) => decide (x ≤ y)) (fun a b c h1 h2 => by simp at h1 h2 ⊢; omega) (fun a b => by simp; omega) ss
    exact this.imp fun h => by simpa using h
  refine ⟨(ss.mergeSort (fun x y => decide (x ≤ y))).map Int.toNat, o, c, by rw [hlen], ?_, hperm, ?_, Keep.below hb⟩
  · rw [hints, ← hlen]; exact hS
  · have h5 : ((ss.mergeSort (fun x y => decide (x ≤ y))).map Int.toNat).Pairwise (fun x y => x ≤ y) := by
      rw [List.pairwise_map]
      exact hsort.imp fun h => Int.toNat_le_toNat h
    exact (h5.and hnd).imp fun ⟨a, b⟩ => Nat.lt_of_le_of_ne a b
structure BridgeIds (es : List E) (l : List Nat) : Prop where
  sorted : l.Pairwise (· < ·)
  mem : ∀ id, id ∈ l ↔ ∃ e, e ∈ es ∧ e.id = id ∧ ¬ Conn (ends (sans es [e.id])) e.a e.b
theorem BridgeIds.count {n : Nat} {es : List E} {l : List Nat} {T : Nat → Nat} {up : Nat → Option (Nat × Nat)} (h : BridgeIds es l) (hB : BInv n es T up) : cnt n (isRoot T) = cnt n (isRoot (labs (ends es))) + l.length := by
  rw [hB.ids_len (h.sorted.imp fun h => Nat.ne_of_lt h) (fun id => (h.mem id).trans hB.ids_iff.symm)]
  exact hB.count
theorem BridgeIds.unique {es fs : List E} {l m : List Nat} (h : BridgeIds es l) (g : BridgeIds fs m) (hm : ∀ id, id ∈ l ↔ id ∈ m) : l = m :=
  List.Perm.eq_of_pairwise (fun a b _ _ h1 h2 => by omega) h.sorted g.sorted ((List.perm_ext_iff_of_nodup (h.sorted.imp fun h => Nat.ne_of_lt h) (g.sorted.imp fun h => Nat.ne_of_lt h)).2 hm)
def IdsPost (F : Nat → Prop) (w : World) (b n : Nat) (es : List E) (e : Ending) (w' : World) : Prop :=
  ∃ (l : List Nat) (o : Option Addr) (c : Nat), e = .returned (.slice o l.length c) ∧ Sl (fun k => w.heap.size ≤ k) w' 3 1 o l.length c (ints l) ∧ BridgeIds es l ∧ Brs F w' b n es ∧ Keep Nb w w' ∧ l.length ≤ es.length
set_option maxRecDepth 100000 in
theorem ids_any (F : Nat → Prop) (w : World) (b n : Nat) (es : List E) (hB : Brs F w b n es) (hl : es.length ≤ 1000) :
    Calls Tryz.prog 32 #[.pointer (some ⟨b, 0, none⟩)] w (IdsPost F w b n es) := by
  have HBB := Lib.hid hB
  obtain ⟨ws, ts, um, im, Fw, Ft, T, mU, mI, up, h, hU, hI, hInv, hsm⟩ := hB
  have c3 := h.head.cell (i := 3) rfl
  have hsub : ∀ x, x ∈ mI.map (·.1) → x ∈ es.map (·.id) := fun x hx => by
    have h1 := (hI.1 x).1 (mem_keys_iff.1 hx)
    obtain ⟨e, he, hid, _⟩ := hInv.ids_iff.1 h1
    exact List.mem_map.2 ⟨e, he, hid⟩
  have hnd : (mI.map (·.1)).Nodup := by
    unfold List.Nodup
    rw [List.pairwise_map]
    exact h.mi.nodup
  have hlen : mI.length ≤ es.length := by
    have := len_le_of_mem hnd hsub
    simpa using this
  have HM := Lib.hid h.mi
  have HI := Lib.hid hI
  have HInv := Lib.hid hInv
  clear h hU hI hInv hsm hsub hnd
  go_enter Tryz.func32, Tryz.ntmps32
  go_wp2_with fail
  refine (keys_any (some im) _).mono ?_
  rintro e w1 ⟨rfl, rfl⟩
  go_wp2_with fail
  refine (sorted_any _ im mI (HM.out.alloc _) (by omega) HI.out.2 w.heap.size (by rw [World.cell?_alloc_at _ _ _ _ rfl]; rfl)).mono ?_
  rintro e w2 ⟨l, o, c, rfl, hS, hp, hs, hk⟩
  have hk2 : Keep Nb w w2 := ((Keep.refl Nb w).alloc _).trans hk
  have HP : Hid (IdsPost F w b n es (.returned (.slice o l.length c)) w2) := Lib.hid (by
    refine ⟨l, o, c, rfl, hS.mono (fun k hk => by simp only [World.size_alloc] at hk; omega), ⟨hs, fun id => ?_⟩, HBB.out.keep hk2 (fun _ _ e => e), hk2, by rw [hp.length_eq, List.length_map]; exact hlen⟩
    rw [hp.mem_iff, mem_keys_iff, HI.out.1 id]
    exact HInv.out.ids_iff)
  clear hS hp hs hk hk2
  go_wp2_with fail
  go_ret
  exact HP.out
end Go.Proofs.YtkpoobnldgfapabGreatDoor

namespace Go.Proofs
open Go.Shelf
def Tryz.cloneC_ren : Go.Shelf.Ren := ⟨fun | 15 => 108 | n => n, fun | 22 => 33 | 3 => 3 | 4 => 4 | n => n, fun | n => n⟩
theorem Tryz.cloneC : Go.Proofs.Lays2.n15 Tryz.prog Tryz.cloneC_ren := {
  mixed := by kernel_rfl
  f15 := Tryz.func108.trans (congrArg some (by kernel_rfl))
  t3 := Tryz.underlying3
  a3 := Tryz.isAgg3
  z3 := Tryz.sizeOf3
  v3 := Tryz.zeroValue3
  t4 := Tryz.underlying4
  a4 := Tryz.isAgg4
  z4 := Tryz.sizeOf4
  v4 := Tryz.zeroValue4
  t22 := Tryz.underlying33
  a22 := Tryz.isAgg33
  z22 := Tryz.sizeOf33
  v22 := Tryz.zeroValue33
  i3 := by kernel_rfl }
def Tryz.compactC_ren : Go.Shelf.Ren := ⟨fun | 20 => 106 | n => n, fun | 22 => 33 | 3 => 3 | 4 => 4 | 0 => 0 | n => n, fun | n => n⟩
theorem Tryz.compactC : Go.Proofs.Lays2.n20 Tryz.prog Tryz.compactC_ren := {
  mixed := by kernel_rfl
  f20 := Tryz.func106.trans (congrArg some (by kernel_rfl))
  t0 := Tryz.underlying0
  a0 := Tryz.isAgg0
  z0 := Tryz.sizeOf0
  v0 := Tryz.zeroValue0
  t3 := Tryz.underlying3
  a3 := Tryz.isAgg3
  z3 := Tryz.sizeOf3
  v3 := Tryz.zeroValue3
  t4 := Tryz.underlying4
  a4 := Tryz.isAgg4
  z4 := Tryz.sizeOf4
  v4 := Tryz.zeroValue4
  t22 := Tryz.underlying33
  a22 := Tryz.isAgg33
  z22 := Tryz.sizeOf33
  v22 := Tryz.zeroValue33
  i3 := by kernel_rfl }
def Tryz.sortC_ren : Go.Shelf.Ren := ⟨fun | 6 => 104 | 15 => 146 | 14 => 155 | 28 => 214 | 29 => 215 | 20 => 237 | 21 => 238 | 22 => 239 | 23 => 240 | 24 => 241 | 25 => 242 | 26 => 243 | 27 => 244 | 46 => 301 | 47 => 296 | 48 => 297 | 49 => 302 | 50 => 303 | 57 => 327 | n => n, fun | 22 => 29 | 24 => 33 | 25 => 142 | 3 => 3 | 39 => 161 | 0 => 0 | 53 => 182 | 55 => 101 | 4 => 4 | 46 => 277 | 45 => 276 | 50 => 145 | 5 => 5 | 9 => 9 | 66 => 329 | 70 => 319 | 76 => 363 | 77 => 352 | n => n, fun | n => n⟩
theorem Tryz.sortC : Go.Proofs.SlLaysF.n6 Tryz.prog Tryz.sortC_ren := {
  mixed := by kernel_rfl
  f6 := ⟨Tryz.f104.name, by decide, Tryz.func104.trans (congrArg some (by kernel_rfl))⟩
  f14 := ⟨Tryz.f155.name, by decide, Tryz.func155.trans (congrArg some (by kernel_rfl))⟩
  f15 := Tryz.func146.trans (congrArg some (by kernel_rfl))
  f20 := ⟨Tryz.f237.name, by decide, Tryz.func237.trans (congrArg some (by kernel_rfl))⟩
  f21 := ⟨Tryz.f238.name, by decide, Tryz.func238.trans (congrArg some (by kernel_rfl))⟩
  f22 := ⟨Tryz.f239.name, by decide, Tryz.func239.trans (congrArg some (by kernel_rfl))⟩
  f23 := ⟨Tryz.f240.name, by decide, Tryz.func240.trans (congrArg some (by kernel_rfl))⟩
  f24 := ⟨Tryz.f241.name, by decide, Tryz.func241.trans (congrArg some (by kernel_rfl))⟩
  f25 := ⟨Tryz.f242.name, by decide, Tryz.func242.trans (congrArg some (by kernel_rfl))⟩
  f26 := ⟨Tryz.f243.name, by decide, Tryz.func243.trans (congrArg some (by kernel_rfl))⟩
  f27 := ⟨Tryz.f244.name, by decide, Tryz.func244.trans (congrArg some (by kernel_rfl))⟩
  f28 := Tryz.func214.trans (congrArg some (by kernel_rfl))
  f29 := Tryz.func215.trans (congrArg some (by kernel_rfl))
  f46 := ⟨Tryz.f301.name, by decide, Tryz.func301.trans (congrArg some (by kernel_rfl))⟩
  f47 := Tryz.func296.trans (congrArg some (by kernel_rfl))
  f48 := Tryz.func297.trans (congrArg some (by kernel_rfl))
  f49 := ⟨Tryz.f302.name, by decide, Tryz.func302.trans (congrArg some (by kernel_rfl))⟩
  f50 := ⟨Tryz.f303.name, by decide, Tryz.func303.trans (congrArg some (by kernel_rfl))⟩
  f57 := ⟨Tryz.f327.name, by decide, Tryz.func327.trans (congrArg some (by kernel_rfl))⟩
  t0 := Tryz.underlying0
  a0 := Tryz.isAgg0
  z0 := Tryz.sizeOf0
  v0 := Tryz.zeroValue0
  t3 := Tryz.underlying3
  a3 := Tryz.isAgg3
  z3 := Tryz.sizeOf3
  v3 := Tryz.zeroValue3
  t4 := Tryz.underlying4
  a4 := Tryz.isAgg4
  z4 := Tryz.sizeOf4
  v4 := Tryz.zeroValue4
  t5 := Tryz.underlying5
  a5 := Tryz.isAgg5
  z5 := Tryz.sizeOf5
  v5 := Tryz.zeroValue5
  t9 := Tryz.underlying9
  a9 := Tryz.isAgg9
  z9 := Tryz.sizeOf9
  v9 := Tryz.zeroValue9
  t22 := Tryz.underlying29
  a22 := Tryz.isAgg29
  z22 := Tryz.sizeOf29
  v22 := Tryz.zeroValue29
  a24 := Tryz.isAgg33
  z24 := Tryz.sizeOf33
  t25 := Tryz.underlying142
  a25 := Tryz.isAgg142
  z25 := Tryz.sizeOf142
  v25 := Tryz.zeroValue142
  t39 := Tryz.underlying161
  a39 := Tryz.isAgg161
  z39 := Tryz.sizeOf161
  v39 := Tryz.zeroValue161
  t45 := Tryz.underlying276
  a45 := Tryz.isAgg276
  z45 := Tryz.sizeOf276
  v45 := Tryz.zeroValue276
  t46 := Tryz.underlying277
  a46 := Tryz.isAgg277
  z46 := Tryz.sizeOf277
  v46 := Tryz.zeroValue277
  t50 := Tryz.underlying145
  a50 := Tryz.isAgg145
  z50 := Tryz.sizeOf145
  v50 := Tryz.zeroValue145
  t53 := Tryz.underlying182
  a53 := Tryz.isAgg182
  z53 := Tryz.sizeOf182
  v53 := Tryz.zeroValue182
  t55 := Tryz.underlying101
  a55 := Tryz.isAgg101
  z55 := Tryz.sizeOf101
  v55 := Tryz.zeroValue101
  t66 := Tryz.underlying329
  a66 := Tryz.isAgg329
  z66 := Tryz.sizeOf329
  v66 := Tryz.zeroValue329
  t70 := Tryz.underlying319
  a70 := Tryz.isAgg319
  z70 := Tryz.sizeOf319
  v70 := Tryz.zeroValue319
  t76 := Tryz.underlying363
  a76 := Tryz.isAgg363
  z76 := Tryz.sizeOf363
  v76 := Tryz.zeroValue363
  t77 := Tryz.underlying352
  a77 := Tryz.isAgg352
  z77 := Tryz.sizeOf352
  v77 := Tryz.zeroValue352 }
end Go.Proofs

namespace Go.Proofs.YtkpoobnldgfapabGreatDoor
open Go.RowKit Pl
theorem Mat.lat_ {F : Nat → Prop} {w : World} {T e : TypeId} {o : Option Addr} {n c : Nat} {rows : List Rw} {ll : List (List Nat)} (h : Mat F w T e o n c rows ll) {i : Nat} {l : List Nat} (hl : ll[i]? = some l) :
    ∃ (go : Nat) (r : Rw), o = some ⟨go, 0, none⟩ ∧ n ≤ c ∧ w.cell? ⟨go, i, none⟩ = some (.slice r.o r.n r.c) ∧ Sl F w e 1 r.o r.n r.c (ints l) := by
  have hi := (List.getElem?_eq_some_iff.1 hl).1
  obtain ⟨go, h1, h2, h3, h4⟩ := h.out.pos (by rw [h.n_eq]; omega)
  obtain ⟨r, hr⟩ : ∃ r, rows[i]? = some r := ⟨_, List.getElem?_eq_getElem (by rw [h.len]; exact hi)⟩
  exact ⟨go, r, h1, h3, h4.cell (i := i) (v := r.val) (by simp [hr]), h.row i r l hr hl⟩
end Go.Proofs.YtkpoobnldgfapabGreatDoor

