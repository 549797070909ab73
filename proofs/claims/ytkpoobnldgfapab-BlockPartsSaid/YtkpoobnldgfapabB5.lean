/- Joined: IdsKit ShelfP Bridge7 Same. -/
import Derived.Test.YtkpoobnldgfapabA1
import Derived.Test.YtkpoobnldgfapabA8
import Derived.Test.YtkpoobnldgfapabP3
import Derived.Shelf.SlIterI.Nil
import Derived.Shelf.SortM.Plain
import Derived.Shelf.SortM.SortNone
import Derived.Ground.GgzProg
import Derived.Ground.SlgmProg
import Derived.Test.YtkpoobnldgfapabProg
set_option linter.unusedVariables false
set_option linter.unusedSimpArgs false
/- A map of numbers as the library's contracts read it; its keys, sorted. -/
namespace Go.Proofs.Ytkpoobnldgfapab
open Go.RowKit Go.Maps Go.Sort Go.Shelf Go.WideElems

theorem insert_perm {H : Type} (x : Lit × DataW H) (l : List (Lit × DataW H)) : (DataW.insert x l).Perm (x :: l) := by
  induction l with
  | nil => exact List.Perm.refl _
  | cons y r ih =>
    unfold DataW.insert
    split
    · exact List.Perm.refl _
    · exact (List.Perm.cons y ih).trans (List.Perm.swap _ _ _)

theorem foldr_insert_perm {H : Type} (l : List (Lit × DataW H)) : (l.foldr DataW.insert []).Perm l := by
  induction l with
  | nil => exact List.Perm.refl _
  | cons x l ih => exact (insert_perm x _).trans (List.Perm.cons x ih)

theorem MapAt.owns {H : Type} {P : Program} {k e : TypeId} {w : World} {b : Nat} {m : List (Nat × Value)} (hk : P.underlying k = some (.int .i64)) (he : P.underlying e = some .bool) (h : MapAt encN DN w b m) (hl : m.length ≤ 1000) (hv : ∀ q, q ∈ m → q.2 = .bool true) :
    ∃ D0 : DataW H, w.ownsMap P k (plainElem P e) b m.length D0 ∧ Maps.size D0 = m.length ∧ (intKeys D0).Perm (m.map (fun p => ((p.1 : Nat) : Int))) := by
  obtain ⟨es, clock, hb, hm, hD, hn, hs, hc⟩ := h
  have hlen : es.toList.length = m.length := by have := congrArg List.length hm; simpa using this
  have hkey : ∀ q, q ∈ m → keyOf P k (encN q.1) = some (.int .i64 q.1) := fun q hq => by
    have := hD q hq
    exact keyOf_int_mk hk (by
      unfold DN at this
      have h1 : IntKind.i64.min = -9223372036854775808 := by decide
      have h2 : IntKind.i64.max = 9223372036854775807 := by decide
      simp only [Lit.wf, h1, h2, Bool.and_eq_true, decide_eq_true_eq]
      omega)
  have hel : plainElem (H := H) P e (.bool true) = some (.lit (.bool true), []) := by simp [plainElem, he]
  let g : Value × Value → Option (Lit × DataW H) := fun kv => (keyOf P k kv.1).bind fun key => (plainElem (H := H) P e kv.2).map fun y => (key, y.1)
  have hg : ∀ q, q ∈ m → g (encN q.1, q.2) = some (.int .i64 q.1, .lit (.bool true)) := fun q hq => by
    show ((keyOf P k (encN q.1)).bind fun key => (plainElem (H := H) P e q.2).map fun y => (key, y.1)) = _
    rw [hkey q hq, hv q hq, hel]; rfl
  have hrd : ∀ x, x ∈ es.toList → ∃ q, q ∈ m ∧ rd P k (plainElem (H := H) P e) x = some (.int .i64 q.1, .lit (.bool true)) := fun x hx => by
    have : (x.key, x.val) ∈ m.map (fun p => (encN p.1, p.2)) := hm ▸ List.mem_map.2 ⟨x, hx, rfl⟩
    obtain ⟨q, hq, hqe⟩ := List.mem_map.1 this
    simp only [Prod.mk.injEq] at hqe
    refine ⟨q, hq, ?_⟩
    have := hg q hq
    rw [hqe.1, hqe.2] at this
    exact this
  have hrg : es.toList.map (rg P k (plainElem (H := H) P e)) = m.map (fun q => ((.int .i64 q.1, .lit (.bool true)) : Lit × DataW H)) := by
    have e1 : es.toList.map (rg P k (plainElem (H := H) P e)) = (es.toList.map (fun x => (x.key, x.val))).map (fun kv => (g kv).getD (.bool false, .nil)) := by rw [List.map_map]; rfl
    rw [e1, hm, List.map_map]
    exact List.map_congr_left fun q hq => by
      show (g (encN q.1, q.2)).getD _ = _
      rw [hg q hq]; rfl
  refine ⟨.map ((es.toList.map (rg P k (plainElem (H := H) P e))).foldr DataW.insert []), ⟨es, clock, hb, ⟨?_, ⟨hc, hs, ?_⟩, fun x hx => ?_⟩, ?_, rfl⟩, ?_, ?_⟩
  · have : es.size = m.length := by simpa using hlen
    rw [this]; simp only [maxLen]; omega
  · have e2 : es.toList.map (·.key) = m.map (fun p => encN p.1) := by
      have := congrArg (List.map Prod.fst) hm
      rw [List.map_map, List.map_map] at this
      exact this
    rw [e2]
    unfold List.Nodup
    rw [List.pairwise_map]
    exact hn.imp fun h e => h (by simp only [encN, Value.int.injEq, true_and] at e; omega)
  · obtain ⟨q, _, hq⟩ := hrd x hx
    exact ⟨_, hq⟩
  · have : es.size = m.length := by simpa using hlen
    omega
  · rw [hrg]
    show ((m.map _).foldr DataW.insert []).length = m.length
    rw [(foldr_insert_perm _).length_eq, List.length_map]
  · rw [hrg]
    exact (List.Perm.map _ (foldr_insert_perm _)).trans (List.Perm.of_eq (by rw [List.map_map]; rfl))

end Go.Proofs.Ytkpoobnldgfapab

/- The contracts of the library for this text's users, laid at this seat's program by the kit's own tool (lay-plain.mjs). -/
namespace Go.Proofs
open Go.Shelf
def Try.keysA_ren : Go.Shelf.Ren := ⟨fun | 7 => 31 | 10 => 49 | n => n, fun | 23 => 32 | 26 => 3 | 3 => 4 | 28 => 79 | 0 => 0 | 27 => 78 | 33 => 107 | 4 => 4 | n => n, fun | n => n⟩
theorem Try.keysA : Go.Proofs.SlLaysZI.n7 Try.prog Try.keysA_ren := {
  mixed := by kernel_rfl
  f7 := ⟨Try.f31.name, by decide, Try.func31.trans (congrArg some (by kernel_rfl))⟩
  f10 := ⟨Try.f49.name, by decide, Try.func49.trans (congrArg some (by kernel_rfl))⟩
  t0 := Try.underlying0
  a0 := Try.isAgg0
  z0 := Try.sizeOf0
  v0 := Try.zeroValue0
  t4 := Try.underlying4
  a4 := Try.isAgg4
  z4 := Try.sizeOf4
  v4 := Try.zeroValue4
  t23 := Try.underlying32
  a23 := Try.isAgg32
  z23 := Try.sizeOf32
  v23 := Try.zeroValue32
  t26 := Try.underlying3
  a26 := Try.isAgg3
  z26 := Try.sizeOf3
  v26 := Try.zeroValue3
  t27 := Try.underlying78
  a27 := Try.isAgg78
  z27 := Try.sizeOf78
  v27 := Try.zeroValue78
  t28 := Try.underlying79
  a28 := Try.isAgg79
  z28 := Try.sizeOf79
  v28 := Try.zeroValue79
  t33 := Try.underlying107
  a33 := Try.isAgg107
  z33 := Try.sizeOf107
  v33 := Try.zeroValue107 }
def Try.sortedA_ren : Go.Shelf.Ren := ⟨fun | 6 => 30 | 8 => 48 | 9 => 21 | 11 => 77 | 13 => 36 | 12 => 35 | 23 => 63 | 24 => 64 | 14 => 54 | 15 => 55 | 16 => 56 | 17 => 57 | 18 => 58 | 19 => 59 | 20 => 60 | 21 => 61 | 22 => 62 | 25 => 80 | 26 => 81 | 27 => 82 | 28 => 83 | 29 => 84 | 30 => 85 | 31 => 92 | n => n, fun | 26 => 3 | 28 => 79 | 24 => 35 | 0 => 0 | 3 => 3 | 37 => 86 | 48 => 121 | 50 => 123 | 4 => 4 | 40 => 114 | 39 => 113 | 45 => 73 | 5 => 5 | 9 => 9 | 51 => 135 | 55 => 139 | 57 => 145 | 58 => 146 | 33 => 107 | n => n, fun | n => n⟩
theorem Try.sortedA : Go.Proofs.SlLaysZI.n6 Try.prog Try.sortedA_ren := {
  mixed := by kernel_rfl
  f6 := ⟨Try.f30.name, by decide, Try.func30.trans (congrArg some (by kernel_rfl))⟩
  f8 := ⟨Try.f48.name, by decide, Try.func48.trans (congrArg some (by kernel_rfl))⟩
  f11 := ⟨Try.f77.name, by decide, Try.func77.trans (congrArg some (by kernel_rfl))⟩
  t0 := Try.underlying0
  a0 := Try.isAgg0
  z0 := Try.sizeOf0
  v0 := Try.zeroValue0
  t24 := Try.underlying35
  a24 := Try.isAgg35
  z24 := Try.sizeOf35
  v24 := Try.zeroValue35
  t26 := Try.underlying3
  a26 := Try.isAgg3
  z26 := Try.sizeOf3
  v26 := Try.zeroValue3
  t28 := Try.underlying79
  a28 := Try.isAgg79
  z28 := Try.sizeOf79
  v28 := Try.zeroValue79
  i26 := by kernel_rfl }
def Try.sortA_ren : Go.Shelf.Ren := ⟨fun | 5 => 21 | 8 => 36 | 7 => 35 | 19 => 63 | 20 => 64 | 10 => 54 | 11 => 55 | 12 => 56 | 13 => 57 | 14 => 58 | 15 => 59 | 16 => 60 | 17 => 61 | 18 => 62 | 30 => 80 | 31 => 81 | 32 => 82 | 33 => 83 | 34 => 84 | 35 => 85 | 40 => 92 | n => n, fun | 23 => 35 | 25 => 3 | 3 => 3 | 32 => 86 | 22 => 35 | 0 => 0 | 44 => 121 | 46 => 123 | 4 => 4 | 36 => 114 | 35 => 113 | 41 => 73 | 5 => 5 | 9 => 9 | 53 => 135 | 57 => 139 | 63 => 145 | 64 => 146 | n => n, fun | n => n⟩
theorem Try.sortA : Go.Proofs.SlLaysM.n5 Try.prog Try.sortA_ren := {
  mixed := by kernel_rfl
  f5 := ⟨Try.f21.name, by decide, Try.func21.trans (congrArg some (by kernel_rfl))⟩
  f7 := ⟨Try.f35.name, by decide, Try.func35.trans (congrArg some (by kernel_rfl))⟩
  f8 := Try.func36.trans (congrArg some (by kernel_rfl))
  f10 := ⟨Try.f54.name, by decide, Try.func54.trans (congrArg some (by kernel_rfl))⟩
  f11 := ⟨Try.f55.name, by decide, Try.func55.trans (congrArg some (by kernel_rfl))⟩
  f12 := ⟨Try.f56.name, by decide, Try.func56.trans (congrArg some (by kernel_rfl))⟩
  f13 := ⟨Try.f57.name, by decide, Try.func57.trans (congrArg some (by kernel_rfl))⟩
  f14 := ⟨Try.f58.name, by decide, Try.func58.trans (congrArg some (by kernel_rfl))⟩
  f15 := ⟨Try.f59.name, by decide, Try.func59.trans (congrArg some (by kernel_rfl))⟩
  f16 := ⟨Try.f60.name, by decide, Try.func60.trans (congrArg some (by kernel_rfl))⟩
  f17 := ⟨Try.f61.name, by decide, Try.func61.trans (congrArg some (by kernel_rfl))⟩
  f18 := ⟨Try.f62.name, by decide, Try.func62.trans (congrArg some (by kernel_rfl))⟩
  f19 := Try.func63.trans (congrArg some (by kernel_rfl))
  f20 := Try.func64.trans (congrArg some (by kernel_rfl))
  f30 := ⟨Try.f80.name, by decide, Try.func80.trans (congrArg some (by kernel_rfl))⟩
  f31 := Try.func81.trans (congrArg some (by kernel_rfl))
  f32 := Try.func82.trans (congrArg some (by kernel_rfl))
  f33 := ⟨Try.f83.name, by decide, Try.func83.trans (congrArg some (by kernel_rfl))⟩
  f34 := ⟨Try.f84.name, by decide, Try.func84.trans (congrArg some (by kernel_rfl))⟩
  f35 := ⟨Try.f85.name, by decide, Try.func85.trans (congrArg some (by kernel_rfl))⟩
  f40 := ⟨Try.f92.name, by decide, Try.func92.trans (congrArg some (by kernel_rfl))⟩
  t0 := Try.underlying0
  a0 := Try.isAgg0
  z0 := Try.sizeOf0
  v0 := Try.zeroValue0
  t3 := Try.underlying3
  a3 := Try.isAgg3
  z3 := Try.sizeOf3
  v3 := Try.zeroValue3
  t4 := Try.underlying4
  a4 := Try.isAgg4
  z4 := Try.sizeOf4
  v4 := Try.zeroValue4
  t5 := Try.underlying5
  a5 := Try.isAgg5
  z5 := Try.sizeOf5
  v5 := Try.zeroValue5
  t9 := Try.underlying9
  a9 := Try.isAgg9
  z9 := Try.sizeOf9
  v9 := Try.zeroValue9
  t22 := Try.underlying35
  a22 := Try.isAgg35
  z22 := Try.sizeOf35
  v22 := Try.zeroValue35
  t23 := Try.underlying35
  a23 := Try.isAgg35
  z23 := Try.sizeOf35
  v23 := Try.zeroValue35
  t25 := Try.underlying3
  a25 := Try.isAgg3
  z25 := Try.sizeOf3
  v25 := Try.zeroValue3
  t32 := Try.underlying86
  a32 := Try.isAgg86
  z32 := Try.sizeOf86
  v32 := Try.zeroValue86
  t35 := Try.underlying113
  a35 := Try.isAgg113
  z35 := Try.sizeOf113
  v35 := Try.zeroValue113
  t36 := Try.underlying114
  a36 := Try.isAgg114
  z36 := Try.sizeOf114
  v36 := Try.zeroValue114
  t41 := Try.underlying73
  a41 := Try.isAgg73
  z41 := Try.sizeOf73
  v41 := Try.zeroValue73
  t44 := Try.underlying121
  a44 := Try.isAgg121
  z44 := Try.sizeOf121
  v44 := Try.zeroValue121
  t46 := Try.underlying123
  a46 := Try.isAgg123
  z46 := Try.sizeOf123
  v46 := Try.zeroValue123
  t53 := Try.underlying135
  a53 := Try.isAgg135
  z53 := Try.sizeOf135
  v53 := Try.zeroValue135
  t57 := Try.underlying139
  a57 := Try.isAgg139
  z57 := Try.sizeOf139
  v57 := Try.zeroValue139
  t63 := Try.underlying145
  a63 := Try.isAgg145
  z63 := Try.sizeOf145
  v63 := Try.zeroValue145
  t64 := Try.underlying146
  a64 := Try.isAgg146
  z64 := Try.sizeOf146
  v64 := Try.zeroValue146 }
end Go.Proofs

/- bridge: Ids, Wholes, Parts. -/
namespace Go.Proofs.Ytkpoobnldgfapab
open Go.RowKit Pl Go.Maps Go.Sort Go.Shelf

theorem sortsA (m : Nat) : AnyZI.SortsIn Try.prog Try.sortedA_ren Fence.wide m :=
  ⟨fun blk off cap ss W hH hblk hsz => callsIn_wide.2 (AnyM.slices_Sort_int Try.sortA blk off cap ss W hH hblk hsz),
   fun p cap W => callsIn_wide.2 (AnyM.slices_Sort_int_none Try.sortA p cap W)⟩

/-- maps.Keys hands back a function over a new block that holds the map. -/
theorem keys_any (mb : Option Nat) (w : World) : Calls Try.prog 31 #[.map mb] w fun e w' => e = .returned (.func (.func 49) #[] #[.pointer (some ⟨w.heap.size, 0, none⟩)]) ∧ w' = w.alloc (.cells #[.map mb] 32) :=
  callsIn_wide.1 (AnyZI.keys_in Try.keysA Fence.wide 5 trivial rfl mb w)

theorem Sl.of_row {w : World} {base : Nat} {T : TypeId} {sz : Nat} {v : Value} {n : Nat} {l : List Value} (h : w.ownsRow base T sz v n l) : ∃ o c, v = .slice o n c ∧ Sl (fun k => base ≤ k) w T sz o n c l := by
  rcases h.2 with ⟨rfl, rfl⟩ | ⟨g, cap, cur, rfl, hb, rest⟩
  · exact ⟨none, 0, rfl, ⟨⟨h.1, .inl ⟨rfl, rfl⟩⟩, fun a ha => by cases ha⟩⟩
  · exact ⟨_, _, rfl, ⟨⟨h.1, .inr ⟨g, cap, cur, rfl, Nat.zero_le _, rest⟩⟩, fun a ha => by cases ha; exact hb⟩⟩

def SortedPost (w : World) (b : Nat) (m : List (Nat × Value)) (e : Ending) (w' : World) : Prop :=
  ∃ (l : List Nat) (o : Option Addr) (c : Nat), e = .returned (.slice o l.length c) ∧ Sl (fun k => w.heap.size ≤ k) w' 3 1 o l.length c (ints l) ∧ l.Perm (m.map (·.1)) ∧ l.Pairwise (· < ·) ∧ Keep Nb w w'

theorem sorted_any (w : World) (b : Nat) (m : List (Nat × Value)) (h : MapAt encN DN w b m) (hl : m.length ≤ 1000) (hv : ∀ q, q ∈ m → q.2 = .bool true) (q : Nat) (hq : w.cell? ⟨q, 0, none⟩ = some (.map (some b))) :
    Calls Try.prog 30 #[.func (.func 49) #[] #[.pointer (some ⟨q, 0, none⟩)]] w (SortedPost w b m) := by
  obtain ⟨D0, h1, h2, h3⟩ := h.owns (H := Unit) (P := Try.prog) Try.underlying3 Try.underlying4 hl hv
  have hseq : SeqGives Fence.wide 2 Try.prog 49 #[.pointer (some ⟨q, 0, none⟩)] encZ (fun ss => ss.Perm (intKeys D0)) (Maps.size D0) w :=
    AnyZI.keys_gives (ρ := Try.keysA_ren) { Try.keysA with } Fence.wide _ trivial rfl (by omega) q b m.length D0 w (World.block_lt_of_cell? w _ hq) hq h1
  have cS := AnyZI.sorted_in Try.sortedA Fence.wide 5 trivial trivial trivial trivial rfl (by omega) (sortsA _) (enters_of Try.func21 (by kernel_rfl) rfl) 49 #[.pointer (some ⟨q, 0, none⟩)] trivial (enters_of Try.func49 (by kernel_rfl) rfl) _ (Maps.size D0) (by rw [h2]; simp only [maxLen]; omega) (by rw [h2]; omega) w hseq
  change CallsIn _ _ Try.prog 30 _ _ _ at cS
  refine (callsIn_wide.1 cS).mono ?_
  rintro e w' ⟨v, ss, rfl, hp, hrow, hnil, hb⟩
  obtain ⟨o, c, rfl, hS⟩ := Sl.of_row hrow
  have hpp := hp.trans h3
  have hsp : (ss.mergeSort (fun x y => decide (x ≤ y))).Perm ss := List.mergeSort_perm _ _
  have hcast : ∀ x, x ∈ ss.mergeSort (fun x y => decide (x ≤ y)) → ((x.toNat : Nat) : Int) = x := fun x hx => by
    have := hpp.mem_iff.1 (hsp.mem_iff.1 hx)
    obtain ⟨p, _, rfl⟩ := List.mem_map.1 this
    omega
  have hints : ints ((ss.mergeSort (fun x y => decide (x ≤ y))).map Int.toNat) = (ss.mergeSort (fun x y => decide (x ≤ y))).map encZ := by
    unfold ints
    rw [List.map_map]
    exact List.map_congr_left fun x hx => by
      show Value.int .i64 ((x.toNat : Nat) : Int) = Value.int .i64 x
      rw [hcast x hx]
  have hlen : ss.length = ((ss.mergeSort (fun x y => decide (x ≤ y))).map Int.toNat).length := by rw [List.length_map, hsp.length_eq]
  have hperm : ((ss.mergeSort (fun x y => decide (x ≤ y))).map Int.toNat).Perm (m.map (·.1)) := by
    have := (hsp.trans hpp).map Int.toNat
    rw [List.map_map] at this
    refine this.trans (List.Perm.of_eq (List.map_congr_left fun p _ => ?_))
    show ((p.1 : Int)).toNat = p.1
    omega
  have hnd : ((ss.mergeSort (fun x y => decide (x ≤ y))).map Int.toNat).Nodup := by
    refine hperm.nodup_iff.2 ?_
    unfold List.Nodup
    rw [List.pairwise_map]
    exact h.nodup
  have hsort : (ss.mergeSort (fun x y => decide (x ≤ y))).Pairwise (fun x y => x ≤ y) := by
    have := List.pairwise_mergeSort (le := fun (x y : Int) => decide (x ≤ y)) (fun a b c h1 h2 => by simp at h1 h2 ⊢; omega) (fun a b => by simp; omega) ss
    exact this.imp fun h => by simpa using h
  refine ⟨(ss.mergeSort (fun x y => decide (x ≤ y))).map Int.toNat, o, c, by rw [hlen], ?_, hperm, ?_, Keep.below hb⟩
  · rw [hints, ← hlen]; exact hS
  · have h5 : ((ss.mergeSort (fun x y => decide (x ≤ y))).map Int.toNat).Pairwise (fun x y => x ≤ y) := by
      rw [List.pairwise_map]
      exact hsort.imp fun h => Int.toNat_le_toNat h
    exact (h5.and hnd).imp fun ⟨a, b⟩ => Nat.lt_of_le_of_ne a b

/-- The bridges of a graph, by their numbers, rising. -/
structure BridgeIds (es : List E) (l : List Nat) : Prop where
  sorted : l.Pairwise (· < ·)
  mem : ∀ id, id ∈ l ↔ ∃ e, e ∈ es ∧ e.id = id ∧ ¬ Conn (ends (sans es [e.id])) e.a e.b

theorem BridgeIds.count {n : Nat} {es : List E} {l : List Nat} {T : Nat → Nat} {up : Nat → Option (Nat × Nat)} (h : BridgeIds es l) (hB : BInv n es T up) : cnt n (isRoot T) = cnt n (isRoot (labs (ends es))) + l.length := by
  rw [hB.ids_len (h.sorted.imp fun h => Nat.ne_of_lt h) (fun id => (h.mem id).trans hB.ids_iff.symm)]
  exact hB.count

theorem BridgeIds.unique {es fs : List E} {l m : List Nat} (h : BridgeIds es l) (g : BridgeIds fs m) (hm : ∀ id, id ∈ l ↔ id ∈ m) : l = m :=
  List.Perm.eq_of_pairwise (fun a b _ _ h1 h2 => by omega) h.sorted g.sorted ((List.perm_ext_iff_of_nodup (h.sorted.imp fun h => Nat.ne_of_lt h) (g.sorted.imp fun h => Nat.ne_of_lt h)).2 hm)

def IdsPost (F : Nat → Prop) (w : World) (b n : Nat) (es : List E) (e : Ending) (w' : World) : Prop :=
  ∃ (l : List Nat) (o : Option Addr) (c : Nat), e = .returned (.slice o l.length c) ∧ Sl (fun k => w.heap.size ≤ k) w' 3 1 o l.length c (ints l) ∧ BridgeIds es l ∧ Brs F w' b n es ∧ Keep Nb w w' ∧ l.length ≤ es.length

set_option maxRecDepth 100000 in
theorem ids_any (F : Nat → Prop) (w : World) (b n : Nat) (es : List E) (hB : Brs F w b n es) (hl : es.length ≤ 1000) :
    Calls Try.prog 13 #[.pointer (some ⟨b, 0, none⟩)] w (IdsPost F w b n es) := by
  have HBB := Lib.hid hB
  obtain ⟨ws, ts, um, im, Fw, Ft, T, mU, mI, up, h, hU, hI, hInv, hsm⟩ := hB
  have c3 := h.head.cell (i := 3) rfl
  have hsub : ∀ x, x ∈ mI.map (·.1) → x ∈ es.map (·.id) := fun x hx => by
    have h1 := (hI.1 x).1 (mem_keys_iff.1 hx)
    obtain ⟨e, he, hid, _⟩ := hInv.ids_iff.1 h1
    exact List.mem_map.2 ⟨e, he, hid⟩
  have hnd : (mI.map (·.1)).Nodup := by
    unfold List.Nodup
    rw [List.pairwise_map]
    exact h.mi.nodup
  have hlen : mI.length ≤ es.length := by
    have := len_le_of_mem hnd hsub
    simpa using this
  have HM := Lib.hid h.mi
  have HI := Lib.hid hI
  have HInv := Lib.hid hInv
  clear h hU hI hInv hsm hsub hnd
  go_enter Try.func13, Try.ntmps13
  go_wp2_with fail
  refine (keys_any (some im) _).mono ?_
  rintro e w1 ⟨rfl, rfl⟩
  go_wp2_with fail
  refine (sorted_any _ im mI (HM.out.alloc _) (by omega) HI.out.2 w.heap.size (by rw [World.cell?_alloc_at _ _ _ _ rfl]; rfl)).mono ?_
  rintro e w2 ⟨l, o, c, rfl, hS, hp, hs, hk⟩
  have hk2 : Keep Nb w w2 := ((Keep.refl Nb w).alloc _).trans hk
  have HP : Hid (IdsPost F w b n es (.returned (.slice o l.length c)) w2) := Lib.hid (by
    refine ⟨l, o, c, rfl, hS.mono (fun k hk => by simp only [World.size_alloc] at hk; omega), ⟨hs, fun id => ?_⟩, HBB.out.keep hk2 (fun _ _ e => e), hk2, by rw [hp.length_eq, List.length_map]; exact hlen⟩
    rw [hp.mem_iff, mem_keys_iff, HI.out.1 id]
    exact HInv.out.ids_iff)
  clear hS hp hs hk hk2
  go_wp2_with fail
  go_ret
  exact HP.out

def BPartsPost (F : Nat → Prop) (w : World) (b n : Nat) (es : List E) (L : Nat → Nat) (e : Ending) (w' : World) : Prop :=
  ∃ (o : Option Addr) (m c : Nat) (rows : List Rw), e = .returned (.slice o m c) ∧ Mat (Iv w.heap.size w'.heap.size) w' 35 3 o m c rows (parts n L) ∧ Brs F w' b n es ∧ Keep F w w'


def TwPost (F : Nat → Prop) (w : World) (b n : Nat) (es : List E) (e : Ending) (w' : World) : Prop := ∃ T up, BInv n es T up ∧ BPartsPost F w b n es T e w'


end Go.Proofs.Ytkpoobnldgfapab

/- isthmuskeep: same, sames, of lists that are the same. -/
namespace Go.Proofs.Ytkpoobnldgfapab
open Go.RowKit Pl

set_option maxRecDepth 100000 in
set_option maxHeartbeats 1000000 in
theorem same_q (F F' : Nat → Prop) (w : World) (o o' : Option Addr) (n n' c c' : Nat) (l : List Nat) (hS : Sl F w 3 1 o n c (ints l)) (hS' : Sl F' w 3 1 o' n' c' (ints l)) (hn : l.length ≤ 100000) :
    Calls Try.prog 12 #[.slice o n c, .slice o' n' c'] w fun e w' => e = .returned (.bool true) ∧ ∃ m, w' = w.drewN m := by
  have e1 : n = l.length := by have := hS.len; simp at this; exact this.symm
  have e2 : n' = l.length := by have := hS'.len; simp at this; exact this.symm
  subst e1
  subst e2
  have HS := Lib.hid hS
  have HS' := Lib.hid hS'
  have hne : ((l.length : Int) != (l.length : Int)) = false := by simp
  clear hS hS'
  go_enter Try.func12, Try.ntmps12
  go_wp2_with fail
  go_loopg [5] l.length (fun kx s wr => ∃ i : Nat, s = .int .i64 i ∧ i ≤ l.length ∧ l.length - i ≤ kx ∧ Hid (∃ m, wr = w.drewN m))
  case atStart => exact ⟨0, rfl, Nat.zero_le _, by omega, Lib.hid ⟨0, rfl⟩⟩
  case round =>
    obtain ⟨i, rfl, hi, hg, HK⟩ := hrel
    obtain ⟨m, hm⟩ := HK.out
    have HKM := Lib.hid hm
    have hkw : Keep Nb w wr := by rw [hm]; exact (Keep.refl Nb w).drewN m
    by_cases hlt : i < l.length
    · obtain ⟨g, rfl, _, hnc, hrow⟩ := (HS.out.keep hkw (fun _ _ e => e)).pos (by omega)
      obtain ⟨g', rfl, _, hnc', hrow'⟩ := (HS'.out.keep hkw (fun _ _ e => e)).pos (by omega)
      have hy := List.getElem?_eq_getElem hlt
      generalize l[i]'hlt = p at hy
      have d1 := hrow.cell (ints_get hy)
      have d2 := hrow'.cell (ints_get hy)
      clear hy hrow hrow' hm hkw
      go_wp2_with fail
      go_quiet (fail)
      go_wp2_with fail
      go_roundg (l.length - (i + 1))
      case measure => omega
      case rel => exact ⟨i + 1, rfl, by omega, Nat.le_refl _, Lib.hid ⟨m + nq, by rw [HKM.out, World.drewN_drewN]⟩⟩
    · clear hm hkw
      go_wp2_with fail
      go_ret
      exact ⟨rfl, HK.out⟩

/-- One row of a matrix, its header and its numbers. -/
theorem Mat.at_ {F : Nat → Prop} {w : World} {T e : TypeId} {o : Option Addr} {n c : Nat} {rows : List Rw} {ll : List (List Nat)} (h : Mat F w T e o n c rows ll) {i : Nat} {l : List Nat} (hl : ll[i]? = some l) :
    ∃ (go : Nat) (r : Rw), o = some ⟨go, 0, none⟩ ∧ n ≤ c ∧ w.cell? ⟨go, i, none⟩ = some (.slice r.o r.n r.c) ∧ Sl F w e 1 r.o r.n r.c (ints l) := by
  have hi := (List.getElem?_eq_some_iff.1 hl).1
  obtain ⟨go, h1, h2, h3, h4⟩ := h.out.pos (by rw [h.n_eq]; omega)
  obtain ⟨r, hr⟩ : ∃ r, rows[i]? = some r := ⟨_, List.getElem?_eq_getElem (by rw [h.len]; exact hi)⟩
  exact ⟨go, r, h1, h3, h4.cell (i := i) (v := r.val) (by simp [hr]), h.row i r l hr hl⟩

set_option maxRecDepth 100000 in
set_option maxHeartbeats 1000000 in
theorem sames_q (F F' : Nat → Prop) (w : World) (o o' : Option Addr) (n n' c c' : Nat) (rows rows' : List Rw) (ll : List (List Nat)) (hS : Mat F w 35 3 o n c rows ll) (hS' : Mat F' w 35 3 o' n' c' rows' ll) (hn : ll.length ≤ 100000) (hl : ∀ l, l ∈ ll → l.length ≤ 100000) :
    Calls Try.prog 16 #[.slice o n c, .slice o' n' c'] w fun e w' => e = .returned (.bool true) ∧ ∃ m, w' = w.drewN m := by
  have e1 : n = ll.length := hS.n_eq
  have e2 : n' = ll.length := hS'.n_eq
  subst e1
  subst e2
  have HS := Lib.hid hS
  have HS' := Lib.hid hS'
  have HL := Lib.hid hl
  have hne : ((ll.length : Int) != (ll.length : Int)) = false := by simp
  clear hS hS' hl
  go_enter Try.func16, Try.ntmps16
  go_wp2_with fail
  go_loopg [5] ll.length (fun kx s wr => ∃ i : Nat, s = .int .i64 i ∧ i ≤ ll.length ∧ ll.length - i ≤ kx ∧ Hid (∃ m, wr = w.drewN m))
  case atStart => exact ⟨0, rfl, Nat.zero_le _, by omega, Lib.hid ⟨0, rfl⟩⟩
  case round =>
    obtain ⟨i, rfl, hi, hg, HK⟩ := hrel
    obtain ⟨m, hm⟩ := HK.out
    have HKM := Lib.hid hm
    have hkw : Keep Nb w wr := by rw [hm]; exact (Keep.refl Nb w).drewN m
    by_cases hlt : i < ll.length
    · have hy := List.getElem?_eq_getElem hlt
      have hmem := List.getElem_mem hlt
      generalize ll[i]'hlt = p at hy hmem
      have hp := HL.out p hmem
      obtain ⟨go, r, rfl, hnc, d1, hr⟩ := (HS.out.keep hkw (fun _ _ e => e)).at_ hy
      obtain ⟨go', r', rfl, hnc', d2, hr'⟩ := (HS'.out.keep hkw (fun _ _ e => e)).at_ hy
      have HQ : Hid (∀ q, Calls Try.prog 12 #[.slice r.o r.n r.c, .slice r'.o r'.n r'.c] (wr.drewN q) fun e w' => e = .returned (.bool true) ∧ ∃ m, w' = (wr.drewN q).drewN m) := Lib.hid (fun q =>
        same_q F F' _ r.o r'.o r.n r'.n r.c r'.c p (hr.keep ((Keep.refl Nb wr).drewN q) (fun _ _ e => e)) (hr'.keep ((Keep.refl Nb wr).drewN q) (fun _ _ e => e)) hp)
      clear hy hr hr' hm hkw hmem hp
      go_wp2_with fail
      go_quiet ((go_at_call 12; exact Calls.quiet_of (HQ.out _)))
      go_wp2_with fail
      go_roundg (ll.length - (i + 1))
      case measure => omega
      case rel => exact ⟨i + 1, rfl, by omega, Nat.le_refl _, Lib.hid ⟨m + nq, by rw [HKM.out, World.drewN_drewN]⟩⟩
    · clear hm hkw
      go_wp2_with fail
      go_ret
      exact ⟨rfl, HK.out⟩

end Go.Proofs.Ytkpoobnldgfapab
