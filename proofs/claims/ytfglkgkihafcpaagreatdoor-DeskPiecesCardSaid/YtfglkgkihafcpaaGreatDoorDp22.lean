/- Part 22 of the proof: B5 ShelfC LSame. -/
import Derived.Test.YtfglkgkihafcpaaGreatDoorDp01
import Derived.Test.YtfglkgkihafcpaaGreatDoorDp05
import Derived.Test.YtfglkgkihafcpaaGreatDoorDp12
import Derived.Test.YtfglkgkihafcpaaGreatDoorDp13
import Derived.Shelf.SlIterI.Nil
import Derived.Shelf.SortM.Plain
import Derived.Shelf.SortM.SortNone
import Derived.Ground.GgzProg
import Derived.Ground.SlgmProg
import Derived.Test.YtfglkgkihafcpaaGreatDoorProg
import Derived.Shelf.Slices.In.Clone
import Derived.Shelf.Slices.In.CompactI
import Derived.Shelf.SlSortCmp.NoneTotal
import Derived.Ground.Names2Prog
import Derived.Ground.SlsfProg
import Derived.Deep.LoopGhost
import Derived.Deep.QuietTactic
import Derived.BigQuiet
set_option linter.unusedVariables false
set_option linter.unusedSimpArgs false
namespace Go.Proofs.YtfglkgkihafcpaaGreatDoor
open Go.RowKit Go.Maps Go.Sort Go.Shelf Go.WideElems
theorem insert_perm {H : Type} (x : Lit × DataW H) (l : List (Lit × DataW H)) : (DataW.insert x l).Perm (x :: l) := by
 induction l with
 | nil => exact List.Perm.refl _
 | cons y r ih =>
  unfold DataW.insert
  split
  ·exact List.Perm.refl _
  ·exact (List.Perm.cons y ih).trans (List.Perm.swap _ _ _)
theorem foldr_insert_perm {H : Type} (l : List (Lit × DataW H)) : (l.foldr DataW.insert []).Perm l := by
 induction l with
 | nil => exact List.Perm.refl _
 | cons x l ih => exact (insert_perm x _).trans (List.Perm.cons x ih)
theorem MapAt.owns {H : Type} {P : Program} {k e : TypeId} {w : World} {b : Nat} {m : List (Nat × Value)} (hk : P.underlying k = some (.int .i64)) (he : P.underlying e = some .bool) (h : MapAt encN DN w b m) (hl : m.length ≤ 1000) (hv : ∀ q, q ∈ m → q.2 = .bool true) :
  ∃ D0 : DataW H, w.ownsMap P k (plainElem P e) b m.length D0 ∧ Maps.size D0 = m.length ∧ (intKeys D0).Perm (m.map (fun p => ((p.1 : Nat) : Int))) := by
 obtain ⟨es, clock, hb, hm, hD, hn, hs, hc⟩ := h
 have hlen : es.toList.length = m.length := by have := congrArg List.length hm; simpa using this
 have hkey : ∀ q, q ∈ m → keyOf P k (encN q.1) = some (.int .i64 q.1) := fun q hq => by
  have := hD q hq
  exact keyOf_int_mk hk (by
   unfold DN at this
   have h1 : IntKind.i64.min = -9223372036854775808 := by decide
   have h2 : IntKind.i64.max = 9223372036854775807 := by decide
   simp only [Lit.wf, h1, h2, Bool.and_eq_true, decide_eq_true_eq]
   omega)
 have hel : plainElem (H := H) P e (.bool true) = some (.lit (.bool true), []) := by simp [plainElem, he]
 let g : Value × Value → Option (Lit × DataW H) := fun kv => (keyOf P k kv.1).bind fun key => (plainElem (H := H) P e kv.2).map fun y => (key, y.1)
 have hg : ∀ q, q ∈ m → g (encN q.1, q.2) = some (.int .i64 q.1, .lit (.bool true)) := fun q hq => by
  show ((keyOf P k (encN q.1)).bind fun key => (plainElem (H := H) P e q.2).map fun y => (key, y.1)) = _
  rw [hkey q hq, hv q hq, hel]; rfl
 have hrd : ∀ x, x ∈ es.toList → ∃ q, q ∈ m ∧ rd P k (plainElem (H := H) P e) x = some (.int .i64 q.1, .lit (.bool true)) := fun x hx => by
  have : (x.key, x.val) ∈ m.map (fun p => (encN p.1, p.2)) := hm ▸ List.mem_map.2 ⟨x, hx, rfl⟩
  obtain ⟨q, hq, hqe⟩ := List.mem_map.1 this
  simp only [Prod.mk.injEq] at hqe
  refine ⟨q, hq, ?_⟩
  have := hg q hq
  rw [hqe.1, hqe.2] at this
  exact this
 have hrg : es.toList.map (rg P k (plainElem (H := H) P e)) = m.map (fun q => ((.int .i64 q.1, .lit (.bool true)) : Lit × DataW H)) := by
  have e1 : es.toList.map (rg P k (plainElem (H := H) P e)) = (es.toList.map (fun x => (x.key, x.val))).map (fun kv => (g kv).getD (.bool false, .nil)) := by rw [List.map_map]; rfl
  rw [e1, hm, List.map_map]
  exact List.map_congr_left fun q hq => by
   show (g (encN q.1, q.2)).getD _ = _
   rw [hg q hq]; rfl
 refine ⟨.map ((es.toList.map (rg P k (plainElem (H := H) P e))).foldr DataW.insert []), ⟨es, clock, hb, ⟨?_, ⟨hc, hs, ?_⟩, fun x hx => ?_⟩, ?_, rfl⟩, ?_, ?_⟩
 ·have : es.size = m.length := by simpa using hlen
  rw [this]; simp only [maxLen]; omega
 ·have e2 : es.toList.map (·.key) = m.map (fun p => encN p.1) := by
   have := congrArg (List.map Prod.fst) hm
   rw [List.map_map, List.map_map] at this
   exact this
  rw [e2]
  unfold List.Nodup
  rw [List.pairwise_map]
  exact hn.imp fun h e => h (by simp only [encN, Value.int.injEq, true_and] at e; omega)
 ·obtain ⟨q, _, hq⟩ := hrd x hx
  exact ⟨_, hq⟩
 ·have : es.size = m.length := by simpa using hlen
  omega
 ·rw [hrg]
  show ((m.map _).foldr DataW.insert []).length = m.length
  rw [(foldr_insert_perm _).length_eq, List.length_map]
 ·rw [hrg]
  exact (List.Perm.map _ (foldr_insert_perm _)).trans (List.Perm.of_eq (by rw [List.map_map]; rfl))
end Go.Proofs.YtfglkgkihafcpaaGreatDoor
namespace Go.Proofs
open Go.Shelf
def Tryz.keysA_ren : Go.Shelf.Ren := ⟨fun | 7 => 172 | 10 => 204 | n => n, fun | 23 => 149 | 26 => 3 | 3 => 4 | 28 => 236 | 0 => 0 | 27 => 235 | 33 => 224 | 4 => 4 | n => n, fun | n => n⟩
theorem Tryz.keysA : Go.Proofs.SlLaysZI.n7 Tryz.prog Tryz.keysA_ren := {
 mixed := by kernel_rfl
 f7 := ⟨Tryz.f172.name, by decide, Tryz.func172.trans (congrArg some (by kernel_rfl))⟩
 f10 := ⟨Tryz.f204.name, by decide, Tryz.func204.trans (congrArg some (by kernel_rfl))⟩
 t0 := Tryz.underlying0
 a0 := Tryz.isAgg0
 z0 := Tryz.sizeOf0
 v0 := Tryz.zeroValue0
 t4 := Tryz.underlying4
 a4 := Tryz.isAgg4
 z4 := Tryz.sizeOf4
 v4 := Tryz.zeroValue4
 t23 := Tryz.underlying149
 a23 := Tryz.isAgg149
 z23 := Tryz.sizeOf149
 v23 := Tryz.zeroValue149
 t26 := Tryz.underlying3
 a26 := Tryz.isAgg3
 z26 := Tryz.sizeOf3
 v26 := Tryz.zeroValue3
 t27 := Tryz.underlying235
 a27 := Tryz.isAgg235
 z27 := Tryz.sizeOf235
 v27 := Tryz.zeroValue235
 t28 := Tryz.underlying236
 a28 := Tryz.isAgg236
 z28 := Tryz.sizeOf236
 v28 := Tryz.zeroValue236
 t33 := Tryz.underlying224
 a33 := Tryz.isAgg224
 z33 := Tryz.sizeOf224
 v33 := Tryz.zeroValue224 }
def Tryz.sortedA_ren : Go.Shelf.Ren := ⟨fun | 6 => 171 | 8 => 203 | 9 => 199 | 11 => 218 | 13 => 216 | 12 => 215 | 23 => 234 | 24 => 162 | 14 => 225 | 15 => 226 | 16 => 227 | 17 => 228 | 18 => 229 | 19 => 230 | 20 => 231 | 21 => 232 | 22 => 233 | 25 => 244 | 26 => 245 | 27 => 246 | 28 => 247 | 29 => 248 | 30 => 249 | 31 => 253 | n => n, fun | 26 => 3 | 28 => 236 | 24 => 63 | 0 => 0 | 3 => 3 | 37 => 60 | 48 => 56 | 50 => 53 | 4 => 4 | 40 => 300 | 39 => 299 | 45 => 226 | 5 => 5 | 9 => 9 | 51 => 311 | 55 => 314 | 57 => 318 | 58 => 319 | 33 => 224 | n => n, fun | n => n⟩
theorem Tryz.sortedA : Go.Proofs.SlLaysZI.n6 Tryz.prog Tryz.sortedA_ren := {
 mixed := by kernel_rfl
 f6 := ⟨Tryz.f171.name, by decide, Tryz.func171.trans (congrArg some (by kernel_rfl))⟩
 f8 := ⟨Tryz.f203.name, by decide, Tryz.func203.trans (congrArg some (by kernel_rfl))⟩
 f11 := ⟨Tryz.f218.name, by decide, Tryz.func218.trans (congrArg some (by kernel_rfl))⟩
 t0 := Tryz.underlying0
 a0 := Tryz.isAgg0
 z0 := Tryz.sizeOf0
 v0 := Tryz.zeroValue0
 t24 := Tryz.underlying63
 a24 := Tryz.isAgg63
 z24 := Tryz.sizeOf63
 v24 := Tryz.zeroValue63
 t26 := Tryz.underlying3
 a26 := Tryz.isAgg3
 z26 := Tryz.sizeOf3
 v26 := Tryz.zeroValue3
 t28 := Tryz.underlying236
 a28 := Tryz.isAgg236
 z28 := Tryz.sizeOf236
 v28 := Tryz.zeroValue236
 i26 := by kernel_rfl }
def Tryz.sortA_ren : Go.Shelf.Ren := ⟨fun | 5 => 199 | 8 => 216 | 7 => 215 | 19 => 234 | 20 => 162 | 10 => 225 | 11 => 226 | 12 => 227 | 13 => 228 | 14 => 229 | 15 => 230 | 16 => 231 | 17 => 232 | 18 => 233 | 30 => 244 | 31 => 245 | 32 => 246 | 33 => 247 | 34 => 248 | 35 => 249 | 40 => 253 | n => n, fun | 23 => 63 | 25 => 3 | 3 => 3 | 32 => 60 | 22 => 63 | 0 => 0 | 44 => 56 | 46 => 53 | 4 => 4 | 36 => 300 | 35 => 299 | 41 => 226 | 5 => 5 | 9 => 9 | 53 => 311 | 57 => 314 | 63 => 318 | 64 => 319 | n => n, fun | n => n⟩
theorem Tryz.sortA : Go.Proofs.SlLaysM.n5 Tryz.prog Tryz.sortA_ren := {
 mixed := by kernel_rfl
 f5 := ⟨Tryz.f199.name, by decide, Tryz.func199.trans (congrArg some (by kernel_rfl))⟩
 f7 := ⟨Tryz.f215.name, by decide, Tryz.func215.trans (congrArg some (by kernel_rfl))⟩
 f8 := Tryz.func216.trans (congrArg some (by kernel_rfl))
 f10 := ⟨Tryz.f225.name, by decide, Tryz.func225.trans (congrArg some (by kernel_rfl))⟩
 f11 := ⟨Tryz.f226.name, by decide, Tryz.func226.trans (congrArg some (by kernel_rfl))⟩
 f12 := ⟨Tryz.f227.name, by decide, Tryz.func227.trans (congrArg some (by kernel_rfl))⟩
 f13 := ⟨Tryz.f228.name, by decide, Tryz.func228.trans (congrArg some (by kernel_rfl))⟩
 f14 := ⟨Tryz.f229.name, by decide, Tryz.func229.trans (congrArg some (by kernel_rfl))⟩
 f15 := ⟨Tryz.f230.name, by decide, Tryz.func230.trans (congrArg some (by kernel_rfl))⟩
 f16 := ⟨Tryz.f231.name, by decide, Tryz.func231.trans (congrArg some (by kernel_rfl))⟩
 f17 := ⟨Tryz.f232.name, by decide, Tryz.func232.trans (congrArg some (by kernel_rfl))⟩
 f18 := ⟨Tryz.f233.name, by decide, Tryz.func233.trans (congrArg some (by kernel_rfl))⟩
 f19 := Tryz.func234.trans (congrArg some (by kernel_rfl))
 f20 := Tryz.func162.trans (congrArg some (by kernel_rfl))
 f30 := ⟨Tryz.f244.name, by decide, Tryz.func244.trans (congrArg some (by kernel_rfl))⟩
 f31 := Tryz.func245.trans (congrArg some (by kernel_rfl))
 f32 := Tryz.func246.trans (congrArg some (by kernel_rfl))
 f33 := ⟨Tryz.f247.name, by decide, Tryz.func247.trans (congrArg some (by kernel_rfl))⟩
 f34 := ⟨Tryz.f248.name, by decide, Tryz.func248.trans (congrArg some (by kernel_rfl))⟩
 f35 := ⟨Tryz.f249.name, by decide, Tryz.func249.trans (congrArg some (by kernel_rfl))⟩
 f40 := ⟨Tryz.f253.name, by decide, Tryz.func253.trans (congrArg some (by kernel_rfl))⟩
 t0 := Tryz.underlying0
 a0 := Tryz.isAgg0
 z0 := Tryz.sizeOf0
 v0 := Tryz.zeroValue0
 t3 := Tryz.underlying3
 a3 := Tryz.isAgg3
 z3 := Tryz.sizeOf3
 v3 := Tryz.zeroValue3
 t4 := Tryz.underlying4
 a4 := Tryz.isAgg4
 z4 := Tryz.sizeOf4
 v4 := Tryz.zeroValue4
 t5 := Tryz.underlying5
 a5 := Tryz.isAgg5
 z5 := Tryz.sizeOf5
 v5 := Tryz.zeroValue5
 t9 := Tryz.underlying9
 a9 := Tryz.isAgg9
 z9 := Tryz.sizeOf9
 v9 := Tryz.zeroValue9
 t22 := Tryz.underlying63
 a22 := Tryz.isAgg63
 z22 := Tryz.sizeOf63
 v22 := Tryz.zeroValue63
 t23 := Tryz.underlying63
 a23 := Tryz.isAgg63
 z23 := Tryz.sizeOf63
 v23 := Tryz.zeroValue63
 t25 := Tryz.underlying3
 a25 := Tryz.isAgg3
 z25 := Tryz.sizeOf3
 v25 := Tryz.zeroValue3
 t32 := Tryz.underlying60
 a32 := Tryz.isAgg60
 z32 := Tryz.sizeOf60
 v32 := Tryz.zeroValue60
 t35 := Tryz.underlying299
 a35 := Tryz.isAgg299
 z35 := Tryz.sizeOf299
 v35 := Tryz.zeroValue299
 t36 := Tryz.underlying300
 a36 := Tryz.isAgg300
 z36 := Tryz.sizeOf300
 v36 := Tryz.zeroValue300
 t41 := Tryz.underlying226
 a41 := Tryz.isAgg226
 z41 := Tryz.sizeOf226
 v41 := Tryz.zeroValue226
 t44 := Tryz.underlying56
 a44 := Tryz.isAgg56
 z44 := Tryz.sizeOf56
 v44 := Tryz.zeroValue56
 t46 := Tryz.underlying53
 a46 := Tryz.isAgg53
 z46 := Tryz.sizeOf53
 v46 := Tryz.zeroValue53
 t53 := Tryz.underlying311
 a53 := Tryz.isAgg311
 z53 := Tryz.sizeOf311
 v53 := Tryz.zeroValue311
 t57 := Tryz.underlying314
 a57 := Tryz.isAgg314
 z57 := Tryz.sizeOf314
 v57 := Tryz.zeroValue314
 t63 := Tryz.underlying318
 a63 := Tryz.isAgg318
 z63 := Tryz.sizeOf318
 v63 := Tryz.zeroValue318
 t64 := Tryz.underlying319
 a64 := Tryz.isAgg319
 z64 := Tryz.sizeOf319
 v64 := Tryz.zeroValue319 }
end Go.Proofs
namespace Go.Proofs.YtfglkgkihafcpaaGreatDoor
open Go.RowKit Pl Go.Maps Go.Sort Go.Shelf
theorem sortsA (m : Nat) : AnyZI.SortsIn Tryz.prog Tryz.sortedA_ren Fence.wide m :=
 ⟨fun blk off cap ss W hH hblk hsz => callsIn_wide.2 (AnyM.slices_Sort_int Tryz.sortA blk off cap ss W hH hblk hsz),
  fun p cap W => callsIn_wide.2 (AnyM.slices_Sort_int_none Tryz.sortA p cap W)⟩
theorem keys_any (mb : Option Nat) (w : World) : Calls Tryz.prog 172 #[.map mb] w fun e w' => e = .returned (.func (.func 204) #[] #[.pointer (some ⟨w.heap.size, 0, none⟩)]) ∧ w' = w.alloc (.cells #[.map mb] 149) :=
 callsIn_wide.1 (AnyZI.keys_in Tryz.keysA Fence.wide 5 trivial rfl mb w)
theorem Sl.of_row {w : World} {base : Nat} {T : TypeId} {sz : Nat} {v : Value} {n : Nat} {l : List Value} (h : w.ownsRow base T sz v n l) : ∃ o c, v = .slice o n c ∧ Sl (fun k => base ≤ k) w T sz o n c l := by
 rcases h.2 with ⟨rfl, rfl⟩ | ⟨g, cap, cur, rfl, hb, rest⟩
 ·exact ⟨none, 0, rfl, ⟨⟨h.1, .inl ⟨rfl, rfl⟩⟩, fun a ha => by cases ha⟩⟩
 ·exact ⟨_, _, rfl, ⟨⟨h.1, .inr ⟨g, cap, cur, rfl, Nat.zero_le _, rest⟩⟩, fun a ha => by cases ha; exact hb⟩⟩
def SortedPost (w : World) (b : Nat) (m : List (Nat × Value)) (e : Ending) (w' : World) : Prop :=
 ∃ (l : List Nat) (o : Option Addr) (c : Nat), e = .returned (.slice o l.length c) ∧ Sl (fun k => w.heap.size ≤ k) w' 3 1 o l.length c (ints l) ∧ l.Perm (m.map (·.1)) ∧ l.Pairwise (· < ·) ∧ Keep Nb w w'
theorem sorted_any (w : World) (b : Nat) (m : List (Nat × Value)) (h : MapAt encN DN w b m) (hl : m.length ≤ 1000) (hv : ∀ q, q ∈ m → q.2 = .bool true) (q : Nat) (hq : w.cell? ⟨q, 0, none⟩ = some (.map (some b))) :
  Calls Tryz.prog 171 #[.func (.func 204) #[] #[.pointer (some ⟨q, 0, none⟩)]] w (SortedPost w b m) := by
 obtain ⟨D0, h1, h2, h3⟩ := h.owns (H := Unit) (P := Tryz.prog) Tryz.underlying3 Tryz.underlying4 hl hv
 have hseq : SeqGives Fence.wide 2 Tryz.prog 204 #[.pointer (some ⟨q, 0, none⟩)] encZ (fun ss => ss.Perm (intKeys D0)) (Maps.size D0) w :=
  AnyZI.keys_gives (ρ := Tryz.keysA_ren) { Tryz.keysA with } Fence.wide _ trivial rfl (by omega) q b m.length D0 w (World.block_lt_of_cell? w _ hq) hq h1
 have cS := AnyZI.sorted_in Tryz.sortedA Fence.wide 5 trivial trivial trivial trivial rfl (by omega) (sortsA _) (enters_of Tryz.func199 (by kernel_rfl) rfl) 204 #[.pointer (some ⟨q, 0, none⟩)] trivial (enters_of Tryz.func204 (by kernel_rfl) rfl) _ (Maps.size D0) (by rw [h2]; simp only [maxLen]; omega) (by rw [h2]; omega) w hseq
 change CallsIn _ _ Tryz.prog 171 _ _ _ at cS
 refine (callsIn_wide.1 cS).mono ?_
 rintro e w' ⟨v, ss, rfl, hp, hrow, hnil, hb⟩
 obtain ⟨o, c, rfl, hS⟩ := Sl.of_row hrow
 have hpp := hp.trans h3
 have hsp : (ss.mergeSort (fun x y => decide (x ≤ y))).Perm ss := List.mergeSort_perm _ _
 have hcast : ∀ x, x ∈ ss.mergeSort (fun x y => decide (x ≤ y)) → ((x.toNat : Nat) : Int) = x := fun x hx => by
  have := hpp.mem_iff.1 (hsp.mem_iff.1 hx)
  obtain ⟨p, _, rfl⟩ := List.mem_map.1 this
  omega
 have hints : ints ((ss.mergeSort (fun x y => decide (x ≤ y))).map Int.toNat) = (ss.mergeSort (fun x y => decide (x ≤ y))).map encZ := by
  unfold ints
  rw [List.map_map]
  exact List.map_congr_left fun x hx => by
   show Value.int .i64 ((x.toNat : Nat) : Int) = Value.int .i64 x
   rw [hcast x hx]
 have hlen : ss.length = ((ss.mergeSort (fun x y => decide (x ≤ y))).map Int.toNat).length := by rw [List.length_map, hsp.length_eq]
 have hperm : ((ss.mergeSort (fun x y => decide (x ≤ y))).map Int.toNat).Perm (m.map (·.1)) := by
  have := (hsp.trans hpp).map Int.toNat
  rw [List.map_map] at this
  refine this.trans (List.Perm.of_eq (List.map_congr_left fun p _ => ?_))
  show ((p.1 : Int)).toNat = p.1
  omega
 have hnd : ((ss.mergeSort (fun x y => decide (x ≤ y))).map Int.toNat).Nodup := by
  refine hperm.nodup_iff.2 ?_
  unfold List.Nodup
  rw [List.pairwise_map]
  exact h.nodup
 have hsort : (ss.mergeSort (fun x y => decide (x ≤ y))).Pairwise (fun x y => x ≤ y) := by
  have := List.pairwise_mergeSort (le := fun (x y : Int) => decide (x ≤ y)) (fun a b c h1 h2 => by simp at h1 h2 ⊢; omega) (fun a b => by simp; omega) ss
  exact this.imp fun h => by simpa using h
 refine ⟨(ss.mergeSort (fun x y => decide (x ≤ y))).map Int.toNat, o, c, by rw [hlen], ?_, hperm, ?_, Keep.below hb⟩
 ·rw [hints, ← hlen]; exact hS
 ·have h5 : ((ss.mergeSort (fun x y => decide (x ≤ y))).map Int.toNat).Pairwise (fun x y => x ≤ y) := by
   rw [List.pairwise_map]
   exact hsort.imp fun h => Int.toNat_le_toNat h
  exact (h5.and hnd).imp fun ⟨a, b⟩ => Nat.lt_of_le_of_ne a b
structure BridgeIds (es : List E) (l : List Nat) : Prop where
 sorted : l.Pairwise (· < ·)
 mem : ∀ id, id ∈ l ↔ ∃ e, e ∈ es ∧ e.id = id ∧ ¬ Conn (ends (sans es [e.id])) e.a e.b
def IdsPost (F : Nat → Prop) (w : World) (b n : Nat) (es : List E) (e : Ending) (w' : World) : Prop :=
 ∃ (l : List Nat) (o : Option Addr) (c : Nat), e = .returned (.slice o l.length c) ∧ Sl (fun k => w.heap.size ≤ k) w' 3 1 o l.length c (ints l) ∧ BridgeIds es l ∧ Brs F w' b n es ∧ Keep Nb w w' ∧ l.length ≤ es.length
set_option maxRecDepth 100000 in
theorem ids_any (F : Nat → Prop) (w : World) (b n : Nat) (es : List E) (hB : Brs F w b n es) (hl : es.length ≤ 1000) :
  Calls Tryz.prog 137 #[.pointer (some ⟨b, 0, none⟩)] w (IdsPost F w b n es) := by
 have HBB := Lib.hid hB
 obtain ⟨ws, ts, um, im, Fw, Ft, T, mU, mI, up, h, hU, hI, hInv, hsm⟩ := hB
 have c3 := h.head.cell (i := 3) rfl
 have hsub : ∀ x, x ∈ mI.map (·.1) → x ∈ es.map (·.id) := fun x hx => by
  have h1 := (hI.1 x).1 (mem_keys_iff.1 hx)
  obtain ⟨e, he, hid, _⟩ := hInv.ids_iff.1 h1
  exact List.mem_map.2 ⟨e, he, hid⟩
 have hnd : (mI.map (·.1)).Nodup := by
  unfold List.Nodup
  rw [List.pairwise_map]
  exact h.mi.nodup
 have hlen : mI.length ≤ es.length := by
  have := len_le_of_mem hnd hsub
  simpa using this
 have HM := Lib.hid h.mi
 have HI := Lib.hid hI
 have HInv := Lib.hid hInv
 clear h hU hI hInv hsm hsub hnd
 go_enter Tryz.func137, Tryz.ntmps137
 go_wp2_with fail
 refine (keys_any (some im) _).mono ?_
 rintro e w1 ⟨rfl, rfl⟩
 go_wp2_with fail
 refine (sorted_any _ im mI (HM.out.alloc _) (by omega) HI.out.2 w.heap.size (by rw [World.cell?_alloc_at _ _ _ _ rfl]; rfl)).mono ?_
 rintro e w2 ⟨l, o, c, rfl, hS, hp, hs, hk⟩
 have hk2 : Keep Nb w w2 := ((Keep.refl Nb w).alloc _).trans hk
 have HP : Hid (IdsPost F w b n es (.returned (.slice o l.length c)) w2) := Lib.hid (by
  refine ⟨l, o, c, rfl, hS.mono (fun k hk => by simp only [World.size_alloc] at hk; omega), ⟨hs, fun id => ?_⟩, HBB.out.keep hk2 (fun _ _ e => e), hk2, by rw [hp.length_eq, List.length_map]; exact hlen⟩
  rw [hp.mem_iff, mem_keys_iff, HI.out.1 id]
  exact HInv.out.ids_iff)
 clear hS hp hs hk hk2
 go_wp2_with fail
 go_ret
 exact HP.out
end Go.Proofs.YtfglkgkihafcpaaGreatDoor

namespace Go.Proofs
open Go.Shelf
def Tryz.cloneC_ren : Go.Shelf.Ren := ⟨fun | 15 => 170 | n => n, fun | 22 => 63 | 3 => 3 | 4 => 4 | n => n, fun | n => n⟩
theorem Tryz.cloneC : Go.Proofs.Lays2.n15 Tryz.prog Tryz.cloneC_ren := {
 mixed := by kernel_rfl
 f15 := Tryz.func170.trans (congrArg some (by kernel_rfl))
 t3 := Tryz.underlying3
 a3 := Tryz.isAgg3
 z3 := Tryz.sizeOf3
 v3 := Tryz.zeroValue3
 t4 := Tryz.underlying4
 a4 := Tryz.isAgg4
 z4 := Tryz.sizeOf4
 v4 := Tryz.zeroValue4
 t22 := Tryz.underlying63
 a22 := Tryz.isAgg63
 z22 := Tryz.sizeOf63
 v22 := Tryz.zeroValue63
 i3 := by kernel_rfl }
def Tryz.compactC_ren : Go.Shelf.Ren := ⟨fun | 20 => 202 | n => n, fun | 22 => 63 | 3 => 3 | 4 => 4 | 0 => 0 | n => n, fun | n => n⟩
theorem Tryz.compactC : Go.Proofs.Lays2.n20 Tryz.prog Tryz.compactC_ren := {
 mixed := by kernel_rfl
 f20 := Tryz.func202.trans (congrArg some (by kernel_rfl))
 t0 := Tryz.underlying0
 a0 := Tryz.isAgg0
 z0 := Tryz.sizeOf0
 v0 := Tryz.zeroValue0
 t3 := Tryz.underlying3
 a3 := Tryz.isAgg3
 z3 := Tryz.sizeOf3
 v3 := Tryz.zeroValue3
 t4 := Tryz.underlying4
 a4 := Tryz.isAgg4
 z4 := Tryz.sizeOf4
 v4 := Tryz.zeroValue4
 t22 := Tryz.underlying63
 a22 := Tryz.isAgg63
 z22 := Tryz.sizeOf63
 v22 := Tryz.zeroValue63
 i3 := by kernel_rfl }
def Tryz.sortC_ren : Go.Shelf.Ren := ⟨fun | 6 => 200 | 15 => 216 | 14 => 217 | 28 => 234 | 29 => 162 | 20 => 235 | 21 => 236 | 22 => 237 | 23 => 238 | 24 => 239 | 25 => 240 | 26 => 241 | 27 => 242 | 46 => 250 | 47 => 245 | 48 => 246 | 49 => 251 | 50 => 252 | 57 => 254 | n => n, fun | 22 => 134 | 24 => 63 | 25 => 274 | 3 => 3 | 39 => 60 | 0 => 0 | 53 => 56 | 55 => 53 | 4 => 4 | 46 => 300 | 45 => 299 | 50 => 226 | 5 => 5 | 9 => 9 | 66 => 311 | 70 => 314 | 76 => 318 | 77 => 319 | n => n, fun | n => n⟩
theorem Tryz.sortC : Go.Proofs.SlLaysF.n6 Tryz.prog Tryz.sortC_ren := {
 mixed := by kernel_rfl
 f6 := ⟨Tryz.f200.name, by decide, Tryz.func200.trans (congrArg some (by kernel_rfl))⟩
 f14 := ⟨Tryz.f217.name, by decide, Tryz.func217.trans (congrArg some (by kernel_rfl))⟩
 f15 := Tryz.func216.trans (congrArg some (by kernel_rfl))
 f20 := ⟨Tryz.f235.name, by decide, Tryz.func235.trans (congrArg some (by kernel_rfl))⟩
 f21 := ⟨Tryz.f236.name, by decide, Tryz.func236.trans (congrArg some (by kernel_rfl))⟩
 f22 := ⟨Tryz.f237.name, by decide, Tryz.func237.trans (congrArg some (by kernel_rfl))⟩
 f23 := ⟨Tryz.f238.name, by decide, Tryz.func238.trans (congrArg some (by kernel_rfl))⟩
 f24 := ⟨Tryz.f239.name, by decide, Tryz.func239.trans (congrArg some (by kernel_rfl))⟩
 f25 := ⟨Tryz.f240.name, by decide, Tryz.func240.trans (congrArg some (by kernel_rfl))⟩
 f26 := ⟨Tryz.f241.name, by decide, Tryz.func241.trans (congrArg some (by kernel_rfl))⟩
 f27 := ⟨Tryz.f242.name, by decide, Tryz.func242.trans (congrArg some (by kernel_rfl))⟩
 f28 := Tryz.func234.trans (congrArg some (by kernel_rfl))
 f29 := Tryz.func162.trans (congrArg some (by kernel_rfl))
 f46 := ⟨Tryz.f250.name, by decide, Tryz.func250.trans (congrArg some (by kernel_rfl))⟩
 f47 := Tryz.func245.trans (congrArg some (by kernel_rfl))
 f48 := Tryz.func246.trans (congrArg some (by kernel_rfl))
 f49 := ⟨Tryz.f251.name, by decide, Tryz.func251.trans (congrArg some (by kernel_rfl))⟩
 f50 := ⟨Tryz.f252.name, by decide, Tryz.func252.trans (congrArg some (by kernel_rfl))⟩
 f57 := ⟨Tryz.f254.name, by decide, Tryz.func254.trans (congrArg some (by kernel_rfl))⟩
 t0 := Tryz.underlying0
 a0 := Tryz.isAgg0
 z0 := Tryz.sizeOf0
 v0 := Tryz.zeroValue0
 t3 := Tryz.underlying3
 a3 := Tryz.isAgg3
 z3 := Tryz.sizeOf3
 v3 := Tryz.zeroValue3
 t4 := Tryz.underlying4
 a4 := Tryz.isAgg4
 z4 := Tryz.sizeOf4
 v4 := Tryz.zeroValue4
 t5 := Tryz.underlying5
 a5 := Tryz.isAgg5
 z5 := Tryz.sizeOf5
 v5 := Tryz.zeroValue5
 t9 := Tryz.underlying9
 a9 := Tryz.isAgg9
 z9 := Tryz.sizeOf9
 v9 := Tryz.zeroValue9
 t22 := Tryz.underlying134
 a22 := Tryz.isAgg134
 z22 := Tryz.sizeOf134
 v22 := Tryz.zeroValue134
 a24 := Tryz.isAgg63
 z24 := Tryz.sizeOf63
 t25 := Tryz.underlying274
 a25 := Tryz.isAgg274
 z25 := Tryz.sizeOf274
 v25 := Tryz.zeroValue274
 t39 := Tryz.underlying60
 a39 := Tryz.isAgg60
 z39 := Tryz.sizeOf60
 v39 := Tryz.zeroValue60
 t45 := Tryz.underlying299
 a45 := Tryz.isAgg299
 z45 := Tryz.sizeOf299
 v45 := Tryz.zeroValue299
 t46 := Tryz.underlying300
 a46 := Tryz.isAgg300
 z46 := Tryz.sizeOf300
 v46 := Tryz.zeroValue300
 t50 := Tryz.underlying226
 a50 := Tryz.isAgg226
 z50 := Tryz.sizeOf226
 v50 := Tryz.zeroValue226
 t53 := Tryz.underlying56
 a53 := Tryz.isAgg56
 z53 := Tryz.sizeOf56
 v53 := Tryz.zeroValue56
 t55 := Tryz.underlying53
 a55 := Tryz.isAgg53
 z55 := Tryz.sizeOf53
 v55 := Tryz.zeroValue53
 t66 := Tryz.underlying311
 a66 := Tryz.isAgg311
 z66 := Tryz.sizeOf311
 v66 := Tryz.zeroValue311
 t70 := Tryz.underlying314
 a70 := Tryz.isAgg314
 z70 := Tryz.sizeOf314
 v70 := Tryz.zeroValue314
 t76 := Tryz.underlying318
 a76 := Tryz.isAgg318
 z76 := Tryz.sizeOf318
 v76 := Tryz.zeroValue318
 t77 := Tryz.underlying319
 a77 := Tryz.isAgg319
 z77 := Tryz.sizeOf319
 v77 := Tryz.zeroValue319 }
end Go.Proofs

namespace Go.Proofs.YtfglkgkihafcpaaGreatDoor
open Go.RowKit Pl
theorem Mat.lat_ {F : Nat → Prop} {w : World} {T e : TypeId} {o : Option Addr} {n c : Nat} {rows : List Rw} {ll : List (List Nat)} (h : Mat F w T e o n c rows ll) {i : Nat} {l : List Nat} (hl : ll[i]? = some l) :
  ∃ (go : Nat) (r : Rw), o = some ⟨go, 0, none⟩ ∧ n ≤ c ∧ w.cell? ⟨go, i, none⟩ = some (.slice r.o r.n r.c) ∧ Sl F w e 1 r.o r.n r.c (ints l) := by
 have hi := (List.getElem?_eq_some_iff.1 hl).1
 obtain ⟨go, h1, h2, h3, h4⟩ := h.out.pos (by rw [h.n_eq]; omega)
 obtain ⟨r, hr⟩ : ∃ r, rows[i]? = some r := ⟨_, List.getElem?_eq_getElem (by rw [h.len]; exact hi)⟩
 exact ⟨go, r, h1, h3, h4.cell (i := i) (v := r.val) (by simp [hr]), h.row i r l hr hl⟩
end Go.Proofs.YtfglkgkihafcpaaGreatDoor

