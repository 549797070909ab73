/- isthmusref: Blocks: the grouping by labels. -/
import Derived.Test.YtkpoobnldgfapabGreatDoorRBlk1
import Derived.Test.YtkpoobnldgfapabGreatDoorA2
import Derived.Test.YtkpoobnldgfapabGreatDoorMkI
set_option linter.unusedVariables false
set_option linter.unusedSimpArgs false
namespace Go.Proofs.YtkpoobnldgfapabGreatDoor
open Go.RowKit Pl Go.Maps

/-- What ref.Blocks leaves. -/
def RBlocksPost (w : World) (es : List E) (e : Ending) (w' : World) : Prop :=
  ∃ (ps : List (List Nat)) (o : Option Addr) (m c : Nat) (rows : List Rw), e = .returned (.slice o m c) ∧ BlkList es ps ∧ Mat (fun k => w.heap.size ≤ k) w' 33 3 o m c rows ps ∧ Keep Nb w w'

theorem keepOne (w : World) (b i : Nat) (v : Value) : Keep (fun j => j = b) w (w.setCell ⟨b, i, none⟩ v) := Keep.setCell (p := ⟨b, i, none⟩) (Keep.refl (fun j => j = b) w) (.inl rfl) v

theorem PS.imp {m : Nat} {b0 b : Nat → Nat} {more : Bool} {C C' : Prop} (h : PS m b0 b more C) (f : C → C') : PS m b0 b more C' := by
  rcases h with h | ⟨h1, h2, h3⟩
  · exact .inl h
  · exact .inr ⟨h1, h2, f h3⟩
theorem PS.fall {m : Nat} {b0 b b' : Nat → Nat} {more : Bool} {C C' : Prop} (h : PS m b0 b more C) (hlt : sumB m b' < sumB m b) : PS m b0 b' true C' := by
  rcases h with h | ⟨h1, h2, h3⟩
  · exact .inl ⟨rfl, by omega⟩
  · exact .inl ⟨rfl, by rw [← h2]; exact hlt⟩
theorem PS.start (m : Nat) (b : Nat → Nat) {C : Prop} (h : C) : PS m b b false C := .inr ⟨rfl, rfl, h⟩

theorem CF.zero (es : List E) (b : Nat → Nat) : CF es b 0 := fun i' k' e f h => by omega
theorem CFk.zero (es : List E) (b : Nat → Nat) (i : Nat) : CFk es b i 0 := fun k' e f h => by omega
theorem CFw.zero (es : List E) (b : Nat → Nat) (i k : Nat) (e f : E) : CFw es b i k e f 0 := fun j' z h => by omega

theorem init_step (i : Nat) : upd (fun j => if j < i then j else 0) i i = fun j => if j < i + 1 then j else 0 := by
  funext j
  by_cases e : j = i
  · subst e; rw [upd_same, if_pos (by omega)]
  · rw [upd_ne _ _ _ _ e]
    by_cases h : j < i
    · rw [if_pos h, if_pos (by omega)]
    · rw [if_neg h, if_neg (by omega)]

theorem fints_eq {n : Nat} {f g : Nat → Nat} (h : ∀ x, x < n → f x = g x) : fints n f = fints n g := by
  unfold fints
  congr 1
  exact List.map_congr_left fun x hx => h x (List.mem_range.1 hx)

/-- The grouping, the first k edges done. -/
structure GrpRel (w7 : World) (es : List E) (b : Nat → Nat) (k : Nat) (o : Option Addr) (m c : Nat) (rows : List Rw) (mp : List (Nat × Value)) (wr : World) : Prop where
  mat : Mat (fun j => w7.heap.size < j) wr 33 3 o m c rows ((parts k b).map (fun p => p.map (idAt es)))
  map : MapAt encN DN wr w7.heap.size mp
  get : ∀ x, x < es.length → mget mp (b x) = if b x < k then some (.int .i64 (cnt (b x) (isRoot b) : Nat)) else none
  keep : Keep Nb w7 wr

theorem grp_mod {es : List E} {b : Nat → Nat} {k i id : Nat} {l : List Nat} (hid : idAt es k = id) (hl : ((parts k b).map (fun p => p.map (idAt es)))[i]? = some l) :
    ((parts k b).modify i (fun p => p ++ [k])).map (fun p => p.map (idAt es)) = ((parts k b).map (fun p => p.map (idAt es))).set i (l ++ [id]) := by
  rw [List.getElem?_map] at hl
  cases hp : (parts k b)[i]? with
  | none => rw [hp] at hl; cases hl
  | some l0 =>
    rw [hp] at hl
    have e0 : l0.map (idAt es) = l := by simpa using hl
    have e : (parts k b).modify i (fun p => p ++ [k]) = (parts k b).set i (l0 ++ [k]) := by
      rw [List.modify_eq_set]; rw [hp]; rfl
    rw [e, List.map_set]
    congr 1
    rw [List.map_append, e0, List.map_cons, List.map_nil, hid]

theorem grp_other {w7 wr wi w4 : World} {es : List E} {b : Nat → Nat} {k go m c g c' id : Nat} {rows : List Rw} {mp : List (Nat × Value)} (C : Canon es.length b) (h : GrpRel w7 es b k (some ⟨go, 0, none⟩) m c rows mp wr) (hk : k < es.length) (hroot : b k ≠ k) (hk1 : Keep Nb wr wi)
    {r : Rw} (hr : rows[cnt (b k) (isRoot b)]? = some r) {l : List Nat} (hl : ((parts k b).map (fun p => p.map (idAt es)))[cnt (b k) (isRoot b)]? = some l) (hid : idAt es k = id)
    (hS : Sl (fun j => w7.heap.size < j ∨ j = wi.heap.size + 1) w4 3 1 (some ⟨g, 0, none⟩) (r.n + 1) c' (ints l ++ [.int .i64 (id : Nat)])) (hk4 : Keep (Bl r.o) wi w4) (hg : r.o = some ⟨g, 0, none⟩ ∨ g = wi.heap.size + 1) :
    GrpRel w7 es b (k + 1) (some ⟨go, 0, none⟩) m c (rows.set (cnt (b k) (isRoot b)) ⟨some ⟨g, 0, none⟩, r.n + 1, c'⟩) mp (w4.setCell ⟨go, cnt (b k) (isRoot b), none⟩ (.slice (some ⟨g, 0, none⟩) (r.n + 1) c')) := by
  obtain ⟨hMat, hMap, hget, hK⟩ := h
  have hMatI := hMat.keep hk1 (fun _ _ e => e)
  have hMapI := hMap.keep hk1 (fun e => e)
  have hsz : w7.heap.size < wr.heap.size := hMap.lt
  have hszi := hk1.size
  have hgo : w7.heap.size < go := hMat.out.foot _ rfl
  have hbl : ∀ j, Bl r.o j → w7.heap.size < j := by
    rintro j ⟨a, ha, rfl⟩
    have := (hMat.row _ _ _ hr hl).foot a ha
    exact this
  refine ⟨?_, ?_, ?_, ?_⟩
  · rw [parts_succ_other (C.less (by omega)) hroot, grp_mod hid hl]
    exact hMatI.setRow hr hl (hS.mono (fun j hj => by rcases hj with h | h <;> omega)) hk4 hg
  · refine (hMapI.keep hk4 (fun hb => by have := hbl _ hb; omega)).setCell _ ?_ _
    show go ≠ w7.heap.size
    omega
  · intro x hx
    rw [hget x hx]
    by_cases h1 : b x < k
    · rw [if_pos h1, if_pos (by omega)]
    · have : b x ≠ k := fun e => hroot (by rw [← e]; exact C.idem x hx)
      rw [if_neg h1, if_neg (by omega)]
  · refine ((hK.trans hk1).trans' hk4 (H := Nb) (fun _ _ h => h) (fun j hj hb => ?_)).setCell (.inr (by show w7.heap.size ≤ go; omega)) _
    have := hbl j hb; omega

theorem grp_root {w7 wr wi w2 w3 wd w4 : World} {es : List E} {b : Nat → Nat} {k m c id : Nat} {o : Option Addr} {rows : List Rw} {mp : List (Nat × Value)} (C : Canon es.length b) (h : GrpRel w7 es b k o m c rows mp wr) (hk : k < es.length) (hroot : b k = k) (hk1 : Keep Nb wr wi) (hid : idAt es k = id)
    (hm2 : MapAt encN DN w2 w7.heap.size (mset mp (b k) (.int .i64 (m : Nat)))) (hk2 : Keep (fun i => i = w7.heap.size) wi w2)
    {go c1 : Nat} (hS3 : Sl (fun j => w7.heap.size < j ∨ j = w2.heap.size + 1) w3 33 1 (some ⟨go, 0, none⟩) (m + 1) c1 (rows.map Rw.val ++ [.slice none 0 0])) (hk3 : Keep (Bl o) w2 w3) (hg3 : o = some ⟨go, 0, none⟩ ∨ go = w2.heap.size + 1)
    (hkd : Keep Nb w3 wd) {g c' : Nat} (hS4 : Sl (fun j => w7.heap.size < j ∨ j = wd.heap.size + 1) w4 3 1 (some ⟨g, 0, none⟩) 1 c' [.int .i64 (id : Nat)]) (hk4 : Keep Nb wd w4) (hg4 : g = wd.heap.size + 1) :
    GrpRel w7 es b (k + 1) (some ⟨go, 0, none⟩) (m + 1) c1 ((rows ++ [(⟨none, 0, 0⟩ : Rw)]).set m ⟨some ⟨g, 0, none⟩, 1, c'⟩) (mset mp (b k) (.int .i64 (m : Nat))) (w4.setCell ⟨go, m, none⟩ (.slice (some ⟨g, 0, none⟩) 1 c')) := by
  obtain ⟨hMat, hMap, hget, hK⟩ := h
  have hMatI := hMat.keep hk1 (fun _ _ e => e)
  have hsz : w7.heap.size < wr.heap.size := hMap.lt
  have hszi := hk1.size
  have hsz2 : w7.heap.size < w2.heap.size := hm2.lt
  have hn : m = (parts k b).length := by have := hMat.n_eq; rwa [List.length_map] at this
  have hbl : ∀ j, Bl o j → w7.heap.size < j := mat_row_bl hMat
  have hsz3 := hk3.size
  have hszd := hkd.size
  have hMat2 : Mat (fun j => w7.heap.size < j) w2 33 3 o m c rows ((parts k b).map (fun p => p.map (idAt es))) := hMatI.keep hk2 (fun j hj e => by omega)
  have hMat3 := Mat.push hMat2 (hS3.mono (G := fun j => w7.heap.size < j) (fun j hj => by rcases hj with h | h <;> omega)) hk3 hg3
  have hMatd := hMat3.keep hkd (fun _ _ e => e)
  have hMat4 := Mat.setRow (x := id) (l := []) (r := ⟨none, 0, 0⟩) (i := m) hMatd (by rw [hn, ← List.length_map (f := fun p : List Nat => p.map (idAt es)), ← hMat.len]; simp) (by rw [hn]; simp) (hS4.mono (G := fun j => w7.heap.size < j) (fun j hj => by rcases hj with h | h <;> omega)) (hk4.of_nb) (.inr hg4)
  have hgo : w7.heap.size < go := hMat3.out.foot _ rfl
  refine ⟨?_, ?_, ?_, ?_⟩
  · rw [parts_succ_root (C.less (by omega)) hroot]
    have e : ((parts k b).map (fun p : List Nat => p.map (idAt es)) ++ [[]]).set m ([] ++ [id]) = (parts k b ++ [[k]]).map (fun p : List Nat => p.map (idAt es)) := by
      rw [hn, ← List.length_map (f := fun p : List Nat => p.map (idAt es)), List.map_append, List.map_cons, List.map_nil, List.map_cons, List.map_nil, hid]
      simp
    rw [← e]
    exact hMat4
  · refine (((hm2.keep hk3 (fun hb => by have := hbl _ hb; omega)).keep hkd (fun e => e)).keep hk4 (fun e => e)).setCell _ ?_ _
    show go ≠ w7.heap.size
    omega
  · intro x hx
    rw [mget_mset]
    by_cases h1 : b x = b k
    · rw [if_pos h1, h1, hroot, if_pos (by omega), hn, parts_length]
    · have h2 : b x ≠ k := fun e => h1 (by rw [e, hroot])
      rw [if_neg h1, hget x hx]
      by_cases h3 : b x < k
      · rw [if_pos h3, if_pos (by omega)]
      · rw [if_neg h3, if_neg (by omega)]
  · have k2 : Keep Nb w7 w2 := (hK.trans hk1).trans' hk2 (fun _ _ h => h) (fun j hj e => by omega)
    have k3 : Keep Nb w7 w3 := k2.trans' hk3 (fun _ _ h => h) (fun j hj e => by have := hbl j e; omega)
    exact ((k3.trans hkd).trans hk4).setCell (.inr (by show w7.heap.size ≤ go; omega)) _

end Go.Proofs.YtkpoobnldgfapabGreatDoor
