/- sets: All. -/
import Derived.Test.YtkpoobnldgfapaaSets4
import Derived.Test.YtkpoobnldgfapaaMat
import Derived.Test.YtkpoobnldgfapaaMapLib
namespace Go.Proofs.Ytkpoobnldgfapaa
open Go.RowKit Pl

theorem elem_int : ElemT Try.prog 3 (.int .i64 0) 1 8 := by unfold ElemT; kernel_rfl
theorem elem_ints : ElemT Try.prog 37 (.slice none 0 0) 1 24 := by unfold ElemT; kernel_rfl
theorem zero_int (w : World) : (zeroValue 3).run Try.prog w = .ok (.int .i64 0) w := by kernel_rfl

def AllPost (F : Nat → Prop) (w : World) (b n : Nat) (L : Nat → Nat) (e : Ending) (w' : World) : Prop :=
  ∃ (o : Option Addr) (m c : Nat) (rows : List Rw), e = .returned (.slice o m c) ∧ Mat (Iv w.heap.size w'.heap.size) w' 37 3 o m c rows (parts n L) ∧ Sets F w' b n L ∧ Keep F w w'

theorem SetsMem.tight {F : Nat → Prop} {w : World} {b n : Nat} {up size low : Nat → Nat} {many : Nat} {ou os ol : Option Addr} {cu cs cl : Nat} (h : SetsMem F w b n up size low many ou os ol cu cs cl) :
    SetsMem (fun k => F k ∧ k < w.heap.size) w b n up size low many ou os ol cu cs cl :=
  ⟨h.head, ⟨h.hb, h.head.lt⟩, h.u.tight, h.s.tight, h.l.tight, h.du, h.ds, h.dl, h.dus, h.dul, h.dsl⟩

theorem SetsMem.mono {F G : Nat → Prop} {w : World} {b n : Nat} {up size low : Nat → Nat} {many : Nat} {ou os ol : Option Addr} {cu cs cl : Nat} (h : SetsMem F w b n up size low many ou os ol cu cs cl) (hG : ∀ k, F k → G k) :
    SetsMem G w b n up size low many ou os ol cu cs cl :=
  ⟨h.head, hG _ h.hb, h.u.mono hG, h.s.mono hG, h.l.mono hG, h.du, h.ds, h.dl, h.dus, h.dul, h.dsl⟩

theorem parts_len_le (n : Nat) (L : Nat → Nat) : (parts n L).length ≤ n := by rw [parts_length]; exact cnt_le _ _

/-- The relation of All's loop. -/
def AllRel (F : Nat → Prop) (w : World) (b n : Nat) (up size low : Nat → Nat) (many : Nat) (ou os ol : Option Addr) (cu cs cl : Nat) (L rt : Nat → Nat) (k : Nat) (o : Option Addr) (m c : Nat) (rows : List Rw) (mp : List (Nat × Value)) (up' : Nat → Nat) (wr : World) : Prop :=
  SetsMem F wr b n up' size low many ou os ol cu cs cl ∧ SetsInv n up' size low many L ∧ SameRoots n up up' ∧ Mat (fun j => w.heap.size < j) wr 37 3 o m c rows (parts k L) ∧ MapAt encN DN wr w.heap.size mp ∧
    (∀ x, x < n → mget mp (rt x) = if L x < k then some (.int .i64 (cnt (L x) (isRoot L) : Nat)) else none) ∧ Keep F w wr

theorem parts_get {k : Nat} {L : Nat → Nat} {r : Nat} (hr : r < k) (h : L r = r) : ∃ l, (parts k L)[cnt r (isRoot L)]? = some l := by
  have h1 : isRoot L r = true := by simp [isRoot, h]
  have := cnt_lt hr h1
  rw [← parts_length k] at this
  exact ⟨_, List.getElem?_eq_getElem this⟩

theorem parts_part_le {k : Nat} {L : Nat → Nat} {i : Nat} {l : List Nat} (h : (parts k L)[i]? = some l) : l.length ≤ k := by
  have := List.mem_of_getElem? h
  unfold parts at this
  obtain ⟨r, _, rfl⟩ := List.mem_map.1 this
  exact Nat.le_trans (List.length_filter_le _ _) (by simp)

/-- The row that a number goes to. -/
theorem mat_at {F : Nat → Prop} {w : World} {T e : TypeId} {o : Option Addr} {n c : Nat} {rows : List Rw} {ll : List (List Nat)} (h : Mat F w T e o n c rows ll) {i : Nat} {l : List Nat} (hl : ll[i]? = some l) :
    ∃ go r, o = some ⟨go, 0, none⟩ ∧ rows[i]? = some r ∧ i < n ∧ n ≤ c ∧ w.cell? ⟨go, i, none⟩ = some (.slice r.o r.n r.c) ∧ w.frozen? ⟨go, i, none⟩ = false ∧ Sl F w e 1 r.o r.n r.c (ints l) ∧ r.n = l.length ∧ ¬ Bl r.o go := by
  have hi : i < ll.length := (List.getElem?_eq_some_iff.1 hl).1
  have hn := h.n_eq
  have hr : rows[i]? = some (rows[i]'(by rw [h.len]; exact hi)) := by simp
  obtain ⟨go, h1, h2, h3, h4⟩ := h.out.pos (by omega)
  refine ⟨go, _, h1, hr, by omega, h3, h4.cell (by simp [hr, Rw.val]), h4.frozen _ _, h.row _ _ _ hr hl, ?_, ?_⟩
  · have := (h.row _ _ _ hr hl).len
    simp at this; omega
  · rintro ⟨a, ha, hb⟩
    exact h.ne _ _ a hr ha ⟨_, h1, hb.symm⟩

theorem Pl.Canon.less {n k : Nat} {L : Nat → Nat} (C : Canon n L) (h : k ≤ n) : Canon k L := ⟨fun x hx => C.le x (by omega), fun x hx => C.idem x (by omega)⟩

/-- A number that is no root goes to its row. -/
theorem all_other {F : Nat → Prop} {w : World} {b n : Nat} {up size low : Nat → Nat} {many : Nat} {ou os ol : Option Addr} {cu cs cl : Nat} {L rt : Nat → Nat} {k go m c : Nat} {rows : List Rw} {mp : List (Nat × Value)} {up' : Nat → Nat} {wr : World}
    (hF : ∀ j, F j → j < w.heap.size) (h : AllRel F w b n up size low many ou os ol cu cs cl L rt k (some ⟨go, 0, none⟩) m c rows mp up' wr) (hk : k < n) (hroot : L k ≠ k) {r : Rw} (hr : rows[cnt (L k) (isRoot L)]? = some r)
    {l : List Nat} (hl : (parts k L)[cnt (L k) (isRoot L)]? = some l) {g c' : Nat} {w4 : World} (hS : Sl (fun j => w.heap.size < j ∨ j = wr.heap.size + 1) w4 3 1 (some ⟨g, 0, none⟩) (r.n + 1) c' (ints l ++ [.int .i64 k]))
    (hk4 : Keep (Bl r.o) wr w4) (hg : r.o = some ⟨g, 0, none⟩ ∨ g = wr.heap.size + 1) :
    AllRel F w b n up size low many ou os ol cu cs cl L rt (k + 1) (some ⟨go, 0, none⟩) m c (rows.set (cnt (L k) (isRoot L)) ⟨some ⟨g, 0, none⟩, r.n + 1, c'⟩) mp up'
      (w4.setCell ⟨go, cnt (L k) (isRoot L), none⟩ (.slice (some ⟨g, 0, none⟩) (r.n + 1) c')) := by
  obtain ⟨hM, hI, hSR, hMat, hMap, hget, hK⟩ := h
  have hsz : w.heap.size < wr.heap.size := hMap.lt
  have hgo : w.heap.size < go := hMat.out.foot _ rfl
  have hbl : ∀ j, Bl r.o j → w.heap.size < j := by
    rintro j ⟨a, ha, rfl⟩
    have := (hMat.row _ _ _ hr hl).foot a ha
    exact this
  have hM4 : SetsMem F w4 b n up' size low many ou os ol cu cs cl := hM.keep hk4 (fun j hj hb => by have := hF j hj; have := hbl j hb; omega)
  have hM5 : SetsMem F (w4.setCell ⟨go, cnt (L k) (isRoot L), none⟩ (.slice (some ⟨g, 0, none⟩) (r.n + 1) c')) b n up' size low many ou os ol cu cs cl :=
    hM4.of_heap (fun j _ hj => Below.heap_setCell w4 _ _ j (fun e => by have := hF j hj; simp at e; omega))
  refine ⟨hM5, hI, hSR, ?_, ?_, ?_, ?_⟩
  · rw [parts_succ_other (hI.canon.less (by omega)) hroot]
    have e : (parts k L).modify (cnt (L k) (isRoot L)) (fun p => p ++ [k]) = (parts k L).set (cnt (L k) (isRoot L)) (l ++ [k]) := by
      rw [List.modify_eq_set]; rw [hl]; rfl
    rw [e]
    exact hMat.setRow hr hl (hS.mono (fun j hj => by rcases hj with h | h <;> omega)) hk4 hg
  · refine (hMap.keep hk4 (fun hb => by have := hbl _ hb; omega)).setCell _ ?_ _
    show go ≠ w.heap.size
    omega
  · intro x hx
    rw [hget x hx]
    by_cases h1 : L x < k
    · rw [if_pos h1, if_pos (by omega)]
    · have : L x ≠ k := fun e => hroot (by rw [← e]; exact hI.canon.idem x hx)
      rw [if_neg h1, if_neg (by omega)]
  · refine (hK.trans' hk4 (H := fun j => F j) (fun _ _ h => h) (fun j hj hb => ?_)).setCell (.inr (by show w.heap.size ≤ go; omega)) _
    have := hbl j hb; omega

theorem mat_row_bl {F : Nat → Prop} {w : World} {T e : TypeId} {o : Option Addr} {n c : Nat} {rows : List Rw} {ll : List (List Nat)} (h : Mat F w T e o n c rows ll) : ∀ j, Bl o j → F j := by
  rintro j ⟨a, ha, rfl⟩
  exact h.out.foot a ha

/-- A number that is a root has a new row. -/
theorem all_root {F : Nat → Prop} {w : World} {b n : Nat} {up size low : Nat → Nat} {many : Nat} {ou os ol : Option Addr} {cu cs cl : Nat} {L rt : Nat → Nat} {k m c : Nat} {o : Option Addr} {rows : List Rw} {mp : List (Nat × Value)} {up' : Nat → Nat} {wr w2 w3 w4 : World}
    (hF : ∀ j, F j → j < w.heap.size) (h : AllRel F w b n up size low many ou os ol cu cs cl L rt k o m c rows mp up' wr) (hk : k < n) (hroot : L k = k)
    (hrt : ∀ x y, x < n → y < n → (rt x = rt y ↔ L x = L y))
    (hm2 : MapAt encN DN w2 w.heap.size (mset mp (rt k) (.int .i64 m))) (hk2 : Keep (fun i => i = w.heap.size) wr w2)
    {go c1 : Nat} (hS3 : Sl (fun j => w.heap.size < j ∨ j = w2.heap.size + 1) w3 37 1 (some ⟨go, 0, none⟩) (m + 1) c1 (rows.map Rw.val ++ [.slice none 0 0])) (hk3 : Keep (Bl o) w2 w3) (hg3 : o = some ⟨go, 0, none⟩ ∨ go = w2.heap.size + 1)
    {g c' : Nat} (hS4 : Sl (fun j => w.heap.size < j ∨ j = w3.heap.size + 1) w4 3 1 (some ⟨g, 0, none⟩) 1 c' [.int .i64 k]) (hk4 : Keep Nb w3 w4) (hg4 : g = w3.heap.size + 1) :
    AllRel F w b n up size low many ou os ol cu cs cl L rt (k + 1) (some ⟨go, 0, none⟩) (m + 1) c1 ((rows ++ [(⟨none, 0, 0⟩ : Rw)]).set m ⟨some ⟨g, 0, none⟩, 1, c'⟩) (mset mp (rt k) (.int .i64 m)) up'
      (w4.setCell ⟨go, m, none⟩ (.slice (some ⟨g, 0, none⟩) 1 c')) := by
  obtain ⟨hM, hI, hSR, hMat, hMap, hget, hK⟩ := h
  have hsz : w.heap.size < wr.heap.size := hMap.lt
  have hsz2 : w.heap.size < w2.heap.size := hm2.lt
  have hn : m = (parts k L).length := hMat.n_eq
  have hbl : ∀ j, Bl o j → w.heap.size < j := mat_row_bl hMat
  have hsz3 := hk3.size
  have hMat2 : Mat (fun j => w.heap.size < j) w2 37 3 o m c rows (parts k L) := hMat.keep hk2 (fun j hj e => by omega)
  have hMat3 := Mat.push hMat2 (hS3.mono (G := fun j => w.heap.size < j) (fun j hj => by rcases hj with h | h <;> omega)) hk3 hg3
  have hMat4 := Mat.setRow (x := k) (l := []) (r := ⟨none, 0, 0⟩) (i := m) hMat3 (by rw [hn, ← hMat.len]; simp) (by rw [hn]; simp) (hS4.mono (G := fun j => w.heap.size < j) (fun j hj => by rcases hj with h | h <;> omega)) (hk4.of_nb) (.inr hg4)
  have hgo : w.heap.size < go := hMat3.out.foot _ rfl
  have hM2 : SetsMem F w2 b n up' size low many ou os ol cu cs cl := hM.keep hk2 (fun j hj e => by have := hF j hj; omega)
  have hM3 : SetsMem F w3 b n up' size low many ou os ol cu cs cl := hM2.keep hk3 (fun j hj e => by have := hF j hj; have := hbl j e; omega)
  have hM4 : SetsMem F w4 b n up' size low many ou os ol cu cs cl := hM3.keep hk4 (fun _ _ e => e)
  have hM5 : SetsMem F (w4.setCell ⟨go, m, none⟩ (.slice (some ⟨g, 0, none⟩) 1 c')) b n up' size low many ou os ol cu cs cl :=
    hM4.of_heap (fun j _ hj => Below.heap_setCell w4 _ _ j (fun e => by have := hF j hj; simp at e; omega))
  refine ⟨hM5, hI, hSR, ?_, ?_, ?_, ?_⟩
  · rw [parts_succ_root (hI.canon.less (by omega)) hroot]
    have e : (parts k L ++ [[]]).set m ([] ++ [k]) = parts k L ++ [[k]] := by rw [hn]; simp
    rw [← e]
    exact hMat4
  · refine ((hm2.keep hk3 (fun hb => by have := hbl _ hb; omega)).keep hk4 (fun e => e)).setCell _ ?_ _
    show go ≠ w.heap.size
    omega
  · intro x hx
    rw [mget_mset]
    by_cases h1 : rt x = rt k
    · have h2 : L x = k := by rw [(hrt x k hx hk).1 h1, hroot]
      rw [if_pos h1, if_pos (by omega), h2, hn, parts_length]
    · have h2 : L x ≠ k := fun e => h1 ((hrt x k hx hk).2 (by rw [e, hroot]))
      rw [if_neg h1, hget x hx]
      by_cases h3 : L x < k
      · rw [if_pos h3, if_pos (by omega)]
      · rw [if_neg h3, if_neg (by omega)]
  · have k2 : Keep F w w2 := hK.trans' hk2 (fun _ _ h => h) (fun j hj e => by omega)
    have k3 : Keep F w w3 := k2.trans' hk3 (fun _ _ h => h) (fun j hj e => by have := hbl j e; omega)
    exact (k3.trans hk4.of_nb).setCell (.inr (by show w.heap.size ≤ go; omega)) _

/-- Of each member its root: they do not turn. -/
theorem roots_exist {n : Nat} {up size low : Nat → Nat} {many : Nat} {L : Nat → Nat} (I : SetsInv n up size low many L) :
    ∃ rt : Nat → Nat, (∀ x, x < n → rt x < n ∧ ∃ k, Root up x (rt x) k) ∧ ∀ x y, x < n → y < n → (rt x = rt y ↔ L x = L y) := by
  have h : ∀ x, ∃ r, x < n → r < n ∧ ∃ k, Root up x r k := fun x => by
    by_cases hx : x < n
    · obtain ⟨r, k, h1, h2⟩ := I.forest.root hx
      exact ⟨r, fun _ => ⟨h1, k, h2⟩⟩
    · exact ⟨0, fun h => absurd h hx⟩
  refine ⟨fun x => Classical.choose (h x), fun x hx => Classical.choose_spec (h x) hx, fun x y hx hy => ?_⟩
  obtain ⟨_, k1, h1⟩ := Classical.choose_spec (h x) hx
  obtain ⟨_, k2, h2⟩ := Classical.choose_spec (h y) hy
  constructor
  · intro e
    rw [← I.lab _ _ _ hx h1, ← I.lab _ _ _ hy h2]
    show low (Classical.choose (h x)) = low (Classical.choose (h y))
    have e' : Classical.choose (h x) = Classical.choose (h y) := e
    rw [e']
  · exact fun e => I.sep _ _ _ _ _ _ hx hy h1 h2 e

theorem all_called {F : Nat → Prop} {w : World} {b n : Nat} {up size low : Nat → Nat} {many : Nat} {ou os ol : Option Addr} {cu cs cl : Nat} {L rt : Nat → Nat} {k m c : Nat} {o : Option Addr} {rows : List Rw} {mp : List (Nat × Value)} {up' up1 : Nat → Nat} {wr w1 : World} {x r j : Nat}
    (hF : ∀ j, F j → j < w.heap.size) (hrt : ∀ x, x < n → rt x < n ∧ ∃ k, Root up x (rt x) k) (h : AllRel F w b n up size low many ou os ol cu cs cl L rt k o m c rows mp up' wr) (hx : x < n)
    (hR : Root up' x r j) (hM : SetsMem F w1 b n up1 size low many ou os ol cu cs cl) (hI1 : SetsInv n up1 size low many L) (hS : SameRoots n up' up1) (hk : Keep F wr w1) :
    r = rt x ∧ AllRel F w b n up size low many ou os ol cu cs cl L rt k o m c rows mp up1 w1 := by
  obtain ⟨_, hI, hSR, hMat, hMap, hget, hK⟩ := h
  obtain ⟨_, k0, h0⟩ := hrt x hx
  obtain ⟨k1, h1⟩ := hSR _ _ _ hx h0
  refine ⟨(h1.unique hR).1, hM, hI1, hSR.trans hS, hMat.keep hk (fun j hj e => by have := hF j e; omega), hMap.keep hk (fun e => by have := hF _ e; omega), hget, hK.trans hk⟩

theorem all_fin {F F' : Nat → Prop} {w : World} {b n : Nat} {up size low : Nat → Nat} {many : Nat} {ou os ol : Option Addr} {cu cs cl : Nat} {L rt : Nat → Nat} {k m c : Nat} {o : Option Addr} {rows : List Rw} {mp : List (Nat × Value)} {up' : Nat → Nat} {wr : World}
    (hF2 : ∀ j, F' j → F j) (hn : n ≤ 40) (h : AllRel F' w b n up size low many ou os ol cu cs cl L rt k o m c rows mp up' wr) (hk : k = n) : AllPost F w b n L (.returned (.slice o m c)) wr := by
  subst hk
  obtain ⟨hM, hI, hSR, hMat, hMap, hget, hK⟩ := h
  exact ⟨o, m, c, rows, rfl, hMat.tight.mono (fun j hj => ⟨by omega, hj.2⟩), ⟨_, _, _, _, _, _, _, _, _, _, hM.mono hF2, hI, hn⟩, hK.mono (fun j _ hj => hF2 j hj)⟩

theorem nat40 {x : Nat} (h : x < 40) : DN x := by unfold DN; omega

set_option maxHeartbeats 1000000 in
set_option maxRecDepth 20000 in
theorem all_any (F : Nat → Prop) (w : World) (b n : Nat) (L : Nat → Nat) (hS : Sets F w b n L) :
    Calls Try.prog 15 #[.pointer (some ⟨b, 0, none⟩)] w (AllPost F w b n L) := by
  obtain ⟨up, size, low, many, ou, os, ol, cu, cs, cl, hM0, hI, hn⟩ := hS
  have hM := hM0.tight
  obtain ⟨F', hF'⟩ : ∃ F' : Nat → Prop, F' = fun k => F k ∧ k < w.heap.size := ⟨_, rfl⟩
  rw [← hF'] at hM
  have hFF : ∀ j, F' j → j < w.heap.size := fun j hj => by rw [hF'] at hj; exact hj.2
  have hFF2 : ∀ j, F' j → F j := fun j hj => by rw [hF'] at hj; exact hj.1
  clear hF'
  obtain ⟨rt, hrt1, hrt2⟩ := roots_exist hI
  have hc0 := hM.head.cell (i := 0) rfl
  have hb := hM.head.lt
  have hc0' : (w.alloc (.map #[] 0)).cell? ⟨b, 0, none⟩ = some (.slice ou n cu) := by rw [World.cell?_alloc_past _ _ _ hb]; exact hc0
  have hmm := @run_makeMap Try.prog
  have H0 : AllRel F' w b n up size low many ou os ol cu cs cl L rt 0 none 0 0 [] [] up (w.alloc (.map #[] 0)) :=
    ⟨hM.alloc _, hI, SameRoots.refl n up, Mat.nil _ _ _ _, MapAt.made encN DN w, fun x _ => by simp [mget_nil], (Keep.refl F' w).alloc _⟩
  have HH := Lib.hid H0
  have HR1 := Lib.hid hrt1
  have HR2 := Lib.hid hrt2
  have HF1 := Lib.hid hFF
  have HF2 := Lib.hid hFF2
  clear H0 hrt1 hrt2 hFF hFF2 hc0
  go_enter Try.func15, Try.ntmps15
  go_wp2_with fail
  go_loopw [4, 15] (fun out i wr => ∃ (k : Nat) (o : Option Addr) (m c : Nat) (rows : List Rw) (mp : List (Nat × Value)) (up' : Nat → Nat), k ≤ n ∧ i = .int .i64 k ∧ out = .slice o m c ∧ AllRel F' w b n up size low many ou os ol cu cs cl L rt k o m c rows mp up' wr)
    (fun _ i _ => n - (intOf i).toNat)
  case atStart => exact ⟨0, none, 0, 0, [], [], up, Nat.zero_le _, rfl, rfl, HH.out⟩
  case round =>
    obtain ⟨k, o, m, c, rows, mp, up', hk, rfl, rfl, hrel⟩ := hrel
    have HREL := Lib.hid hrel
    clear hrel hc0' hmm
    by_cases hlt : k < n
    · have hMr := HREL.out.1
      have hIr := HREL.out.2.1
      have hdn := Lib.hid (nat40 (show rt k < 40 from Nat.lt_of_lt_of_le (HR1.out k hlt).1 hn))
      have hcr := hMr.head.cell (i := 0) rfl
      go_wp2_with fail
      refine (root_any F' wr b n up' size low many ou os ol cu cs cl L k hlt hn hMr hIr).mono ?_
      rintro e w1 ⟨r, j, up1, rfl, hr, hR, hM1, hI1, hS1, hk1⟩
      obtain ⟨er, hrel1⟩ := all_called HF1.out HR1.out HREL.out hlt hR hM1 hI1 hS1 hk1
      subst er
      clear hR hMr hIr hM1 hI1 hS1 hk1 hcr HREL
      have hMat1 := hrel1.2.2.2.1
      have hMap1 := hrel1.2.2.2.2.1
      have hget1 := hrel1.2.2.2.2.2.1 k hlt
      have HREL := Lib.hid hrel1
      have hlook := hMap1.look (encN_enc Try.underlying3) Try.underlying80 (zero_int w1) hdn.out true
      rw [hget1] at hlook
      clear hget1 hrel1
      by_cases hroot : L k = k
      · rw [if_neg (show ¬ L k < k by omega)] at hlook
        simp only [if_true, Option.getD_none, Option.isSome_none, encN] at hlook
        obtain ⟨w2, hrun2, hm2, hk2⟩ := hMap1.store (encN_enc Try.underlying3) Try.underlying80 hdn.out (.int .i64 m)
        have hsz1 := hMap1.lt
        have hMat2 : Mat (fun j => w.heap.size < j) w2 37 3 o m c rows (parts k L) := hMat1.keep hk2 (fun j hj e => by omega)
        have hmk := hMat1.n_eq
        have hmk2 := parts_len_le k L
        obtain ⟨go, c1, w3, happ3, hS3, hk3, hg3⟩ := run_app1 (P := Try.prog) 35 35 37 Try.underlying35 elem_ints rfl hMat2.out (.slice none 0 0) rfl (by omega) (by omega)
        obtain ⟨go', e3, hFg, hmc, hrow3⟩ := hS3.pos (by omega)
        obtain rfl : go = go' := by simpa using e3
        have hcell : w3.cell? ⟨go, m, none⟩ = some (.slice none 0 0) := hrow3.cell (by
          have : m = (rows.map Rw.val).length := by rw [List.length_map, hMat1.len]; exact hmk
          rw [this]; simp)
        have hfr := hrow3.frozen m none
        obtain ⟨g, c', w4, happ4, hS4, hk4, hg4⟩ := run_app_nil1 (P := Try.prog) (w := w3) (fun j => w.heap.size < j) 37 37 3 Try.underlying37 elem_int rfl (.int .i64 k) rfl (by omega)
        have hcell4 := hk4.cell hcell (fun e => e)
        have hfr4 := (hk4.frozen (p := ⟨go, m, none⟩) hrow3.lt (fun e => e)).trans hfr
        have hnext := Lib.hid (all_root HF1.out HREL.out hlt hroot HR2.out hm2 hk2 hS3 hk3 hg3 hS4 hk4 hg4)
        have hm40 : m < 1000 := by omega
        have H2 := Lib.hid hrun2
        have H3 := Lib.hid happ3
        have H4 := Lib.hid happ4
        clear hrun2 happ3 happ4 hMat1 hMap1 hroot hS4 hk4 hg4 hS3 hk3 hg3 hm2 hk2 hMat2 hmk hmk2 e3 hrow3 hsz1
        go_wp2_with (first | (at_mapUpdate; refine wpList_mapset rfl _ _ _ _ rfl rfl rfl rfl H2.out ?_) | (at_builtin; refine wpList_app rfl _ _ _ rfl rfl rfl H3.out ?_) | (at_builtin; refine wpList_app rfl _ _ _ rfl rfl rfl H4.out ?_))
        go_roundw
        case rel =>
          exact ⟨k + 1, _, _, _, _, _, up1, by omega, by go_num, rfl, hnext.out⟩
        case measure => simp [intOf]; omega
      · have hle : L k < k := by have := HREL.out.2.1.canon.le k hlt; omega
        rw [if_pos hle] at hlook
        simp only [if_true, Option.getD_some, Option.isSome_some, encN] at hlook
        obtain ⟨l, hl⟩ := parts_get hle (HREL.out.2.1.canon.idem k hlt)
        obtain ⟨go, r0, rfl, hrow, him, hmc, hcell, hfr, hSl, hrn, hnb⟩ := mat_at hMat1 hl
        have hll := parts_part_le hl
        obtain ⟨g, c', w4, happ, hS4, hk4, hg4⟩ := run_app1 (P := Try.prog) 37 37 3 Try.underlying37 elem_int rfl hSl (.int .i64 k) rfl (by omega) (by omega)
        have hcell4 := hk4.cell hcell hnb
        have hfr4 := (hk4.frozen (p := ⟨go, cnt (L k) (isRoot L), none⟩) (World.block_lt_of_cell? w1 _ hcell) hnb).trans hfr
        have hnext := Lib.hid (all_other HF1.out HREL.out hlt hroot hrow hl hS4 hk4 hg4)
        have hg5 := Lib.hid hg4
        clear hMat1 hMap1 hle hroot hl hrow hS4 hk4 hnb hSl hg4 hrn
        generalize cnt (L k) (isRoot L) = idx at *
        have Happ := Lib.hid happ
        clear happ
        go_wp2_with (at_builtin; refine wpList_app rfl _ _ _ rfl rfl rfl Happ.out ?_)
        go_roundw
        case rel =>
          exact ⟨k + 1, _, m, c, _, mp, up1, by omega, by go_num, rfl, hnext.out⟩
        case measure => simp [intOf]; omega
    · have hfin := Lib.hid (all_fin HF2.out hn HREL.out (show k = n by omega))
      have hcr := HREL.out.1.head.cell (i := 0) rfl
      go_wp2_with fail
      go_ret
      exact hfin.out

end Go.Proofs.Ytkpoobnldgfapaa
