/- Part 36 of the proof: DkJoin DkTwos E1. -/
import Derived.Test.YtfglkgkihafcpaaGreatDoorDp01
import Derived.Test.YtfglkgkihafcpaaGreatDoorDp05
import Derived.Test.YtfglkgkihafcpaaGreatDoorDp07
import Derived.Test.YtfglkgkihafcpaaGreatDoorDp09
import Derived.Test.YtfglkgkihafcpaaGreatDoorDp12
import Derived.Test.YtfglkgkihafcpaaGreatDoorDp16
import Derived.Test.YtfglkgkihafcpaaGreatDoorDp29
import Derived.Test.YtfglkgkihafcpaaGreatDoorDp35
import Derived.OwnWalk
import Derived.Deep.RegionHeld3
set_option linter.unusedVariables false
set_option linter.unusedSimpArgs false
namespace Go.Proofs.YtfglkgkihafcpaaGreatDoor
open Go.RowKit Pl
set_option maxRecDepth 100000 in
set_option maxHeartbeats 4000000 in
theorem djoin_any (F : Nat → Prop) (w : World) (hL : LibW w) (o : Option Addr) (n c : Nat) (l : List Nat) (hS : Sl F w 3 1 o n c (ints l)) (hn : n ≤ 1000) (hb : ∀ x, x ∈ l → x < 9223372036854775808) :
  Calls Tryz.prog 90 #[.slice o n c] w fun e w' => e = .returned (.string (bstr (wordsT l))) ∧ Keep Nb w w' := by
 have HS := Lib.hid hS.tight
 have HL := Lib.hid hL
 have HB := Lib.hid hb
 have hln : l.length = n := by have := hS.len; rw [ints_length] at this; omega
 have HLN := Lib.hid hln
 clear hS hL hb hln
 go_enter Tryz.func90, Tryz.ntmps90
 go_wp2_with fail
 go_loopg [3, 8] n (fun kx s3 s8 wr => ∃ (i : Nat) (o2 : Option Addr) (c2 : Nat), s3 = .slice o2 i c2 ∧ s8 = .int .i64 i ∧ i ≤ n ∧ n - i ≤ kx ∧ Hid (Sl (fun k => w.heap.size ≤ k) wr 9 1 o2 i c2 (strs ((l.take i).map (fun x : Nat => bstr (Lib.itoa (x : Int))))) ∧ Keep Nb w wr))
 case atStart => exact ⟨0, none, 0, rfl, rfl, Nat.zero_le _, by omega, Lib.hid ⟨Sl.nil _ _ _ _, Keep.refl _ _⟩⟩
 case round =>
  obtain ⟨i, o2, c2, rfl, rfl, hi, hg, HR⟩ := hrel
  by_cases hlt : i < n
  ·as_aux_lemma =>
   obtain ⟨x, hx⟩ : ∃ x, l[i]? = some x := ⟨_, List.getElem?_eq_getElem (by rw [HLN.out]; exact hlt)⟩
   obtain ⟨go, rfl, _, hnc, hrow⟩ := (HS.out.keep HR.out.2 (fun _ _ e => e)).pos (by omega)
   have d0 := hrow.cell (ints_get hx)
   have hxb := HB.out x (List.mem_of_getElem? hx)
   have HI := Lib.hid (itoa_any wr (HL.out.keep HR.out.2) (x : Int) (by omega) (by omega))
   have HX := Lib.hid hx
   clear hx hrow hxb
   go_wp2_with fail
   refine HI.out.mono ?_
   rintro e1 w2 ⟨rfl, hk2⟩
   have hS2 := HR.out.1.keep hk2 (fun _ _ e => e)
   obtain ⟨gq, cq, w4, r1, r2, r3, r4⟩ := run_app1 (P := Tryz.prog) 24 24 9 Tryz.underlying24 elem_str rfl hS2 (.string (bstr (Lib.itoa (x : Int)))) rfl (by omega) (by omega)
   have HN : Hid (Sl (fun k => w.heap.size ≤ k) w4 9 1 (some ⟨gq, 0, none⟩) (i + 1) cq (strs ((l.take (i + 1)).map (fun x : Nat => bstr (Lib.itoa (x : Int))))) ∧ Keep Nb w w4) := Lib.hid ⟨by
    have h1 : strs ((l.take (i + 1)).map (fun x : Nat => bstr (Lib.itoa (x : Int)))) = strs ((l.take i).map (fun x : Nat => bstr (Lib.itoa (x : Int)))) ++ [.string (bstr (Lib.itoa (x : Int)))] := by
     rw [List.take_add_one, HX.out]; simp [strs]
    rw [h1]
    exact r2.mono (fun j hj => by
     rcases hj with h | h
     ·exact h
     ·have h : j = w2.heap.size + 1 := h
      have := HR.out.2.size
      have := hk2.size
      show w.heap.size ≤ j; omega),
    (HR.out.2.trans hk2).trans' r3 (fun _ _ e => e) (fun j hj ⟨a, ha, hb⟩ => by
     have h1 : w.heap.size ≤ a.block := HR.out.1.foot a ha
     rw [hb] at h1; show False; omega)⟩
   have H1 := Lib.hid r1
   clear r1 r2 r3 r4 hS2 hk2 HI
   go_wp2_with (at_builtin; refine wpList_app rfl _ _ _ rfl rfl rfl H1.out ?_)
   go_roundg (n - (i + 1))
   case measure => omega
   case rel => exact ⟨i + 1, _, _, rfl, by go_num, by omega, Nat.le_refl _, HN⟩
  ·obtain rfl : n = i := by omega
   have HJ := Lib.hid (sjoin_any _ wr o2 n c2 (l.map (fun x : Nat => bstr (Lib.itoa (x : Int)))) ⟨#[32]⟩ (by
    have h1 := HR.out.1
    rw [← HLN.out, List.take_length] at h1
    rw [← HLN.out]; exact h1) (by omega) (by
     have e1 : (l.map (fun x : Nat => bstr (Lib.itoa (x : Int)))).map (·.data.toList) = l.map (fun x : Nat => Lib.itoa (x : Int)) := by rw [List.map_map]; rfl
     rw [e1]
     have h2 := join_len (l.map (fun x : Nat => Lib.itoa (x : Int))) 21 (fun y hy => by
      obtain ⟨x, hx, rfl⟩ := List.mem_map.1 hy
      exact itoa_len (HB.out x hx))
     rw [List.length_map, HLN.out] at h2
     have e2 : (⟨#[32]⟩ : ByteArray).data.toList = [32] := rfl
     rw [e2]
     omega))
   go_wp2_with fail
   refine HJ.out.mono ?_
   rintro e1 w2 ⟨rfl, hk2⟩
   have HK := Lib.hid (HR.out.2.trans hk2)
   clear hk2
   go_wp2_with fail
   go_ret
   refine ⟨?_, HK.out⟩
   unfold wordsT
   rfl
def listsT (ll : List (List Nat)) : List UInt8 := Lib.join (ll.map wordsT) [44, 32]
theorem join_len2 (sep : List UInt8) : ∀ (l : List (List UInt8)) (k : Nat), (∀ x, x ∈ l → x.length ≤ k) → (Lib.join l sep).length ≤ (k + sep.length) * l.length
 | [], k, _ => by simp [Lib.join_nil]
 | [x], k, h => by have := h x (by simp); rw [Lib.join_one]; simp; omega
 | x :: y :: r, k, h => by
  have h1 := h x (by simp)
  have h2 := join_len2 sep (y :: r) k (fun z hz => h z (List.mem_cons_of_mem _ hz))
  rw [join_cons2]
  simp only [List.length_append, List.length_cons] at h2 ⊢
  have h3 : (k + sep.length) * (r.length + 1 + 1) = (k + sep.length) * (r.length + 1) + (k + sep.length) := by rw [Nat.mul_add, Nat.mul_one]
  omega
theorem wordsT_len (l : List Nat) (hl : l.length ≤ 1000) (hb : ∀ x, x ∈ l → x < 9223372036854775808) : (wordsT l).length ≤ 22000 := by
 have h2 := join_len (l.map (fun x : Nat => Lib.itoa (x : Int))) 21 (fun y hy => by
  obtain ⟨x, hx, rfl⟩ := List.mem_map.1 hy
  exact itoa_len (hb x hx))
 rw [List.length_map] at h2
 have : (21 + 1) * l.length ≤ 22 * 1000 := Nat.mul_le_mul (by omega) hl
 unfold wordsT
 omega
set_option maxRecDepth 100000 in
set_option maxHeartbeats 4000000 in
theorem dlists_any (F : Nat → Prop) (w : World) (hL : LibW w) (o : Option Addr) (n c : Nat) (rows : List Rw) (ll : List (List Nat)) (hM : Mat F w 63 3 o n c rows ll) (hn : n ≤ 100000) (hl : ∀ l, l ∈ ll → l.length ≤ 1000) (hb : ∀ l, l ∈ ll → ∀ x, x ∈ l → x < 9223372036854775808) :
  Calls Tryz.prog 88 #[.slice o n c] w fun e w' => e = .returned (.string (bstr (listsT ll))) ∧ Keep Nb w w' := by
 have hln : ll.length = n := hM.n_eq.symm
 have HS := Lib.hid hM.tight
 have HL := Lib.hid hL
 have HB := Lib.hid (And.intro hl hb)
 have HLN := Lib.hid hln
 clear hM hL hb hl hln
 go_enter Tryz.func88, Tryz.ntmps88
 go_wp2_with fail
 go_loopg [3, 8] n (fun kx s3 s8 wr => ∃ (i : Nat) (o2 : Option Addr) (c2 : Nat), s3 = .slice o2 i c2 ∧ s8 = .int .i64 i ∧ i ≤ n ∧ n - i ≤ kx ∧ Hid (Sl (fun k => w.heap.size ≤ k) wr 9 1 o2 i c2 (strs ((ll.take i).map (fun x => bstr (wordsT x)))) ∧ Keep Nb w wr))
 case atStart => exact ⟨0, none, 0, rfl, rfl, Nat.zero_le _, by omega, Lib.hid ⟨Sl.nil _ _ _ _, Keep.refl _ _⟩⟩
 case round =>
  obtain ⟨i, o2, c2, rfl, rfl, hi, hg, HR⟩ := hrel
  by_cases hlt : i < n
  ·as_aux_lemma =>
   obtain ⟨x, hx⟩ : ∃ x, ll[i]? = some x := ⟨_, List.getElem?_eq_getElem (by rw [HLN.out]; exact hlt)⟩
   obtain ⟨r, hr⟩ : ∃ r, rows[i]? = some r := ⟨_, List.getElem?_eq_getElem (by rw [HS.out.len, HLN.out]; exact hlt)⟩
   have hM2 := HS.out.keep HR.out.2 (fun _ _ e => e)
   obtain ⟨go, rfl, _, hnc, hrow⟩ := hM2.out.pos (by omega)
   have d0 : wr.cell? ⟨go, i, none⟩ = some (.slice r.o r.n r.c) := hrow.cell (by rw [List.getElem?_map, hr]; rfl)
   have hrl := hM2.row i r x hr hx
   have hnr : r.n = x.length := by have := hrl.len; rw [ints_length] at this; omega
   have hxm := List.mem_of_getElem? hx
   have HI := Lib.hid (djoin_any _ wr (HL.out.keep HR.out.2) r.o r.n r.c x hrl (by rw [hnr]; exact HB.out.1 x hxm) (HB.out.2 x hxm))
   have HX := Lib.hid hx
   obtain ⟨tx, htx⟩ : ∃ tx, wordsT x = tx := ⟨_, rfl⟩
   rw [htx] at HI
   have HT := Lib.hid htx
   rw [hnr] at HI d0
   clear hx hr hrow hrl hM2 hxm htx hnr
   go_wp2_with fail
   refine HI.out.mono ?_
   rintro e1 w2 ⟨rfl, hk2⟩
   have hS2 := HR.out.1.keep hk2 (fun _ _ e => e)
   obtain ⟨gq, cq, w4, r1, r2, r3, r4⟩ := run_app1 (P := Tryz.prog) 24 24 9 Tryz.underlying24 elem_str rfl hS2 (.string (bstr tx)) rfl (by omega) (by omega)
   have HN : Hid (Sl (fun k => w.heap.size ≤ k) w4 9 1 (some ⟨gq, 0, none⟩) (i + 1) cq (strs ((ll.take (i + 1)).map (fun x => bstr (wordsT x)))) ∧ Keep Nb w w4) := Lib.hid ⟨by
    have h1 : strs ((ll.take (i + 1)).map (fun x => bstr (wordsT x))) = strs ((ll.take i).map (fun x => bstr (wordsT x))) ++ [.string (bstr tx)] := by
     rw [List.take_add_one, HX.out]; simp [strs, HT.out]
    rw [h1]
    exact r2.mono (fun j hj => by
     rcases hj with h | h
     ·exact h
     ·have h : j = w2.heap.size + 1 := h
      have := HR.out.2.size
      have := hk2.size
      show w.heap.size ≤ j; omega),
    (HR.out.2.trans hk2).trans' r3 (fun _ _ e => e) (fun j hj ⟨a, ha, hb⟩ => by
     have h1 : w.heap.size ≤ a.block := HR.out.1.foot a ha
     rw [hb] at h1; show False; omega)⟩
   have H1 := Lib.hid r1
   clear r1 r2 r3 r4 hS2 hk2 HI
   go_wp2_with (at_builtin; refine wpList_app rfl _ _ _ rfl rfl rfl H1.out ?_)
   go_roundg (n - (i + 1))
   case measure => omega
   case rel => exact ⟨i + 1, _, _, rfl, by go_num, by omega, Nat.le_refl _, HN⟩
  ·obtain rfl : n = i := by omega
   have HJ := Lib.hid (sjoin_any _ wr o2 n c2 (ll.map (fun x => bstr (wordsT x))) ⟨#[44, 32]⟩ (by
    have h1 := HR.out.1
    rw [← HLN.out, List.take_length] at h1
    rw [← HLN.out]; exact h1) (by omega) (by
     have e1 : (ll.map (fun x => bstr (wordsT x))).map (·.data.toList) = ll.map wordsT := by rw [List.map_map]; rfl
     rw [e1]
     have h2 := join_len2 [44, 32] (ll.map wordsT) 22000 (fun y hy => by
      obtain ⟨x, hx, rfl⟩ := List.mem_map.1 hy
      exact wordsT_len x (HB.out.1 x hx) (HB.out.2 x hx))
     rw [List.length_map, HLN.out] at h2
     have e2 : (⟨#[44, 32]⟩ : ByteArray).data.toList = [44, 32] := rfl
     rw [e2]
     have h3 : (22000 + [44, 32].length) * n ≤ 22002 * 100000 := Nat.mul_le_mul (by simp) hn
     omega))
   go_wp2_with fail
   refine HJ.out.mono ?_
   rintro e1 w2 ⟨rfl, hk2⟩
   have HK := Lib.hid (HR.out.2.trans hk2)
   clear hk2
   go_wp2_with fail
   go_ret
   refine ⟨?_, HK.out⟩
   unfold listsT
   rfl
end Go.Proofs.YtfglkgkihafcpaaGreatDoor

namespace Go.Proofs.YtfglkgkihafcpaaGreatDoor
open Go.RowKit Pl
def twoL (L : List (Nat × Nat)) : List (List Nat) := L.map fun p => [p.1, p.2]
def TwRel (w : World) (o2 : Option Addr) (i c2 : Nat) (ll : List (List Nat)) (wr : World) : Prop :=
 ∃ rows, Mat (fun k => w.heap.size ≤ k) wr 63 3 o2 i c2 rows ll ∧ Keep Nb w wr
theorem TwRel.next {w wr w1 w' : World} {o2 : Option Addr} {i c2 g c' : Nat} {ll : List (List Nat)} {l : List Nat} {rows rows' : List Rw} (hM : Mat (fun k => w.heap.size ≤ k) wr 63 3 o2 i c2 rows ll) (hk : Keep Nb w wr) (k1 : Keep Nb wr w1)
  (h2 : Mat (fun k => w.heap.size ≤ k) w' 63 3 (some ⟨g, 0, none⟩) (i + 1) c' rows' (ll ++ [l])) (k2 : Keep (Bl o2) w1 w') : TwRel w (some ⟨g, 0, none⟩) (i + 1) c' (ll ++ [l]) w' :=
 ⟨rows', h2, (hk.trans k1).trans' k2 (fun _ _ e => e) (fun j hj ⟨a, ha, hb⟩ => by
  have h1 : w.heap.size ≤ a.block := hM.out.foot a ha
  rw [hb] at h1; show False; omega)⟩
set_option maxRecDepth 100000 in
set_option maxHeartbeats 4000000 in
theorem dtwos_any (F : Nat → Prop) (w : World) (hL : LibW w) (o : Option Addr) (n c : Nat) (L : List (Nat × Nat)) (hS : Sl F w 191 2 o n c (pcs L)) (hlen : L.length = n) (hn : n ≤ 100000) (hb : ∀ p, p ∈ L → p.1 < 9223372036854775808 ∧ p.2 < 9223372036854775808) :
  Calls Tryz.prog 95 #[.slice o n c] w fun e w' => e = .returned (.string (bstr (listsT (twoL L)))) ∧ Keep Nb w w' := by
 have HS := Lib.hid hS.tight
 have HL := Lib.hid hL
 have HB := Lib.hid hb
 have HLN := Lib.hid hlen
 clear hS hL hb hlen
 go_enter Tryz.func95, Tryz.ntmps95
 go_wp2_with fail
 go_loopg [3, 8] n (fun kx s3 s8 wr => ∃ (i : Nat) (o2 : Option Addr) (c2 : Nat), s3 = .slice o2 i c2 ∧ s8 = .int .i64 i ∧ i ≤ n ∧ n - i ≤ kx ∧ Hid (TwRel w o2 i c2 ((twoL L).take i) wr))
 case atStart => exact ⟨0, none, 0, rfl, rfl, Nat.zero_le _, by omega, Lib.hid ⟨[], Mat.nil _ _ _ _, Keep.refl _ _⟩⟩
 case round =>
  obtain ⟨i, o2, c2, rfl, rfl, hi, hg, HR⟩ := hrel
  by_cases hlt : i < n
  ·as_aux_lemma =>
   obtain ⟨⟨p1, p2⟩, hx⟩ : ∃ x, L[i]? = some x := ⟨_, List.getElem?_eq_getElem (by rw [HLN.out]; exact hlt)⟩
   obtain ⟨rows, hM, hk⟩ := HR.out
   obtain ⟨go, rfl, _, _, _⟩ := (HS.out.keep hk (fun _ _ e => e)).pos (by omega)
   have d := Sl.pairs (HS.out.keep hk (fun _ _ e => e)) hx
   have d0 := d.1
   have d1 := d.2
   obtain ⟨w1, hw1⟩ : ∃ w1, wr.alloc (.cells #[.int .i64 p1, .int .i64 p2] 191) = w1 := ⟨_, rfl⟩
   obtain ⟨X, hX⟩ : ∃ X, wr.heap.size = X := ⟨_, rfl⟩
   have k1 : Keep Nb wr w1 := by rw [← hw1]; exact (Keep.refl Nb wr).alloc _
   have hrow : Row w1 X 191 [.int .i64 p1, .int .i64 p2] := by rw [← hw1, ← hX]; exact Row.new wr #[.int .i64 p1, .int .i64 p2] 191
   have x0 := hrow.cell (i := 0) rfl
   have x1 := hrow.cell (i := 1) rfl
   have y0 := hrow.frozen 0 none
   have y1 := hrow.frozen 1 none
   obtain ⟨g, c', w', r1, r2, r3, _⟩ := Mat.addRow (hM.keep k1 (fun _ _ e => e)) (Nat.le_trans hk.size k1.size) (by omega) [p1, p2] (by simp)
   have HN : Hid (TwRel w (some ⟨g, 0, none⟩) (i + 1) c' ((twoL L).take (i + 1)) w') := Lib.hid (by
    have e1 : (twoL L).take (i + 1) = (twoL L).take i ++ [[p1, p2]] := by rw [List.take_add_one]; simp [twoL, hx]
    rw [e1]
    exact TwRel.next hM hk k1 r2 r3)
   have hz1 : w1.heap.size = X + 1 := by rw [← hw1, ← hX]; simp
   have e2 : (ints [p1, p2]).toArray = #[.int .i64 p1, .int .i64 p2] := rfl
   rw [e2, hz1] at r1
   simp only [List.length_cons, List.length_nil, Nat.zero_add, Nat.reduceAdd] at r1
   have R1 := Lib.hid r1
   clear hM hk d hrow r1 r2 r3 k1 e2
   go_wp2_with (at_builtin; refine wpList_app rfl _ _ _ rfl rfl rfl R1.out ?_)
   go_roundg (n - (i + 1))
   case measure => omega
   case rel => exact ⟨i + 1, _, _, rfl, by go_num, by omega, Nat.le_refl _, HN⟩
  ·obtain rfl : n = i := by omega
   obtain ⟨rows, hM, hk⟩ := HR.out
   have hlt2 : (twoL L).length = n := by unfold twoL; rw [List.length_map, HLN.out]
   rw [List.take_of_length_le (Nat.le_of_eq hlt2)] at hM
   have HJ := Lib.hid (dlists_any _ wr (HL.out.keep hk) o2 n c2 rows (twoL L) hM hn (fun l hl => by
    obtain ⟨p, _, rfl⟩ := List.mem_map.1 hl; simp) (fun l hl x hx => by
    obtain ⟨p, hp, rfl⟩ := List.mem_map.1 hl
    have := HB.out p hp
    simp at hx
    rcases hx with rfl | rfl
    ·exact this.1
    ·exact this.2))
   have HK := Lib.hid hk
   clear hM hk hlt2
   go_wp2_with fail
   refine HJ.out.mono ?_
   rintro e1 w2 ⟨rfl, hk2⟩
   have HK2 := Lib.hid (HK.out.trans hk2)
   clear hk2
   go_wp2_with fail
   go_ret
   exact ⟨rfl, HK2.out⟩
end Go.Proofs.YtfglkgkihafcpaaGreatDoor

namespace Go.Proofs.YtfglkgkihafcpaaGreatDoor
open Go.RowKit Pl
namespace RGrMem
end RGrMem
end Go.Proofs.YtfglkgkihafcpaaGreatDoor
namespace Go.Proofs.YtfglkgkihafcpaaGreatDoor
open Go.RowKit Pl
def raddEs (n : Nat) (es : List E) (id a b : Int) : List E :=
 if addBad n id a b ∨ a = b ∨ hasId es id = true ∨ 120 ≤ es.length then es else es ++ [mkE id a b]
end Go.Proofs.YtfglkgkihafcpaaGreatDoor
namespace Go.Proofs.YtfglkgkihafcpaaGreatDoor
open Go.RowKit Pl
end Go.Proofs.YtfglkgkihafcpaaGreatDoor
namespace Go.Proofs.YtfglkgkihafcpaaGreatDoor
open Go.RowKit Pl
end Go.Proofs.YtfglkgkihafcpaaGreatDoor
namespace Go.Proofs.YtfglkgkihafcpaaGreatDoor
open Go.RowKit Pl
end Go.Proofs.YtfglkgkihafcpaaGreatDoor

