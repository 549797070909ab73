/- Part 41 of the proof: DkCmd3 SErr BErr DkCmd4 DkCmd5. -/
import Derived.Test.YtfglkgkihafcpaaGreatDoorDp05
import Derived.Test.YtfglkgkihafcpaaGreatDoorDp08
import Derived.Test.YtfglkgkihafcpaaGreatDoorDp13
import Derived.Test.YtfglkgkihafcpaaGreatDoorDp36
import Derived.Test.YtfglkgkihafcpaaGreatDoorDp38
import Derived.Test.YtfglkgkihafcpaaGreatDoorDp40
import Derived.Deep.RegionHeld3
set_option linter.unusedVariables false
set_option linter.unusedSimpArgs false
namespace Go.Proofs.YtfglkgkihafcpaaGreatDoor
open Go.RowKit Pl Go.Maps
def edgL (es : List E) : List (List Nat) := es.map fun e => [e.id, e.a, e.b]
def tHelp : List UInt8 := [97, 100, 100, 32, 98, 108, 111, 99, 107, 115, 32, 98, 114, 105, 100, 103, 101, 115, 32, 99, 117, 116, 115, 32, 100, 114, 111, 112, 32, 101, 100, 103, 101, 115, 32, 104, 101, 108, 112, 32, 110, 111, 100, 101, 115, 32, 112, 97, 105, 114, 115, 32, 114, 101, 108, 111, 97, 100, 32, 115, 112, 108, 105, 116, 115, 32, 116, 104, 114, 105, 99, 101, 32, 116, 119, 105, 99, 101, 32, 119, 97, 121, 115, 32, 119, 104, 111, 108, 101]
def tNodes : List UInt8 := [110, 111, 100, 101, 115]
def tReload : List UInt8 := [114, 101, 108, 111, 97, 100]
def aEdges (l : List (List UInt8)) (n : Nat) (es : List E) : Ans := noNums l n es ⟨.ok (tEdges ++ listsT (edgL es)), n, es⟩
def aHelp (l : List (List UInt8)) (n : Nat) (es : List E) : Ans := noNums l n es ⟨.ok tHelp, n, es⟩
def aReload (l : List (List UInt8)) (n : Nat) (es : List E) : Ans := noNums l n es ⟨.ok tReload, n, es⟩
def aNodes (l : List (List UInt8)) (n : Nat) (es : List E) : Ans :=
 if l.length ≠ 1 then ⟨.error 3, n, es⟩ else match numsD l with
 | some [v] => if 0 ≤ v ∧ v ≤ 40 then ⟨.ok tNodes, v.toNat, []⟩ else ⟨.error 2, n, es⟩
 | _ => ⟨.error 3, n, es⟩
theorem edgL_bd {n : Nat} {es : List E} (h : IOk n es) : (edgL es).length ≤ 100000 ∧ (∀ l, l ∈ edgL es → l.length ≤ 1000) ∧ ∀ l, l ∈ edgL es → ∀ x, x ∈ l → x < 9223372036854775808 := by
 have hle := h.le
 refine ⟨by unfold edgL; rw [List.length_map]; omega, fun l hl => ?_, fun l hl x hx => ?_⟩
 ·obtain ⟨e, _, rfl⟩ := List.mem_map.1 hl; simp
 ·obtain ⟨e, he, rfl⟩ := List.mem_map.1 hl
  have h1 := h.ok.small e he
  have h2 := h.ok.over e he
  have := h.n40
  simp at hx
  rcases hx with rfl | rfl | rfl <;> omega
set_option maxRecDepth 100000 in
set_option maxHeartbeats 4000000 in
theorem dedges_any (Z : Nat) (F : Nat → Prop) (w : World) (db xb n : Nat) (es : List E) (hD : DkM Z F w db xb n es) (o : Option Addr) (m c : Nat) (l : List (List UInt8)) (hW : Wds w o m c l) :
  Calls Tryz.prog 62 #[.pointer (some ⟨db, 0, none⟩), .slice o m c] w (DkPost Z F w db (aEdges l n es)) := by
 have HN := Lib.hid (wds_nums hD.lib.lib hD.lib.err hW 0 (by omega))
 have HD := Lib.hid hD
 clear hW hD
 unfold aEdges
 go_enter Tryz.func62, Tryz.ntmps62
 go_wp2_with fail
 refine HN.out.mono ?_
 rintro e w1 ⟨hk1, ⟨vs, o', c', h0, -, -, rfl, -⟩ | ⟨hbad, rfl⟩⟩
 ·have HK1 := Lib.hid hk1
  have hD1 := HD.out.still hk1
  have d0 := hD1.row.cell (i := 0) rfl
  have hle := HD.out.ok.le
  have HI := Lib.hid (iedgesK_any F w1 xb n es hD1.ix (by omega))
  have H0 := Lib.hid h0
  clear hk1 h0 hD1 HN
  go_wp2_with fail
  refine HI.out.mono ?_
  rintro e w2 ⟨oe, ce, rfl, hS, hk2⟩
  obtain ⟨q, hq⟩ : ∃ q, es.length = q := ⟨_, rfl⟩
  rw [hq] at hS hle ⊢
  have HQ := Lib.hid hq
  have HS := Lib.hid hS.tight
  have HK2 := Lib.hid (HK1.out.trans hk2)
  clear hS hk2 hq HI d0
  go_wp2_with fail
  go_loopg [5, 16] q (fun kx s5 s16 wr => ∃ (i : Nat) (o2 : Option Addr) (c2 : Nat), s5 = .slice o2 i c2 ∧ s16 = .int .i64 i ∧ i ≤ q ∧ q - i ≤ kx ∧ Hid (TwRel w2 o2 i c2 ((edgL es).take i) wr))
  case atStart => exact ⟨0, none, 0, rfl, rfl, Nat.zero_le _, by omega, Lib.hid ⟨[], Mat.nil _ _ _ _, Keep.refl _ _⟩⟩
  case round =>
   obtain ⟨i, o2, c2, rfl, rfl, hi, hg, HR⟩ := hrel
   by_cases hlt : i < q
   ·as_aux_lemma =>
    obtain ⟨⟨p1, p2, p3⟩, hx⟩ : ∃ x, es[i]? = some x := ⟨_, List.getElem?_eq_getElem (by rw [HQ.out]; exact hlt)⟩
    obtain ⟨rows, hM, hk⟩ := HR.out
    obtain ⟨go, rfl, _, _, hrw⟩ := (HS.out.keep hk (fun _ _ e => e)).pos (by omega)
    have d0 : wr.cell? ⟨go, i * 3, none⟩ = some (.int .i64 p1) := hrw.edges.id _ _ hx
    have d1 : wr.cell? ⟨go, i * 3 + 1, none⟩ = some (.int .i64 p2) := hrw.edges.a _ _ hx
    have d2 : wr.cell? ⟨go, i * 3 + 2, none⟩ = some (.int .i64 p3) := hrw.edges.b _ _ hx
    obtain ⟨w4, hw4⟩ : ∃ w4, wr.alloc (.cells #[.int .i64 p1, .int .i64 p2, .int .i64 p3] 125) = w4 := ⟨_, rfl⟩
    obtain ⟨X, hX⟩ : ∃ X, wr.heap.size = X := ⟨_, rfl⟩
    have k1 : Keep Nb wr w4 := by rw [← hw4]; exact (Keep.refl Nb wr).alloc _
    have hrow : Row w4 X 125 [.int .i64 p1, .int .i64 p2, .int .i64 p3] := by rw [← hw4, ← hX]; exact Row.new wr #[.int .i64 p1, .int .i64 p2, .int .i64 p3] 125
    have x0 := hrow.cell (i := 0) rfl
    have x1 := hrow.cell (i := 1) rfl
    have x2 := hrow.cell (i := 2) rfl
    have y0 := hrow.frozen 0 none
    have y1 := hrow.frozen 1 none
    have y2 := hrow.frozen 2 none
    obtain ⟨g, c', w', r1, r2, r3, _⟩ := Mat.addRow (hM.keep k1 (fun _ _ e => e)) (Nat.le_trans hk.size k1.size) (by omega) [p1, p2, p3] (by simp)
    have HN : Hid (TwRel w2 (some ⟨g, 0, none⟩) (i + 1) c' ((edgL es).take (i + 1)) w') := Lib.hid (by
     have e1 : (edgL es).take (i + 1) = (edgL es).take i ++ [[p1, p2, p3]] := by rw [List.take_add_one]; simp [edgL, hx]
     rw [e1]
     exact TwRel.next hM hk k1 r2 r3)
    have hz1 : w4.heap.size = X + 1 := by rw [← hw4, ← hX]; simp
    have e2 : (ints [p1, p2, p3]).toArray = #[.int .i64 p1, .int .i64 p2, .int .i64 p3] := rfl
    rw [e2, hz1] at r1
    simp only [List.length_cons, List.length_nil, Nat.zero_add, Nat.reduceAdd] at r1
    have R1 := Lib.hid r1
    clear hM hk hrw hrow r1 r2 r3 k1 e2
    go_wp2_with (at_builtin; refine wpList_app rfl _ _ _ rfl rfl rfl R1.out ?_)
    go_roundg (q - (i + 1))
    case measure => omega
    case rel => exact ⟨i + 1, _, _, rfl, by go_num, by omega, Nat.le_refl _, HN⟩
   ·obtain rfl : q = i := by omega
    obtain ⟨rows, hM, hk⟩ := HR.out
    have hlt2 : (edgL es).length = q := by unfold edgL; rw [List.length_map, HQ.out]
    rw [List.take_of_length_le (Nat.le_of_eq hlt2)] at hM
    have hbd := edgL_bd HD.out.ok
    have HJ := Lib.hid (dlists_any _ wr (HD.out.lib.lib.keep (HK2.out.trans hk)) o2 q c2 rows (edgL es) hM (by omega) hbd.2.1 hbd.2.2)
    have htl := listsT_len (edgL es) hbd.1 hbd.2.1 hbd.2.2
    obtain ⟨tx, htx⟩ : ∃ tx, listsT (edgL es) = tx := ⟨_, rfl⟩
    rw [htx] at HJ htl
    have HT := Lib.hid htx
    have HCAT : Hid ((⟨#[101, 100, 103, 101, 115, 32]⟩ : ByteArray) ++ bstr tx = bstr (tEdges ++ tx)) := Lib.hid (bs_cat tEdges tx)
    have HK3 := Lib.hid (HK2.out.trans hk)
    have p1 : ¬ 9223372036854775807 < 6 + tx.length := by omega
    clear hM hk hlt2 hbd htx
    go_wp2_with fail
    refine HJ.out.mono ?_
    rintro e1 w5 ⟨rfl, hk5⟩
    have HK5 := Lib.hid (HK3.out.trans hk5)
    clear hk5 HJ
    go_wp2_with fail
    go_ret
    exact dk_ok (HD.out.same HK5.out) (by rw [noNums_ok H0.out, HT.out]) (congrArg Value.string HCAT.out)
 ·exact ⟨rfl, dk_bad HD.out hk1 (noNums_bad hbad)⟩
set_option maxRecDepth 100000 in
theorem dhelp_any (Z : Nat) (F : Nat → Prop) (w : World) (db xb n : Nat) (es : List E) (hD : DkM Z F w db xb n es) (o : Option Addr) (m c : Nat) (l : List (List UInt8)) (hW : Wds w o m c l) :
  Calls Tryz.prog 63 #[.pointer (some ⟨db, 0, none⟩), .slice o m c] w (DkPost Z F w db (aHelp l n es)) := by
 have HN := Lib.hid (wds_nums hD.lib.lib hD.lib.err hW 0 (by omega))
 have HD := Lib.hid hD
 clear hW hD
 unfold aHelp
 go_enter Tryz.func63, Tryz.ntmps63
 go_wp2_with fail
 refine HN.out.mono ?_
 rintro e w1 ⟨hk1, ⟨vs, o', c', h0, -, -, rfl, -⟩ | ⟨hbad, rfl⟩⟩
 ·have HK1 := Lib.hid hk1
  have H0 := Lib.hid h0
  clear hk1 h0 HN
  go_wp2_with fail
  go_ret
  exact dk_ok (t := tHelp) (HD.out.same HK1.out) (by rw [noNums_ok H0.out]) rfl
 ·exact ⟨rfl, dk_bad HD.out hk1 (noNums_bad hbad)⟩
theorem DkM.fresh {Z : Nat} {F : Nat → Prop} {w w1 w2 : World} {db xb n : Nat} {es : List E} {yb n' : Nat} {es' : List E} (h : DkM Z F w db xb n es) (k1 : Keep Nb w w1) (k2 : Keep Nb w1 w2) (hY : IxK (fun k => w1.heap.size ≤ k) w2 yb n' es') (hI : IOk n' es') (hO : LOk n' es') :
  (∃ F' xb', DkM Z F' (w2.setCell ⟨db, 0, none⟩ (.pointer (some ⟨yb, 0, none⟩))) db xb' n' es' ∧ ∀ k, F' k → F k ∨ w.heap.size ≤ k) ∧ Keep (fun k => F k ∨ k = db) w (w2.setCell ⟨db, 0, none⟩ (.pointer (some ⟨yb, 0, none⟩))) := by
 have z1 := k1.size
 have z2 := k2.size
 have hdb := h.row.lt
 have hld := h.ldb
 have ks : Keep (fun j => j = db) w2 (w2.setCell ⟨db, 0, none⟩ (.pointer (some ⟨yb, 0, none⟩))) := (Keep.refl (fun j => j = db) w2).setCell (.inl rfl) _
 have zs := ks.size
 refine ⟨⟨fun k => w1.heap.size ≤ k ∧ k < w2.heap.size, yb, ⟨((h.row.keep k1 (fun e => e)).keep k2 (fun e => e)).set (i := 0) (by simp) _, (hY.tight).keep ks (fun k h1 h2 => by omega), fun e => by omega, fun k hk => by omega, hI, hO, fun k hk => by omega, h.ldb, ((h.lib.keep k1 (fun _ e => e.elim)).keep k2 (fun _ e => e.elim)).keep ks (fun k e => by rw [e]; exact h.ldb)⟩, fun k hk => .inr (by omega)⟩, ((k1.trans k2).of_nb (F := fun k => F k ∨ k = db)).trans' ks (fun _ _ e => e) (fun _ _ e => .inr e)⟩
theorem dk_ok2 {Z : Nat} {F : Nat → Prop} {w w' : World} {db n : Nat} {es : List E} {r : Ans} {t : List UInt8} {v : Value} (h : (∃ F' xb', DkM Z F' w' db xb' n es ∧ ∀ k, F' k → F k ∨ w.heap.size ≤ k) ∧ Keep (fun k => F k ∨ k = db) w w') (hr : r = ⟨.ok t, n, es⟩) (hv : v = .string (bstr t)) : DkPost Z F w db r (.returned v) w' := dk_ok h hr hv
set_option maxRecDepth 100000 in
set_option maxHeartbeats 1000000 in
theorem dreload_any (Z : Nat) (F : Nat → Prop) (w : World) (db xb n : Nat) (es : List E) (hD : DkM Z F w db xb n es) (o : Option Addr) (m c : Nat) (l : List (List UInt8)) (hW : Wds w o m c l) :
  Calls Tryz.prog 65 #[.pointer (some ⟨db, 0, none⟩), .slice o m c] w (DkPost Z F w db (aReload l n es)) := by
 have HN := Lib.hid (wds_nums hD.lib.lib hD.lib.err hW 0 (by omega))
 have HD := Lib.hid hD
 clear hW hD
 unfold aReload
 go_enter Tryz.func65, Tryz.ntmps65
 go_wp2_with fail
 refine HN.out.mono ?_
 rintro e w1 ⟨hk1, ⟨vs, o', c', h0, -, -, rfl, -⟩ | ⟨hbad, rfl⟩⟩
 ·have HK1 := Lib.hid hk1
  have hD1 := HD.out.still hk1
  have d0 := hD1.row.cell (i := 0) rfl
  have HI := Lib.hid (isavedK_any F w1 xb n es hD1.ix hD1.lib.lib hD1.ok)
  have H0 := Lib.hid h0
  clear hk1 h0 hD1 HN
  go_wp2_with fail
  refine HI.out.mono ?_
  rintro e w2 ⟨rfl, hk2⟩
  have HK2 := Lib.hid (HK1.out.trans hk2)
  have HLD : Hid (Calls Tryz.prog 97 #[.string (bstr (savedT n es))] w2 fun e w' => ∃ zb, e = .returned (.tuple #[.pointer (some ⟨zb, 0, none⟩), .nilIface]) ∧ IxK (fun k => w2.heap.size ≤ k) w' zb n es ∧ Keep Nb w2 w') := Lib.hid (by
   have hn40 := HD.out.ok.n40
   have hlen := savedT_len (n := n) (es := es) (by omega) (fun e he => by have := HD.out.lok.ord e he; omega)
   refine (iload_any w2 (HD.out.lib.lib.keep HK2.out) (savedT n es) (by have := HD.out.ok.le; omega)).mono ?_
   rintro e w' ⟨hk, h⟩
   have hld := ldI_saved (n := n) (es := es) (by omega) HD.out.ok.ok.sorted HD.out.lok
   rcases h with ⟨zb, n', es', rfl, h1, h2, h3, h4⟩ | ⟨_, hno⟩
   ·rw [hld] at h1
    cases h1
    exact ⟨zb, rfl, h4.known, hk⟩
   ·exact absurd rfl (hno n es hld))
  clear hk2 HI d0
  go_wp2_with fail
  refine HLD.out.mono ?_
  rintro e w3 ⟨zb, rfl, hZ, hk3⟩
  have HZ := Lib.hid hZ
  have HK3 := Lib.hid hk3
  have hR3 := (HD.out.row.keep HK2.out (fun e => e)).keep hk3 (fun e => e)
  have d3 := hR3.cell (i := 0) rfl
  have f3 := hR3.frozen 0 none
  clear hZ hk3 hR3 HLD
  go_wp2_with fail
  refine (must_nil w3).mono ?_
  rintro e w4 ⟨rfl, rfl⟩
  go_wp2_with fail
  go_ret
  exact dk_ok2 (t := tReload) (HD.out.fresh HK2.out HK3.out HZ.out HD.out.ok HD.out.lok) (by rw [noNums_ok H0.out]) rfl
 ·exact ⟨rfl, dk_bad HD.out hk1 (noNums_bad hbad)⟩
set_option maxRecDepth 100000 in
set_option maxHeartbeats 1000000 in
theorem dnodes_any (Z : Nat) (F : Nat → Prop) (w : World) (db xb n : Nat) (es : List E) (hD : DkM Z F w db xb n es) (o : Option Addr) (m c : Nat) (l : List (List UInt8)) (hW : Wds w o m c l) :
  Calls Tryz.prog 8 #[.pointer (some ⟨db, 0, none⟩), .slice o m c] w (DkPost Z F w db (aNodes l n es)) := by
 have HN := Lib.hid (wds_nums hD.lib.lib hD.lib.err hW 1 (by omega))
 have HD := Lib.hid hD
 clear hW hD
 go_enter Tryz.func8, Tryz.ntmps8
 go_wp2_with fail
 refine HN.out.mono ?_
 rintro e w1 ⟨hk1, ⟨vs, o', c', h0, hvs, hvl, rfl, hS⟩ | ⟨hbad, rfl⟩⟩
 ·obtain ⟨v, rfl⟩ := List.length_eq_one_iff.1 hvl
  obtain ⟨g, rfl, hFg, hgc, hrow⟩ := hS.pos (by omega)
  have dv : w1.cell? ⟨g, 0, none⟩ = some (.int .i64 v) := hrow.cell rfl
  have HK1 := Lib.hid hk1
  have HV := Lib.hid (And.intro h0 hvs)
  clear hk1 h0 hvs hvl hrow hS HN hFg
  by_cases hin : 0 ≤ v ∧ v ≤ 40
  ·obtain ⟨k, rfl⟩ : ∃ k : Nat, v = k := ⟨v.toNat, by omega⟩
   have HIN := Lib.hid hin
   have hk40 : k ≤ 40 := by omega
   clear hin
   go_wp2_with fail
   refine (inew_any k hk40 w1).mono ?_
   rintro e w2 ⟨yb, rfl, hY, hk2⟩
   have HY := Lib.hid hY
   have HK2 := Lib.hid hk2
   have hR3 := (HD.out.row.keep HK1.out (fun e => e)).keep hk2 (fun e => e)
   have d3 := hR3.cell (i := 0) rfl
   have f3 := hR3.frozen 0 none
   clear hY hk2 hR3
   go_wp2_with fail
   refine (must_nil w2).mono ?_
   rintro e w4 ⟨rfl, rfl⟩
   go_wp2_with fail
   go_ret
   refine dk_ok2 (t := tNodes) (HD.out.fresh HK1.out HK2.out HY.out.known (IOk.nil hk40) (LOk.nil k)) ?_ rfl
   unfold aNodes
   rw [if_neg (by rw [HV.out.1]; simp), HV.out.2]
   simp only
   rw [if_pos HIN.out]
   simp
  ·have HIN := Lib.hid hin
   have hin2 : v < 0 ∨ 40 < v := by omega
   clear hin
   go_wp2_with fail
   refine (inew_err v hin2 w1).mono ?_
   rintro e w2 ⟨rfl, rfl⟩
   have hE : errV 2 = .iface 47 (.int .i64 2) := rfl
   rw [hE]
   go_wp2_with fail
   refine (must_err 2 w1 (HD.out.lib.err.keep HK1.out (fun e => e))).mono ?_
   rintro e w4 ⟨rfl, hk4⟩
   refine ⟨rfl, dk_bad HD.out (HK1.out.trans hk4) ?_⟩
   unfold aNodes
   rw [if_neg (by rw [HV.out.1]; simp), HV.out.2]
   simp only
   rw [if_neg HIN.out]
 ·refine ⟨rfl, dk_bad HD.out hk1 ?_⟩
  unfold aNodes
  rcases hbad with h | h
  ·rw [if_pos h]
  ·rw [h]; split <;> rfl
end Go.Proofs.YtfglkgkihafcpaaGreatDoor

namespace Go.Proofs.YtfglkgkihafcpaaGreatDoor
open Go.RowKit Pl
def rangeV : Value := .iface 47 (.int .i64 2)
set_option maxRecDepth 100000 in
theorem same_err (F : Nat → Prop) (w : World) (b n : Nat) (L : Nat → Nat) (x y : Int) (hxy : outB n x = true ∨ outB n y = true) (hS : Sets F w b n L) :
  Calls Tryz.prog 107 #[.pointer (some ⟨b, 0, none⟩), .int .i64 x, .int .i64 y] w fun e w' => e = .returned (.tuple #[.bool false, rangeV]) ∧ Keep Nb w w' := by
 obtain ⟨up, size, low, many, ou, os, ol, cu, cs, cl, hM, hI, hn⟩ := hS
 have hc0 := hM.head.cell (i := 0) rfl
 have hb := hM.head.lt
 have hca : (w.alloc (.cells #[.int .i64 x, .int .i64 y] 3)).cell? ⟨b, 0, none⟩ = some (.slice ou n cu) := by rw [World.cell?_alloc_past _ _ _ hb]; exact hc0
 have hg2 := Lib.hid (two_get (w := w) (T := 3) [x, y] rfl)
 obtain ⟨z, hz, hout⟩ : ∃ z ∈ [x, y], outB n z = true := by
  rcases hxy with h | h
  ·exact ⟨x, by simp, h⟩
  ·exact ⟨y, by simp, h⟩
 clear hM hI hc0 hxy
 go_enter Tryz.func107, Tryz.ntmps107
 go_wp2_with fail
 refine (right_no _ b n cu ou _ [x, y] 2 2 rfl (Nat.le_refl _) hn hca hg2.out z hz hout).mono ?_
 rintro e w1 ⟨rfl, hk1⟩
 go_wp2_with fail
 go_ret2
 exact ⟨rfl, (((Keep.refl Nb w).alloc _).trans hk1)⟩
end Go.Proofs.YtfglkgkihafcpaaGreatDoor

namespace Go.Proofs.YtfglkgkihafcpaaGreatDoor
open Go.RowKit Pl
set_option maxRecDepth 100000 in
theorem bwhole_err (F : Nat → Prop) (w : World) (b n : Nat) (es : List E) (x y : Int) (hxy : outB n x = true ∨ outB n y = true) (hB : Brs F w b n es) :
  Calls Tryz.prog 148 #[.pointer (some ⟨b, 0, none⟩), .int .i64 x, .int .i64 y] w fun e w' => e = .returned (.tuple #[.bool false, rangeV]) ∧ Keep Nb w w' := by
 obtain ⟨ws, ts, um, im, Fw, Ft, T, mU, mI, up, h, hr⟩ := hB
 have c0 := h.head.cell (i := 0) rfl
 have HC := Lib.hid (same_err Fw w ws n _ x y hxy h.sw)
 clear h hr hxy
 unfold rangeV at HC ⊢
 go_enter Tryz.func148, Tryz.ntmps148
 go_wp2_with fail
 refine HC.out.mono ?_
 rintro e w1 ⟨rfl, hk⟩
 have HK := Lib.hid hk
 clear hk
 go_wp2_with fail
 go_ret2
 exact ⟨rfl, HK.out⟩
set_option maxRecDepth 100000 in
theorem btwice_err (F : Nat → Prop) (w : World) (b n : Nat) (es : List E) (x y : Int) (hxy : outB n x = true ∨ outB n y = true) (hB : Brs F w b n es) :
  Calls Tryz.prog 145 #[.pointer (some ⟨b, 0, none⟩), .int .i64 x, .int .i64 y] w fun e w' => e = .returned (.tuple #[.bool false, rangeV]) ∧ Keep Nb w w' := by
 obtain ⟨ws, ts, um, im, Fw, Ft, T, mU, mI, up, h, hr⟩ := hB
 have c0 := h.head.cell (i := 1) rfl
 have HC := Lib.hid (same_err Ft w ts n _ x y hxy h.st)
 clear h hr hxy
 unfold rangeV at HC ⊢
 go_enter Tryz.func145, Tryz.ntmps145
 go_wp2_with fail
 refine HC.out.mono ?_
 rintro e w1 ⟨rfl, hk⟩
 have HK := Lib.hid hk
 clear hk
 go_wp2_with fail
 go_ret2
 exact ⟨rfl, HK.out⟩
end Go.Proofs.YtfglkgkihafcpaaGreatDoor

namespace Go.Proofs.YtfglkgkihafcpaaGreatDoor
open Go.RowKit Pl Go.Maps
theorem fbool_any (b : Bool) (w : World) : Calls Tryz.prog 87 #[.bool b] w fun e w' => e = .returned (.string (bstr (Lib.formatBool b))) ∧ w' = w := Any.strconv_FormatBool Tryz.lays121 b w
theorem IxK.askD {F : Nat → Prop} {w w' : World} {xb n : Nat} {es : List E} (h : IxK F w' xb n es) (k : Keep F w w') : IStay F w xb n es w' := ⟨h.mono (fun _ hk _ => .inl hk), k⟩
theorem DkM.turn {Z : Nat} {F : Nat → Prop} {w w1 w2 w3 : World} {db xb n : Nat} {es es2 : List E} (h : DkM Z F w db xb n es) (k1 : Keep Nb w w1) (hX : IxK (fun k => F k ∨ w1.heap.size ≤ k) w2 xb n es2) (hk : Keep F w1 w2) (hI : IOk n es2) (hO : LOk n es2) (k2 : Keep Nb w2 w3) :
  (∃ F' xb', DkM Z F' w3 db xb' n es2 ∧ ∀ k, F' k → F k ∨ w.heap.size ≤ k) ∧ Keep (fun k => F k ∨ k = db) w w3 := by
 have z1 := k1.size
 have z2 := hk.size
 have z3 := k2.size
 have hdb := h.row.lt
 refine ⟨⟨fun k => (F k ∨ w1.heap.size ≤ k) ∧ k < w2.heap.size, xb, ⟨((h.row.keep k1 (fun e => e)).keep hk h.nd).keep k2 (fun e => e), (hX.tight).keep k2 (fun _ _ e => e), fun e => ?_, fun k hk => by omega, hI, hO, fun k hk => ?_, h.ldb, (((h.lib.keep k1 (fun _ e => e.elim)).keep hk h.lo).keep k2 (fun _ e => e.elim))⟩, fun k hk => ?_⟩, ((k1.of_nb (F := fun k => F k ∨ k = db)).trans' hk (fun _ _ e => e) (fun _ _ e => .inl e)).trans' k2 (fun _ _ e => e) (fun _ _ e => e.elim)⟩
 ·rcases e.1 with e | e
  ·exact h.nd e
  ·omega
 ·have := h.ldb
  rcases hk.1 with hk | hk
  ·exact h.lo k hk
  ·omega
 ·rcases hk.1 with hk | hk
  ·exact .inl hk
  ·exact .inr (by omega)
theorem dk_thr {Z : Nat} {F : Nat → Prop} {w w' : World} {db n : Nat} {es : List E} {r : Ans} {k : Int} (h : (∃ F' xb', DkM Z F' w' db xb' n es ∧ ∀ k, F' k → F k ∨ w.heap.size ≤ k) ∧ Keep (fun k => F k ∨ k = db) w w') (hr : r = ⟨.error k, n, es⟩) : DkPost Z F w db r (thrown k) w' := by
 subst hr
 exact ⟨h.1, h.2, rfl⟩
def inR (n : Nat) (x y : Int) : Prop := outB n x = false ∧ outB n y = false
instance (n : Nat) (x y : Int) : Decidable (inR n x y) := by unfold inR; infer_instance
noncomputable def twB (es : List E) (x y : Nat) : Bool := @decide (twiceB es x y) (Classical.propDecidable _)
def aAsk (f : Nat → Nat → Bool) (l : List (List UInt8)) (n : Nat) (es : List E) : Ans :=
 if l.length ≠ 2 then ⟨.error 3, n, es⟩ else match numsD l with
 | some [x, y] => if inR n x y then ⟨.ok (Lib.formatBool (f x.toNat y.toNat)), n, es⟩ else ⟨.error 2, n, es⟩
 | _ => ⟨.error 3, n, es⟩
def askB (f : Nat → Nat → Bool) (n : Nat) (x y : Int) : Bool := if inR n x y then f x.toNat y.toNat else false
def askE (n : Nat) (x y : Int) : Value := if inR n x y then .nilIface else .iface 47 (.int .i64 2)
theorem not_inR {n : Nat} {x y : Int} (h : ¬ inR n x y) : outB n x = true ∨ outB n y = true := by
 unfold inR at h
 cases h1 : outB n x
 ·cases h2 : outB n y
  ·exact absurd ⟨h1, h2⟩ h
  ·exact .inr rfl
 ·exact .inl rfl
set_option maxRecDepth 100000 in
theorem iwholeZ (F : Nat → Prop) (w : World) (xb n : Nat) (es : List E) (x y : Int) (hX : IxK F w xb n es) :
  Calls Tryz.prog 104 #[.pointer (some ⟨xb, 0, none⟩), .int .i64 x, .int .i64 y] w fun e w' => e = .returned (.tuple #[.bool (askB (fun x y => decide (Conn (ends es) x y)) n x y), askE n x y]) ∧ IStay F w xb n es w' := by
 by_cases hr : inR n x y
 ·obtain ⟨h1, h2⟩ := hr
  obtain ⟨a1, a2⟩ := outB_false.1 h1
  obtain ⟨b1, b2⟩ := outB_false.1 h2
  obtain ⟨x, rfl⟩ : ∃ k : Nat, x = k := ⟨x.toNat, by omega⟩
  obtain ⟨y, rfl⟩ : ∃ k : Nat, y = k := ⟨y.toNat, by omega⟩
  refine (iwholeK_any F w xb n es x y (by omega) (by omega) hX).mono ?_
  rintro e w' ⟨rfl, q1, q2⟩
  unfold askB askE
  rw [if_pos (show inR n (x : Int) y from ⟨h1, h2⟩), if_pos (show inR n (x : Int) y from ⟨h1, h2⟩)]
  exact ⟨rfl, IxK.askD q1 q2⟩
 ·obtain ⟨Fg, Fb, Fc, gb, bb, fs, r2, r3, r4, hM, hF⟩ := hX
  have c1 := hM.row.cell (i := 1) rfl
  have HC := Lib.hid (bwhole_err Fb w bb n fs x y (not_inR hr) hM.brs)
  have HS := Lib.hid (hM.stays hF)
  have hb : askB (fun x y => decide (Conn (ends es) x y)) n x y = false := if_neg hr
  have he : askE n x y = .iface 47 (.int .i64 2) := if_neg hr
  rw [hb, he]
  unfold rangeV at HC
  clear hM hF hb he hr
  go_enter Tryz.func104, Tryz.ntmps104
  go_wp2_with fail
  refine HC.out.mono ?_
  rintro e w1 ⟨rfl, hk⟩
  have HK := Lib.hid hk
  clear hk HC
  go_wp2_with fail
  go_ret2
  exact ⟨rfl, HS.out.keep HK.out⟩
set_option maxRecDepth 100000 in
theorem itwiceZ (F : Nat → Prop) (w : World) (xb n : Nat) (es : List E) (x y : Int) (hX : IxK F w xb n es) :
  Calls Tryz.prog 101 #[.pointer (some ⟨xb, 0, none⟩), .int .i64 x, .int .i64 y] w fun e w' => e = .returned (.tuple #[.bool (askB (twB es) n x y), askE n x y]) ∧ IStay F w xb n es w' := by
 by_cases hr : inR n x y
 ·obtain ⟨h1, h2⟩ := hr
  obtain ⟨a1, a2⟩ := outB_false.1 h1
  obtain ⟨b1, b2⟩ := outB_false.1 h2
  obtain ⟨x, rfl⟩ : ∃ k : Nat, x = k := ⟨x.toNat, by omega⟩
  obtain ⟨y, rfl⟩ : ∃ k : Nat, y = k := ⟨y.toNat, by omega⟩
  refine (itwiceK_any F w xb n es x y (by omega) (by omega) hX).mono ?_
  rintro e w' ⟨r, hr, rfl, q1, q2⟩
  have hrr : r = twB es x y := by
   unfold twB
   rw [Bool.eq_iff_iff, hr]
   simp
  unfold askB askE
  rw [if_pos (show inR n (x : Int) y from ⟨h1, h2⟩), if_pos (show inR n (x : Int) y from ⟨h1, h2⟩), hrr]
  exact ⟨rfl, IxK.askD q1 q2⟩
 ·obtain ⟨Fg, Fb, Fc, gb, bb, fs, r2, r3, r4, hM, hF⟩ := hX
  have c1 := hM.row.cell (i := 1) rfl
  have HC := Lib.hid (btwice_err Fb w bb n fs x y (not_inR hr) hM.brs)
  have HS := Lib.hid (hM.stays hF)
  have hb : askB (twB es) n x y = false := if_neg hr
  have he : askE n x y = .iface 47 (.int .i64 2) := if_neg hr
  rw [hb, he]
  unfold rangeV at HC
  clear hM hF hb he hr
  go_enter Tryz.func101, Tryz.ntmps101
  go_wp2_with fail
  refine HC.out.mono ?_
  rintro e w1 ⟨rfl, hk⟩
  have HK := Lib.hid hk
  clear hk HC
  go_wp2_with fail
  go_ret2
  exact ⟨rfl, HS.out.keep HK.out⟩
set_option maxRecDepth 100000 in
set_option maxHeartbeats 4000000 in
theorem dwhole_any (Z : Nat) (F : Nat → Prop) (w : World) (db xb n : Nat) (es : List E) (hD : DkM Z F w db xb n es) (o : Option Addr) (m c : Nat) (l : List (List UInt8)) (hW : Wds w o m c l) :
  Calls Tryz.prog 70 #[.pointer (some ⟨db, 0, none⟩), .slice o m c] w (DkPost Z F w db (aAsk (fun x y => decide (Conn (ends es) x y)) l n es)) := by
 obtain ⟨f, hf⟩ : ∃ f : Nat → Nat → Bool, (fun x y => decide (Conn (ends es) x y)) = f := ⟨_, rfl⟩
 have HQ0 : Hid (∀ (wx : World) (x y : Int), IxK F wx xb n es → Calls Tryz.prog 104 #[.pointer (some ⟨xb, 0, none⟩), .int .i64 x, .int .i64 y] wx fun e w' => e = .returned (.tuple #[.bool (askB f n x y), askE n x y]) ∧ IStay F wx xb n es w') := Lib.hid (fun wx x y h => by rw [← hf]; exact iwholeZ F wx xb n es x y h)
 rw [hf]
 have HN := Lib.hid (wds_nums hD.lib.lib hD.lib.err hW 2 (by omega))
 have HD := Lib.hid hD
 clear hW hD hf
 go_enter Tryz.func70, Tryz.ntmps70
 go_wp2_with fail
 refine HN.out.mono ?_
 rintro e w1 ⟨hk1, ⟨vs, o', c', h0, hvs, hvl, rfl, hS⟩ | ⟨hbad, rfl⟩⟩
 ·obtain ⟨x, y, rfl⟩ : ∃ x y, vs = [x, y] := by
   match vs, hvl with
   | [x, y], _ => exact ⟨x, y, rfl⟩
  obtain ⟨g, rfl, hFg, hgc, hrow⟩ := hS.pos (by omega)
  have dv0 : w1.cell? ⟨g, 0, none⟩ = some (.int .i64 x) := hrow.cell rfl
  have dv1 : w1.cell? ⟨g, 1, none⟩ = some (.int .i64 y) := hrow.cell rfl
  have hD1 := HD.out.still hk1
  have d0 := hD1.row.cell (i := 0) rfl
  have HK1 := Lib.hid hk1
  have HV := Lib.hid (And.intro h0 hvs)
  obtain ⟨bv, hbv⟩ : ∃ bv, askB f n x y = bv := ⟨_, rfl⟩
  obtain ⟨ev, hev⟩ : ∃ ev, askE n x y = ev := ⟨_, rfl⟩
  have HB := Lib.hid (And.intro hbv hev)
  have NB : Hid (¬ F db ∧ ¬ F g) := Lib.hid ⟨HD.out.nd, fun h => by have := HD.out.lt g h; have hFg : w.heap.size ≤ g := hFg; omega⟩
  have HQ : Hid (∀ wx, Keep Nb w1 wx → Calls Tryz.prog 104 #[.pointer (some ⟨xb, 0, none⟩), .int .i64 x, .int .i64 y] wx fun e w' => e = .returned (.tuple #[.bool bv, ev]) ∧ (∀ w3, Keep Nb w' w3 → (∃ F' xb', DkM Z F' w3 db xb' n es ∧ ∀ k, F' k → F k ∨ w.heap.size ≤ k) ∧ Keep (fun k => F k ∨ k = db) w w3) ∧ ErrT w' ∧ Keep F wx w') := Lib.hid (fun wx hkx => by
   refine (HQ0.out wx x y (hD1.ix.keep hkx (fun _ _ e => e))).mono ?_
   rintro e w' ⟨rfl, hst⟩
   rw [hbv, hev]
   refine ⟨rfl, fun w3 k3 => HD.out.stay (hk1.trans hkx) hst k3, ?_, hst.2⟩
   exact (((HD.out.lib.keep (hk1.trans hkx) (fun _ e => e.elim)).keep hst.2 HD.out.lo)).err)
  have DV := Lib.hid (And.intro d0 (And.intro dv0 dv1))
  clear hk1 h0 hvs hvl hrow hS HN hFg hD1 hbv hev HQ0
  go_wp2_with fail
  go_region_held3 (fun w' => w'.cell? ⟨db, 0, none⟩ = some (.pointer (some ⟨xb, 0, none⟩)) ∧ w'.cell? ⟨g, 0, none⟩ = some (.int .i64 x) ∧ w'.cell? ⟨g, 1, none⟩ = some (.int .i64 y)) (go_keep) ((first
   | (go_at_call 104; refine (HQ.out _ (show Keep Nb w1 _ from (by (repeat (first | exact Keep.refl _ _ | refine Keep.alloc ?_ _ | refine Keep.drew ?_))))).mono ?_; rintro e1 wA ⟨rfl, hP, hE, kA⟩; have a0 := kA.cell (p := ⟨db, 0, none⟩) DV.out.1 NB.out.1; have a1 := kA.cell (p := ⟨g, 0, none⟩) DV.out.2.1 NB.out.2; have a2 := kA.cell (p := ⟨g, 1, none⟩) DV.out.2.2 NB.out.2; have HP := Lib.hid hP; have HE := Lib.hid hE; clear hP hE kA)))
  clear a0 a1 a2
  by_cases hr : inR n x y
  ·have hev : ev = .nilIface := by rw [← HB.out.2]; exact if_pos hr
   have hbv : bv = f x.toNat y.toNat := by rw [← HB.out.1]; exact if_pos hr
   subst hev
   have HBV := Lib.hid hbv
   have HR := Lib.hid hr
   clear hbv hr HQ
   go_wp2_with fail
   refine (must_nil wA).mono ?_
   rintro e w4 ⟨rfl, rfl⟩
   go_wp2_with fail
   refine (fbool_any bv _).mono ?_
   rintro e w5 ⟨rfl, rfl⟩
   go_wp2_with fail
   go_ret
   refine dk_ok (t := Lib.formatBool bv) (HP.out _ (Keep.refl _ _)) ?_ rfl
   unfold aAsk
   rw [if_neg (by rw [HV.out.1]; simp), HV.out.2]
   simp only
   rw [if_pos HR.out, HBV.out]
  ·have hev : ev = .iface 47 (.int .i64 2) := by rw [← HB.out.2]; exact if_neg hr
   subst hev
   have HR := Lib.hid hr
   clear hr HQ
   go_wp2_with fail
   refine (must_err 2 wA HE.out).mono ?_
   rintro e w4 ⟨rfl, hk4⟩
   refine ⟨rfl, dk_thr (HP.out _ hk4) ?_⟩
   unfold aAsk
   rw [if_neg (by rw [HV.out.1]; simp), HV.out.2]
   simp only
   rw [if_neg HR.out]
 ·refine ⟨rfl, dk_bad HD.out hk1 ?_⟩
  unfold aAsk
  rcases hbad with h | h
  ·rw [if_pos h]
  ·rw [h]; split <;> rfl
end Go.Proofs.YtfglkgkihafcpaaGreatDoor

namespace Go.Proofs.YtfglkgkihafcpaaGreatDoor
open Go.RowKit Pl Go.Maps
def aAdd (l : List (List UInt8)) (n : Nat) (es : List E) : Ans :=
 if l.length ≠ 3 then ⟨.error 3, n, es⟩ else match numsD l with
 | some [i, x, y] => if addErr n es i x y = 0 then ⟨.ok (Lib.formatBool (!decide (Conn (ends es) x.toNat y.toNat))), n, addEs n es i x y⟩ else ⟨.error (addErr n es i x y), n, es⟩
 | _ => ⟨.error 3, n, es⟩
set_option maxRecDepth 100000 in
set_option maxHeartbeats 4000000 in
theorem dtwice_any (Z : Nat) (F : Nat → Prop) (w : World) (db xb n : Nat) (es : List E) (hD : DkM Z F w db xb n es) (o : Option Addr) (m c : Nat) (l : List (List UInt8)) (hW : Wds w o m c l) :
  Calls Tryz.prog 68 #[.pointer (some ⟨db, 0, none⟩), .slice o m c] w (DkPost Z F w db (aAsk (twB es) l n es)) := by
 obtain ⟨f, hf⟩ : ∃ f : Nat → Nat → Bool, twB es = f := ⟨_, rfl⟩
 have HQ0 : Hid (∀ (wx : World) (x y : Int), IxK F wx xb n es → Calls Tryz.prog 101 #[.pointer (some ⟨xb, 0, none⟩), .int .i64 x, .int .i64 y] wx fun e w' => e = .returned (.tuple #[.bool (askB f n x y), askE n x y]) ∧ IStay F wx xb n es w') := Lib.hid (fun wx x y h => by rw [← hf]; exact itwiceZ F wx xb n es x y h)
 rw [hf]
 have HN := Lib.hid (wds_nums hD.lib.lib hD.lib.err hW 2 (by omega))
 have HD := Lib.hid hD
 clear hW hD hf
 go_enter Tryz.func68, Tryz.ntmps68
 go_wp2_with fail
 refine HN.out.mono ?_
 rintro e w1 ⟨hk1, ⟨vs, o', c', h0, hvs, hvl, rfl, hS⟩ | ⟨hbad, rfl⟩⟩
 ·obtain ⟨x, y, rfl⟩ : ∃ x y, vs = [x, y] := by
   match vs, hvl with
   | [x, y], _ => exact ⟨x, y, rfl⟩
  obtain ⟨g, rfl, hFg, hgc, hrow⟩ := hS.pos (by omega)
  have dv0 : w1.cell? ⟨g, 0, none⟩ = some (.int .i64 x) := hrow.cell rfl
  have dv1 : w1.cell? ⟨g, 1, none⟩ = some (.int .i64 y) := hrow.cell rfl
  have hD1 := HD.out.still hk1
  have d0 := hD1.row.cell (i := 0) rfl
  have HK1 := Lib.hid hk1
  have HV := Lib.hid (And.intro h0 hvs)
  obtain ⟨bv, hbv⟩ : ∃ bv, askB f n x y = bv := ⟨_, rfl⟩
  obtain ⟨ev, hev⟩ : ∃ ev, askE n x y = ev := ⟨_, rfl⟩
  have HB := Lib.hid (And.intro hbv hev)
  have NB : Hid (¬ F db ∧ ¬ F g) := Lib.hid ⟨HD.out.nd, fun h => by have := HD.out.lt g h; have hFg : w.heap.size ≤ g := hFg; omega⟩
  have HQ : Hid (∀ wx, Keep Nb w1 wx → Calls Tryz.prog 101 #[.pointer (some ⟨xb, 0, none⟩), .int .i64 x, .int .i64 y] wx fun e w' => e = .returned (.tuple #[.bool bv, ev]) ∧ (∀ w3, Keep Nb w' w3 → (∃ F' xb', DkM Z F' w3 db xb' n es ∧ ∀ k, F' k → F k ∨ w.heap.size ≤ k) ∧ Keep (fun k => F k ∨ k = db) w w3) ∧ ErrT w' ∧ Keep F wx w') := Lib.hid (fun wx hkx => by
   refine (HQ0.out wx x y (hD1.ix.keep hkx (fun _ _ e => e))).mono ?_
   rintro e w' ⟨rfl, hst⟩
   rw [hbv, hev]
   refine ⟨rfl, fun w3 k3 => HD.out.stay (hk1.trans hkx) hst k3, ?_, hst.2⟩
   exact (((HD.out.lib.keep (hk1.trans hkx) (fun _ e => e.elim)).keep hst.2 HD.out.lo)).err)
  have DV := Lib.hid (And.intro d0 (And.intro dv0 dv1))
  clear hk1 h0 hvs hvl hrow hS HN hFg hD1 hbv hev HQ0
  go_wp2_with fail
  go_region_held3 (fun w' => w'.cell? ⟨db, 0, none⟩ = some (.pointer (some ⟨xb, 0, none⟩)) ∧ w'.cell? ⟨g, 0, none⟩ = some (.int .i64 x) ∧ w'.cell? ⟨g, 1, none⟩ = some (.int .i64 y)) (go_keep) ((first
   | (go_at_call 101; refine (HQ.out _ (show Keep Nb w1 _ from (by (repeat (first | exact Keep.refl _ _ | refine Keep.alloc ?_ _ | refine Keep.drew ?_))))).mono ?_; rintro e1 wA ⟨rfl, hP, hE, kA⟩; have a0 := kA.cell (p := ⟨db, 0, none⟩) DV.out.1 NB.out.1; have a1 := kA.cell (p := ⟨g, 0, none⟩) DV.out.2.1 NB.out.2; have a2 := kA.cell (p := ⟨g, 1, none⟩) DV.out.2.2 NB.out.2; have HP := Lib.hid hP; have HE := Lib.hid hE; clear hP hE kA)))
  clear a0 a1 a2
  by_cases hr : inR n x y
  ·have hev : ev = .nilIface := by rw [← HB.out.2]; exact if_pos hr
   have hbv : bv = f x.toNat y.toNat := by rw [← HB.out.1]; exact if_pos hr
   subst hev
   have HBV := Lib.hid hbv
   have HR := Lib.hid hr
   clear hbv hr HQ
   go_wp2_with fail
   refine (must_nil wA).mono ?_
   rintro e w4 ⟨rfl, rfl⟩
   go_wp2_with fail
   refine (fbool_any bv _).mono ?_
   rintro e w5 ⟨rfl, rfl⟩
   go_wp2_with fail
   go_ret
   refine dk_ok (t := Lib.formatBool bv) (HP.out _ (Keep.refl _ _)) ?_ rfl
   unfold aAsk
   rw [if_neg (by rw [HV.out.1]; simp), HV.out.2]
   simp only
   rw [if_pos HR.out, HBV.out]
  ·have hev : ev = .iface 47 (.int .i64 2) := by rw [← HB.out.2]; exact if_neg hr
   subst hev
   have HR := Lib.hid hr
   clear hr HQ
   go_wp2_with fail
   refine (must_err 2 wA HE.out).mono ?_
   rintro e w4 ⟨rfl, hk4⟩
   refine ⟨rfl, dk_thr (HP.out _ hk4) ?_⟩
   unfold aAsk
   rw [if_neg (by rw [HV.out.1]; simp), HV.out.2]
   simp only
   rw [if_neg HR.out]
 ·refine ⟨rfl, dk_bad HD.out hk1 ?_⟩
  unfold aAsk
  rcases hbad with h | h
  ·rw [if_pos h]
  ·rw [h]; split <;> rfl
set_option maxRecDepth 100000 in
set_option maxHeartbeats 4000000 in
theorem dadd_any (Z : Nat) (F : Nat → Prop) (w : World) (db xb n : Nat) (es : List E) (hD : DkM Z F w db xb n es) (o : Option Addr) (m c : Nat) (l : List (List UInt8)) (hW : Wds w o m c l) :
  Calls Tryz.prog 57 #[.pointer (some ⟨db, 0, none⟩), .slice o m c] w (DkPost Z F w db (aAdd l n es)) := by
 have HN := Lib.hid (wds_nums hD.lib.lib hD.lib.err hW 3 (by omega))
 have HD := Lib.hid hD
 clear hW hD
 go_enter Tryz.func57, Tryz.ntmps57
 go_wp2_with fail
 refine HN.out.mono ?_
 rintro e w1 ⟨hk1, ⟨vs, o', c', h0, hvs, hvl, rfl, hS⟩ | ⟨hbad, rfl⟩⟩
 ·obtain ⟨i, x, y, rfl⟩ : ∃ i x y, vs = [i, x, y] := by
   match vs, hvl with
   | [i, x, y], _ => exact ⟨i, x, y, rfl⟩
  obtain ⟨g, rfl, hFg, hgc, hrow⟩ := hS.pos (by omega)
  have dv0 : w1.cell? ⟨g, 0, none⟩ = some (.int .i64 i) := hrow.cell rfl
  have dv1 : w1.cell? ⟨g, 1, none⟩ = some (.int .i64 x) := hrow.cell rfl
  have dv2 : w1.cell? ⟨g, 2, none⟩ = some (.int .i64 y) := hrow.cell rfl
  have hD1 := HD.out.still hk1
  have d0 := hD1.row.cell (i := 0) rfl
  have HK1 := Lib.hid hk1
  have HV := Lib.hid (And.intro h0 hvs)
  obtain ⟨bv, hbv⟩ : ∃ bv, (if addErr n es i x y = 0 then !decide (Conn (ends es) x.toNat y.toNat) else false) = bv := ⟨_, rfl⟩
  obtain ⟨ev, hev⟩ : ∃ ev, (if addErr n es i x y = 0 then Value.nilIface else errVal (addErr n es i x y)) = ev := ⟨_, rfl⟩
  have HB := Lib.hid (And.intro hbv hev)
  have NB : Hid (¬ F db ∧ ¬ F g) := Lib.hid ⟨HD.out.nd, fun h => by have := HD.out.lt g h; have hFg : w.heap.size ≤ g := hFg; omega⟩
  have HQ : Hid (∀ wx, Keep Nb w1 wx → Calls Tryz.prog 86 #[.pointer (some ⟨xb, 0, none⟩), .int .i64 i, .int .i64 x, .int .i64 y] wx fun e w' => e = .returned (.tuple #[.bool bv, ev]) ∧ (∀ w3, Keep Nb w' w3 → (∃ F' xb', DkM Z F' w3 db xb' n (addEs n es i x y) ∧ ∀ k, F' k → F k ∨ w.heap.size ≤ k) ∧ Keep (fun k => F k ∨ k = db) w w3) ∧ ErrT w' ∧ Keep F wx w') := Lib.hid (fun wx hkx => by
   refine (iaddK_any F wx xb n es i x y (hD1.ix.keep hkx (fun _ _ e => e)) hD1.ok).mono ?_
   rintro e w' ⟨he, q1, q2⟩
   refine ⟨?_, fun w3 k3 => HD.out.turn (hk1.trans hkx) q1 q2 (HD.out.ok.add i x y) (HD.out.lok.add i x y) k3, (((HD.out.lib.keep (hk1.trans hkx) (fun _ e => e.elim)).keep q2 HD.out.lo)).err, q2⟩
   rw [he, ← hbv, ← hev]
   split <;> rfl)
  have DV := Lib.hid (And.intro d0 (And.intro dv0 (And.intro dv1 dv2)))
  clear hk1 h0 hvs hvl hrow hS HN hFg hD1 hbv hev
  go_wp2_with fail
  go_region_held3 (fun w' => w'.cell? ⟨db, 0, none⟩ = some (.pointer (some ⟨xb, 0, none⟩)) ∧ w'.cell? ⟨g, 0, none⟩ = some (.int .i64 i) ∧ w'.cell? ⟨g, 1, none⟩ = some (.int .i64 x) ∧ w'.cell? ⟨g, 2, none⟩ = some (.int .i64 y)) (go_keep) ((first
   | (go_at_call 86; refine (HQ.out _ (show Keep Nb w1 _ from (by (repeat (first | exact Keep.refl _ _ | refine Keep.alloc ?_ _ | refine Keep.drew ?_))))).mono ?_; rintro e1 wA ⟨rfl, hP, hE, kA⟩; have a0 := kA.cell (p := ⟨db, 0, none⟩) DV.out.1 NB.out.1; have a1 := kA.cell (p := ⟨g, 0, none⟩) DV.out.2.1 NB.out.2; have a2 := kA.cell (p := ⟨g, 1, none⟩) DV.out.2.2.1 NB.out.2; have a3 := kA.cell (p := ⟨g, 2, none⟩) DV.out.2.2.2 NB.out.2; have HP := Lib.hid hP; have HE := Lib.hid hE; clear hP hE kA)))
  clear a0 a1 a2 a3
  by_cases hr : addErr n es i x y = 0
  ·have hev : ev = .nilIface := by rw [← HB.out.2]; exact if_pos hr
   have hbv : bv = !decide (Conn (ends es) x.toNat y.toNat) := by rw [← HB.out.1]; exact if_pos hr
   subst hev
   have HBV := Lib.hid hbv
   have HR := Lib.hid hr
   clear hbv hr HQ
   go_wp2_with fail
   refine (must_nil wA).mono ?_
   rintro e w4 ⟨rfl, rfl⟩
   go_wp2_with fail
   refine (fbool_any bv _).mono ?_
   rintro e w5 ⟨rfl, rfl⟩
   go_wp2_with fail
   go_ret
   refine dk_ok (t := Lib.formatBool bv) (HP.out _ (Keep.refl _ _)) ?_ rfl
   unfold aAdd
   rw [if_neg (by rw [HV.out.1]; simp), HV.out.2]
   simp only
   rw [if_pos HR.out, HBV.out]
  ·obtain ⟨rr, hrr⟩ : ∃ rr, addErr n es i x y = rr := ⟨_, rfl⟩
   have hev : ev = .iface 47 (.int .i64 rr) := by rw [← HB.out.2, if_neg hr, hrr]; rfl
   subst hev
   have HR := Lib.hid hr
   have HRR := Lib.hid hrr
   have HES := Lib.hid (addEs_err hr)
   clear hr HQ hrr
   go_wp2_with fail
   refine (must_err rr wA HE.out).mono ?_
   rintro e w4 ⟨rfl, hk4⟩
   have hP4 := HP.out _ hk4
   rw [HES.out] at hP4
   refine ⟨rfl, dk_thr hP4 ?_⟩
   unfold aAdd
   rw [if_neg (by rw [HV.out.1]; simp), HV.out.2]
   simp only
   rw [if_neg HR.out, HRR.out]
 ·refine ⟨rfl, dk_bad HD.out hk1 ?_⟩
  unfold aAdd
  rcases hbad with h | h
  ·rw [if_pos h]
  ·rw [h]; split <;> rfl
end Go.Proofs.YtfglkgkihafcpaaGreatDoor

