/- Part 43 of the proof: B2. -/
import Derived.Test.YtfglkgkihafcpaaGreatDoorDp42
import Derived.BigRegion
import Derived.Deep.QuietTactic
import Derived.BigQuiet
set_option linter.unusedVariables false
set_option linter.unusedSimpArgs false
namespace Go.Proofs.YtfglkgkihafcpaaGreatDoor
open Go.RowKit Pl Go.Maps
def WayPost (F : Nat → Prop) (w : World) (b : Nat) (ar : List (Nat × Nat)) (u : Nat → Bool) (s t : Nat) (e : Ending) (w' : World) : Prop :=
 ∃ (r : Bool) (u' : Nat → Bool), e = .returned (.bool r) ∧ Net F w' b ar u' ∧ Keep F w w' ∧
  (r = false → u' = u ∧ ∃ R : Nat → Bool, R s = true ∧ R t = false ∧ (∀ i, i < ar.length → R (frL ar i) = true → R (toL ar i) = false → u i = true) ∧ (∀ i, i < ar.length → R (frL ar i) = false → R (toL ar i) = true → u i = false)) ∧
  (r = true → ∀ v, exc ar.length (frL ar) (toL ar) u' v = exc ar.length (frL ar) (toL ar) u v + ind (decide (v = s)) - ind (decide (v = t)))
theorem mem_atL {ar : List (Nat × Nat)} {v k : Nat} : k ∈ atL ar v ↔ k < 2 * ar.length ∧ afr (frL ar) (toL ar) k = v := by
 unfold atL; simp
def InRel (w wr : World) (ar : List (Nat × Nat)) (u : Nat → Bool) (s i v j : Nat) (line : List Nat) (by_ : Nat → Option Int) (bm : Nat) (ol : Option Addr) (cl : Nat) : Prop :=
 WayRel w wr ar u s line by_ bm ol cl ∧ line[i]? = some v ∧ Seen ar.length (frL ar) (toL ar) u line i ∧ ∀ j' k, j' < j → (atL ar v)[j']? = some k → ause u k = false → ato (frL ar) (toL ar) k ∈ line
theorem InRel.go {w wr w' : World} {ar : List (Nat × Nat)} {u : Nat → Bool} {s i v j : Nat} {line : List Nat} {by_ : Nat → Option Int} {bm : Nat} {ol : Option Addr} {cl : Nat} (h : InRel w wr ar u s i v j line by_ bm ol cl) (kp : Keep Nb wr w') : InRel w w' ar u s i v j line by_ bm ol cl :=
 ⟨h.1.go kp, h.2⟩
theorem InRel.skip {w wr w' : World} {ar : List (Nat × Nat)} {u : Nat → Bool} {s i v j k : Nat} {line : List Nat} {by_ : Nat → Option Int} {bm : Nat} {ol : Option Addr} {cl : Nat} (h : InRel w wr ar u s i v j line by_ bm ol cl) (hk : (atL ar v)[j]? = some k)
  (hs : (by_ (ato (frL ar) (toL ar) k)).isSome = true ∨ ause u k = true) (kp : Keep Nb wr w') : InRel w w' ar u s i v (j + 1) line by_ bm ol cl := by
 obtain ⟨h1, h2, h3, h4⟩ := h
 refine ⟨h1.go kp, h2, h3, fun j' k' hj hk' hu => ?_⟩
 by_cases e : j' < j
 ·exact h4 j' k' e hk' hu
 ·obtain rfl : j' = j := by omega
  rw [hk] at hk'; cases hk'
  rcases hs with hs | hs
  ·exact (h1.bfs.keys _).1 hs
  ·rw [hs] at hu; cases hu
theorem InRel.more {w wr w' : World} {ar : List (Nat × Nat)} {u : Nat → Bool} {s i v j k p : Nat} {line : List Nat} {by_ by2 : Nat → Option Int} {bm : Nat} {ol ol2 : Option Addr} {cl cl2 : Nat} (h : InRel w wr ar u s i v j line by_ bm ol cl) (hk : (atL ar v)[j]? = some k)
  (hp : ato (frL ar) (toL ar) k = p) (h2 : WayRel w w' ar u s (line ++ [p]) by2 bm ol2 cl2) : InRel w w' ar u s i v (j + 1) (line ++ [p]) by2 bm ol2 cl2 := by
 obtain ⟨h1, hv, h3, h4⟩ := h
 have hi := (List.getElem?_eq_some_iff.1 hv).1
 refine ⟨h2, by rw [List.getElem?_append_left hi]; exact hv, h3.grow (by omega) p, fun j' k' hj hk' hu => ?_⟩
 by_cases e : j' < j
 ·exact List.mem_append_left _ (h4 j' k' e hk' hu)
 ·obtain rfl : j' = j := by omega
  rw [hk] at hk'; cases hk'
  rw [hp]; simp
theorem InRel.end_ {w wr : World} {ar : List (Nat × Nat)} {u : Nat → Bool} {s i v : Nat} {line : List Nat} {by_ : Nat → Option Int} {bm : Nat} {ol : Option Addr} {cl : Nat} (h : InRel w wr ar u s i v (atL ar v).length line by_ bm ol cl) :
  WayRel w wr ar u s line by_ bm ol cl ∧ Seen ar.length (frL ar) (toL ar) u line (i + 1) := by
 obtain ⟨h1, h2, h3, h4⟩ := h
 refine ⟨h1, seen_next h3 h2 fun k hk ha hu => ?_⟩
 obtain ⟨j, hj⟩ := List.mem_iff_getElem?.1 (mem_atL.2 ⟨hk, ha⟩)
 exact h4 j k (List.getElem?_eq_some_iff.1 hj).1 hj hu
set_option maxRecDepth 100000 in
set_option maxHeartbeats 1000000 in
theorem way_any (F : Nat → Prop) (w : World) (b : Nat) (ar : List (Nat × Nat)) (u : Nat → Bool) (s t : Nat) (hs : s < 1000) (ht : t < 1000) (hl : ar.length ≤ 400) (har : ∀ e, e ∈ ar → e.1 < 1000 ∧ e.2 < 1000)
  (h : Net F w b ar u) (hF : ∀ k, F k → k < w.heap.size) :
  Calls Tryz.prog 209 #[.pointer (some ⟨b, 0, none⟩), .int .i64 s, .int .i64 t] w (WayPost F w b ar u s t) := by
 obtain ⟨oa, ca, am, sl, mA, h⟩ := h
 have hmm := @run_makeMap Tryz.prog
 obtain ⟨w1, q1, q2⟩ := WayRel.start w ar u s hs
 have H0 : Hid (WayRel w (w1.alloc (.cells #[.int .i64 s] 3)) ar u s [s] (fun v => if v = s then some (-1) else none) w.heap.size (some ⟨w1.heap.size, 0, none⟩) 1 ∧ Seen ar.length (frL ar) (toL ar) u [s] 0) :=
  Lib.hid ⟨q2, fun i' _ _ h => by omega⟩
 have HFL := Lib.hid (frL_lt har)
 have Q1 := Lib.hid q1
 have H := Lib.hid h
 have HF := Lib.hid hF
 clear h q1 q2 hF har
 go_enter Tryz.func209, Tryz.ntmps209
 go_wp2_with ((refine wpList_mapins rfl _ _ _ _ rfl rfl rfl rfl Q1.out ?_))
 go_loopg [8, 9] 1000 (fun kx s8 s9 wr => ∃ (i : Nat) (line : List Nat) (by_ : Nat → Option Int) (ol : Option Addr) (cl : Nat), s8 = .slice ol line.length cl ∧ s9 = .int .i64 i ∧ i ≤ line.length ∧ 1000 - i ≤ kx ∧ Hid (WayRel w wr ar u s line by_ w.heap.size ol cl ∧ Seen ar.length (frL ar) (toL ar) u line i))
 case atStart => exact ⟨0, [s], _, _, 1, rfl, rfl, Nat.zero_le _, by omega, H0⟩
 case round =>
  clear H0
  obtain ⟨i, line, by_, ol, cl, rfl, rfl, hi, hg, HR⟩ := hrel
  have hlen := HR.out.1.len
  by_cases hex : ∃ v, line[i]? = some v ∧ v ≠ t
  ·obtain ⟨v, hv, hvt⟩ := hex
   have hlt := (List.getElem?_eq_some_iff.1 hv).1
   obtain ⟨gl, rfl, _, hcl, hrow⟩ := HR.out.1.row.pos (by omega)
   have d1 := hrow.cell (ints_get hv)
   have hvl := HR.out.1.lt v (List.mem_of_getElem? hv)
   have hne : ((v : Int) != (t : Int)) = true := by rw [bne_iff_ne]; omega
   have hN := H.out.keep HR.out.1.keep (fun _ _ e => e)
   have c1 := hN.head.cell (i := 1) rfl
   obtain ⟨ov, hov⟩ : ∃ ov, (sl v).o = ov := ⟨_, rfl⟩
   obtain ⟨cv, hcv⟩ : ∃ cv, (sl v).c = cv := ⟨_, rfl⟩
   have hget := hN.get (p := v) (by unfold DN; omega)
   have hrv := H.out.rows v
   rw [hov, hcv] at hget hrv
   have hgetd : (Instr.lookup 253 (.map (some am)) (.int .i64 v) false).run Tryz.prog wr.drew = .ok (.slice ov (atL ar v).length cv) wr.drew := by
    have hN2 := hN.keep ((Keep.refl Nb wr).drew) (fun _ _ e => e)
    have := hN2.get (p := v) (by unfold DN; omega)
    rwa [hov, hcv] at this
   have HRV := Lib.hid hrv
   have HI : Hid (InRel w wr ar u s i v 0 line by_ w.heap.size (some ⟨gl, 0, none⟩) cl) := Lib.hid ⟨HR.out.1, hv, HR.out.2, fun j' _ h => by omega⟩
   clear hN hrv hrow hv hvt HR hov hcv
   go_wp2_with fail
   go_region
   all_goals
    go_wp2_with fail
    go_loopg [8, 46] (atL ar v).length (fun ky s8 s46 wr2 => ∃ (j : Nat) (line : List Nat) (by_ : Nat → Option Int) (ol : Option Addr) (cl : Nat), s8 = .slice ol line.length cl ∧ s46 = .int .i64 j ∧ j ≤ (atL ar v).length ∧ (atL ar v).length - j ≤ ky ∧ Hid (InRel w wr2 ar u s i v j line by_ w.heap.size ol cl))
    case atStart => exact ⟨0, line, by_, _, cl, rfl, rfl, Nat.zero_le _, by omega, Lib.hid (HI.out.go ((Keep.refl Nb wr).drew))⟩
    case round =>
     obtain ⟨j, line2, by2, ol2, cl2, rfl, rfl, hj, hgj, HI2⟩ := hrel
     clear HI
     by_cases hjl : j < (atL ar v).length
     ·have hja : j ≤ 1000 := by have := atL_len ar v; omega
      obtain ⟨k, hk⟩ : ∃ k, (atL ar v)[j]? = some k := ⟨_, List.getElem?_eq_getElem hjl⟩
      obtain ⟨hk2, hkv⟩ := mem_atL.1 (List.mem_of_getElem? hk)
      obtain ⟨gv, rfl, _, hcv, hrv⟩ := HRV.out.pos (by omega)
      have kw := HI2.out.1.keep
      have e1 := kw.cell (hrv.cell (ints_get hk)) (fun e => e)
      have hN2 := H.out.keep kw (fun _ _ e => e)
      obtain ⟨go, rfl, _, hcao, _, hrow⟩ := hN2.row hk2
      have c0 := hN2.head.cell (i := 0) rfl
      obtain ⟨a1, a2, a3, a4⟩ := arc_cells hrow hk2
      rw [hkv] at a1
      obtain ⟨p, hp⟩ : ∃ p, ato (frL ar) (toL ar) k = p := ⟨_, rfl⟩
      obtain ⟨uu, huu⟩ : ∃ uu, ause u k = uu := ⟨_, rfl⟩
      have hp1000 : p < 1000 := by
       have := HFL.out (k / 2) (by omega)
       rw [← hp]; unfold ato; split <;> omega
      rw [hp] at a2
      rw [huu] at a3
      obtain ⟨bkk, hbk⟩ : ∃ bkk, bk k = bkk := ⟨_, rfl⟩
      rw [hbk] at a4
      obtain ⟨M, hM⟩ : ∃ M, 2 * ar.length = M := ⟨_, rfl⟩
      rw [hM] at c0 hk2 hcao
      have hlook := ((HI2.out.go ((Keep.refl Nb wr).alloc (.cells #[.int .i64 v, .int .i64 p, .bool uu, .int .i64 bkk] 280))).1.mem.look (p := p) (by unfold DN; omega)).1
      obtain ⟨bp, hbp⟩ : ∃ bp, by2 p = bp := ⟨_, rfl⟩
      rw [hbp] at hlook
      have HK := Lib.hid hk
      have HM := Lib.hid hM
      have HP := Lib.hid hp
      have HU := Lib.hid huu
      have HB := Lib.hid hbp
      clear hk hkv hrv kw hN2 hrow hM hp huu hbk hbp
      cases bp with
      | some z =>
       simp only [Option.getD_some, Option.isSome_some] at hlook
       have HN : Hid (InRel w (wr.alloc (.cells #[.int .i64 v, .int .i64 p, .bool uu, .int .i64 bkk] 280)) ar u s i v (j + 1) line2 by2 w.heap.size ol2 cl2) := Lib.hid (HI2.out.skip HK.out (.inl (by rw [HP.out, HB.out]; rfl)) ((Keep.refl Nb wr).alloc _))
       go_wp2_with fail
       go_roundg ((atL ar v).length - (j + 1))
       case measure => omega
       case rel => exact ⟨j + 1, line2, by2, ol2, cl2, rfl, rfl, by omega, Nat.le_refl _, HN⟩
      | none =>
       simp only [Option.getD_none, Option.isSome_none] at hlook
       cases uu with
       | true =>
        have HN : Hid (InRel w (wr.alloc (.cells #[.int .i64 v, .int .i64 p, .bool true, .int .i64 bkk] 280)) ar u s i v (j + 1) line2 by2 w.heap.size ol2 cl2) := Lib.hid (HI2.out.skip HK.out (.inr HU.out) ((Keep.refl Nb wr).alloc _))
        go_wp2_with fail
        go_roundg ((atL ar v).length - (j + 1))
        case measure => omega
        case rel => exact ⟨j + 1, line2, by2, ol2, cl2, rfl, rfl, by omega, Nat.le_refl _, HN⟩
       | false =>
        have hI3 := HI2.out.go ((Keep.refl Nb wr).alloc (.cells #[.int .i64 v, .int .i64 p, .bool false, .int .i64 bkk] 280))
        obtain ⟨gn, cn, w4, w5, r1, r2, r3, r4⟩ := hI3.1.meet (i := i) (k := k) (by rw [(mem_atL.1 (List.mem_of_getElem? HK.out)).2]; exact hI3.2.1) (by have := HM.out; omega) HU.out HP.out HB.out hp1000
        have R1 := Lib.hid r1
        have R3 := Lib.hid r3
        have HN := Lib.hid (hI3.more HK.out HP.out r4)
        have hne2 : wr.heap.size ≠ w.heap.size := by
         have := HI2.out.1.mem
         obtain ⟨mB, hB, _⟩ := this
         have := hB.lt
         omega
        have f1 := r2.cell (p := ⟨wr.heap.size, 1, none⟩) (v := .int .i64 p) (by rw [World.cell?_alloc_at _ _ _ _ rfl]; rfl) (fun e => hne2 e)
        have lb := World.block_lt_of_cell? _ _ f1
        clear r1 r2 r3 r4 hI3
        go_wp2_with (first | (at_builtin; refine wpList_app rfl _ _ _ rfl rfl rfl R3.out ?_) | (at_mapUpdate; refine wpList_mapset rfl _ _ _ _ rfl rfl rfl rfl R1.out ?_))
        go_roundg ((atL ar v).length - (j + 1))
        case measure => omega
        case rel => exact ⟨j + 1, line2 ++ [p], _, _, _, by simp, rfl, by omega, Nat.le_refl _, HN⟩
     ·obtain rfl : j = (atL ar v).length := by omega
      have HO := Lib.hid HI2.out.end_
      have hi2 := (List.getElem?_eq_some_iff.1 HI2.out.2.1).1
      clear HI2
      go_wp2_with fail
      go_roundg (1000 - (i + 1))
      case measure => omega
      case rel => exact ⟨i + 1, line2, by2, ol2, cl2, rfl, rfl, by omega, Nat.le_refl _, HO⟩
  ·have HEX : Hid ((i < line.length ∧ line[i]? = some t) ∨ i = line.length) := Lib.hid (by
    by_cases hlt : i < line.length
    ·refine .inl ⟨hlt, ?_⟩
     have hv := List.getElem?_eq_getElem hlt
     rw [hv]
     apply Classical.byContradiction
     intro hh
     exact hex ⟨_, hv, fun e => hh (by rw [e])⟩
    ·exact .inr (by omega))
   have hlook := (HR.out.1.mem.look (p := t) (by unfold DN; omega)).1
   obtain ⟨bt, hbt⟩ : ∃ bt, by_ t = bt := ⟨_, rfl⟩
   rw [hbt] at hlook
   have HBT := Lib.hid hbt
   clear hbt hex
   cases bt with
   | none =>
    simp only [Option.getD_none, Option.isSome_none] at hlook
    have hie : i = line.length := by
     rcases HEX.out with ⟨_, h⟩ | h
     ·have := (HR.out.1.bfs.keys t).2 (List.mem_of_getElem? h)
      rw [HBT.out] at this; cases this
     ·exact h
    subst hie
    have HP : Hid (WayPost F w b ar u s t (.returned (.bool false)) wr) := Lib.hid
     ⟨false, u, rfl, ⟨oa, ca, am, sl, mA, H.out.keep HR.out.1.keep (fun _ _ e => e)⟩, HR.out.1.keep.of_nb, fun _ => ⟨rfl, HR.out.1.bfs.stuck HR.out.2 HBT.out⟩, fun e => by cases e⟩
    clear HR HEX
    go_wp2_with fail
    go_ret
    exact HP.out
   | some z =>
    simp only [Option.getD_some, Option.isSome_some] at hlook
    have HE2 : Hid ((∃ gl, ol = some ⟨gl, 0, none⟩ ∧ i < line.length ∧ line.length ≤ cl ∧ wr.cell? ⟨gl, i, none⟩ = some (.int .i64 t)) ∨ ¬ i < line.length) := Lib.hid (by
     rcases HEX.out with ⟨h1, h2⟩ | h
     ·obtain ⟨gl, g1, _, g3, g4⟩ := HR.out.1.row.pos (by omega)
      exact .inl ⟨gl, g1, h1, g3, g4.cell (ints_get h2)⟩
     ·exact .inr (by omega))
    obtain ⟨j0, hj0⟩ := Aug.start HR.out.1.bfs (t := t) (by rw [HBT.out]; rfl)
    have HA0 := Lib.hid hj0
    clear hj0 HEX
    rcases HE2.out with ⟨gl, rfl, hlt, hcl, d1⟩ | hlt
    all_goals
     clear HE2
     go_wp2_with fail
     go_loopg [15] (j0 + 1) (fun kx s15 wr2 => ∃ (j v : Nat) (u' : Nat → Bool) (kk : Int), s15 = .int .i64 kk ∧ j + 1 ≤ kx ∧ Hid (by_ v = some kk ∧ Aug ar.length (frL ar) (toL ar) u t line by_ u' j v ∧ NetMem F wr2 b ar u' (atL ar) oa ca am sl mA ∧ Keep F wr wr2))
     case atStart => exact ⟨j0, t, u, z, rfl, Nat.le_refl _, Lib.hid ⟨HBT.out, HA0.out, H.out.keep HR.out.1.keep (fun _ _ e => e), Keep.refl _ _⟩⟩
     case round =>
      obtain ⟨j, v, u', kk, rfl, hj, HR2⟩ := hrel
      by_cases hneg : kk < 0
      ·have HP : Hid (WayPost F w b ar u s t (.returned (.bool true)) wr) := Lib.hid
        ⟨true, u', rfl, ⟨oa, ca, am, sl, mA, HR2.out.2.2.1⟩, HR.out.1.keep.of_nb.trans HR2.out.2.2.2, (fun e => by cases e), fun _ => Aug.done HR.out.1.bfs HR2.out.2.1 HR2.out.1 hneg⟩
       have hn2 : ¬ (0 : Int) ≤ kk := by omega
       clear HR HR2 HA0
       go_wp2_with fail
       go_ret
       exact HP.out
      ·obtain ⟨k, rfl⟩ := Int.eq_ofNat_of_zero_le (show 0 ≤ kk by omega)
       obtain ⟨hk2, j2, hj2, ha2, hs2⟩ := Aug.next HR.out.1.bfs HR2.out.2.1 HR2.out.1
       obtain ⟨kk2, hkk2⟩ := Option.isSome_iff_exists.1 hs2
       obtain ⟨go, rfl, hFgo, hcao, hgb, hrow⟩ := HR2.out.2.2.1.row hk2
       obtain ⟨x, hx⟩ : ∃ x, afr (frL ar) (toL ar) k = x := ⟨_, rfl⟩
       have hx1000 : x < 1000 := by
        have := HFL.out (k / 2) (by omega)
        rw [← hx]; unfold afr; split <;> omega
       have hbk2 := bk_lt hk2
       have hbne := bk_ne k
       obtain ⟨a1, a2, a3, a4⟩ := arc_cells hrow hk2
       obtain ⟨b1, b2, b3, b4⟩ := arc_cells hrow hbk2
       obtain ⟨t1, t2⟩ := HR2.out.2.2.1.take hk2 rfl
       obtain ⟨go2, hgo2, _, _, _, hrow2⟩ := t1.row hk2
       cases hgo2
       have g1 := (arc_cells hrow2 hk2).1
       have c0 := HR2.out.2.2.1.head.cell (i := 0) rfl
       have c2 := t1.head.cell (i := 0) rfl
       have hbmF : ¬ F w.heap.size := fun hh => by have := HF.out _ hh; omega
       have hlk := ((HR.out.1.mem.keep HR2.out.2.2.2 hbmF).keep t2 hbmF)
       have hlook2 := (hlk.keep ((Keep.refl Nb _).drew) (fun e => e)).look (p := x) (by unfold DN; omega)
       rw [hx] at g1 hkk2 ha2
       rw [hkk2, Option.getD_some] at hlook2
       obtain ⟨bkk, hbkk⟩ : ∃ bkk, bk k = bkk := ⟨_, rfl⟩
       rw [hbkk] at a4 b1 b2 b3 b4 hbk2 hbne t1 t2 g1 c2 hlook2
       obtain ⟨M, hM⟩ : ∃ M, 2 * ar.length = M := ⟨_, rfl⟩
       rw [hM] at c0 c2 hk2 hbk2 hcao
       have f1 := hrow.frozen (k * 4 + 2) none
       have f2 := hrow.frozen (bkk * 4 + 2) none
       have HN : Hid (by_ x = some kk2 ∧ Aug ar.length (frL ar) (toL ar) u t line by_ (take_ u' k) j2 x ∧ NetMem F (((wr.setCell ⟨go, k * 4 + 2, none⟩ (.bool true)).setCell ⟨go, bkk * 4 + 2, none⟩ (.bool false)).drew) b ar (take_ u' k) (atL ar) (some ⟨go, 0, none⟩) ca am sl mA ∧ Keep F _ (((wr.setCell ⟨go, k * 4 + 2, none⟩ (.bool true)).setCell ⟨go, bkk * 4 + 2, none⟩ (.bool false)).drew)) :=
        Lib.hid ⟨hkk2, ha2, t1.keep ((Keep.refl Nb _).drew) (fun _ _ e => e), (HR2.out.2.2.2.trans t2).drew⟩
       have hkM : k < 1000 := by omega
       clear t1 t2 hrow hrow2 hlk hkk2 ha2 hs2 hbkk hM hx HR2 a1 a2 b1 b2 b4
       go_wp2_with fail
       go_region
       all_goals
        go_wp2_with fail
        go_roundg (j2 + 1)
        case measure => omega
        case rel => exact ⟨j2, x, take_ u' k, kk2, rfl, Nat.le_refl _, HN⟩
end Go.Proofs.YtfglkgkihafcpaaGreatDoor
namespace Go.Proofs.YtfglkgkihafcpaaGreatDoor
open Go.RowKit Pl Go.Maps
def MostPost (F : Nat → Prop) (w : World) (b : Nat) (ar : List (Nat × Nat)) (s t most : Nat) (e : Ending) (w' : World) : Prop :=
 ∃ (v : Nat) (u' : Nat → Bool), e = .returned (.int .i64 v) ∧ v ≤ most ∧ MinCap (capL ar) s t most v ∧ FlowK ar.length 1000 (frL ar) (toL ar) s t u' v ∧ Net F w' b ar u' ∧ Keep F w w'
theorem minCap_capL {ar : List (Nat × Nat)} {s t : Nat} {m v : Int} (h : MinCap (cap ar.length (frL ar) (toL ar)) s t m v) : MinCap (capL ar) s t m v := by
 have : cap ar.length (frL ar) (toL ar) = capL ar := by funext R; exact cap_capL ar R
 rwa [this] at h
set_option maxRecDepth 100000 in
set_option maxHeartbeats 1000000 in
theorem most_any (F : Nat → Prop) (w : World) (b : Nat) (ar : List (Nat × Nat)) (s t most : Nat) (hs : s < 1000) (ht : t < 1000) (hst : s ≠ t) (hm : most ≤ 1000) (hl : ar.length ≤ 400) (har : ∀ e, e ∈ ar → e.1 < 1000 ∧ e.2 < 1000)
  (h : Net F w b ar (fun _ => false)) (hF : ∀ k, F k → k < w.heap.size) :
  Calls Tryz.prog 184 #[.pointer (some ⟨b, 0, none⟩), .int .i64 s, .int .i64 t, .int .i64 most] w (MostPost F w b ar s t most) := by
 have H0 : Hid (Net F w b ar (fun _ => false) ∧ Keep F w w ∧ FlowK ar.length 1000 (frL ar) (toL ar) s t (fun _ => false) 0) := Lib.hid ⟨h, Keep.refl _ _, FlowK.zero _ _ _ _ _ _⟩
 have HF := Lib.hid hF
 have HAR := Lib.hid har
 have HFL := Lib.hid (frL_lt har)
 have HST := Lib.hid hst
 clear h hF har hst
 go_enter Tryz.func184, Tryz.ntmps184
 go_wp2_with fail
 go_loopg [11] most (fun kx s11 wr => ∃ (k : Nat) (u' : Nat → Bool), s11 = .int .i64 k ∧ k ≤ most ∧ most - k ≤ kx ∧ Hid (Net F wr b ar u' ∧ Keep F w wr ∧ FlowK ar.length 1000 (frL ar) (toL ar) s t u' k))
 case atStart => exact ⟨0, _, rfl, Nat.zero_le _, by omega, H0⟩
 case round =>
  clear H0
  obtain ⟨k, u', rfl, hk, hg, HR⟩ := hrel
  by_cases hlt : k < most
  ·go_wp2_with fail
   refine (way_any F _ b ar u' s t hs ht hl HAR.out HR.out.1 (fun j hj => Nat.lt_of_lt_of_le (HF.out j hj) HR.out.2.1.size)).mono ?_
   rintro e w1 ⟨r, u2, rfl, h1, h2, h3, h4⟩
   have H1 := Lib.hid h1
   have H2 := Lib.hid (HR.out.2.1.trans h2)
   have H3 := Lib.hid h3
   have H4 := Lib.hid h4
   clear h1 h2 h3 h4
   cases r with
   | true =>
    have HN : Hid (Net F w1 b ar u2 ∧ Keep F w w1 ∧ FlowK ar.length 1000 (frL ar) (toL ar) s t u2 (k + 1)) := Lib.hid ⟨H1.out, H2.out, HR.out.2.2.more HST.out (H4.out rfl)⟩
    go_wp2_with fail
    go_roundg (most - (k + 1))
    case measure => omega
    case rel => exact ⟨k + 1, u2, rfl, by omega, Nat.le_refl _, HN⟩
   | false =>
    have HP : Hid (MostPost F w b ar s t most (.returned (.int .i64 k)) w1) := Lib.hid (by
     obtain ⟨e, hR⟩ := H3.out rfl
     subst e
     exact ⟨k, u2, rfl, hk, minCap_capL (HR.out.2.2.stuck HFL.out hs hk hR), HR.out.2.2, H1.out, H2.out⟩)
    go_wp2_with fail
    go_ret
    exact HP.out
  ·obtain rfl : k = most := by omega
   have HP : Hid (MostPost F w b ar s t k (.returned (.int .i64 k)) wr) := Lib.hid
    ⟨k, u', rfl, hk, minCap_capL (HR.out.2.2.full HFL.out hs), HR.out.2.2, HR.out.1, HR.out.2.1⟩
   go_wp2_with fail
   go_ret
   exact HP.out
def askErr (n : Nat) (a b most : Int) : Int := if a < 0 ∨ (n : Int) ≤ a ∨ b < 0 ∨ (n : Int) ≤ b ∨ most < 0 ∨ 120 < most then 2 else if a = b then 1 else 0
end Go.Proofs.YtfglkgkihafcpaaGreatDoor
namespace Go.Proofs.YtfglkgkihafcpaaGreatDoor
open Go.RowKit Pl Go.Maps
def AskPost (n : Nat) (a b most : Int) (w : World) (e : Ending) (w' : World) : Prop :=
 e = .returned (if askErr n a b most = 0 then .nilIface else errVal (askErr n a b most)) ∧ w = w'
set_option maxRecDepth 100000 in
set_option maxHeartbeats 1000000 in
theorem right_any (F : Nat → Prop) (w : World) (g n : Nat) (es : List E) (a b most : Int) (hG : Gr F w g n es) :
  Calls Tryz.prog 182 #[.pointer (some ⟨g, 0, none⟩), .int .i64 a, .int .i64 b, .int .i64 most] w (AskPost n a b most w) := by
 have HG := Lib.hid hG
 clear hG
 by_cases hbad : a < 0 ∨ (n : Int) ≤ a ∨ b < 0 ∨ (n : Int) ≤ b ∨ most < 0 ∨ 120 < most
 ·have HP : Hid (AskPost n a b most w (.returned (.iface 47 (.int .i64 2))) w) := Lib.hid ⟨by
   have : askErr n a b most = 2 := by unfold askErr; rw [if_pos hbad]
   rw [this]; rfl, rfl⟩
  by_cases h1 : a < 0
  ·clear hbad
   go_enter Tryz.func182, Tryz.ntmps182
   go_wp2_with fail
   go_ret
   exact HP.out
  ·by_cases h2 : (n : Int) ≤ a
   ·clear hbad
    go_enter Tryz.func182, Tryz.ntmps182
    go_wp2_with (go_at_call 77; refine (nodes_any F _ g n es HG.out).mono ?_; rintro e1 w0 ⟨rfl, rfl⟩)
    go_ret
    exact HP.out
   ·by_cases h3 : b < 0
    ·clear hbad
     go_enter Tryz.func182, Tryz.ntmps182
     go_wp2_with (go_at_call 77; refine (nodes_any F _ g n es HG.out).mono ?_; rintro e1 w0 ⟨rfl, rfl⟩)
     go_ret
     exact HP.out
    ·by_cases h4 : (n : Int) ≤ b
     ·clear hbad
      go_enter Tryz.func182, Tryz.ntmps182
      go_wp2_with (go_at_call 77; refine (nodes_any F _ g n es HG.out).mono ?_; rintro e1 w0 ⟨rfl, rfl⟩)
      go_ret
      exact HP.out
     ·by_cases h5 : most < 0
      ·clear hbad
       go_enter Tryz.func182, Tryz.ntmps182
       go_wp2_with (go_at_call 77; refine (nodes_any F _ g n es HG.out).mono ?_; rintro e1 w0 ⟨rfl, rfl⟩)
       go_ret
       exact HP.out
      ·have h6 : 120 < most := by omega
       clear hbad
       go_enter Tryz.func182, Tryz.ntmps182
       go_wp2_with (go_at_call 77; refine (nodes_any F _ g n es HG.out).mono ?_; rintro e1 w0 ⟨rfl, rfl⟩)
       go_ret
       exact HP.out
 ·have h1 : ¬ a < 0 := by omega
  have h2 : ¬ (n : Int) ≤ a := by omega
  have h3 : ¬ b < 0 := by omega
  have h4 : ¬ (n : Int) ≤ b := by omega
  have h5 : ¬ most < 0 := by omega
  have h6 : ¬ 120 < most := by omega
  by_cases hab : a = b
  ·have HP : Hid (AskPost n a b most w (.returned (.iface 47 (.int .i64 1))) w) := Lib.hid ⟨by
    have : askErr n a b most = 1 := by unfold askErr; rw [if_neg hbad, if_pos hab]
    rw [this]; rfl, rfl⟩
   subst hab
   clear hbad
   go_enter Tryz.func182, Tryz.ntmps182
   go_wp2_with (go_at_call 77; refine (nodes_any F _ g n es HG.out).mono ?_; rintro e1 w0 ⟨rfl, rfl⟩)
   go_ret
   exact HP.out
  ·have HP : Hid (AskPost n a b most w (.returned .nilIface) w) := Lib.hid ⟨by
    have : askErr n a b most = 0 := by unfold askErr; rw [if_neg hbad, if_neg hab]
    rw [this]; rfl, rfl⟩
   have hb : (a == b) = false := by simpa using hab
   clear hbad hab
   go_enter Tryz.func182, Tryz.ntmps182
   go_wp2_with (go_at_call 77; refine (nodes_any F _ g n es HG.out).mono ?_; rintro e1 w0 ⟨rfl, rfl⟩)
   go_ret
   exact HP.out
theorem Net.start (w : World) (u : Nat → Bool) : Net (fun k => w.heap.size ≤ k) ((w.alloc (.map #[] 0)).alloc (.cells #[.slice none 0 0, .map (some w.heap.size)] 256)) (w.heap.size + 1) [] u := by
 have m1 : MapAt encN DN ((w.alloc (.map #[] 0)).alloc (.cells #[.slice none 0 0, .map (some w.heap.size)] 256)) w.heap.size [] := (MapAt.made encN DN w).alloc _
 have hrow := Row.new (w.alloc (.map #[] 0)) #[.slice none 0 0, .map (some w.heap.size)] 256
 rw [World.size_alloc] at hrow
 exact ⟨none, 0, w.heap.size, fun _ => ⟨none, 0, 0⟩, [], hrow, Sl.nil _ _ _ _, m1, fun p => by simp [mget_nil, atL], fun p => Sl.nil _ _ _ _, ⟨Nat.le_succ _, Nat.le_refl _, by omega⟩, (fun a h => by cases h), (fun p a h => by cases h), (fun p q a _ h => by cases h)⟩
def FlowPost (w : World) (c : (Nat → Bool) → Int) (s t most : Nat) (e : Ending) (w' : World) : Prop :=
 ∃ v : Nat, e = .returned (.tuple #[.int .i64 v, .nilIface]) ∧ v ≤ most ∧ MinCap c s t most v ∧ Keep Nb w w'
theorem arcsE_len (es : List E) : (arcsE es).length = 2 * es.length := by
 induction es with
 | nil => rfl
 | cons e es ih => unfold arcsE at ih ⊢; rw [List.flatMap_cons, List.length_append, ih]; simp; omega
theorem arcsE_lt {es : List E} (h : ∀ e, e ∈ es → e.a < 40 ∧ e.b < 40) : ∀ p, p ∈ arcsE es → p.1 < 1000 ∧ p.2 < 1000 := by
 intro p hp
 obtain ⟨e, he, hp⟩ := mem_arcsE.1 hp
 have := h e he
 rcases hp with rfl | rfl
 ·exact ⟨by show e.a < 1000; omega, by show e.b < 1000; omega⟩
 ·exact ⟨by show e.b < 1000; omega, by show e.a < 1000; omega⟩
theorem minCap_cutE {es : List E} {s t : Nat} {m v : Int} (h : MinCap (capL (arcsE es)) s t m v) : MinCap (cutE es) s t m v := by
 have : capL (arcsE es) = cutE es := by funext R; exact capL_edges es R
 rwa [this] at h
set_option maxRecDepth 100000 in
set_option maxHeartbeats 1000000 in
theorem fedges_any (F : Nat → Prop) (w : World) (b n : Nat) (es : List E) (s t most : Nat) (hG : Gr F w b n es) (hn : n ≤ 40) (hl : es.length ≤ 120) (ho : ∀ e, e ∈ es → e.a < n ∧ e.b < n) (hs : s < n) (ht : t < n) (hst : s ≠ t) (hm : most ≤ 120) :
  Calls Tryz.prog 146 #[.pointer (some ⟨b, 0, none⟩), .int .i64 s, .int .i64 t, .int .i64 most] w (FlowPost w (cutE es) s t most) := by
 have HG := Lib.hid hG
 have HO := Lib.hid ho
 have HST := Lib.hid hst
 have HE0 : Hid (askErr n s t most = 0) := Lib.hid (by unfold askErr; rw [if_neg (by omega), if_neg (by omega)])
 have hmm := @run_makeMap Tryz.prog
 clear hG ho hst
 go_enter Tryz.func146, Tryz.ntmps146
 go_wp2_with fail
 refine (right_any F _ b n es s t most HG.out).mono ?_
 rintro e1 w0 ⟨rfl, rfl⟩
 rw [HE0.out, if_pos rfl]
 go_wp2_with fail
 have HN0 := Lib.hid (Net.start w (fun _ => false))
 have kk : Keep Nb w ((w.alloc (.map #[] 0)).alloc (.cells #[.slice none 0 0, .map (some w.heap.size)] 256)) := ((Keep.refl Nb w).alloc _).alloc _
 have HK0 := Lib.hid kk
 refine (edges_any F _ b n es (HG.out.keep kk (fun _ _ h => h)) (by omega)).mono ?_
 clear kk
 rintro e1 w2 ⟨o2, c2, rfl, hS2, hk2⟩
 have HS2 := Lib.hid hS2.tight
 have HK2 := Lib.hid hk2
 obtain ⟨w1, hw1⟩ : ∃ w1, (w.alloc (.map #[] 0)).alloc (.cells #[.slice none 0 0, .map (some w.heap.size)] 256) = w1 := ⟨_, rfl⟩
 have hz1 : w1.heap.size = w.heap.size + 1 + 1 := by rw [← hw1]; simp
 rw [hw1] at HN0 HK0 HS2 HK2
 have hz2 := HK2.out.size
 have HN2 : Hid (Net (fun k => w.heap.size ≤ k ∧ ¬ (w1.heap.size ≤ k ∧ k < w2.heap.size)) w2 (w.heap.size + 1) [] (fun _ => false)) := Lib.hid
  ((HN0.out.tight.mono (fun k hk => ⟨hk.1, fun h => by have := hk.2; omega⟩)).keep HK2.out (fun _ _ e => e))
 clear hS2 hk2 HN0 hw1
 go_wp2_with fail
 go_loopg [28] es.length (fun kx s28 wr => ∃ i : Nat, s28 = .int .i64 i ∧ i ≤ es.length ∧ es.length - i ≤ kx ∧ Hid (Net (fun k => w.heap.size ≤ k ∧ ¬ (w1.heap.size ≤ k ∧ k < w2.heap.size)) wr (w.heap.size + 1) (arcsE (es.take i)) (fun _ => false) ∧ Keep (fun k => w.heap.size ≤ k ∧ ¬ (w1.heap.size ≤ k ∧ k < w2.heap.size)) w2 wr))
 case atStart => exact ⟨0, rfl, Nat.zero_le _, by omega, Lib.hid ⟨HN2.out, Keep.refl _ w2⟩⟩
 case round =>
  clear HN2
  obtain ⟨i, rfl, hi, hg, HR⟩ := hrel
  have hzr := HR.out.2.size
  by_cases hlt : i < es.length
  ·obtain ⟨g, rfl, hFg, hnc, hrow⟩ := HS2.out.pos (by omega)
   have hy := List.getElem?_eq_getElem hlt
   generalize es[i]'hlt = e at hy
   have hEr := hrow.edges.keep HR.out.2 (fun h => h.2 hFg)
   have d1 := hEr.id _ _ hy
   have d2 := hEr.a _ _ hy
   have d3 := hEr.b _ _ hy
   have HY := Lib.hid hy
   have hea := (HO.out e (List.mem_of_getElem? hy)).1
   have heb := (HO.out e (List.mem_of_getElem? hy)).2
   have hal : (arcsE (es.take i)).length = 2 * i := by rw [arcsE_len, List.length_take]; omega
   have HAL := Lib.hid hal
   clear hy hrow hEr hal
   go_wp2_with fail
   refine (nadd_any (fun k => (w.heap.size ≤ k ∧ ¬ (w1.heap.size ≤ k ∧ k < w2.heap.size)) ∧ k < wr.heap.size) _ (w.heap.size + 1) (arcsE (es.take i)) (fun _ => false) e.a e.b (by omega) (by omega) (by have := HAL.out; omega) rfl (HR.out.1.tight.keep ((Keep.refl Nb wr).alloc _) (fun _ _ h => h))).mono ?_
   rintro e1 w3 ⟨rfl, hj, hk3⟩
   have HN3 := Lib.hid (hj.mono (G := fun k => w.heap.size ≤ k ∧ ¬ (w1.heap.size ≤ k ∧ k < w2.heap.size)) (fun k hk => by simp only [World.size_alloc] at hk; omega))
   have HK3 := Lib.hid ((HR.out.2.alloc (.cells #[.int .i64 e.id, .int .i64 e.a, .int .i64 e.b] 125)).trans' hk3 (fun _ _ h => h) (fun _ _ h => h.1))
   have hz3 := HK3.out.size
   have f1 := hk3.cell (p := ⟨wr.heap.size, 1, none⟩) (v := .int .i64 e.a) (by rw [World.cell?_alloc_at _ _ _ _ rfl]; rfl) (fun h => by have := h.2; simp at this)
   have f2 := hk3.cell (p := ⟨wr.heap.size, 2, none⟩) (v := .int .i64 e.b) (by rw [World.cell?_alloc_at _ _ _ _ rfl]; rfl) (fun h => by have := h.2; simp at this)
   clear hj hk3
   go_wp2_with fail
   refine (nadd_any (fun k => w.heap.size ≤ k ∧ ¬ (w1.heap.size ≤ k ∧ k < w2.heap.size)) _ (w.heap.size + 1) (arcsE (es.take i) ++ [(e.a, e.b)]) (fun _ => false) e.b e.a (by omega) (by omega) (by have := HAL.out; simp; omega) rfl HN3.out).mono ?_
   rintro e1 w4 ⟨rfl, hj, hk4⟩
   have HN : Hid (Net (fun k => w.heap.size ≤ k ∧ ¬ (w1.heap.size ≤ k ∧ k < w2.heap.size)) w4 (w.heap.size + 1) (arcsE (es.take (i + 1))) (fun _ => false) ∧ Keep (fun k => w.heap.size ≤ k ∧ ¬ (w1.heap.size ≤ k ∧ k < w2.heap.size)) w2 w4) := Lib.hid ⟨by
    rw [take_snoc' HY.out, arcsE_snoc]
    have := hj.mono (G := fun k => w.heap.size ≤ k ∧ ¬ (w1.heap.size ≤ k ∧ k < w2.heap.size)) (fun k hk => by omega)
    rw [List.append_assoc] at this
    exact this, HK3.out.trans hk4⟩
   clear hj hk4
   go_wp2_with fail
   go_roundg (es.length - (i + 1))
   case measure => omega
   case rel => exact ⟨i + 1, rfl, by omega, Nat.le_refl _, HN⟩
  ·obtain rfl : i = es.length := by omega
   have hfull : arcsE (es.take es.length) = arcsE es := by rw [List.take_length]
   have HN : Hid (Net (fun k => (w.heap.size ≤ k ∧ ¬ (w1.heap.size ≤ k ∧ k < w2.heap.size)) ∧ k < wr.heap.size) wr (w.heap.size + 1) (arcsE es) (fun _ => false) ∧ Keep Nb w wr) := Lib.hid (by
    obtain ⟨h1, h2⟩ := HR.out
    rw [hfull] at h1
    exact ⟨h1.tight, (HK0.out.trans HK2.out).trans' h2 (fun _ _ h => h) (fun k hk h => by show False; omega)⟩)
   clear hfull HR
   go_wp2_with fail
   refine (most_any _ _ (w.heap.size + 1) (arcsE es) s t most (by omega) (by omega) HST.out (by omega) (by rw [arcsE_len]; omega) (arcsE_lt (fun e he => by have := HO.out e he; omega)) HN.out.1 (fun k hk => hk.2)).mono ?_
   rintro e1 w5 ⟨v, u', rfl, h1, h2, _, _, h5⟩
   have HP : Hid (FlowPost w (cutE es) s t most (.returned (.tuple #[.int .i64 v, .nilIface])) w5) := Lib.hid
    ⟨v, rfl, h1, minCap_cutE h2, HN.out.2.trans' h5 (fun _ _ h => h) (fun k hk h => by show False; omega)⟩
   clear h1 h2 h5
   go_wp2_with fail
   go_ret2
   exact HP.out
end Go.Proofs.YtfglkgkihafcpaaGreatDoor

