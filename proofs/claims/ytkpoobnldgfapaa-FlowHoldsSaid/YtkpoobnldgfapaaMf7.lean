/- Merged by a program of mine: Net4 Net5 Net6 Net7 Parted Hold1. -/
import Derived.Test.YtkpoobnldgfapaaMf1
import Derived.Test.YtkpoobnldgfapaaMf2
import Derived.Test.YtkpoobnldgfapaaMf3
import Derived.Test.YtkpoobnldgfapaaMf4
import Derived.Test.YtkpoobnldgfapaaMf5
import Derived.Test.YtkpoobnldgfapaaMf6
import Derived.BigRegion
import Derived.Deep.QuietTactic
import Derived.BigQuiet
import Derived.StillTailTactics
import Derived.RegionTactic
import Derived.ChangeAlike
/- flow: way. -/
namespace Go.Proofs.Ytkpoobnldgfapaa
open Go.RowKit Pl Go.Maps

def WayPost (F : Nat → Prop) (w : World) (b : Nat) (ar : List (Nat × Nat)) (u : Nat → Bool) (s t : Nat) (e : Ending) (w' : World) : Prop :=
  ∃ (r : Bool) (u' : Nat → Bool), e = .returned (.bool r) ∧ Net F w' b ar u' ∧ Keep F w w' ∧
    (r = false → u' = u ∧ ∃ R : Nat → Bool, R s = true ∧ R t = false ∧ (∀ i, i < ar.length → R (frL ar i) = true → R (toL ar i) = false → u i = true) ∧ (∀ i, i < ar.length → R (frL ar i) = false → R (toL ar i) = true → u i = false)) ∧
    (r = true → ∀ v, exc ar.length (frL ar) (toL ar) u' v = exc ar.length (frL ar) (toL ar) u v + ind (decide (v = s)) - ind (decide (v = t)))

theorem mem_atL {ar : List (Nat × Nat)} {v k : Nat} : k ∈ atL ar v ↔ k < 2 * ar.length ∧ afr (frL ar) (toL ar) k = v := by
  unfold atL; simp

/-- In the midst of a place's arcs. -/
def InRel (w wr : World) (ar : List (Nat × Nat)) (u : Nat → Bool) (s i v j : Nat) (line : List Nat) (by_ : Nat → Option Int) (bm : Nat) (ol : Option Addr) (cl : Nat) : Prop :=
  WayRel w wr ar u s line by_ bm ol cl ∧ line[i]? = some v ∧ Seen ar.length (frL ar) (toL ar) u line i ∧ ∀ j' k, j' < j → (atL ar v)[j']? = some k → ause u k = false → ato (frL ar) (toL ar) k ∈ line

theorem InRel.go {w wr w' : World} {ar : List (Nat × Nat)} {u : Nat → Bool} {s i v j : Nat} {line : List Nat} {by_ : Nat → Option Int} {bm : Nat} {ol : Option Addr} {cl : Nat} (h : InRel w wr ar u s i v j line by_ bm ol cl) (kp : Keep Nb wr w') : InRel w w' ar u s i v j line by_ bm ol cl :=
  ⟨h.1.go kp, h.2⟩

theorem InRel.skip {w wr w' : World} {ar : List (Nat × Nat)} {u : Nat → Bool} {s i v j k : Nat} {line : List Nat} {by_ : Nat → Option Int} {bm : Nat} {ol : Option Addr} {cl : Nat} (h : InRel w wr ar u s i v j line by_ bm ol cl) (hk : (atL ar v)[j]? = some k)
    (hs : (by_ (ato (frL ar) (toL ar) k)).isSome = true ∨ ause u k = true) (kp : Keep Nb wr w') : InRel w w' ar u s i v (j + 1) line by_ bm ol cl := by
  obtain ⟨h1, h2, h3, h4⟩ := h
  refine ⟨h1.go kp, h2, h3, fun j' k' hj hk' hu => ?_⟩
  by_cases e : j' < j
  · exact h4 j' k' e hk' hu
  · obtain rfl : j' = j := by omega
    rw [hk] at hk'; cases hk'
    rcases hs with hs | hs
    · exact (h1.bfs.keys _).1 hs
    · rw [hs] at hu; cases hu

theorem InRel.more {w wr w' : World} {ar : List (Nat × Nat)} {u : Nat → Bool} {s i v j k p : Nat} {line : List Nat} {by_ by2 : Nat → Option Int} {bm : Nat} {ol ol2 : Option Addr} {cl cl2 : Nat} (h : InRel w wr ar u s i v j line by_ bm ol cl) (hk : (atL ar v)[j]? = some k)
    (hp : ato (frL ar) (toL ar) k = p) (h2 : WayRel w w' ar u s (line ++ [p]) by2 bm ol2 cl2) : InRel w w' ar u s i v (j + 1) (line ++ [p]) by2 bm ol2 cl2 := by
  obtain ⟨h1, hv, h3, h4⟩ := h
  have hi := (List.getElem?_eq_some_iff.1 hv).1
  refine ⟨h2, by rw [List.getElem?_append_left hi]; exact hv, h3.grow (by omega) p, fun j' k' hj hk' hu => ?_⟩
  by_cases e : j' < j
  · exact List.mem_append_left _ (h4 j' k' e hk' hu)
  · obtain rfl : j' = j := by omega
    rw [hk] at hk'; cases hk'
    rw [hp]; simp

theorem InRel.end_ {w wr : World} {ar : List (Nat × Nat)} {u : Nat → Bool} {s i v : Nat} {line : List Nat} {by_ : Nat → Option Int} {bm : Nat} {ol : Option Addr} {cl : Nat} (h : InRel w wr ar u s i v (atL ar v).length line by_ bm ol cl) :
    WayRel w wr ar u s line by_ bm ol cl ∧ Seen ar.length (frL ar) (toL ar) u line (i + 1) := by
  obtain ⟨h1, h2, h3, h4⟩ := h
  refine ⟨h1, seen_next h3 h2 fun k hk ha hu => ?_⟩
  obtain ⟨j, hj⟩ := List.mem_iff_getElem?.1 (mem_atL.2 ⟨hk, ha⟩)
  exact h4 j k (List.getElem?_eq_some_iff.1 hj).1 hj hu

set_option maxRecDepth 100000 in
set_option maxHeartbeats 1000000 in
theorem way_any (F : Nat → Prop) (w : World) (b : Nat) (ar : List (Nat × Nat)) (u : Nat → Bool) (s t : Nat) (hs : s < 1000) (ht : t < 1000) (hl : ar.length ≤ 400) (har : ∀ e, e ∈ ar → e.1 < 1000 ∧ e.2 < 1000)
    (h : Net F w b ar u) (hF : ∀ k, F k → k < w.heap.size) :
    Calls Try.prog 85 #[.pointer (some ⟨b, 0, none⟩), .int .i64 s, .int .i64 t] w (WayPost F w b ar u s t) := by
  obtain ⟨oa, ca, am, sl, mA, h⟩ := h
  have hmm := @run_makeMap Try.prog
  obtain ⟨w1, q1, q2⟩ := WayRel.start w ar u s hs
  have H0 : Hid (WayRel w (w1.alloc (.cells #[.int .i64 s] 3)) ar u s [s] (fun v => if v = s then some (-1) else none) w.heap.size (some ⟨w1.heap.size, 0, none⟩) 1 ∧ Seen ar.length (frL ar) (toL ar) u [s] 0) :=
    Lib.hid ⟨q2, fun i' _ _ h => by omega⟩
  have HFL := Lib.hid (frL_lt har)
  have Q1 := Lib.hid q1
  have H := Lib.hid h
  have HF := Lib.hid hF
  clear h q1 q2 hF har
  go_enter Try.func85, Try.ntmps85
  go_wp2_with ((refine wpList_mapins rfl _ _ _ _ rfl rfl rfl rfl Q1.out ?_))
  go_loopg [8, 9] 1000 (fun kx s8 s9 wr => ∃ (i : Nat) (line : List Nat) (by_ : Nat → Option Int) (ol : Option Addr) (cl : Nat), s8 = .slice ol line.length cl ∧ s9 = .int .i64 i ∧ i ≤ line.length ∧ 1000 - i ≤ kx ∧ Hid (WayRel w wr ar u s line by_ w.heap.size ol cl ∧ Seen ar.length (frL ar) (toL ar) u line i))
  case atStart => exact ⟨0, [s], _, _, 1, rfl, rfl, Nat.zero_le _, by omega, H0⟩
  case round =>
    clear H0
    obtain ⟨i, line, by_, ol, cl, rfl, rfl, hi, hg, HR⟩ := hrel
    have hlen := HR.out.1.len
    by_cases hex : ∃ v, line[i]? = some v ∧ v ≠ t
    · obtain ⟨v, hv, hvt⟩ := hex
      have hlt := (List.getElem?_eq_some_iff.1 hv).1
      obtain ⟨gl, rfl, _, hcl, hrow⟩ := HR.out.1.row.pos (by omega)
      have d1 := hrow.cell (ints_get hv)
      have hvl := HR.out.1.lt v (List.mem_of_getElem? hv)
      have hne : ((v : Int) != (t : Int)) = true := by rw [bne_iff_ne]; omega
      have hN := H.out.keep HR.out.1.keep (fun _ _ e => e)
      have c1 := hN.head.cell (i := 1) rfl
      obtain ⟨ov, hov⟩ : ∃ ov, (sl v).o = ov := ⟨_, rfl⟩
      obtain ⟨cv, hcv⟩ : ∃ cv, (sl v).c = cv := ⟨_, rfl⟩
      have hget := hN.get (p := v) (by unfold DN; omega)
      have hrv := H.out.rows v
      rw [hov, hcv] at hget hrv
      have hgetd : (Instr.lookup 95 (.map (some am)) (.int .i64 v) false).run Try.prog wr.drew = .ok (.slice ov (atL ar v).length cv) wr.drew := by
        have hN2 := hN.keep ((Keep.refl Nb wr).drew) (fun _ _ e => e)
        have := hN2.get (p := v) (by unfold DN; omega)
        rwa [hov, hcv] at this
      have HRV := Lib.hid hrv
      have HI : Hid (InRel w wr ar u s i v 0 line by_ w.heap.size (some ⟨gl, 0, none⟩) cl) := Lib.hid ⟨HR.out.1, hv, HR.out.2, fun j' _ h => by omega⟩
      clear hN hrv hrow hv hvt HR hov hcv
      go_wp2_with fail
      go_region
      all_goals
        go_wp2_with fail
        go_loopg [8, 46] (atL ar v).length (fun ky s8 s46 wr2 => ∃ (j : Nat) (line : List Nat) (by_ : Nat → Option Int) (ol : Option Addr) (cl : Nat), s8 = .slice ol line.length cl ∧ s46 = .int .i64 j ∧ j ≤ (atL ar v).length ∧ (atL ar v).length - j ≤ ky ∧ Hid (InRel w wr2 ar u s i v j line by_ w.heap.size ol cl))
        case atStart => exact ⟨0, line, by_, _, cl, rfl, rfl, Nat.zero_le _, by omega, Lib.hid (HI.out.go ((Keep.refl Nb wr).drew))⟩
        case round =>
          obtain ⟨j, line2, by2, ol2, cl2, rfl, rfl, hj, hgj, HI2⟩ := hrel
          clear HI
          by_cases hjl : j < (atL ar v).length
          · have hja : j ≤ 1000 := by have := atL_len ar v; omega
            obtain ⟨k, hk⟩ : ∃ k, (atL ar v)[j]? = some k := ⟨_, List.getElem?_eq_getElem hjl⟩
            obtain ⟨hk2, hkv⟩ := mem_atL.1 (List.mem_of_getElem? hk)
            obtain ⟨gv, rfl, _, hcv, hrv⟩ := HRV.out.pos (by omega)
            have kw := HI2.out.1.keep
            have e1 := kw.cell (hrv.cell (ints_get hk)) (fun e => e)
            have hN2 := H.out.keep kw (fun _ _ e => e)
            obtain ⟨go, rfl, _, hcao, _, hrow⟩ := hN2.row hk2
            have c0 := hN2.head.cell (i := 0) rfl
            obtain ⟨a1, a2, a3, a4⟩ := arc_cells hrow hk2
            rw [hkv] at a1
            obtain ⟨p, hp⟩ : ∃ p, ato (frL ar) (toL ar) k = p := ⟨_, rfl⟩
            obtain ⟨uu, huu⟩ : ∃ uu, ause u k = uu := ⟨_, rfl⟩
            have hp1000 : p < 1000 := by
              have := HFL.out (k / 2) (by omega)
              rw [← hp]; unfold ato; split <;> omega
            rw [hp] at a2
            rw [huu] at a3
            obtain ⟨bkk, hbk⟩ : ∃ bkk, bk k = bkk := ⟨_, rfl⟩
            rw [hbk] at a4
            obtain ⟨M, hM⟩ : ∃ M, 2 * ar.length = M := ⟨_, rfl⟩
            rw [hM] at c0 hk2 hcao
            have hlook := ((HI2.out.go ((Keep.refl Nb wr).alloc (.cells #[.int .i64 v, .int .i64 p, .bool uu, .int .i64 bkk] 137))).1.mem.look (p := p) (by unfold DN; omega)).1
            obtain ⟨bp, hbp⟩ : ∃ bp, by2 p = bp := ⟨_, rfl⟩
            rw [hbp] at hlook
            have HK := Lib.hid hk
            have HM := Lib.hid hM
            have HP := Lib.hid hp
            have HU := Lib.hid huu
            have HB := Lib.hid hbp
            clear hk hkv hrv kw hN2 hrow hM hp huu hbk hbp
            cases bp with
            | some z =>
              simp only [Option.getD_some, Option.isSome_some] at hlook
              have HN : Hid (InRel w (wr.alloc (.cells #[.int .i64 v, .int .i64 p, .bool uu, .int .i64 bkk] 137)) ar u s i v (j + 1) line2 by2 w.heap.size ol2 cl2) := Lib.hid (HI2.out.skip HK.out (.inl (by rw [HP.out, HB.out]; rfl)) ((Keep.refl Nb wr).alloc _))
              go_wp2_with fail
              go_roundg ((atL ar v).length - (j + 1))
              case measure => omega
              case rel => exact ⟨j + 1, line2, by2, ol2, cl2, rfl, rfl, by omega, Nat.le_refl _, HN⟩
            | none =>
              simp only [Option.getD_none, Option.isSome_none] at hlook
              cases uu with
              | true =>
                have HN : Hid (InRel w (wr.alloc (.cells #[.int .i64 v, .int .i64 p, .bool true, .int .i64 bkk] 137)) ar u s i v (j + 1) line2 by2 w.heap.size ol2 cl2) := Lib.hid (HI2.out.skip HK.out (.inr HU.out) ((Keep.refl Nb wr).alloc _))
                go_wp2_with fail
                go_roundg ((atL ar v).length - (j + 1))
                case measure => omega
                case rel => exact ⟨j + 1, line2, by2, ol2, cl2, rfl, rfl, by omega, Nat.le_refl _, HN⟩
              | false =>
                have hI3 := HI2.out.go ((Keep.refl Nb wr).alloc (.cells #[.int .i64 v, .int .i64 p, .bool false, .int .i64 bkk] 137))
                obtain ⟨gn, cn, w4, w5, r1, r2, r3, r4⟩ := hI3.1.meet (i := i) (k := k) (by rw [(mem_atL.1 (List.mem_of_getElem? HK.out)).2]; exact hI3.2.1) (by have := HM.out; omega) HU.out HP.out HB.out hp1000
                have R1 := Lib.hid r1
                have R3 := Lib.hid r3
                have HN := Lib.hid (hI3.more HK.out HP.out r4)
                have hne2 : wr.heap.size ≠ w.heap.size := by
                  have := HI2.out.1.mem
                  obtain ⟨mB, hB, _⟩ := this
                  have := hB.lt
                  omega
                have f1 := r2.cell (p := ⟨wr.heap.size, 1, none⟩) (v := .int .i64 p) (by rw [World.cell?_alloc_at _ _ _ _ rfl]; rfl) (fun e => hne2 e)
                have lb := World.block_lt_of_cell? _ _ f1
                clear r1 r2 r3 r4 hI3
                go_wp2_with (first | (at_builtin; refine wpList_app rfl _ _ _ rfl rfl rfl R3.out ?_) | (at_mapUpdate; refine wpList_mapset rfl _ _ _ _ rfl rfl rfl rfl R1.out ?_))
                go_roundg ((atL ar v).length - (j + 1))
                case measure => omega
                case rel => exact ⟨j + 1, line2 ++ [p], _, _, _, by simp, rfl, by omega, Nat.le_refl _, HN⟩
          · obtain rfl : j = (atL ar v).length := by omega
            have HO := Lib.hid HI2.out.end_
            have hi2 := (List.getElem?_eq_some_iff.1 HI2.out.2.1).1
            clear HI2
            go_wp2_with fail
            go_roundg (1000 - (i + 1))
            case measure => omega
            case rel => exact ⟨i + 1, line2, by2, ol2, cl2, rfl, rfl, by omega, Nat.le_refl _, HO⟩
    · have HEX : Hid ((i < line.length ∧ line[i]? = some t) ∨ i = line.length) := Lib.hid (by
        by_cases hlt : i < line.length
        · refine .inl ⟨hlt, ?_⟩
          have hv := List.getElem?_eq_getElem hlt
          rw [hv]
          apply Classical.byContradiction
          intro hh
          exact hex ⟨_, hv, fun e => hh (by rw [e])⟩
        · exact .inr (by omega))
      have hlook := (HR.out.1.mem.look (p := t) (by unfold DN; omega)).1
      obtain ⟨bt, hbt⟩ : ∃ bt, by_ t = bt := ⟨_, rfl⟩
      rw [hbt] at hlook
      have HBT := Lib.hid hbt
      clear hbt hex
      cases bt with
      | none =>
        simp only [Option.getD_none, Option.isSome_none] at hlook
        have hie : i = line.length := by
          rcases HEX.out with ⟨_, h⟩ | h
          · have := (HR.out.1.bfs.keys t).2 (List.mem_of_getElem? h)
            rw [HBT.out] at this; cases this
          · exact h
        subst hie
        have HP : Hid (WayPost F w b ar u s t (.returned (.bool false)) wr) := Lib.hid
          ⟨false, u, rfl, ⟨oa, ca, am, sl, mA, H.out.keep HR.out.1.keep (fun _ _ e => e)⟩, HR.out.1.keep.of_nb, fun _ => ⟨rfl, HR.out.1.bfs.stuck HR.out.2 HBT.out⟩, fun e => by cases e⟩
        clear HR HEX
        go_wp2_with fail
        go_ret
        exact HP.out
      | some z =>
        simp only [Option.getD_some, Option.isSome_some] at hlook
        have HE2 : Hid ((∃ gl, ol = some ⟨gl, 0, none⟩ ∧ i < line.length ∧ line.length ≤ cl ∧ wr.cell? ⟨gl, i, none⟩ = some (.int .i64 t)) ∨ ¬ i < line.length) := Lib.hid (by
          rcases HEX.out with ⟨h1, h2⟩ | h
          · obtain ⟨gl, g1, _, g3, g4⟩ := HR.out.1.row.pos (by omega)
            exact .inl ⟨gl, g1, h1, g3, g4.cell (ints_get h2)⟩
          · exact .inr (by omega))
        obtain ⟨j0, hj0⟩ := Aug.start HR.out.1.bfs (t := t) (by rw [HBT.out]; rfl)
        have HA0 := Lib.hid hj0
        clear hj0 HEX
        rcases HE2.out with ⟨gl, rfl, hlt, hcl, d1⟩ | hlt
        all_goals
          clear HE2
          go_wp2_with fail
          go_loopg [15] (j0 + 1) (fun kx s15 wr2 => ∃ (j v : Nat) (u' : Nat → Bool) (kk : Int), s15 = .int .i64 kk ∧ j + 1 ≤ kx ∧ Hid (by_ v = some kk ∧ Aug ar.length (frL ar) (toL ar) u t line by_ u' j v ∧ NetMem F wr2 b ar u' (atL ar) oa ca am sl mA ∧ Keep F wr wr2))
          case atStart => exact ⟨j0, t, u, z, rfl, Nat.le_refl _, Lib.hid ⟨HBT.out, HA0.out, H.out.keep HR.out.1.keep (fun _ _ e => e), Keep.refl _ _⟩⟩
          case round =>
            obtain ⟨j, v, u', kk, rfl, hj, HR2⟩ := hrel
            by_cases hneg : kk < 0
            · have HP : Hid (WayPost F w b ar u s t (.returned (.bool true)) wr) := Lib.hid
                ⟨true, u', rfl, ⟨oa, ca, am, sl, mA, HR2.out.2.2.1⟩, HR.out.1.keep.of_nb.trans HR2.out.2.2.2, (fun e => by cases e), fun _ => Aug.done HR.out.1.bfs HR2.out.2.1 HR2.out.1 hneg⟩
              have hn2 : ¬ (0 : Int) ≤ kk := by omega
              clear HR HR2 HA0
              go_wp2_with fail
              go_ret
              exact HP.out
            · obtain ⟨k, rfl⟩ := Int.eq_ofNat_of_zero_le (show 0 ≤ kk by omega)
              obtain ⟨hk2, j2, hj2, ha2, hs2⟩ := Aug.next HR.out.1.bfs HR2.out.2.1 HR2.out.1
              obtain ⟨kk2, hkk2⟩ := Option.isSome_iff_exists.1 hs2
              obtain ⟨go, rfl, hFgo, hcao, hgb, hrow⟩ := HR2.out.2.2.1.row hk2
              obtain ⟨x, hx⟩ : ∃ x, afr (frL ar) (toL ar) k = x := ⟨_, rfl⟩
              have hx1000 : x < 1000 := by
                have := HFL.out (k / 2) (by omega)
                rw [← hx]; unfold afr; split <;> omega
              have hbk2 := bk_lt hk2
              have hbne := bk_ne k
              obtain ⟨a1, a2, a3, a4⟩ := arc_cells hrow hk2
              obtain ⟨b1, b2, b3, b4⟩ := arc_cells hrow hbk2
              obtain ⟨t1, t2⟩ := HR2.out.2.2.1.take hk2 rfl
              obtain ⟨go2, hgo2, _, _, _, hrow2⟩ := t1.row hk2
              cases hgo2
              have g1 := (arc_cells hrow2 hk2).1
              have c0 := HR2.out.2.2.1.head.cell (i := 0) rfl
              have c2 := t1.head.cell (i := 0) rfl
              have hbmF : ¬ F w.heap.size := fun hh => by have := HF.out _ hh; omega
              have hlk := ((HR.out.1.mem.keep HR2.out.2.2.2 hbmF).keep t2 hbmF)
              have hlook2 := (hlk.keep ((Keep.refl Nb _).drew) (fun e => e)).look (p := x) (by unfold DN; omega)
              rw [hx] at g1 hkk2 ha2
              rw [hkk2, Option.getD_some] at hlook2
              obtain ⟨bkk, hbkk⟩ : ∃ bkk, bk k = bkk := ⟨_, rfl⟩
              rw [hbkk] at a4 b1 b2 b3 b4 hbk2 hbne t1 t2 g1 c2 hlook2
              obtain ⟨M, hM⟩ : ∃ M, 2 * ar.length = M := ⟨_, rfl⟩
              rw [hM] at c0 c2 hk2 hbk2 hcao
              have f1 := hrow.frozen (k * 4 + 2) none
              have f2 := hrow.frozen (bkk * 4 + 2) none
              have HN : Hid (by_ x = some kk2 ∧ Aug ar.length (frL ar) (toL ar) u t line by_ (take_ u' k) j2 x ∧ NetMem F (((wr.setCell ⟨go, k * 4 + 2, none⟩ (.bool true)).setCell ⟨go, bkk * 4 + 2, none⟩ (.bool false)).drew) b ar (take_ u' k) (atL ar) (some ⟨go, 0, none⟩) ca am sl mA ∧ Keep F _ (((wr.setCell ⟨go, k * 4 + 2, none⟩ (.bool true)).setCell ⟨go, bkk * 4 + 2, none⟩ (.bool false)).drew)) :=
                Lib.hid ⟨hkk2, ha2, t1.keep ((Keep.refl Nb _).drew) (fun _ _ e => e), (HR2.out.2.2.2.trans t2).drew⟩
              have hkM : k < 1000 := by omega
              clear t1 t2 hrow hrow2 hlk hkk2 ha2 hs2 hbkk hM hx HR2 a1 a2 b1 b2 b4
              go_wp2_with fail
              go_region
              all_goals
                go_wp2_with fail
                go_roundg (j2 + 1)
                case measure => omega
                case rel => exact ⟨j2, x, take_ u' k, kk2, rfl, Nat.le_refl _, HN⟩

end Go.Proofs.Ytkpoobnldgfapaa

/- flow: most, right. -/
namespace Go.Proofs.Ytkpoobnldgfapaa
open Go.RowKit Pl Go.Maps

/-- How many ways a net bears, but at most so many. -/
def MostPost (F : Nat → Prop) (w : World) (b : Nat) (ar : List (Nat × Nat)) (s t most : Nat) (e : Ending) (w' : World) : Prop :=
  ∃ (v : Nat) (u' : Nat → Bool), e = .returned (.int .i64 v) ∧ v ≤ most ∧ MinCap (capL ar) s t most v ∧ FlowK ar.length 1000 (frL ar) (toL ar) s t u' v ∧ Net F w' b ar u' ∧ Keep F w w'

theorem minCap_capL {ar : List (Nat × Nat)} {s t : Nat} {m v : Int} (h : MinCap (cap ar.length (frL ar) (toL ar)) s t m v) : MinCap (capL ar) s t m v := by
  have : cap ar.length (frL ar) (toL ar) = capL ar := by funext R; exact cap_capL ar R
  rwa [this] at h

set_option maxRecDepth 100000 in
set_option maxHeartbeats 1000000 in
theorem most_any (F : Nat → Prop) (w : World) (b : Nat) (ar : List (Nat × Nat)) (s t most : Nat) (hs : s < 1000) (ht : t < 1000) (hst : s ≠ t) (hm : most ≤ 1000) (hl : ar.length ≤ 400) (har : ∀ e, e ∈ ar → e.1 < 1000 ∧ e.2 < 1000)
    (h : Net F w b ar (fun _ => false)) (hF : ∀ k, F k → k < w.heap.size) :
    Calls Try.prog 62 #[.pointer (some ⟨b, 0, none⟩), .int .i64 s, .int .i64 t, .int .i64 most] w (MostPost F w b ar s t most) := by
  have H0 : Hid (Net F w b ar (fun _ => false) ∧ Keep F w w ∧ FlowK ar.length 1000 (frL ar) (toL ar) s t (fun _ => false) 0) := Lib.hid ⟨h, Keep.refl _ _, FlowK.zero _ _ _ _ _ _⟩
  have HF := Lib.hid hF
  have HAR := Lib.hid har
  have HFL := Lib.hid (frL_lt har)
  have HST := Lib.hid hst
  clear h hF har hst
  go_enter Try.func62, Try.ntmps62
  go_wp2_with fail
  go_loopg [11] most (fun kx s11 wr => ∃ (k : Nat) (u' : Nat → Bool), s11 = .int .i64 k ∧ k ≤ most ∧ most - k ≤ kx ∧ Hid (Net F wr b ar u' ∧ Keep F w wr ∧ FlowK ar.length 1000 (frL ar) (toL ar) s t u' k))
  case atStart => exact ⟨0, _, rfl, Nat.zero_le _, by omega, H0⟩
  case round =>
    clear H0
    obtain ⟨k, u', rfl, hk, hg, HR⟩ := hrel
    by_cases hlt : k < most
    · go_wp2_with fail
      refine (way_any F _ b ar u' s t hs ht hl HAR.out HR.out.1 (fun j hj => Nat.lt_of_lt_of_le (HF.out j hj) HR.out.2.1.size)).mono ?_
      rintro e w1 ⟨r, u2, rfl, h1, h2, h3, h4⟩
      have H1 := Lib.hid h1
      have H2 := Lib.hid (HR.out.2.1.trans h2)
      have H3 := Lib.hid h3
      have H4 := Lib.hid h4
      clear h1 h2 h3 h4
      cases r with
      | true =>
        have HN : Hid (Net F w1 b ar u2 ∧ Keep F w w1 ∧ FlowK ar.length 1000 (frL ar) (toL ar) s t u2 (k + 1)) := Lib.hid ⟨H1.out, H2.out, HR.out.2.2.more HST.out (H4.out rfl)⟩
        go_wp2_with fail
        go_roundg (most - (k + 1))
        case measure => omega
        case rel => exact ⟨k + 1, u2, rfl, by omega, Nat.le_refl _, HN⟩
      | false =>
        have HP : Hid (MostPost F w b ar s t most (.returned (.int .i64 k)) w1) := Lib.hid (by
          obtain ⟨e, hR⟩ := H3.out rfl
          subst e
          exact ⟨k, u2, rfl, hk, minCap_capL (HR.out.2.2.stuck HFL.out hs hk hR), HR.out.2.2, H1.out, H2.out⟩)
        go_wp2_with fail
        go_ret
        exact HP.out
    · obtain rfl : k = most := by omega
      have HP : Hid (MostPost F w b ar s t k (.returned (.int .i64 k)) wr) := Lib.hid
        ⟨k, u', rfl, hk, minCap_capL (HR.out.2.2.full HFL.out hs), HR.out.2.2, HR.out.1, HR.out.2.1⟩
      go_wp2_with fail
      go_ret
      exact HP.out

/-- What is wrong with a question. -/
def askErr (n : Nat) (a b most : Int) : Int := if a < 0 ∨ (n : Int) ≤ a ∨ b < 0 ∨ (n : Int) ≤ b ∨ most < 0 ∨ 120 < most then 2 else if a = b then 1 else 0

end Go.Proofs.Ytkpoobnldgfapaa

/- flow: right, Edges. -/
namespace Go.Proofs.Ytkpoobnldgfapaa
open Go.RowKit Pl Go.Maps

def AskPost (n : Nat) (a b most : Int) (w : World) (e : Ending) (w' : World) : Prop :=
  e = .returned (if askErr n a b most = 0 then .nilIface else errVal (askErr n a b most)) ∧ w = w'

set_option maxRecDepth 100000 in
set_option maxHeartbeats 1000000 in
theorem right_any (F : Nat → Prop) (w : World) (g n : Nat) (es : List E) (a b most : Int) (hG : Gr F w g n es) :
    Calls Try.prog 60 #[.pointer (some ⟨g, 0, none⟩), .int .i64 a, .int .i64 b, .int .i64 most] w (AskPost n a b most w) := by
  have HG := Lib.hid hG
  clear hG
  by_cases hbad : a < 0 ∨ (n : Int) ≤ a ∨ b < 0 ∨ (n : Int) ≤ b ∨ most < 0 ∨ 120 < most
  · have HP : Hid (AskPost n a b most w (.returned (.iface 75 (.int .i64 2))) w) := Lib.hid ⟨by
      have : askErr n a b most = 2 := by unfold askErr; rw [if_pos hbad]
      rw [this]; rfl, rfl⟩
    by_cases h1 : a < 0
    · clear hbad
      go_enter Try.func60, Try.ntmps60
      go_wp2_with fail
      go_ret
      exact HP.out
    · by_cases h2 : (n : Int) ≤ a
      · clear hbad
        go_enter Try.func60, Try.ntmps60
        go_wp2_with (go_at_call 24; refine (nodes_any F _ g n es HG.out).mono ?_; rintro e1 w0 ⟨rfl, rfl⟩)
        go_ret
        exact HP.out
      · by_cases h3 : b < 0
        · clear hbad
          go_enter Try.func60, Try.ntmps60
          go_wp2_with (go_at_call 24; refine (nodes_any F _ g n es HG.out).mono ?_; rintro e1 w0 ⟨rfl, rfl⟩)
          go_ret
          exact HP.out
        · by_cases h4 : (n : Int) ≤ b
          · clear hbad
            go_enter Try.func60, Try.ntmps60
            go_wp2_with (go_at_call 24; refine (nodes_any F _ g n es HG.out).mono ?_; rintro e1 w0 ⟨rfl, rfl⟩)
            go_ret
            exact HP.out
          · by_cases h5 : most < 0
            · clear hbad
              go_enter Try.func60, Try.ntmps60
              go_wp2_with (go_at_call 24; refine (nodes_any F _ g n es HG.out).mono ?_; rintro e1 w0 ⟨rfl, rfl⟩)
              go_ret
              exact HP.out
            · have h6 : 120 < most := by omega
              clear hbad
              go_enter Try.func60, Try.ntmps60
              go_wp2_with (go_at_call 24; refine (nodes_any F _ g n es HG.out).mono ?_; rintro e1 w0 ⟨rfl, rfl⟩)
              go_ret
              exact HP.out
  · have h1 : ¬ a < 0 := by omega
    have h2 : ¬ (n : Int) ≤ a := by omega
    have h3 : ¬ b < 0 := by omega
    have h4 : ¬ (n : Int) ≤ b := by omega
    have h5 : ¬ most < 0 := by omega
    have h6 : ¬ 120 < most := by omega
    by_cases hab : a = b
    · have HP : Hid (AskPost n a b most w (.returned (.iface 75 (.int .i64 1))) w) := Lib.hid ⟨by
        have : askErr n a b most = 1 := by unfold askErr; rw [if_neg hbad, if_pos hab]
        rw [this]; rfl, rfl⟩
      subst hab
      clear hbad
      go_enter Try.func60, Try.ntmps60
      go_wp2_with (go_at_call 24; refine (nodes_any F _ g n es HG.out).mono ?_; rintro e1 w0 ⟨rfl, rfl⟩)
      go_ret
      exact HP.out
    · have HP : Hid (AskPost n a b most w (.returned .nilIface) w) := Lib.hid ⟨by
        have : askErr n a b most = 0 := by unfold askErr; rw [if_neg hbad, if_neg hab]
        rw [this]; rfl, rfl⟩
      have hb : (a == b) = false := by simpa using hab
      clear hbad hab
      go_enter Try.func60, Try.ntmps60
      go_wp2_with (go_at_call 24; refine (nodes_any F _ g n es HG.out).mono ?_; rintro e1 w0 ⟨rfl, rfl⟩)
      go_ret
      exact HP.out

/-- A net without arcs. -/
theorem Net.start (w : World) (u : Nat → Bool) : Net (fun k => w.heap.size ≤ k) ((w.alloc (.map #[] 0)).alloc (.cells #[.slice none 0 0, .map (some w.heap.size)] 98)) (w.heap.size + 1) [] u := by
  have m1 : MapAt encN DN ((w.alloc (.map #[] 0)).alloc (.cells #[.slice none 0 0, .map (some w.heap.size)] 98)) w.heap.size [] := (MapAt.made encN DN w).alloc _
  have hrow := Row.new (w.alloc (.map #[] 0)) #[.slice none 0 0, .map (some w.heap.size)] 98
  rw [World.size_alloc] at hrow
  exact ⟨none, 0, w.heap.size, fun _ => ⟨none, 0, 0⟩, [], hrow, Sl.nil _ _ _ _, m1, fun p => by simp [mget_nil, atL], fun p => Sl.nil _ _ _ _, ⟨Nat.le_succ _, Nat.le_refl _, by omega⟩, (fun a h => by cases h), (fun p a h => by cases h), (fun p q a _ h => by cases h)⟩

def FlowPost (w : World) (c : (Nat → Bool) → Int) (s t most : Nat) (e : Ending) (w' : World) : Prop :=
  ∃ v : Nat, e = .returned (.tuple #[.int .i64 v, .nilIface]) ∧ v ≤ most ∧ MinCap c s t most v ∧ Keep Nb w w'

theorem arcsE_len (es : List E) : (arcsE es).length = 2 * es.length := by
  induction es with
  | nil => rfl
  | cons e es ih => unfold arcsE at ih ⊢; rw [List.flatMap_cons, List.length_append, ih]; simp; omega

theorem arcsE_lt {es : List E} (h : ∀ e, e ∈ es → e.a < 40 ∧ e.b < 40) : ∀ p, p ∈ arcsE es → p.1 < 1000 ∧ p.2 < 1000 := by
  intro p hp
  obtain ⟨e, he, hp⟩ := mem_arcsE.1 hp
  have := h e he
  rcases hp with rfl | rfl
  · exact ⟨by show e.a < 1000; omega, by show e.b < 1000; omega⟩
  · exact ⟨by show e.b < 1000; omega, by show e.a < 1000; omega⟩

theorem minCap_cutE {es : List E} {s t : Nat} {m v : Int} (h : MinCap (capL (arcsE es)) s t m v) : MinCap (cutE es) s t m v := by
  have : capL (arcsE es) = cutE es := by funext R; exact capL_edges es R
  rwa [this] at h

set_option maxRecDepth 100000 in
set_option maxHeartbeats 1000000 in
theorem fedges_any (F : Nat → Prop) (w : World) (b n : Nat) (es : List E) (s t most : Nat) (hG : Gr F w b n es) (hn : n ≤ 40) (hl : es.length ≤ 120) (ho : ∀ e, e ∈ es → e.a < n ∧ e.b < n) (hs : s < n) (ht : t < n) (hst : s ≠ t) (hm : most ≤ 120) :
    Calls Try.prog 25 #[.pointer (some ⟨b, 0, none⟩), .int .i64 s, .int .i64 t, .int .i64 most] w (FlowPost w (cutE es) s t most) := by
  have HG := Lib.hid hG
  have HO := Lib.hid ho
  have HST := Lib.hid hst
  have HE0 : Hid (askErr n s t most = 0) := Lib.hid (by unfold askErr; rw [if_neg (by omega), if_neg (by omega)])
  have hmm := @run_makeMap Try.prog
  clear hG ho hst
  go_enter Try.func25, Try.ntmps25
  go_wp2_with fail
  refine (right_any F _ b n es s t most HG.out).mono ?_
  rintro e1 w0 ⟨rfl, rfl⟩
  rw [HE0.out, if_pos rfl]
  go_wp2_with fail
  have HN0 := Lib.hid (Net.start w (fun _ => false))
  have kk : Keep Nb w ((w.alloc (.map #[] 0)).alloc (.cells #[.slice none 0 0, .map (some w.heap.size)] 98)) := ((Keep.refl Nb w).alloc _).alloc _
  have HK0 := Lib.hid kk
  refine (edges_any F _ b n es (HG.out.keep kk (fun _ _ h => h)) (by omega)).mono ?_
  clear kk
  rintro e1 w2 ⟨o2, c2, rfl, hS2, hk2⟩
  have HS2 := Lib.hid hS2.tight
  have HK2 := Lib.hid hk2
  obtain ⟨w1, hw1⟩ : ∃ w1, (w.alloc (.map #[] 0)).alloc (.cells #[.slice none 0 0, .map (some w.heap.size)] 98) = w1 := ⟨_, rfl⟩
  have hz1 : w1.heap.size = w.heap.size + 1 + 1 := by rw [← hw1]; simp
  rw [hw1] at HN0 HK0 HS2 HK2
  have hz2 := HK2.out.size
  have HN2 : Hid (Net (fun k => w.heap.size ≤ k ∧ ¬ (w1.heap.size ≤ k ∧ k < w2.heap.size)) w2 (w.heap.size + 1) [] (fun _ => false)) := Lib.hid
    ((HN0.out.tight.mono (fun k hk => ⟨hk.1, fun h => by have := hk.2; omega⟩)).keep HK2.out (fun _ _ e => e))
  clear hS2 hk2 HN0 hw1
  go_wp2_with fail
  go_loopg [28] es.length (fun kx s28 wr => ∃ i : Nat, s28 = .int .i64 i ∧ i ≤ es.length ∧ es.length - i ≤ kx ∧ Hid (Net (fun k => w.heap.size ≤ k ∧ ¬ (w1.heap.size ≤ k ∧ k < w2.heap.size)) wr (w.heap.size + 1) (arcsE (es.take i)) (fun _ => false) ∧ Keep (fun k => w.heap.size ≤ k ∧ ¬ (w1.heap.size ≤ k ∧ k < w2.heap.size)) w2 wr))
  case atStart => exact ⟨0, rfl, Nat.zero_le _, by omega, Lib.hid ⟨HN2.out, Keep.refl _ w2⟩⟩
  case round =>
    clear HN2
    obtain ⟨i, rfl, hi, hg, HR⟩ := hrel
    have hzr := HR.out.2.size
    by_cases hlt : i < es.length
    · obtain ⟨g, rfl, hFg, hnc, hrow⟩ := HS2.out.pos (by omega)
      have hy := List.getElem?_eq_getElem hlt
      generalize es[i]'hlt = e at hy
      have hEr := hrow.edges.keep HR.out.2 (fun h => h.2 hFg)
      have d1 := hEr.id _ _ hy
      have d2 := hEr.a _ _ hy
      have d3 := hEr.b _ _ hy
      have HY := Lib.hid hy
      have hea := (HO.out e (List.mem_of_getElem? hy)).1
      have heb := (HO.out e (List.mem_of_getElem? hy)).2
      have hal : (arcsE (es.take i)).length = 2 * i := by rw [arcsE_len, List.length_take]; omega
      have HAL := Lib.hid hal
      clear hy hrow hEr hal
      go_wp2_with fail
      refine (nadd_any (fun k => (w.heap.size ≤ k ∧ ¬ (w1.heap.size ≤ k ∧ k < w2.heap.size)) ∧ k < wr.heap.size) _ (w.heap.size + 1) (arcsE (es.take i)) (fun _ => false) e.a e.b (by omega) (by omega) (by have := HAL.out; omega) rfl (HR.out.1.tight.keep ((Keep.refl Nb wr).alloc _) (fun _ _ h => h))).mono ?_
      rintro e1 w3 ⟨rfl, hj, hk3⟩
      have HN3 := Lib.hid (hj.mono (G := fun k => w.heap.size ≤ k ∧ ¬ (w1.heap.size ≤ k ∧ k < w2.heap.size)) (fun k hk => by simp only [World.size_alloc] at hk; omega))
      have HK3 := Lib.hid ((HR.out.2.alloc (.cells #[.int .i64 e.id, .int .i64 e.a, .int .i64 e.b] 54)).trans' hk3 (fun _ _ h => h) (fun _ _ h => h.1))
      have hz3 := HK3.out.size
      have f1 := hk3.cell (p := ⟨wr.heap.size, 1, none⟩) (v := .int .i64 e.a) (by rw [World.cell?_alloc_at _ _ _ _ rfl]; rfl) (fun h => by have := h.2; simp at this)
      have f2 := hk3.cell (p := ⟨wr.heap.size, 2, none⟩) (v := .int .i64 e.b) (by rw [World.cell?_alloc_at _ _ _ _ rfl]; rfl) (fun h => by have := h.2; simp at this)
      clear hj hk3
      go_wp2_with fail
      refine (nadd_any (fun k => w.heap.size ≤ k ∧ ¬ (w1.heap.size ≤ k ∧ k < w2.heap.size)) _ (w.heap.size + 1) (arcsE (es.take i) ++ [(e.a, e.b)]) (fun _ => false) e.b e.a (by omega) (by omega) (by have := HAL.out; simp; omega) rfl HN3.out).mono ?_
      rintro e1 w4 ⟨rfl, hj, hk4⟩
      have HN : Hid (Net (fun k => w.heap.size ≤ k ∧ ¬ (w1.heap.size ≤ k ∧ k < w2.heap.size)) w4 (w.heap.size + 1) (arcsE (es.take (i + 1))) (fun _ => false) ∧ Keep (fun k => w.heap.size ≤ k ∧ ¬ (w1.heap.size ≤ k ∧ k < w2.heap.size)) w2 w4) := Lib.hid ⟨by
        rw [take_snoc' HY.out, arcsE_snoc]
        have := hj.mono (G := fun k => w.heap.size ≤ k ∧ ¬ (w1.heap.size ≤ k ∧ k < w2.heap.size)) (fun k hk => by omega)
        rw [List.append_assoc] at this
        exact this, HK3.out.trans hk4⟩
      clear hj hk4
      go_wp2_with fail
      go_roundg (es.length - (i + 1))
      case measure => omega
      case rel => exact ⟨i + 1, rfl, by omega, Nat.le_refl _, HN⟩
    · obtain rfl : i = es.length := by omega
      have hfull : arcsE (es.take es.length) = arcsE es := by rw [List.take_length]
      have HN : Hid (Net (fun k => (w.heap.size ≤ k ∧ ¬ (w1.heap.size ≤ k ∧ k < w2.heap.size)) ∧ k < wr.heap.size) wr (w.heap.size + 1) (arcsE es) (fun _ => false) ∧ Keep Nb w wr) := Lib.hid (by
        obtain ⟨h1, h2⟩ := HR.out
        rw [hfull] at h1
        exact ⟨h1.tight, (HK0.out.trans HK2.out).trans' h2 (fun _ _ h => h) (fun k hk h => by show False; omega)⟩)
      clear hfull HR
      go_wp2_with fail
      refine (most_any _ _ (w.heap.size + 1) (arcsE es) s t most (by omega) (by omega) HST.out (by omega) (by rw [arcsE_len]; omega) (arcsE_lt (fun e he => by have := HO.out e he; omega)) HN.out.1 (fun k hk => hk.2)).mono ?_
      rintro e1 w5 ⟨v, u', rfl, h1, h2, _, _, h5⟩
      have HP : Hid (FlowPost w (cutE es) s t most (.returned (.tuple #[.int .i64 v, .nilIface])) w5) := Lib.hid
        ⟨v, rfl, h1, minCap_cutE h2, HN.out.2.trans' h5 (fun _ _ h => h) (fun k hk h => by show False; omega)⟩
      clear h1 h2 h5
      go_wp2_with fail
      go_ret2
      exact HP.out

end Go.Proofs.Ytkpoobnldgfapaa

/- flow: Nodes. -/
namespace Go.Proofs.Ytkpoobnldgfapaa
open Go.RowKit Pl Go.Maps

set_option maxRecDepth 100000 in
theorem fout_any (w : World) (q b x : Nat) (hb : b ≤ 1000) (hx : x ≤ 1000) (hc : w.cell? ⟨q, 0, none⟩ = some (.int .i64 b)) :
    Calls Try.prog 63 #[.int .i64 x, .pointer (some ⟨q, 0, none⟩)] w fun e w'' => e = .returned (.int .i64 (outP b x : Nat)) ∧ w'' = w := by
  by_cases e : x = b
  · have ho : outP b x = 2 * b := by unfold outP; rw [if_pos e]
    rw [ho]
    subst e
    go_enter Try.func63, Try.ntmps63
    go_wp2_with fail
    go_ret
    exact ⟨by simp, rfl⟩
  · have ho : outP b x = 2 * x + 1 := by unfold outP; rw [if_neg e]
    rw [ho]
    have hb : ((x : Int) == (b : Int)) = false := by simp; omega
    go_enter Try.func63, Try.ntmps63
    go_wp2_with fail
    go_ret
    exact ⟨by simp, rfl⟩

set_option maxRecDepth 100000 in
theorem finto_any (w : World) (q a x : Nat) (ha : a ≤ 1000) (hx : x ≤ 1000) (hc : w.cell? ⟨q, 0, none⟩ = some (.int .i64 a)) :
    Calls Try.prog 64 #[.int .i64 x, .pointer (some ⟨q, 0, none⟩)] w fun e w'' => e = .returned (.int .i64 (intoP a x : Nat)) ∧ w'' = w := by
  by_cases e : x = a
  · have ho : intoP a x = 2 * a + 1 := by unfold intoP; rw [if_pos e]
    rw [ho]
    subst e
    go_enter Try.func64, Try.ntmps64
    go_wp2_with fail
    go_ret
    exact ⟨by simp, rfl⟩
  · have ho : intoP a x = 2 * x := by unfold intoP; rw [if_neg e]
    rw [ho]
    have hb : ((x : Int) == (a : Int)) = false := by simp; omega
    go_enter Try.func64, Try.ntmps64
    go_wp2_with fail
    go_ret
    exact ⟨by simp, rfl⟩

theorem arcsN_succ (i a b : Nat) : arcsN (i + 1) a b = arcsN i a b ++ if i ≠ a ∧ i ≠ b then [(2 * i, 2 * i + 1)] else [] := by
  unfold arcsN
  rw [List.range_succ, List.filter_append, List.map_append]
  congr 1
  by_cases h : i ≠ a ∧ i ≠ b
  · rw [if_pos h, List.filter_cons, if_pos (by simpa using h)]; rfl
  · rw [if_neg h, List.filter_cons, if_neg (by simpa using h)]; rfl

theorem arcsN_len (n a b : Nat) : (arcsN n a b).length ≤ n := by
  unfold arcsN; rw [List.length_map]; exact Nat.le_trans (List.length_filter_le _ _) (by simp)

theorem arcsNE_len (a b : Nat) (es : List E) : (arcsNE a b es).length = 2 * es.length := by
  induction es with
  | nil => rfl
  | cons e es ih => unfold arcsNE at ih ⊢; rw [List.flatMap_cons, List.length_append, ih]; simp; omega

theorem arcsNE_snoc (a b : Nat) (es : List E) (e : E) : arcsNE a b (es ++ [e]) = arcsNE a b es ++ [(outP b e.a, intoP a e.b), (outP b e.b, intoP a e.a)] := by simp [arcsNE]

theorem outP_le (b x : Nat) : outP b x ≤ 2 * x + 1 := by unfold outP; split <;> omega
theorem intoP_le (a x : Nat) : intoP a x ≤ 2 * x + 1 := by unfold intoP; split <;> omega

theorem arcsAll_lt {n a b : Nat} {es : List E} (hn : n ≤ 40) (h : ∀ e, e ∈ es → e.a < n ∧ e.b < n) : ∀ p, p ∈ arcsN n a b ++ arcsNE a b es → p.1 < 1000 ∧ p.2 < 1000 := by
  intro p hp
  rcases List.mem_append.1 hp with hp | hp
  · unfold arcsN at hp
    obtain ⟨x, hx, rfl⟩ := List.mem_map.1 hp
    have := List.mem_range.1 (List.mem_filter.1 hx).1
    exact ⟨by show 2 * x < 1000; omega, by show 2 * x + 1 < 1000; omega⟩
  · unfold arcsNE at hp
    obtain ⟨e, he, hp⟩ := List.mem_flatMap.1 hp
    have := h e he
    have o1 := outP_le b e.a
    have o2 := outP_le b e.b
    have i1 := intoP_le a e.a
    have i2 := intoP_le a e.b
    simp at hp
    rcases hp with rfl | rfl
    · exact ⟨by show outP b e.a < 1000; omega, by show intoP a e.b < 1000; omega⟩
    · exact ⟨by show outP b e.b < 1000; omega, by show intoP a e.a < 1000; omega⟩

set_option maxRecDepth 100000 in
set_option maxHeartbeats 2000000 in
theorem fnodes_any (F : Nat → Prop) (w : World) (b n : Nat) (es : List E) (s t most : Nat) (hG : Gr F w b n es) (hn : n ≤ 40) (hl : es.length ≤ 120) (ho : ∀ e, e ∈ es → e.a < n ∧ e.b < n) (hs : s < n) (ht : t < n) (hst : s ≠ t) (hm : most ≤ 120) :
    Calls Try.prog 26 #[.pointer (some ⟨b, 0, none⟩), .int .i64 s, .int .i64 t, .int .i64 most] w (FlowPost w (capL (arcsN n s t ++ arcsNE s t es)) (2 * s + 1) (2 * t) most) := by
  have HG := Lib.hid hG
  have HO := Lib.hid ho
  have HST := Lib.hid hst
  have HE0 : Hid (askErr n s t most = 0) := Lib.hid (by unfold askErr; rw [if_neg (by omega), if_neg (by omega)])
  have hmm := @run_makeMap Try.prog
  clear hG ho hst
  go_enter Try.func26, Try.ntmps26
  go_wp2_with fail
  refine (right_any F _ b n es s t most (HG.out.keep (((Keep.refl Nb w).alloc _).alloc _) (fun _ _ h => h))).mono ?_
  rintro e1 w0 ⟨rfl, rfl⟩
  rw [HE0.out, if_pos rfl]
  obtain ⟨w0, hw0⟩ : ∃ w0, (w.alloc (.cells #[.int .i64 s] 3)).alloc (.cells #[.int .i64 t] 3) = w0 := ⟨_, rfl⟩
  have hz0 : w0.heap.size = w.heap.size + 1 + 1 := by rw [← hw0]; simp
  have kB : Keep Nb w w0 := by rw [← hw0]; exact ((Keep.refl Nb w).alloc _).alloc _
  have x1 : w0.cell? ⟨w.heap.size, 0, none⟩ = some (.int .i64 s) := by
    rw [← hw0, World.cell?_alloc_past _ _ _ (by simp), World.cell?_alloc_at _ _ _ _ rfl]; rfl
  have x2 : w0.cell? ⟨w.heap.size + 1, 0, none⟩ = some (.int .i64 t) := by
    rw [← hw0, World.cell?_alloc_at _ _ _ _ (by simp)]; rfl
  rw [hw0]
  have KB := Lib.hid kB
  have HZ0 := Lib.hid hz0
  clear hw0 kB hz0
  go_wp2_with fail
  have hkk : Keep Nb w0 ((w0.alloc (.map #[] 0)).alloc (.cells #[.slice none 0 0, .map (some w0.heap.size)] 98)) := ((Keep.refl Nb w0).alloc _).alloc _
  have HN0 := Lib.hid (Net.start w0 (fun _ => false))
  obtain ⟨w1, hw1⟩ : ∃ w1, (w0.alloc (.map #[] 0)).alloc (.cells #[.slice none 0 0, .map (some w0.heap.size)] 98) = w1 := ⟨_, rfl⟩
  rw [hw1] at HN0 hkk ⊢
  have K1 := Lib.hid hkk
  clear hw1 hkk
  refine (nodes_any F _ b n es ((HG.out.keep KB.out (fun _ _ h => h)).keep K1.out (fun _ _ h => h))).mono ?_
  rintro e1 w1 ⟨rfl, rfl⟩
  go_wp2_with fail
  go_loopg [30] n (fun kx s30 wr => ∃ i : Nat, s30 = .int .i64 i ∧ i ≤ n ∧ n - i ≤ kx ∧ Hid (Net (fun k => w0.heap.size ≤ k) wr (w0.heap.size + 1) (arcsN i s t) (fun _ => false) ∧ Keep Nb w0 wr))
  case atStart => exact ⟨0, rfl, Nat.zero_le _, by omega, Lib.hid ⟨HN0.out, K1.out⟩⟩
  case round =>
    clear HN0 K1
    obtain ⟨i, rfl, hi, hg, HR⟩ := hrel
    have y1 := HR.out.2.cell x1 (fun e => e)
    have y2 := HR.out.2.cell x2 (fun e => e)
    by_cases hlt : i < n
    · have hal := arcsN_len i s t
      by_cases h1 : i = s
      · have HN : Hid (Net (fun k => w0.heap.size ≤ k) wr (w0.heap.size + 1) (arcsN (i + 1) s t) (fun _ => false) ∧ Keep Nb w0 wr) := Lib.hid (by
          rw [arcsN_succ, if_neg (by omega), List.append_nil]; exact HR.out)
        have b1 : ((i : Int) != (s : Int)) = false := by simp; omega
        clear h1
        go_wp2_with fail
        go_roundg (n - (i + 1))
        case measure => omega
        case rel => exact ⟨i + 1, rfl, by omega, Nat.le_refl _, HN⟩
      · have b1 : ((i : Int) != (s : Int)) = true := by simp; omega
        by_cases h2 : i = t
        · have HN : Hid (Net (fun k => w0.heap.size ≤ k) wr (w0.heap.size + 1) (arcsN (i + 1) s t) (fun _ => false) ∧ Keep Nb w0 wr) := Lib.hid (by
            rw [arcsN_succ, if_neg (by omega), List.append_nil]; exact HR.out)
          have b2 : ((i : Int) != (t : Int)) = false := by simp; omega
          clear h2
          go_wp2_with fail
          go_roundg (n - (i + 1))
          case measure => omega
          case rel => exact ⟨i + 1, rfl, by omega, Nat.le_refl _, HN⟩
        · have b2 : ((i : Int) != (t : Int)) = true := by simp; omega
          go_wp2_with fail
          refine (nadd_any (fun k => w0.heap.size ≤ k) _ (w0.heap.size + 1) (arcsN i s t) (fun _ => false) (2 * i) (2 * i + 1) (by omega) (by omega) (by omega) rfl HR.out.1).mono ?_
          rintro e1 w4 ⟨rfl, hj, hk4⟩
          have HN : Hid (Net (fun k => w0.heap.size ≤ k) w4 (w0.heap.size + 1) (arcsN (i + 1) s t) (fun _ => false) ∧ Keep Nb w0 w4) := Lib.hid (by
            rw [arcsN_succ, if_pos ⟨h1, h2⟩]
            have z := HR.out.2.size
            exact ⟨hj.mono (fun k hk => by omega), HR.out.2.trans' hk4 (fun _ _ h => h) (fun k hk h => by show False; omega)⟩)
          clear hj hk4
          go_wp2_with fail
          go_roundg (n - (i + 1))
          case measure => omega
          case rel => exact ⟨i + 1, rfl, by omega, Nat.le_refl _, HN⟩
    · obtain rfl : i = n := by omega
      have HN2 := Lib.hid HR.out.1.tight
      have K2 := Lib.hid HR.out.2
      obtain ⟨w2, hw2⟩ : ∃ w2, wr = w2 := ⟨_, rfl⟩
      rw [hw2] at HN2 K2 y1 y2 ⊢
      clear HR hw2
      go_wp2_with fail
      refine (edges_any F _ b i es ((HG.out.keep KB.out (fun _ _ h => h)).keep K2.out (fun _ _ h => h)) (by omega)).mono ?_
      rintro e1 w3 ⟨o3, c3, rfl, hS3, hk3⟩
      have HS3 := Lib.hid hS3.tight
      have K3 := Lib.hid hk3
      have hz2 := K2.out.size
      have hz3 := K3.out.size
      have HN3 : Hid (Net (fun k => w0.heap.size ≤ k ∧ ¬ (w2.heap.size ≤ k ∧ k < w3.heap.size)) w3 (w0.heap.size + 1) (arcsN i s t) (fun _ => false)) := Lib.hid
        ((HN2.out.mono (fun k hk => ⟨hk.1, fun h => by have := hk.2; omega⟩)).keep hk3 (fun _ _ e => e))
      have v1 := hk3.cell y1 (fun e => e)
      have v2 := hk3.cell y2 (fun e => e)
      have mixed : (Try.prog).follows Departure.mixedOrders = true := by kernel_rfl
      clear hS3 hk3 y1 y2 HN2
      go_wp2_with fail
      go_loopg [54] es.length (fun kx s54 wr => ∃ j : Nat, s54 = .int .i64 j ∧ j ≤ es.length ∧ es.length - j ≤ kx ∧ Hid (Net (fun k => w0.heap.size ≤ k ∧ ¬ (w2.heap.size ≤ k ∧ k < w3.heap.size)) wr (w0.heap.size + 1) (arcsN i s t ++ arcsNE s t (es.take j)) (fun _ => false) ∧ Keep (fun k => w0.heap.size ≤ k ∧ ¬ (w2.heap.size ≤ k ∧ k < w3.heap.size)) w3 wr))
      case atStart => exact ⟨0, rfl, Nat.zero_le _, by omega, Lib.hid ⟨by simpa [arcsNE] using HN3.out, Keep.refl _ w3⟩⟩
      case round =>
        clear HN3
        obtain ⟨j, rfl, hj, hgj, HR⟩ := hrel
        have hzr := HR.out.2.size
        have hbx : ∀ k, k ≤ w.heap.size + 1 → ¬ (w0.heap.size ≤ k ∧ ¬ (w2.heap.size ≤ k ∧ k < w3.heap.size)) := fun k hk h => by have := HZ0.out; omega
        have u1 := HR.out.2.cell v1 (hbx _ (by show w.heap.size ≤ _; omega))
        have u2 := HR.out.2.cell v2 (hbx _ (by show w.heap.size + 1 ≤ _; omega))
        clear hbx
        by_cases hlt : j < es.length
        · obtain ⟨g, rfl, hFg, hnc, hrow⟩ := HS3.out.pos (by omega)
          have hy := List.getElem?_eq_getElem hlt
          generalize es[j]'hlt = e at hy
          have hEr := hrow.edges.keep HR.out.2 (fun h => h.2 hFg)
          have d1 := hEr.id _ _ hy
          have d2 := hEr.a _ _ hy
          have d3 := hEr.b _ _ hy
          have HY := Lib.hid hy
          have hea := (HO.out e (List.mem_of_getElem? hy)).1
          have heb := (HO.out e (List.mem_of_getElem? hy)).2
          have hal : (arcsN i s t ++ arcsNE s t (es.take j)).length ≤ i + 2 * j := by rw [List.length_append, arcsNE_len, List.length_take]; have := arcsN_len i s t; omega
          have HAL := Lib.hid hal
          obtain ⟨wx, hwx⟩ : ∃ wx, wr.alloc (.cells #[.int .i64 e.id, .int .i64 e.a, .int .i64 e.b] 54) = wx := ⟨_, rfl⟩
          have hzx : wx.heap.size = wr.heap.size + 1 := by rw [← hwx]; simp
          have kx1 : Keep Nb wr wx := by rw [← hwx]; exact (Keep.refl Nb wr).alloc _
          have p1 := kx1.cell u1 (fun e => e)
          have p2 := kx1.cell u2 (fun e => e)
          have p3 : wx.cell? ⟨wr.heap.size, 1, none⟩ = some (.int .i64 e.a) := by rw [← hwx, World.cell?_alloc_at _ _ _ _ rfl]; rfl
          have p4 : wx.cell? ⟨wr.heap.size, 2, none⟩ = some (.int .i64 e.b) := by rw [← hwx, World.cell?_alloc_at _ _ _ _ rfl]; rfl
          have HWX := Lib.hid hwx
          have HZX := Lib.hid hzx
          have KX1 := Lib.hid kx1
          clear hy hrow hEr hal hwx hzx kx1
          go_wp2_with fail
          rw [HWX.out]
          go_still_tail 9, mixed
          still_call (fout_any _ _ t e.a (by omega) (by omega) p2)
          repeat still_step
          still_call (finto_any _ _ s e.b (by omega) (by omega) p1)
          refine wpStill_nil ?_
          change wpList _ _ _ _ _ wx.drew
          go_wp2_with fail
          have o1 := outP_le t e.a
          have o2 := outP_le t e.b
          have i1 := intoP_le s e.a
          have i2 := intoP_le s e.b
          refine (nadd_any (fun k => (w0.heap.size ≤ k ∧ ¬ (w2.heap.size ≤ k ∧ k < w3.heap.size)) ∧ k < wr.heap.size) _ (w0.heap.size + 1) (arcsN i s t ++ arcsNE s t (es.take j)) (fun _ => false) (outP t e.a) (intoP s e.b) (by omega) (by omega) (by have := HAL.out; omega) rfl (HR.out.1.tight.keep KX1.out.drew (fun _ _ h => h))).mono ?_
          rintro e1 w4 ⟨rfl, hq, hk4⟩
          have hz0 := HZ0.out
          have hzx := HZX.out
          have hzd : wx.drew.heap.size = wx.heap.size := rfl
          have HN3 := Lib.hid (hq.mono (G := fun k => w0.heap.size ≤ k ∧ ¬ (w2.heap.size ≤ k ∧ k < w3.heap.size)) (fun k hk => by omega))
          have HK3 := Lib.hid ((HR.out.2.trans' KX1.out.drew (H := fun k => w0.heap.size ≤ k ∧ ¬ (w2.heap.size ≤ k ∧ k < w3.heap.size)) (fun _ _ h => h) (fun _ _ h => h.elim)).trans' hk4 (fun _ _ h => h) (fun _ _ h => h.1))
          have hk4' : Keep (fun k => (w0.heap.size ≤ k ∧ ¬ (w2.heap.size ≤ k ∧ k < w3.heap.size)) ∧ k < wr.heap.size) wx w4 := ((Keep.refl Nb wx).drew).trans' hk4 (fun _ _ h => h.elim) (fun _ _ h => h)
          have t1 := hk4'.cell p1 (fun h => by have := h.1.1; simp only at this; omega)
          have t2 := hk4'.cell p2 (fun h => by have := h.1.1; simp only at this; omega)
          have t3 := hk4'.cell p3 (fun h => by have := h.2; simp only at this; omega)
          have t4 := hk4'.cell p4 (fun h => by have := h.2; simp only at this; omega)
          have hz4 := HK3.out.size
          clear hq hk4 hk4' p1 p2 p3 p4 hz0 hzx hzd u1 u2 v1 v2
          go_wp2_with fail
          go_still_tail 9, mixed
          still_call (fout_any _ _ t e.b (by omega) (by omega) t2)
          repeat still_step
          still_call (finto_any _ _ s e.a (by omega) (by omega) t1)
          refine wpStill_nil ?_
          change wpList _ _ _ _ _ w4.drew
          go_wp2_with fail
          refine (nadd_any (fun k => w0.heap.size ≤ k ∧ ¬ (w2.heap.size ≤ k ∧ k < w3.heap.size)) _ (w0.heap.size + 1) ((arcsN i s t ++ arcsNE s t (es.take j)) ++ [(outP t e.a, intoP s e.b)]) (fun _ => false) (outP t e.b) (intoP s e.a) (by omega) (by omega) (by have := HAL.out; rw [List.length_append, List.length_singleton]; omega) rfl (HN3.out.keep ((Keep.refl Nb w4).drew) (fun _ _ h => h))).mono ?_
          rintro e1 w5 ⟨rfl, hq, hk5⟩
          have HN : Hid (Net (fun k => w0.heap.size ≤ k ∧ ¬ (w2.heap.size ≤ k ∧ k < w3.heap.size)) w5 (w0.heap.size + 1) (arcsN i s t ++ arcsNE s t (es.take (j + 1))) (fun _ => false) ∧ Keep (fun k => w0.heap.size ≤ k ∧ ¬ (w2.heap.size ≤ k ∧ k < w3.heap.size)) w3 w5) := Lib.hid ⟨by
            rw [take_snoc' HY.out, arcsNE_snoc]
            have hzd : w4.drew.heap.size = w4.heap.size := rfl
            have := hq.mono (G := fun k => w0.heap.size ≤ k ∧ ¬ (w2.heap.size ≤ k ∧ k < w3.heap.size)) (fun k hk => by omega)
            simp only [List.append_assoc] at this ⊢
            exact this, HK3.out.trans (((Keep.refl Nb w4).drew).trans' hk5 (fun _ _ h => h.elim) (fun _ _ h => h))⟩
          clear hq hk5 t1 t2 t3 t4
          go_wp2_with fail
          go_roundg (es.length - (j + 1))
          case measure => omega
          case rel => exact ⟨j + 1, rfl, by omega, Nat.le_refl _, HN⟩
        · obtain rfl : j = es.length := by omega
          have hfull : arcsN i s t ++ arcsNE s t (es.take es.length) = arcsN i s t ++ arcsNE s t es := by rw [List.take_length]
          have HN : Hid (Net (fun k => (w0.heap.size ≤ k ∧ ¬ (w2.heap.size ≤ k ∧ k < w3.heap.size)) ∧ k < wr.heap.size) wr (w0.heap.size + 1) (arcsN i s t ++ arcsNE s t es) (fun _ => false) ∧ Keep Nb w wr) := Lib.hid (by
            obtain ⟨h1, h2⟩ := HR.out
            rw [hfull] at h1
            have := HZ0.out
            exact ⟨h1.tight, ((KB.out.trans K2.out).trans K3.out).trans' h2 (fun _ _ h => h) (fun k hk h => by show False; omega)⟩)
          clear hfull HR
          go_wp2_with fail
          refine (most_any _ _ (w0.heap.size + 1) (arcsN i s t ++ arcsNE s t es) (2 * s + 1) (2 * t) most (by omega) (by omega) (by omega) (by omega) (by rw [List.length_append, arcsNE_len]; have := arcsN_len i s t; omega) (arcsAll_lt hn HO.out) HN.out.1 (fun k hk => hk.2)).mono ?_
          rintro e1 w5 ⟨v, u', rfl, h1, h2, _, _, h5⟩
          have HP : Hid (FlowPost w (capL (arcsN i s t ++ arcsNE s t es)) (2 * s + 1) (2 * t) most (.returned (.tuple #[.int .i64 v, .nilIface])) w5) := Lib.hid
            ⟨v, rfl, h1, h2, HN.out.2.trans' h5 (fun _ _ h => h) (fun k hk h => by show False; have := HZ0.out; omega)⟩
          clear h1 h2 h5
          go_wp2_with fail
          go_ret2
          exact HP.out

end Go.Proofs.Ytkpoobnldgfapaa

/- isthmuskeep: parted, a fact. -/
namespace Go.Proofs.Ytkpoobnldgfapaa
open Go.RowKit Pl

def es4 : List E := [⟨0, 0, 1⟩, ⟨1, 1, 2⟩, ⟨2, 2, 3⟩, ⟨3, 0, 3⟩]

theorem es4_step {i j : Nat} (hi : i < 4) (hj : j = (i + 1) % 4) : addEs 4 (es4.take i) i i j = es4.take (i + 1) ∧ addErr 4 (es4.take i) i i j = 0 := by
  have : i = 0 ∨ i = 1 ∨ i = 2 ∨ i = 3 := by omega
  rcases this with rfl | rfl | rfl | rfl <;> subst hj <;> decide +kernel

theorem es4_sorted (i : Nat) : Sorted (es4.take i) := by
  have h : Sorted es4 := by unfold Sorted es4; simp
  exact h.sublist (List.take_sublist _ _)

theorem es4_splits : allS (splitsB 4 es4) 4 4 = [(0, 2), (1, 3)] := by decide +kernel

theorem es4_edges {v : Nat} (h : MinCap (cutE es4) 0 2 9 v) : v = 2 := by
  have h2 : MinCap (cutE es4) 0 2 9 ((2 : Nat) : Int) := by
    refine ⟨fun R h1 h2 => ?_, by omega, by omega, .inr ⟨fun x => decide (x = 0), rfl, rfl, by decide⟩⟩
    unfold cutE es4
    simp only [List.countP_cons, List.countP_nil, h1, h2]
    cases R 1 <;> cases R 3 <;> decide
  have := h.unique h2
  omega

theorem es4_nodes {v : Nat} (h : MinCap (capL (arcsN 4 0 2 ++ arcsNE 0 2 es4)) (2 * 0 + 1) (2 * 2) ((1 : Nat) : Int) v) : v = 1 := by
  have h2 : MinCap (capL (arcsN 4 0 2 ++ arcsNE 0 2 es4)) (2 * 0 + 1) (2 * 2) ((1 : Nat) : Int) ((1 : Nat) : Int) := by
    refine ⟨fun R h1 h2 => ?_, by omega, by omega, .inl rfl⟩
    have e : arcsN 4 0 2 ++ arcsNE 0 2 es4 = [(2, 3), (6, 7), (1, 2), (3, 1), (3, 4), (4, 2), (4, 6), (7, 4), (1, 6), (7, 1)] := by decide
    rw [e]
    have h1' : R 1 = true := h1
    have h2' : R 4 = false := h2
    unfold capL
    simp only [List.countP_cons, List.countP_nil, h1', h2']
    cases R 2 <;> cases R 3 <;> cases R 6 <;> cases R 7 <;> decide
  have := h.unique h2
  omega

set_option maxRecDepth 100000 in
set_option maxHeartbeats 2000000 in
theorem parted_any (w : World) : Calls Try.prog 22 #[] w fun e w' => e = .returned (.bool true) ∧ Keep Nb w w' := by
  go_enter Try.func22, Try.ntmps22
  go_wp2_with fail
  refine (gnew_any _ 4 (by omega)).mono ?_
  rintro e1 w1 ⟨rfl, hG1, hk1, hz1⟩
  have H0 : Hid (Gr (fun k => w.heap.size ≤ k ∧ k < w1.heap.size) w1 w.heap.size 4 (es4.take 0) ∧ Keep Nb w w1) := Lib.hid ⟨hG1.mono (fun k hk => by omega), hk1⟩
  clear hG1 hk1 hz1
  go_wp2_with fail
  go_loopg [3] 4 (fun kx s wr => ∃ i : Nat, s = .int .i64 i ∧ i ≤ 4 ∧ 4 - i ≤ kx ∧ Hid (Gr (fun k => w.heap.size ≤ k ∧ k < wr.heap.size) wr w.heap.size 4 (es4.take i) ∧ Keep Nb w wr))
  case atStart => exact ⟨0, rfl, Nat.zero_le _, by omega, H0⟩
  case round =>
    clear H0
    obtain ⟨i, rfl, hi, hg, HR⟩ := hrel
    by_cases hlt : i < 4
    · obtain ⟨j, hj⟩ : ∃ j, j = (i + 1) % 4 := ⟨_, rfl⟩
      have hj2 : ((i : Int) + 1) % 4 = (j : Nat) := by rw [hj]; omega
      have HST := Lib.hid (es4_step hlt hj)
      clear hj
      go_wp2_with fail
      refine (add_any (fun k => w.heap.size ≤ k ∧ k < wr.heap.size) _ _ 4 (es4.take i) i i j HR.out.1 (fun k hk => hk.2) (es4_sorted i) (by omega) (by rw [List.length_take]; omega)).mono ?_
      rintro e1 w2 ⟨he, hg2, hk2⟩
      rw [HST.out.2, if_pos rfl] at he
      rw [HST.out.1] at hg2
      subst he
      have HN : Hid (Gr (fun k => w.heap.size ≤ k ∧ k < w2.heap.size) w2 w.heap.size 4 (es4.take (i + 1)) ∧ Keep Nb w w2) := Lib.hid (by
        have z := HR.out.2.size
        have z2 := hk2.size
        exact ⟨hg2.tight.mono (fun k hk => by omega), HR.out.2.trans' hk2 (fun _ _ e => e) (fun k hk e => by show False; omega)⟩)
      clear hg2 hk2 hj2
      go_wp2_with fail
      go_roundg (4 - (i + 1))
      case measure => omega
      case rel => exact ⟨i + 1, rfl, by omega, Nat.le_refl _, HN⟩
    · obtain rfl : i = 4 := by omega
      have HG : Hid (Gr (fun k => w.heap.size ≤ k ∧ k < wr.heap.size) wr w.heap.size 4 es4 ∧ Keep Nb w wr) := Lib.hid HR.out
      have HO : Hid (∀ e, e ∈ es4 → e.a < 4 ∧ e.b < 4) := Lib.hid (by decide)
      clear HR
      go_wp2_with fail
      refine (pairs_any _ _ _ 4 es4 HG.out.1 (fun k hk => hk.2) (by omega) (by decide) HO.out).mono ?_
      rintro e1 w2 ⟨o2, c2, rfl, hS2, hk2⟩
      rw [es4_splits] at hS2 ⊢
      simp only [List.length_cons, List.length_nil] at hS2 ⊢
      have HS2 := Lib.hid hS2
      have HK2 := Lib.hid hk2
      clear hS2 hk2
      go_wp2_with fail
      refine (fedges_any _ _ _ 4 es4 0 2 9 (HG.out.1.keep HK2.out (fun _ _ e => e)) (by omega) (by decide) HO.out (by omega) (by omega) (by omega) (by omega)).mono ?_
      rintro e1 w3 ⟨v, rfl, hv1, hv2, hk3⟩
      obtain rfl := es4_edges hv2
      have HK3 := Lib.hid (HK2.out.trans hk3)
      have HS3 := Lib.hid (HS2.out.keep hk3 (fun _ _ e => e))
      clear hv1 hv2 hk3 HS2
      go_wp2_with fail
      refine (fnodes_any _ _ _ 4 es4 0 2 1 (HG.out.1.keep HK3.out (fun _ _ e => e)) (by omega) (by decide) HO.out (by omega) (by omega) (by omega) (by omega)).mono ?_
      rintro e1 w4 ⟨v, rfl, hv1, hv2, hk4⟩
      obtain rfl := es4_nodes hv2
      have HK4 := Lib.hid ((HG.out.2.trans HK3.out).trans hk4)
      have hS4 := HS3.out.keep hk4 (fun _ _ e => e)
      obtain ⟨g, rfl, _, hc, _⟩ := hS4.pos (by omega)
      obtain ⟨a1, a2⟩ := hS4.pairs (i := 0) rfl
      obtain ⟨b1, b2⟩ := hS4.pairs (i := 1) rfl
      clear hv1 hv2 hk4 HS3 hS4
      simp only [Nat.zero_mul, Nat.zero_add, Nat.one_mul] at a1 a2 b1 b2
      go_wp2_with fail
      go_ret
      exact ⟨by simp, HK4.out⟩

end Go.Proofs.Ytkpoobnldgfapaa

/- isthmuskeep.FlowHolds: the walk. -/
namespace Go.Proofs.Ytkpoobnldgfapaa
open Go.RowKit Pl

theorem withoutE_eq (ed : List Nat) (es : List E) : withoutEs ed [] es = sans es ed := by
  unfold withoutEs sans keeps
  exact List.filter_congr fun e _ => by simp

theorem withoutN_eq (nd : List Nat) (es : List E) : withoutEs [] nd es = sansN es nd := by
  unfold withoutEs sansN keeps
  exact List.filter_congr fun e _ => by simp

theorem wrap_pow (m P : Nat) (hP : 2 ^ m = P) (h : P ≤ 1000000) : wrap64 ((2 : Int) ^ m) = (P : Int) := by
  have e : (2 : Int) ^ m = (P : Int) := by rw [← hP]; simp
  rw [e]
  unfold wrap64
  omega

theorem and_one_i64 (q : Nat) (hq : q ≤ 1000000) : bits BinOp.and IntKind.i64 (q : Int) 1 = ((q % 2 : Nat) : Int) := by
  unfold bits
  show IntKind.i64.wrap (((BitVec.ofInt 64 (q : Int)) &&& (BitVec.ofInt 64 1)).toNat : Int) = _
  have e2 : BitVec.ofInt 64 1 = BitVec.ofNat 64 1 := rfl
  rw [BitVec.ofInt_natCast, e2, BitVec.toNat_and, BitVec.toNat_ofNat, BitVec.toNat_ofNat]
  have h1 : q % 2 ^ 64 = q := Nat.mod_eq_of_lt (by omega)
  have h2 : 1 % 2 ^ 64 = 1 := by decide
  rw [h1, h2, Nat.and_one_is_mod]
  exact IntWalk.i64_in _ (by omega)

/-- A bit, as the program asks for it. -/
theorem bit_test (s i : Nat) (hs : s ≤ 1000000) : (bits BinOp.and IntKind.i64 ((s : Int) / 2 ^ i) 1 == 1) = s.testBit i := by
  have e : (s : Int) / 2 ^ i = ((s / 2 ^ i : Nat) : Int) := by simp
  have hd : s / 2 ^ i ≤ s := Nat.div_le_self _ _
  rw [e, and_one_i64 _ (by omega), Nat.testBit_eq_decide_div_mod_eq]
  generalize s / 2 ^ i = q
  by_cases h : q % 2 = 1
  · rw [decide_eq_true h, h]; rfl
  · rw [decide_eq_false h]
    have : q % 2 = 0 := by omega
    rw [this]; rfl

set_option maxRecDepth 100000 in
theorem flowHolds_long (n a b : Int) (oa : Option Addr) (len cap : Nat) (h : 10 < len) (w : World) :
    Calls Try.prog 5 #[.int .i64 n, .slice oa len cap, .int .i64 a, .int .i64 b] w fun e w' => e = .returned (.bool true) ∧ Keep Nb w w' := by
  go_enter Try.func5, Try.ntmps5
  go_wp2_with fail
  go_ret
  exact ⟨rfl, Keep.refl _ _⟩

theorem nodes_same (F : Nat → Prop) (w : World) (b n : Nat) (es : List E) (hG : Gr F w b n es) :
    Calls Try.prog 24 #[.pointer (some ⟨b, 0, none⟩)] w fun e w' => e = .returned (.int .i64 n) ∧ w = w' :=
  (nodes_any F w b n es hG).mono fun _ _ h => ⟨h.1, h.2.symm⟩

theorem EOk.filter {n : Nat} {es : List E} (h : EOk n es) (p : E → Bool) : EOk n (es.filter p) :=
  ⟨fun e he => h.over e (List.mem_filter.1 he).1, fun e he => h.ne e (List.mem_filter.1 he).1, fun e he => h.small e (List.mem_filter.1 he).1, h.sorted.sublist List.filter_sublist⟩

set_option maxRecDepth 100000 in
set_option maxHeartbeats 4000000 in
theorem flowHolds_short (n0 a0 b0 : Int) (b off len cap : Nat) (oa : Option Addr) (hoa : 0 < len → oa = some ⟨b, off, none⟩) (A B : Nat → Int) (hlen : len ≤ 10) (hcap : len ≤ cap) (w : World) (hb : 0 < len → b < w.heap.size) (hP : Prs w b off len A B) :
    Calls Try.prog 5 #[.int .i64 n0, .slice oa len cap, .int .i64 a0, .int .i64 b0] w fun e w' => e = .returned (.bool true) ∧ Keep Nb w w' := by
  have HOA := Lib.hid hoa
  have HP := Lib.hid hP
  have HB := Lib.hid hb
  have hlen' : ¬ (10 : Int) < (len : Int) := by omega
  clear hoa hP hb
  go_enter Try.func5, Try.ntmps5
  go_wp2_with fail
  refine (parted_any _).mono ?_
  rintro e w1 ⟨rfl, hk1⟩
  have HK1 := Lib.hid hk1
  clear hk1
  go_wp2_with fail
  refine (pick_int n0 7 7 rfl (by omega) (by omega) _).mono ?_
  rintro e w2 ⟨rfl, rfl⟩
  obtain ⟨p, hp⟩ : ∃ p, pickN n0 7 = p := ⟨_, rfl⟩
  rw [hp]
  clear hp
  obtain ⟨N, hN⟩ : ∃ N, N = 2 + pickN (p : Int) 13 := ⟨_, rfl⟩
  have hN14 : N ≤ 14 := by have := pickN_lt (p : Int) (n := 13) (by omega); omega
  have hN2 : 2 ≤ N := by omega
  have HNN := Lib.hid hN
  clear hN
  go_wp2_with fail
  refine (kmade_any (p : Int) b off len cap oa HOA.out A B N len HNN.out (by omega) (by omega) hcap _ (fun h => Nat.lt_of_lt_of_le (HB.out h) HK1.out.size) (HP.out.keep HK1.out (fun e => e))).mono ?_
  rintro e w2 ⟨gb, rfl, hG, hk2⟩
  obtain ⟨es, hes⟩ : ∃ es, madeK N A B len = es := ⟨_, rfl⟩
  have hok : EOk N es := by rw [← hes]; exact madeK_ok (by omega) (by omega)
  have hlt : ∀ e, e ∈ es → e.a < e.b := fun e he => (madeK_mem (n := N) (A := A) (B := B) (i := len) (by omega) (by rw [hes]; exact he)).2.2.2
  have hel : es.length ≤ 10 := by rw [← hes]; exact Nat.le_trans (madeK_len N A B len) hlen
  rw [hes] at hG
  have HG := Lib.hid hG
  have HK2 := Lib.hid (HK1.out.trans hk2)
  have HOK := Lib.hid hok
  have HLT := Lib.hid hlt
  clear hG hk2 hes hok hlt
  obtain ⟨x, hx⟩ : ∃ x, pickN a0 N = x := ⟨_, rfl⟩
  obtain ⟨y, hy⟩ : ∃ y, pickN b0 N = y := ⟨_, rfl⟩
  have HX := Lib.hid (pick_tt a0 N x hx (by omega) (by omega))
  have HY := Lib.hid (pick_tt b0 N y hy (by omega) (by omega))
  have hxN : x < N := by rw [← hx]; exact pickN_lt _ (by omega)
  have hyN : y < N := by rw [← hy]; exact pickN_lt _ (by omega)
  clear hx hy
  by_cases hxy : x = y
  · subst hxy
    go_wp2_with (first | (go_at_call 24; refine (nodes_any _ _ gb N es HG.out).mono ?_; rintro e1 w2 ⟨rfl, rfl⟩) | (go_at_call_of 11 (Value.int IntKind.i64 a0); refine (HX.out _).mono ?_; rintro e w' ⟨rfl, rfl⟩) | (go_at_call_of 11 (Value.int IntKind.i64 b0); refine (HY.out _).mono ?_; rintro e w' ⟨rfl, rfl⟩))
    go_ret
    exact ⟨rfl, HK2.out⟩
  have hne : ((x : Int) == (y : Int)) = false := by simp; omega
  have HXY := Lib.hid hxy
  clear hxy
  go_wp2_with (first | (go_at_call 24; refine (nodes_any _ _ gb N es HG.out).mono ?_; rintro e1 w2 ⟨rfl, rfl⟩) | (go_at_call_of 11 (Value.int IntKind.i64 a0); refine (HX.out _).mono ?_; rintro e w' ⟨rfl, rfl⟩) | (go_at_call_of 11 (Value.int IntKind.i64 b0); refine (HY.out _).mono ?_; rintro e w' ⟨rfl, rfl⟩))
  refine (fedges_any _ _ gb N es x y 120 HG.out (by omega) (by omega) HOK.out.over hxN hyN HXY.out (by omega)).mono ?_
  rintro e1 w3 ⟨vx, rfl, hv1, hv2, hk3⟩
  have HVX := Lib.hid hv2
  have HK3 := Lib.hid hk3
  clear hv2 hk3
  go_wp2_with fail
  refine (fnodes_any _ _ gb N es x y 120 (HG.out.keep HK3.out (fun _ _ e => e)) (by omega) (by omega) HOK.out.over hxN hyN HXY.out (by omega)).mono ?_
  rintro e1 w4 ⟨vy, rfl, hu1, hv2, hk4⟩
  have HVY := Lib.hid hv2
  have HK4 := Lib.hid (HK3.out.trans hk4)
  clear hv2 hk4
  go_wp2_with fail
  refine (fedges_any _ _ gb N es y x 120 (HG.out.keep HK4.out (fun _ _ e => e)) (by omega) (by omega) HOK.out.over hyN hxN (fun e => HXY.out e.symm) (by omega)).mono ?_
  rintro e1 w5 ⟨vb, rfl, _, hv2, hk5⟩
  obtain rfl : vb = vx := by
    have := hv2.unique HVX.out.swap
    omega
  have hyx : ¬ (vb : Int) < (vy : Int) := by
    have := nodes_le_edges HXY.out (by omega) HVX.out HVY.out
    omega
  have hbb : ((vb : Int) != (vb : Int)) = false := by simp
  have HK5 := Lib.hid (HK4.out.trans hk5)
  clear hv2 hk5
  go_wp2_with fail
  refine (edges_any _ _ gb N es (HG.out.keep HK5.out (fun _ _ e => e)) (by omega)).mono ?_
  rintro e1 w6 ⟨oE, cE, rfl, hSE, hk6⟩
  have HSE := Lib.hid hSE
  have HK6 := Lib.hid (HK5.out.trans hk6)
  clear hSE hk6 hyx hbb hne
  obtain ⟨m, hm⟩ : ∃ m, es.length = m := ⟨_, rfl⟩
  rw [hm] at HSE hel ⊢
  have HM := Lib.hid hm
  clear hm
  go_wp2_with fail
  obtain ⟨P, hP⟩ : ∃ P, 2 ^ m = P := ⟨_, rfl⟩
  have hP20 : P ≤ 2000 := by rw [← hP]; exact Nat.le_trans (Nat.pow_le_pow_right (by omega) hel) (by decide)
  have hW := wrap_pow m P hP (by omega)
  have HPP := Lib.hid hP
  have HW := Lib.hid hW
  clear hP hW
  go_loopg [17, 18] P (fun kx s17 s18 wr => ∃ (least s : Nat), s17 = .int .i64 least ∧ s18 = .int .i64 s ∧ s ≤ P ∧ P - s ≤ kx ∧ least ≤ m ∧ Hid (LeastInv (fun s => ¬ Conn (ends (sans es (tookE es s m))) x y) (fun s => (tookE es s m).length) m s least ∧ Keep Nb w6 wr))
  case atStart => exact ⟨m, 0, rfl, rfl, Nat.zero_le _, by omega, Nat.le_refl _, Lib.hid ⟨LeastInv.start _ _ _, Keep.refl _ _⟩⟩
  case round =>
    obtain ⟨least, s, rfl, rfl, hs, hg, hle, HR⟩ := hrel
    by_cases hlt : s < P
    · have hW := HW.out
      go_wp2_with fail
      clear hW
      obtain ⟨w7, hw7⟩ : ∃ w7, wr = w7 := ⟨_, rfl⟩
      have HR2 := Lib.hid HR.out
      rw [hw7] at HR2 ⊢
      clear hw7 HR
      go_loopg [19, 20] m (fun ky s19 s20 wr => ∃ (i n : Nat) (o : Option Addr) (c : Nat), s19 = .slice o n c ∧ s20 = .int .i64 i ∧ i ≤ m ∧ m - i ≤ ky ∧ n ≤ i ∧ Hid (n = (tookE es s i).length ∧ Sl (fun k => w7.heap.size ≤ k) wr 3 1 o n c (ints (tookE es s i)) ∧ Keep Nb w7 wr))
      case atStart => exact ⟨0, 0, none, 0, rfl, rfl, Nat.zero_le _, by omega, Nat.le_refl _, Lib.hid ⟨rfl, Sl.nil _ _ _ _, Keep.refl _ _⟩⟩
      case round =>
        obtain ⟨i, n, o, c, rfl, rfl, hi, hgi, hni, HI⟩ := hrel
        by_cases hil : i < m
        · obtain ⟨e, he⟩ : ∃ e, es[i]? = some e := ⟨_, List.getElem?_eq_getElem (by have := HM.out; omega)⟩
          have htk := tookE_succ (s := s) he
          obtain ⟨bt, hbt⟩ : ∃ bt, s.testBit i = bt := ⟨_, rfl⟩
          rw [hbt] at htk
          have hb := bit_test s i (by omega)
          rw [hbt] at hb
          cases bt with
          | false =>
            rw [if_neg (by simp), List.append_nil] at htk
            have HN : Hid (n = (tookE es s (i + 1)).length ∧ Sl (fun k => w7.heap.size ≤ k) wr 3 1 o n c (ints (tookE es s (i + 1))) ∧ Keep Nb w7 wr) := Lib.hid (by rw [htk]; exact HI.out)
            clear htk hbt he
            go_wp2_with fail
            go_roundg (m - (i + 1))
            case measure => omega
            case rel => exact ⟨i + 1, n, o, c, rfl, rfl, by omega, Nat.le_refl _, by omega, HN⟩
          | true =>
            rw [if_pos rfl] at htk
            obtain ⟨h1, h2, h3⟩ := HI.out
            have hE := HSE.out.keep HR2.out.2 (fun _ _ e => e)
            have hE2 := hE.keep h3 (fun _ _ e => e)
            obtain ⟨gE, rfl, _, hcE, hrow⟩ := hE2.pos (by omega)
            have d1 := hrow.edges.id _ _ he
            have lb := World.block_lt_of_cell? _ _ d1
            obtain ⟨gq, cq, w8, q1, q2, q3, q4⟩ := run_app1 (P := Try.prog) 37 37 3 Try.underlying37 elem_int rfl h2 (.int .i64 e.id) rfl (by omega) (by omega)
            have HN : Hid (n + 1 = (tookE es s (i + 1)).length ∧ Sl (fun k => w7.heap.size ≤ k) w8 3 1 (some ⟨gq, 0, none⟩) (n + 1) cq (ints (tookE es s (i + 1))) ∧ Keep Nb w7 w8) := Lib.hid (by
              have z := h3.size
              refine ⟨by rw [htk, List.length_append, ← h1]; rfl, ?_, h3.trans' q3 (fun _ _ e => e) (fun k hk hb => ?_)⟩
              · rw [htk, ints_append]
                exact q2.mono (fun k hk => by rcases hk with h | h; exact h; omega)
              · obtain ⟨a, ha, rfl⟩ := hb
                have := h2.foot a ha
                show False; omega)
            have Q1 := Lib.hid q1
            clear htk hbt he h1 h2 h3 q1 q2 q3 q4 hE hE2 hrow
            go_wp2_with ((at_builtin; refine wpList_app rfl _ _ _ rfl rfl rfl Q1.out ?_))
            go_roundg (m - (i + 1))
            case measure => omega
            case rel => exact ⟨i + 1, n + 1, _, cq, rfl, rfl, by omega, Nat.le_refl _, by omega, HN⟩
        · obtain rfl : i = m := by omega
          obtain ⟨hn, hS, hk⟩ := HI.out
          obtain ⟨T, hT⟩ : ∃ T, tookE es s i = T := ⟨_, rfl⟩
          rw [hT] at hn hS
          have HTT := Lib.hid hT
          have HSt := Lib.hid hS
          have HKt := Lib.hid (HR2.out.2.trans hk)
          clear hS hk HI hT
          subst hn
          by_cases hnl : T.length < least
          · go_wp2_with fail
            refine (without_any _ _ Nb _ gb N es o none c 0 T [] (HG.out.keep (HK6.out.trans HKt.out) (fun _ _ e => e)) (by have := HM.out; omega) HSt.out (Sl.nil _ _ _ _) (by omega) (by simp)).mono ?_
            rintro e1 w8 ⟨rfl, hg8, hk8⟩
            rw [withoutE_eq] at hg8
            have hsl : (sans es T).length ≤ es.length := List.length_filter_le _ _
            have HG8 := Lib.hid hg8
            have HK8 := Lib.hid (HKt.out.trans hk8)
            have HSL := Lib.hid hsl
            clear hg8 hk8 hsl
            go_wp2_with fail
            refine (together_any _ _ _ N (sans es T) x y HG8.out (by omega) (by have := HSL.out; have := HM.out; omega) (HOK.out.filter _) hxN hyN).mono ?_
            rintro e1 w9 ⟨rfl, hk9⟩
            have HK9 := Lib.hid (HK8.out.trans hk9)
            clear hk9
            by_cases hc : Conn (ends (sans es T)) x y
            · have HN : Hid (LeastInv (fun s => ¬ Conn (ends (sans es (tookE es s i))) x y) (fun s => (tookE es s i).length) i (s + 1) least ∧ Keep Nb w6 w9) := Lib.hid
                ⟨HR2.out.1.skip (.inl (by show ¬ ¬ Conn (ends (sans es (tookE es s i))) x y; rw [HTT.out]; exact fun h => h hc)), HK9.out⟩
              rw [decide_eq_true hc]
              clear hc
              go_wp2_with fail
              go_roundg (P - (s + 1))
              case measure => omega
              case rel => exact ⟨least, s + 1, rfl, rfl, by omega, Nat.le_refl _, hle, HN⟩
            · have HN : Hid (LeastInv (fun s => ¬ Conn (ends (sans es (tookE es s i))) x y) (fun s => (tookE es s i).length) i (s + 1) T.length ∧ Keep Nb w6 w9) := Lib.hid (by
                have := HR2.out.1.take (by show ¬ Conn (ends (sans es (tookE es s i))) x y; rw [HTT.out]; exact hc) (by show (tookE es s i).length ≤ least; rw [HTT.out]; omega)
                rw [show (tookE es s i).length = T.length by rw [HTT.out]] at this
                exact ⟨this, HK9.out⟩)
              rw [decide_eq_false hc]
              clear hc
              go_wp2_with fail
              go_roundg (P - (s + 1))
              case measure => omega
              case rel => exact ⟨T.length, s + 1, rfl, rfl, by omega, Nat.le_refl _, hni, HN⟩
          · have HN : Hid (LeastInv (fun s => ¬ Conn (ends (sans es (tookE es s i))) x y) (fun s => (tookE es s i).length) i (s + 1) least ∧ Keep Nb w6 wr) := Lib.hid
              ⟨HR2.out.1.skip (.inr (by show least ≤ (tookE es s i).length; rw [HTT.out]; omega)), HKt.out⟩
            go_wp2_with fail
            go_roundg (P - (s + 1))
            case measure => omega
            case rel => exact ⟨least, s + 1, rfl, rfl, by omega, Nat.le_refl _, hle, HN⟩
    · obtain rfl : s = P := by omega
      have HEQ : Hid (vb = least) := Lib.hid (by
        have hm := HM.out
        have h1 := HR.out.1
        rw [← hm, ← HPP.out, ← hm] at h1
        exact holdE (sorted_nodup HOK.out.sorted) HXY.out (by omega) HVX.out h1)
      have HKR := Lib.hid (HK6.out.trans HR.out.2)
      have HSE3 := Lib.hid (HSE.out.keep HR.out.2 (fun _ _ e => e))
      obtain ⟨w7, hw7⟩ : ∃ w7, wr = w7 := ⟨_, rfl⟩
      rw [hw7] at HKR HSE3 ⊢
      have hve : ((vb : Int) != (least : Int)) = false := by have := HEQ.out; simp; omega
      have hW := HW.out
      clear HR hw7
      go_wp2_with fail
      clear hW hve
      have hd1 : ∀ (e : E), (e.a = min x y) → ((e.a : Int) == min (x : Int) (y : Int)) = true := fun e h => by rw [beq_iff_eq]; omega
      have hd2 : ∀ (e : E), ¬ (e.a = min x y) → ((e.a : Int) == min (x : Int) (y : Int)) = false := fun e h => by rw [beq_eq_false_iff_ne]; omega
      have hd3 : ∀ (e : E), (e.b = max x y) → ((e.b : Int) == max (x : Int) (y : Int)) = true := fun e h => by rw [beq_iff_eq]; omega
      have hd4 : ∀ (e : E), ¬ (e.b = max x y) → ((e.b : Int) == max (x : Int) (y : Int)) = false := fun e h => by rw [beq_eq_false_iff_ne]; omega
      have HD := Lib.hid (And.intro (And.intro hd1 hd2) (And.intro hd3 hd4))
      clear hd1 hd2 hd3 hd4
      go_loopg [21] m (fun kx s21 wr => ∃ (i : Nat), s21 = .int .i64 i ∧ i ≤ m ∧ m - i ≤ kx ∧ Hid ((∀ (j : Nat) e, j < i → es[j]? = some e → ¬ (e.a = min x y ∧ e.b = max x y)) ∧ Keep Nb w7 wr))
      case atStart => exact ⟨0, rfl, Nat.zero_le _, by omega, Lib.hid ⟨fun j e h => absurd h (by omega), Keep.refl _ _⟩⟩
      case round =>
        obtain ⟨i, rfl, hi, hgi, HI⟩ := hrel
        by_cases hil : i < m
        · obtain ⟨e, he⟩ : ∃ e, es[i]? = some e := ⟨_, List.getElem?_eq_getElem (by have := HM.out; omega)⟩
          have hE := HSE3.out.keep HI.out.2 (fun _ _ e => e)
          obtain ⟨gE, rfl, _, hcE, hrow⟩ := hE.pos (by omega)
          have d1 := hrow.edges.a _ _ he
          have d2 := hrow.edges.b _ _ he
          have HE := Lib.hid he
          clear hE hrow he
          by_cases h1 : e.a = min x y
          · have t1 := HD.out.1.1 e h1
            by_cases h2 : e.b = max x y
            · have t2 := HD.out.2.1 e h2
              have HF : Hid (Keep Nb w wr) := Lib.hid ((HK2.out.trans HKR.out).trans HI.out.2)
              clear h1 h2
              go_wp2_with fail
              go_ret
              exact ⟨rfl, HF.out⟩
            · have t2 := HD.out.2.2 e h2
              have HN : Hid ((∀ (j : Nat) e, j < i + 1 → es[j]? = some e → ¬ (e.a = min x y ∧ e.b = max x y)) ∧ Keep Nb w7 wr) := Lib.hid ⟨fun j f hj hf => by
                by_cases hji : j < i
                · exact HI.out.1 j f hji hf
                · obtain rfl : j = i := by omega
                  rw [HE.out] at hf; cases hf; exact fun h => h2 h.2, HI.out.2⟩
              clear h1 h2
              go_wp2_with fail
              go_roundg (m - (i + 1))
              case measure => omega
              case rel => exact ⟨i + 1, rfl, by omega, Nat.le_refl _, HN⟩
          · have t1 := HD.out.1.2 e h1
            have HN : Hid ((∀ (j : Nat) e, j < i + 1 → es[j]? = some e → ¬ (e.a = min x y ∧ e.b = max x y)) ∧ Keep Nb w7 wr) := Lib.hid ⟨fun j f hj hf => by
                by_cases hji : j < i
                · exact HI.out.1 j f hji hf
                · obtain rfl : j = i := by omega
                  rw [HE.out] at hf; cases hf; exact fun h => h1 h.1, HI.out.2⟩
            clear h1
            go_wp2_with fail
            go_roundg (m - (i + 1))
            case measure => omega
            case rel => exact ⟨i + 1, rfl, by omega, Nat.le_refl _, HN⟩
        · obtain rfl : i = m := by omega
          have HDIR : Hid (∀ e, e ∈ es → ¬ (e.a = x ∧ e.b = y) ∧ ¬ (e.a = y ∧ e.b = x)) := Lib.hid (fun e he => by
            obtain ⟨j, hj⟩ := List.mem_iff_getElem?.1 he
            have hjm := (List.getElem?_eq_some_iff.1 hj).1
            have h1 := HI.out.1 j e (by have := HM.out; omega) hj
            have h2 := HLT.out e he
            omega)
          have HK8 := Lib.hid (HKR.out.trans HI.out.2)
          obtain ⟨w8, hw8⟩ : ∃ w8, wr = w8 := ⟨_, rfl⟩
          rw [hw8] at HK8 ⊢
          clear HI hw8 HD HSE3
          obtain ⟨P2, hP2⟩ : ∃ P2, 2 ^ N = P2 := ⟨_, rfl⟩
          have hP20 : P2 ≤ 20000 := by rw [← hP2]; exact Nat.le_trans (Nat.pow_le_pow_right (by omega) hN14) (by decide)
          have HW2 := Lib.hid (wrap_pow N P2 hP2 (by omega))
          have HPP2 := Lib.hid hP2
          clear hP2
          have NODES : Hid (∀ wr, Keep Nb w8 wr → Calls Try.prog 24 #[.pointer (some ⟨gb, 0, none⟩)] wr fun e w' => e = .returned (.int .i64 N) ∧ wr = w') := Lib.hid (fun wr k => nodes_same _ _ gb N es ((HG.out.keep HK8.out (fun _ _ e => e)).keep k (fun _ _ e => e)))
          go_wp2_with (go_at_call 24; refine (NODES.out _ (Keep.refl _ _)).mono ?_; rintro e1 w' ⟨rfl, rfl⟩)
          go_loopg [17, 22] P2 (fun kx s17 s22 wr => ∃ (least s : Nat), s17 = .int .i64 least ∧ s22 = .int .i64 s ∧ s ≤ P2 ∧ P2 - s ≤ kx ∧ least ≤ N ∧ Hid (LeastInv (fun s => s.testBit x = false ∧ s.testBit y = false ∧ ¬ Conn (ends (sansN es (bitsL s N))) x y) (fun s => (bitsL s N).length) N s least ∧ Keep Nb w8 wr))
          case atStart => exact ⟨N, 0, rfl, rfl, Nat.zero_le _, by omega, Nat.le_refl _, Lib.hid ⟨LeastInv.start _ _ _, Keep.refl _ _⟩⟩
          case round =>
            obtain ⟨least2, s2, rfl, rfl, hs2, hg2, hle2, HR⟩ := hrel
            by_cases hlt : s2 < P2
            · have hW := HW2.out
              go_upto_region 40 with (go_at_call 24; refine (NODES.out _ HR.out.2).mono ?_; rintro e1 w' ⟨rfl, rfl⟩)
              clear hW
              obtain ⟨ba, hba⟩ : ∃ ba, s2.testBit x = ba := ⟨_, rfl⟩
              obtain ⟨bb, hbb⟩ : ∃ bb, s2.testBit y = bb := ⟨_, rfl⟩
              have hb1 := bit_test s2 x (by omega)
              have hb2 := bit_test s2 y (by omega)
              rw [hba] at hb1
              rw [hbb] at hb2
              have HBA := Lib.hid hba
              have HBB := Lib.hid hbb
              clear hba hbb
              cases ba with
              | true =>
                have HN : Hid (LeastInv (fun s => s.testBit x = false ∧ s.testBit y = false ∧ ¬ Conn (ends (sansN es (bitsL s N))) x y) (fun s => (bitsL s N).length) N (s2 + 1) least2 ∧ Keep Nb w8 wr) := Lib.hid ⟨HR.out.1.skip (.inl (fun h => by rw [HBA.out] at h; cases h.1)), HR.out.2⟩
                go_wp2_with fail
                go_roundg (P2 - (s2 + 1))
                case measure => omega
                case rel => exact ⟨least2, s2 + 1, rfl, rfl, by omega, Nat.le_refl _, hle2, HN⟩
              | false =>
                cases bb with
                | true =>
                  have HN : Hid (LeastInv (fun s => s.testBit x = false ∧ s.testBit y = false ∧ ¬ Conn (ends (sansN es (bitsL s N))) x y) (fun s => (bitsL s N).length) N (s2 + 1) least2 ∧ Keep Nb w8 wr) := Lib.hid ⟨HR.out.1.skip (.inl (fun h => by rw [HBB.out] at h; cases h.2.1)), HR.out.2⟩
                  go_wp2_with fail
                  go_roundg (P2 - (s2 + 1))
                  case measure => omega
                  case rel => exact ⟨least2, s2 + 1, rfl, rfl, by omega, Nat.le_refl _, hle2, HN⟩
                | false =>
                  go_wp2_with fail
                  clear hb1 hb2
                  obtain ⟨w9, hw9⟩ : ∃ w9, wr = w9 := ⟨_, rfl⟩
                  have HR2 := Lib.hid HR.out
                  rw [hw9] at HR2 ⊢
                  clear hw9 HR
                  go_loopg [23, 24] N (fun ky s23 s24 wr => ∃ (i n : Nat) (o : Option Addr) (c : Nat), s23 = .slice o n c ∧ s24 = .int .i64 i ∧ i ≤ N ∧ N - i ≤ ky ∧ n ≤ i ∧ Hid (n = (bitsL s2 i).length ∧ Sl (fun k => w9.heap.size ≤ k) wr 3 1 o n c (ints (bitsL s2 i)) ∧ Keep Nb w9 wr))
                  case atStart => exact ⟨0, 0, none, 0, rfl, rfl, Nat.zero_le _, by omega, Nat.le_refl _, Lib.hid ⟨rfl, Sl.nil _ _ _ _, Keep.refl _ _⟩⟩
                  case round =>
                    obtain ⟨i, n, o, c, rfl, rfl, hi, hgi, hni, HI⟩ := hrel
                    by_cases hil : i < N
                    · have htk := bitsL_succ s2 i
                      obtain ⟨bt, hbt⟩ : ∃ bt, s2.testBit i = bt := ⟨_, rfl⟩
                      rw [hbt] at htk
                      have hb := bit_test s2 i (by omega)
                      rw [hbt] at hb
                      cases bt with
                      | false =>
                        rw [if_neg (by simp), List.append_nil] at htk
                        have HN : Hid (n = (bitsL s2 (i + 1)).length ∧ Sl (fun k => w9.heap.size ≤ k) wr 3 1 o n c (ints (bitsL s2 (i + 1))) ∧ Keep Nb w9 wr) := Lib.hid (by rw [htk]; exact HI.out)
                        clear htk hbt
                        go_wp2_with (go_at_call 24; refine (NODES.out _ (HR2.out.2.trans HI.out.2.2)).mono ?_; rintro e1 w' ⟨rfl, rfl⟩)
                        go_roundg (N - (i + 1))
                        case measure => omega
                        case rel => exact ⟨i + 1, n, o, c, rfl, rfl, by omega, Nat.le_refl _, by omega, HN⟩
                      | true =>
                        rw [if_pos rfl] at htk
                        obtain ⟨h1, h2, h3⟩ := HI.out
                        obtain ⟨gq, cq, w10, q1, q2, q3, q4⟩ := run_app1 (P := Try.prog) 37 37 3 Try.underlying37 elem_int rfl h2 (.int .i64 i) rfl (by omega) (by omega)
                        have HN : Hid (n + 1 = (bitsL s2 (i + 1)).length ∧ Sl (fun k => w9.heap.size ≤ k) w10 3 1 (some ⟨gq, 0, none⟩) (n + 1) cq (ints (bitsL s2 (i + 1))) ∧ Keep Nb w9 w10) := Lib.hid (by
                          have z := h3.size
                          refine ⟨by rw [htk, List.length_append, ← h1]; rfl, ?_, h3.trans' q3 (fun _ _ e => e) (fun k hk hb => ?_)⟩
                          · rw [htk, ints_append]
                            exact q2.mono (fun k hk => by rcases hk with h | h; exact h; omega)
                          · obtain ⟨a, ha, rfl⟩ := hb
                            have := h2.foot a ha
                            show False; omega)
                        have Q1 := Lib.hid q1
                        clear htk hbt h1 h2 h3 q1 q2 q3 q4
                        go_wp2_with (first | (go_at_call 24; refine (NODES.out _ (HR2.out.2.trans HI.out.2.2)).mono ?_; rintro e1 w' ⟨rfl, rfl⟩) | (at_builtin; refine wpList_app rfl _ _ _ rfl rfl rfl Q1.out ?_))
                        go_roundg (N - (i + 1))
                        case measure => omega
                        case rel => exact ⟨i + 1, n + 1, _, cq, rfl, rfl, by omega, Nat.le_refl _, by omega, HN⟩
                    · obtain rfl : i = N := by omega
                      obtain ⟨hn, hS, hk⟩ := HI.out
                      obtain ⟨T, hT⟩ : ∃ T, bitsL s2 i = T := ⟨_, rfl⟩
                      rw [hT] at hn hS
                      have HTT := Lib.hid hT
                      have HSt := Lib.hid hS
                      have HKt := Lib.hid (HR2.out.2.trans hk)
                      clear hS hk HI hT
                      subst hn
                      by_cases hnl : T.length < least2
                      · go_wp2_with (go_at_call 24; refine (NODES.out _ HKt.out).mono ?_; rintro e1 w' ⟨rfl, rfl⟩)
                        refine (without_any _ Nb _ _ gb i es none o 0 c [] T (HG.out.keep (HK8.out.trans HKt.out) (fun _ _ e => e)) (by have := HM.out; omega) (Sl.nil _ _ _ _) HSt.out (by simp) (by omega)).mono ?_
                        rintro e1 w11 ⟨rfl, hg8, hk8⟩
                        rw [withoutN_eq] at hg8
                        have hsl : (sansN es T).length ≤ es.length := List.length_filter_le _ _
                        have HG8 := Lib.hid hg8
                        have HK9 := Lib.hid (HKt.out.trans hk8)
                        have HSL := Lib.hid hsl
                        clear hg8 hk8 hsl
                        go_wp2_with fail
                        refine (together_any _ _ _ i (sansN es T) x y HG8.out (by omega) (by have := HSL.out; have := HM.out; omega) (HOK.out.filter _) hxN hyN).mono ?_
                        rintro e1 w12 ⟨rfl, hk9⟩
                        have HK10 := Lib.hid (HK9.out.trans hk9)
                        clear hk9
                        by_cases hc : Conn (ends (sansN es T)) x y
                        · have HN : Hid (LeastInv (fun s => s.testBit x = false ∧ s.testBit y = false ∧ ¬ Conn (ends (sansN es (bitsL s i))) x y) (fun s => (bitsL s i).length) i (s2 + 1) least2 ∧ Keep Nb w8 w12) := Lib.hid
                            ⟨HR2.out.1.skip (.inl (fun h => by have := h.2.2; rw [HTT.out] at this; exact this hc)), HK10.out⟩
                          rw [decide_eq_true hc]
                          clear hc
                          go_wp2_with fail
                          go_roundg (P2 - (s2 + 1))
                          case measure => omega
                          case rel => exact ⟨least2, s2 + 1, rfl, rfl, by omega, Nat.le_refl _, hle2, HN⟩
                        · have HN : Hid (LeastInv (fun s => s.testBit x = false ∧ s.testBit y = false ∧ ¬ Conn (ends (sansN es (bitsL s i))) x y) (fun s => (bitsL s i).length) i (s2 + 1) T.length ∧ Keep Nb w8 w12) := Lib.hid (by
                            have := HR2.out.1.take (k := s2) ⟨HBA.out, HBB.out, by show ¬ Conn (ends (sansN es (bitsL s2 i))) x y; rw [HTT.out]; exact hc⟩ (by show (bitsL s2 i).length ≤ least2; rw [HTT.out]; omega)
                            rw [show (bitsL s2 i).length = T.length by rw [HTT.out]] at this
                            exact ⟨this, HK10.out⟩)
                          rw [decide_eq_false hc]
                          clear hc
                          go_wp2_with fail
                          go_roundg (P2 - (s2 + 1))
                          case measure => omega
                          case rel => exact ⟨T.length, s2 + 1, rfl, rfl, by omega, Nat.le_refl _, hni, HN⟩
                      · have HN : Hid (LeastInv (fun s => s.testBit x = false ∧ s.testBit y = false ∧ ¬ Conn (ends (sansN es (bitsL s i))) x y) (fun s => (bitsL s i).length) i (s2 + 1) least2 ∧ Keep Nb w8 wr) := Lib.hid
                          ⟨HR2.out.1.skip (.inr (by show least2 ≤ (bitsL s2 i).length; rw [HTT.out]; omega)), HKt.out⟩
                        go_wp2_with (go_at_call 24; refine (NODES.out _ HKt.out).mono ?_; rintro e1 w' ⟨rfl, rfl⟩)
                        go_roundg (P2 - (s2 + 1))
                        case measure => omega
                        case rel => exact ⟨least2, s2 + 1, rfl, rfl, by omega, Nat.le_refl _, hle2, HN⟩
            · obtain rfl : s2 = P2 := by omega
              have HEQ2 : Hid (vy = least2) := Lib.hid (by
                have h1 := HR.out.1
                rw [← HPP2.out] at h1
                exact holdN HXY.out hxN hyN HOK.out.over HDIR.out (by have := HM.out; omega) HVX.out HVY.out h1)
              have hve : ((vy : Int) == (least2 : Int)) = true := by have := HEQ2.out; simp; omega
              have HF : Hid (Keep Nb w wr) := Lib.hid ((HK2.out.trans HK8.out).trans HR.out.2)
              have hW := HW2.out
              go_wp2_with (go_at_call 24; refine (NODES.out _ HR.out.2).mono ?_; rintro e1 w' ⟨rfl, rfl⟩)
              go_ret
              exact ⟨rfl, HF.out⟩

end Go.Proofs.Ytkpoobnldgfapaa
