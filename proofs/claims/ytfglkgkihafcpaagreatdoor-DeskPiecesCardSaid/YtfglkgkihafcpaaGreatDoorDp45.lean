/- Part 45 of the proof: DkDrop DkCmd ShelfF DkWords DkLine DkLine2. -/
import Derived.Test.YtfglkgkihafcpaaGreatDoorDp03
import Derived.Test.YtfglkgkihafcpaaGreatDoorDp22
import Derived.Test.YtfglkgkihafcpaaGreatDoorDp25
import Derived.Test.YtfglkgkihafcpaaGreatDoorDp34
import Derived.Test.YtfglkgkihafcpaaGreatDoorDp38
import Derived.Test.YtfglkgkihafcpaaGreatDoorDp41
import Derived.Test.YtfglkgkihafcpaaGreatDoorDp44
import Derived.Shelf.Strings.FieldsFuncAny
import Derived.Shelf.Strings.FieldsFuncGrows
import Derived.Ground.NamesProg
import Derived.Test.YtfglkgkihafcpaaGreatDoorProg
import Derived.Defers
import Derived.Recover
import Derived.Laws.Pointers
set_option linter.unusedVariables false
set_option linter.unusedSimpArgs false
namespace Go.Proofs.YtfglkgkihafcpaaGreatDoor
open Go.RowKit Pl Go.Maps
def tDrop : List UInt8 := [100, 114, 111, 112]
def aDrop (l : List (List UInt8)) (n : Nat) (es : List E) : Ans :=
 if l.length ≠ 1 then ⟨.error 3, n, es⟩ else match numsD l with
 | some [t] => if hasId es t = true then ⟨.ok tDrop, n, cutEs es t⟩ else ⟨.error 7, n, es⟩
 | _ => ⟨.error 3, n, es⟩
set_option maxRecDepth 100000 in
set_option maxHeartbeats 4000000 in
theorem ddrop_any (Z : Nat) (F : Nat → Prop) (w : World) (db xb n : Nat) (es : List E) (hD : DkM Z F w db xb n es) (o : Option Addr) (m c : Nat) (l : List (List UInt8)) (hW : Wds w o m c l) :
  Calls Tryz.prog 61 #[.pointer (some ⟨db, 0, none⟩), .slice o m c] w (DkPost Z F w db (aDrop l n es)) := by
 have HN0 : ∀ wx, Keep Nb w wx → Calls Tryz.prog 19 #[.slice o m c, .int .i64 1] wx (NumsPost wx l 1) := fun wx hk => by
  exact numbers_any wx (hD.lib.lib.keep hk) (hD.lib.err.keep hk (fun e => e)) o m c l (hW.s.keep hk) hW.len hW.le hW.each 1 (by omega)
 have d0 := hD.row.cell (i := 0) rfl
 have HD := Lib.hid hD
 clear hW hD
 by_cases hgood : ∃ t, l.length = 1 ∧ numsD l = some [t]
 ·obtain ⟨t, h0, hvs⟩ := hgood
  have HN : Hid (∀ wx, Keep Nb w wx → Calls Tryz.prog 19 #[.slice o m c, .int .i64 1] wx fun e w' => ∃ (g c' : Nat), e = .returned (.slice (some ⟨g, 0, none⟩) 1 c') ∧ w'.cell? ⟨g, 0, none⟩ = some (.int .i64 t) ∧ Keep Nb wx w') := Lib.hid (fun wx hk => by
   refine (HN0 wx hk).mono ?_
   rintro e w' ⟨hk1, ⟨vs, o', c', _, hv, hvl, rfl, hS⟩ | ⟨hbad, rfl⟩⟩
   ·rw [hvs] at hv
    obtain rfl : [t] = vs := Option.some.inj hv
    obtain ⟨g, rfl, _, _, hrow⟩ := hS.pos (by omega)
    exact ⟨g, c', rfl, hrow.cell rfl, hk1⟩
   ·rcases hbad with h | h
    ·exact absurd h0 h
    ·rw [hvs] at h; cases h)
  have HV := Lib.hid (And.intro h0 hvs)
  obtain ⟨ev, hev⟩ : ∃ ev, (if hasId es t = true then Value.nilIface else errVal 7) = ev := ⟨_, rfl⟩
  have HQ : Hid (∀ wx, Keep Nb w wx → Calls Tryz.prog 93 #[.pointer (some ⟨xb, 0, none⟩), .int .i64 t] wx fun e w' => e = .returned ev ∧ (∀ w3, Keep Nb w' w3 → (∃ F' xb', DkM Z F' w3 db xb' n (cutEs es t) ∧ ∀ k, F' k → F k ∨ w.heap.size ≤ k) ∧ Keep (fun k => F k ∨ k = db) w w3) ∧ ErrT w' ∧ Keep F wx w') := Lib.hid (fun wx hkx => by
   refine (idropK_any F wx xb n es t (HD.out.ix.keep hkx (fun _ _ e => e)) HD.out.ok).mono ?_
   rintro e w' ⟨he, q1, q2⟩
   refine ⟨?_, fun w3 k3 => HD.out.turn hkx q1 q2 (HD.out.ok.cut t) (HD.out.lok.cut t) k3, (((HD.out.lib.keep hkx (fun _ e => e.elim)).keep q2 HD.out.lo)).err, q2⟩
   rw [he, ← hev])
  have NB : Hid (¬ F db) := Lib.hid HD.out.nd
  clear HN0 h0 hvs
  by_cases hr : hasId es t = true
  ·obtain rfl : Value.nilIface = ev := by rw [← hev, if_pos hr]
   have HR := Lib.hid hr
   clear hr hev
   go_enter Tryz.func61, Tryz.ntmps61
   go_wp2_with fail
   refine beginZ (S := (fun w' => w'.cell? ⟨db, 0, none⟩ = some (.pointer (some ⟨xb, 0, none⟩)))) (z := 9) (by kernel_rfl) ?_ (fun hHeld => ?_)
   ·go_keep
   refine yesZ (i := 0) [1, 2, 3, 8, 9] (d := some 5) (v := ?_) rfl (by kernel_rfl) (by kernel_rfl) (by kernel_rfl) (by kernel_rfl) (by kernel_rfl) (fun _ _ _ h => h) (by kernel_rfl) ?_ (by assumption) ?_
   rotate_left
   ·(intro w hSw; clear hSw; go_simp; try (with_reducible rfl))
   try simp only [Act.put, List.setIfInBounds_toArray, List.set_cons_zero, List.set_cons_succ]
   refine yesZ (i := 1) [2, 3, 8, 9] (d := some 6) (v := ?_) rfl (by kernel_rfl) (by kernel_rfl) (by kernel_rfl) (by kernel_rfl) (by kernel_rfl) (fun _ _ _ h => h) (by kernel_rfl) ?_ (by assumption) ?_
   rotate_left
   ·(intro w hSw; clear hSw; go_simp; try (with_reducible rfl))
   try simp only [Act.put, List.setIfInBounds_toArray, List.set_cons_zero, List.set_cons_succ]
   refine yesZ (i := 2) [3, 8, 9] (d := some 7) (v := ?_) rfl (by kernel_rfl) (by kernel_rfl) (by kernel_rfl) (by kernel_rfl) (by kernel_rfl) (fun _ _ _ h => h) (by kernel_rfl) ?_ (by assumption) ?_
   rotate_left
   ·(intro w hSw; clear hSw; go_simp; try (with_reducible rfl))
   try simp only [Act.put, List.setIfInBounds_toArray, List.set_cons_zero, List.set_cons_succ]
   refine yesZ (i := 3) [8, 9] (d := some 8) (v := ?_) rfl (by kernel_rfl) (by kernel_rfl) (by kernel_rfl) (by kernel_rfl) (by kernel_rfl) (fun _ _ _ h => h) (by kernel_rfl) ?_ (by assumption) ?_
   rotate_left
   ·(intro w hSw; (try dsimp only at hSw); go_simp; try (with_reducible rfl))
   try simp only [Act.put, List.setIfInBounds_toArray, List.set_cons_zero, List.set_cons_succ]
   refine yesZ (i := 4) [5, 8, 9] (d := some 9) (v := ?_) rfl (by kernel_rfl) (by kernel_rfl) (by kernel_rfl) (by kernel_rfl) (by kernel_rfl) (fun _ _ _ h => h) (by kernel_rfl) ?_ (by assumption) ?_
   rotate_left
   ·(intro w hSw; clear hSw; go_simp; try (with_reducible rfl))
   try simp only [Act.put, List.setIfInBounds_toArray, List.set_cons_zero, List.set_cons_succ]
   refine oneZ (i := 5) (by kernel_rfl) rfl (fun K hK => ?_)
   go_simp; (go_at_call 19; refine (HN.out _ ((Keep.refl Nb w).drew)).mono ?_; rintro e1 w1 ⟨g, c1, rfl, hg, k1⟩; have a0 := k1.cell (p := ⟨db, 0, none⟩) d0 (fun e => e); have K1 := Lib.hid (((Keep.refl Nb w).drew).trans k1); clear k1; go_simp)
   refine hK.out _ _ ?_ (fun hHeld => ?_)
   ·go_keep
   clear hK K
   try simp only [Act.put, List.setIfInBounds_toArray, List.set_cons_zero, List.set_cons_succ]
   refine yesZ (i := 6) [7, 8, 9] (d := some 11) (v := ?_) rfl (by kernel_rfl) (by kernel_rfl) (by kernel_rfl) (by kernel_rfl) (by kernel_rfl) (fun _ _ _ h => h) (by kernel_rfl) ?_ (by assumption) ?_
   rotate_left
   ·(intro w hSw; clear hSw; go_simp; try (with_reducible rfl))
   try simp only [Act.put, List.setIfInBounds_toArray, List.set_cons_zero, List.set_cons_succ]
   refine oneZ (i := 7) (by kernel_rfl) rfl (fun K hK => ?_)
   go_simp
   refine hK.out _ _ ?_ (fun hHeld => ?_)
   ·go_keep
   clear hK K
   try simp only [Act.put, List.setIfInBounds_toArray, List.set_cons_zero, List.set_cons_succ]
   refine oneZ (i := 8) (by kernel_rfl) rfl (fun K hK => ?_)
   go_simp; (go_at_call 93; refine (HQ.out _ K1.out).mono ?_; rintro e1 wA ⟨rfl, hP, hE, kA⟩; have a1 := kA.cell (p := ⟨db, 0, none⟩) a0 NB.out; have HP := Lib.hid hP; have HE := Lib.hid hE; clear hP hE kA; go_simp)
   refine hK.out _ _ ?_ (fun hHeld => ?_)
   ·go_keep
   clear hK K
   try simp only [Act.put, List.setIfInBounds_toArray, List.set_cons_zero, List.set_cons_succ]
   refine lastZ (i := 9) (by kernel_rfl) rfl (by kernel_rfl) rfl (fun K hK => ?_)
   go_simp; (go_at_call 20; refine (must_nil _).mono ?_; rintro e1 wB ⟨rfl, rfl⟩; go_simp)
   refine hK.out _ _ ?_
   clear hK K
   go_wp2_with fail
   go_ret
   refine dk_ok (t := tDrop) (HP.out _ (Keep.refl _ _)) ?_ rfl
   unfold aDrop
   rw [if_neg (by rw [HV.out.1]; simp), HV.out.2]
   simp only
   rw [if_pos HR.out]
  ·obtain rfl : errVal 7 = ev := by rw [← hev, if_neg hr]
   have HR := Lib.hid hr
   clear hr hev
   go_enter Tryz.func61, Tryz.ntmps61
   go_wp2_with fail
   refine beginZ (S := (fun w' => w'.cell? ⟨db, 0, none⟩ = some (.pointer (some ⟨xb, 0, none⟩)))) (z := 9) (by kernel_rfl) ?_ (fun hHeld => ?_)
   ·go_keep
   refine yesZ (i := 0) [1, 2, 3, 8, 9] (d := some 5) (v := ?_) rfl (by kernel_rfl) (by kernel_rfl) (by kernel_rfl) (by kernel_rfl) (by kernel_rfl) (fun _ _ _ h => h) (by kernel_rfl) ?_ (by assumption) ?_
   rotate_left
   ·(intro w hSw; clear hSw; go_simp; try (with_reducible rfl))
   try simp only [Act.put, List.setIfInBounds_toArray, List.set_cons_zero, List.set_cons_succ]
   refine yesZ (i := 1) [2, 3, 8, 9] (d := some 6) (v := ?_) rfl (by kernel_rfl) (by kernel_rfl) (by kernel_rfl) (by kernel_rfl) (by kernel_rfl) (fun _ _ _ h => h) (by kernel_rfl) ?_ (by assumption) ?_
   rotate_left
   ·(intro w hSw; clear hSw; go_simp; try (with_reducible rfl))
   try simp only [Act.put, List.setIfInBounds_toArray, List.set_cons_zero, List.set_cons_succ]
   refine yesZ (i := 2) [3, 8, 9] (d := some 7) (v := ?_) rfl (by kernel_rfl) (by kernel_rfl) (by kernel_rfl) (by kernel_rfl) (by kernel_rfl) (fun _ _ _ h => h) (by kernel_rfl) ?_ (by assumption) ?_
   rotate_left
   ·(intro w hSw; clear hSw; go_simp; try (with_reducible rfl))
   try simp only [Act.put, List.setIfInBounds_toArray, List.set_cons_zero, List.set_cons_succ]
   refine yesZ (i := 3) [8, 9] (d := some 8) (v := ?_) rfl (by kernel_rfl) (by kernel_rfl) (by kernel_rfl) (by kernel_rfl) (by kernel_rfl) (fun _ _ _ h => h) (by kernel_rfl) ?_ (by assumption) ?_
   rotate_left
   ·(intro w hSw; (try dsimp only at hSw); go_simp; try (with_reducible rfl))
   try simp only [Act.put, List.setIfInBounds_toArray, List.set_cons_zero, List.set_cons_succ]
   refine yesZ (i := 4) [5, 8, 9] (d := some 9) (v := ?_) rfl (by kernel_rfl) (by kernel_rfl) (by kernel_rfl) (by kernel_rfl) (by kernel_rfl) (fun _ _ _ h => h) (by kernel_rfl) ?_ (by assumption) ?_
   rotate_left
   ·(intro w hSw; clear hSw; go_simp; try (with_reducible rfl))
   try simp only [Act.put, List.setIfInBounds_toArray, List.set_cons_zero, List.set_cons_succ]
   refine oneZ (i := 5) (by kernel_rfl) rfl (fun K hK => ?_)
   go_simp; (go_at_call 19; refine (HN.out _ ((Keep.refl Nb w).drew)).mono ?_; rintro e1 w1 ⟨g, c1, rfl, hg, k1⟩; have a0 := k1.cell (p := ⟨db, 0, none⟩) d0 (fun e => e); have K1 := Lib.hid (((Keep.refl Nb w).drew).trans k1); clear k1; go_simp)
   refine hK.out _ _ ?_ (fun hHeld => ?_)
   ·go_keep
   clear hK K
   try simp only [Act.put, List.setIfInBounds_toArray, List.set_cons_zero, List.set_cons_succ]
   refine yesZ (i := 6) [7, 8, 9] (d := some 11) (v := ?_) rfl (by kernel_rfl) (by kernel_rfl) (by kernel_rfl) (by kernel_rfl) (by kernel_rfl) (fun _ _ _ h => h) (by kernel_rfl) ?_ (by assumption) ?_
   rotate_left
   ·(intro w hSw; clear hSw; go_simp; try (with_reducible rfl))
   try simp only [Act.put, List.setIfInBounds_toArray, List.set_cons_zero, List.set_cons_succ]
   refine oneZ (i := 7) (by kernel_rfl) rfl (fun K hK => ?_)
   go_simp
   refine hK.out _ _ ?_ (fun hHeld => ?_)
   ·go_keep
   clear hK K
   try simp only [Act.put, List.setIfInBounds_toArray, List.set_cons_zero, List.set_cons_succ]
   refine oneZ (i := 8) (by kernel_rfl) rfl (fun K hK => ?_)
   go_simp; (go_at_call 93; refine (HQ.out _ K1.out).mono ?_; rintro e1 wA ⟨rfl, hP, hE, kA⟩; have a1 := kA.cell (p := ⟨db, 0, none⟩) a0 NB.out; have HP := Lib.hid hP; have HE := Lib.hid hE; clear hP hE kA; go_simp)
   refine hK.out _ _ ?_ (fun hHeld => ?_)
   ·go_keep
   clear hK K
   try simp only [Act.put, List.setIfInBounds_toArray, List.set_cons_zero, List.set_cons_succ]
   refine lastZ (i := 9) (by kernel_rfl) rfl (by kernel_rfl) rfl (fun K hK => ?_)
   go_simp; (go_at_call 20; refine (must_err 7 _ HE.out).mono ?_; rintro e1 wB ⟨rfl, kB⟩)
   have hP4 := HP.out _ kB
   have hes : cutEs es t = es := by unfold cutEs; rw [if_neg HR.out]
   rw [hes] at hP4
   refine ⟨rfl, dk_thr hP4 ?_⟩
   unfold aDrop
   rw [if_neg (by rw [HV.out.1]; simp), HV.out.2]
   simp only
   rw [if_neg HR.out]
 ·have HB : Hid (aDrop l n es = ⟨.error 3, n, es⟩) := Lib.hid (by
   unfold aDrop
   by_cases h1 : l.length = 1
   ·rw [if_neg (by rw [h1]; simp)]
    split
    ·rename_i t h; exact absurd ⟨t, h1, h⟩ hgood
    ·rfl
   ·rw [if_pos h1])
  have HN : Hid (∀ wx, Keep Nb w wx → Calls Tryz.prog 19 #[.slice o m c, .int .i64 1] wx fun e w' => e = thrown 3 ∧ Keep Nb wx w') := Lib.hid (fun wx hk => by
   refine (HN0 wx hk).mono ?_
   rintro e w' ⟨hk1, ⟨vs, o', c', h1, hv, hvl, rfl, hS⟩ | ⟨hbad, rfl⟩⟩
   ·refine absurd ?_ hgood
    match vs, hvl with
    | [x], _ => exact ⟨x, h1, hv⟩
   ·exact ⟨rfl, hk1⟩)
  clear HN0 hgood
  go_enter Tryz.func61, Tryz.ntmps61
  go_wp2_with fail
  refine beginZ (S := (fun w' => w'.cell? ⟨db, 0, none⟩ = some (.pointer (some ⟨xb, 0, none⟩)))) (z := 9) (by kernel_rfl) ?_ (fun hHeld => ?_)
  ·go_keep
  refine yesZ (i := 0) [1, 2, 3, 8, 9] (d := some 5) (v := ?_) rfl (by kernel_rfl) (by kernel_rfl) (by kernel_rfl) (by kernel_rfl) (by kernel_rfl) (fun _ _ _ h => h) (by kernel_rfl) ?_ (by assumption) ?_
  rotate_left
  ·(intro w hSw; clear hSw; go_simp; try (with_reducible rfl))
  try simp only [Act.put, List.setIfInBounds_toArray, List.set_cons_zero, List.set_cons_succ]
  refine yesZ (i := 1) [2, 3, 8, 9] (d := some 6) (v := ?_) rfl (by kernel_rfl) (by kernel_rfl) (by kernel_rfl) (by kernel_rfl) (by kernel_rfl) (fun _ _ _ h => h) (by kernel_rfl) ?_ (by assumption) ?_
  rotate_left
  ·(intro w hSw; clear hSw; go_simp; try (with_reducible rfl))
  try simp only [Act.put, List.setIfInBounds_toArray, List.set_cons_zero, List.set_cons_succ]
  refine yesZ (i := 2) [3, 8, 9] (d := some 7) (v := ?_) rfl (by kernel_rfl) (by kernel_rfl) (by kernel_rfl) (by kernel_rfl) (by kernel_rfl) (fun _ _ _ h => h) (by kernel_rfl) ?_ (by assumption) ?_
  rotate_left
  ·(intro w hSw; clear hSw; go_simp; try (with_reducible rfl))
  try simp only [Act.put, List.setIfInBounds_toArray, List.set_cons_zero, List.set_cons_succ]
  refine yesZ (i := 3) [8, 9] (d := some 8) (v := ?_) rfl (by kernel_rfl) (by kernel_rfl) (by kernel_rfl) (by kernel_rfl) (by kernel_rfl) (fun _ _ _ h => h) (by kernel_rfl) ?_ (by assumption) ?_
  rotate_left
  ·(intro w hSw; (try dsimp only at hSw); go_simp; try (with_reducible rfl))
  try simp only [Act.put, List.setIfInBounds_toArray, List.set_cons_zero, List.set_cons_succ]
  refine yesZ (i := 4) [5, 8, 9] (d := some 9) (v := ?_) rfl (by kernel_rfl) (by kernel_rfl) (by kernel_rfl) (by kernel_rfl) (by kernel_rfl) (fun _ _ _ h => h) (by kernel_rfl) ?_ (by assumption) ?_
  rotate_left
  ·(intro w hSw; clear hSw; go_simp; try (with_reducible rfl))
  try simp only [Act.put, List.setIfInBounds_toArray, List.set_cons_zero, List.set_cons_succ]
  refine oneZ (i := 5) (by kernel_rfl) rfl (fun K hK => ?_)
  go_simp; (go_at_call 19; refine (HN.out _ ((Keep.refl Nb w).drew)).mono ?_; rintro e1 w1 ⟨rfl, k1⟩)
  exact ⟨rfl, dk_bad HD.out (((Keep.refl Nb w).drew).trans k1) HB.out⟩
end Go.Proofs.YtfglkgkihafcpaaGreatDoor

namespace Go.Proofs.YtfglkgkihafcpaaGreatDoor
open Go.RowKit Pl
def CmdP (ov : Option Value) (A : List (List UInt8) → Nat → List E → Ans) (db : Nat) : Prop :=
 (ov = none ∧ A = fun _ n es => ⟨.error 3, n, es⟩) ∨ ∃ f, ov = some (mv db f) ∧ (∀ args w, (callFunc f args).run Tryz.prog w = .ok (.enter f args) w) ∧
  ∀ (Z : Nat) (F : Nat → Prop) (w : World) (xb n : Nat) (es : List E), DkM Z F w db xb n es → ∀ (o : Option Addr) (m c : Nat) (l : List (List UInt8)), Wds w o m c l → Calls Tryz.prog f #[.pointer (some ⟨db, 0, none⟩), .slice o m c] w (DkPost Z F w db (A l n es))
theorem CmdP.ite {p : Prop} [Decidable p] {o1 o2 : Option Value} {a1 a2 : List (List UInt8) → Nat → List E → Ans} {db : Nat} (h1 : CmdP o1 a1 db) (h2 : CmdP o2 a2 db) : CmdP (if p then o1 else o2) (if p then a1 else a2) db := by
 split <;> assumption
noncomputable def cmdA (c : List UInt8) : List (List UInt8) → Nat → List E → Ans :=
 if c = [119, 104, 111, 108, 101] then fun l n es => aAsk (fun x y => decide (Conn (ends es) x y)) l n es
 else if c = [119, 97, 121, 115] then aWays
 else if c = [116, 119, 105, 99, 101] then fun l n es => aAsk (twB es) l n es
 else if c = [116, 104, 114, 105, 99, 101] then aThrice
 else if c = [115, 112, 108, 105, 116, 115] then aSplits
 else if c = [114, 101, 108, 111, 97, 100] then aReload
 else if c = [112, 97, 105, 114, 115] then aPairs
 else if c = [110, 111, 100, 101, 115] then aNodes
 else if c = [104, 101, 108, 112] then aHelp
 else if c = [101, 100, 103, 101, 115] then aEdges
 else if c = [100, 114, 111, 112] then aDrop
 else if c = [99, 117, 116, 115] then aCuts
 else if c = [98, 114, 105, 100, 103, 101, 115] then aBridges
 else if c = [98, 108, 111, 99, 107, 115] then aBlocks
 else if c = [97, 100, 100] then aAdd
 else fun _ n es => ⟨.error 3, n, es⟩
theorem cmd_any (db : Nat) (c : List UInt8) : CmdP (mget (deskTab db) c) (cmdA c) db := by
 unfold deskTab cmdA
 simp only [mget_mset, mget_nil]
 refine CmdP.ite (.inr ⟨_, rfl, fun _ _ => by kernel_rfl, fun Z F w xb n es h o m c l hW => dwhole_any Z F w db xb n es h o m c l hW⟩) ?_
 refine CmdP.ite (.inr ⟨_, rfl, fun _ _ => by kernel_rfl, fun Z F w xb n es h o m c l hW => dways_any Z F w db xb n es h o m c l hW⟩) ?_
 refine CmdP.ite (.inr ⟨_, rfl, fun _ _ => by kernel_rfl, fun Z F w xb n es h o m c l hW => dtwice_any Z F w db xb n es h o m c l hW⟩) ?_
 refine CmdP.ite (.inr ⟨_, rfl, fun _ _ => by kernel_rfl, fun Z F w xb n es h o m c l hW => dthrice_any Z F w db xb n es h o m c l hW⟩) ?_
 refine CmdP.ite (.inr ⟨_, rfl, fun _ _ => by kernel_rfl, fun Z F w xb n es h o m c l hW => dsplits_any Z F w db xb n es h o m c l hW⟩) ?_
 refine CmdP.ite (.inr ⟨_, rfl, fun _ _ => by kernel_rfl, fun Z F w xb n es h o m c l hW => dreload_any Z F w db xb n es h o m c l hW⟩) ?_
 refine CmdP.ite (.inr ⟨_, rfl, fun _ _ => by kernel_rfl, fun Z F w xb n es h o m c l hW => dpairs_any Z F w db xb n es h o m c l hW⟩) ?_
 refine CmdP.ite (.inr ⟨_, rfl, fun _ _ => by kernel_rfl, fun Z F w xb n es h o m c l hW => dnodes_any Z F w db xb n es h o m c l hW⟩) ?_
 refine CmdP.ite (.inr ⟨_, rfl, fun _ _ => by kernel_rfl, fun Z F w xb n es h o m c l hW => dhelp_any Z F w db xb n es h o m c l hW⟩) ?_
 refine CmdP.ite (.inr ⟨_, rfl, fun _ _ => by kernel_rfl, fun Z F w xb n es h o m c l hW => dedges_any Z F w db xb n es h o m c l hW⟩) ?_
 refine CmdP.ite (.inr ⟨_, rfl, fun _ _ => by kernel_rfl, fun Z F w xb n es h o m c l hW => ddrop_any Z F w db xb n es h o m c l hW⟩) ?_
 refine CmdP.ite (.inr ⟨_, rfl, fun _ _ => by kernel_rfl, fun Z F w xb n es h o m c l hW => dcuts_any Z F w db xb n es h o m c l hW⟩) ?_
 refine CmdP.ite (.inr ⟨_, rfl, fun _ _ => by kernel_rfl, fun Z F w xb n es h o m c l hW => dbridges_any Z F w db xb n es h o m c l hW⟩) ?_
 refine CmdP.ite (.inr ⟨_, rfl, fun _ _ => by kernel_rfl, fun Z F w xb n es h o m c l hW => dblocks_any Z F w db xb n es h o m c l hW⟩) ?_
 refine CmdP.ite (.inr ⟨_, rfl, fun _ _ => by kernel_rfl, fun Z F w xb n es h o m c l hW => dadd_any Z F w db xb n es h o m c l hW⟩) ?_
 exact .inl ⟨rfl, rfl⟩
end Go.Proofs.YtfglkgkihafcpaaGreatDoor

namespace Go.Proofs
open Go.Shelf
def Tryz.lays229_ren : Go.Shelf.Ren := ⟨fun | 229 => 26 | n => n, fun | 9 => 9 | 40 => 72 | 31 => 24 | 152 => 107 | 3 => 3 | 0 => 0 | 4 => 4 | 21 => 21 | 154 => 109 | n => n, fun | n => n⟩
theorem Tryz.lays229 : Go.Proofs.Lays.n229 Tryz.prog Tryz.lays229_ren := {
 mixed := by kernel_rfl
 f229 := Tryz.func26.trans (congrArg some (by kernel_rfl))
 t0 := Tryz.underlying0
 a0 := Tryz.isAgg0
 z0 := Tryz.sizeOf0
 v0 := Tryz.zeroValue0
 t3 := Tryz.underlying3
 a3 := Tryz.isAgg3
 z3 := Tryz.sizeOf3
 v3 := Tryz.zeroValue3
 t4 := Tryz.underlying4
 a4 := Tryz.isAgg4
 z4 := Tryz.sizeOf4
 v4 := Tryz.zeroValue4
 t9 := Tryz.underlying9
 a9 := Tryz.isAgg9
 z9 := Tryz.sizeOf9
 v9 := Tryz.zeroValue9
 t21 := Tryz.underlying21
 a21 := Tryz.isAgg21
 z21 := Tryz.sizeOf21
 v21 := Tryz.zeroValue21
 t31 := Tryz.underlying24
 a31 := Tryz.isAgg24
 z31 := Tryz.sizeOf24
 v31 := Tryz.zeroValue24
 t40 := Tryz.underlying72
 a40 := Tryz.isAgg72
 z40 := Tryz.sizeOf72
 v40 := Tryz.zeroValue72
 t152 := Tryz.underlying107
 a152 := Tryz.isAgg107
 z152 := Tryz.sizeOf107
 v152 := Tryz.zeroValue107
 t154 := Tryz.underlying109
 a154 := Tryz.isAgg109
 z154 := Tryz.sizeOf109
 v154 := Tryz.zeroValue109 }
end Go.Proofs

namespace Go.Proofs.YtfglkgkihafcpaaGreatDoor
open Go.RowKit Pl
def sp32 (x : Nat) : Bool := decide (x = 32)
def lineW (l : List UInt8) : List (List UInt8) := (Lib.goFieldsP sp32 (bstr l)).map fun s => s.data.toList
theorem spansP_len (p : Nat → Bool) (s : ByteArray) : ∀ (f pos : Nat) (st : Option Nat) (acc : List (Nat × Nat)), (Lib.spansFromP p s f pos st acc).1.length ≤ acc.length + f
 | 0, _, _, _ => Nat.le_refl _
 | f + 1, pos, st, acc => by
  unfold Lib.spansFromP
  split
  ·split <;> cases st
   ·exact Nat.le_trans (spansP_len p s f _ _ _) (by omega)
   ·exact Nat.le_trans (spansP_len p s f _ _ _) (by simp; omega)
   ·exact Nat.le_trans (spansP_len p s f _ _ _) (by omega)
   ·exact Nat.le_trans (spansP_len p s f _ _ _) (by omega)
  ·exact Nat.le_add_right _ _
theorem lineW_len (l : List UInt8) : (lineW l).length ≤ l.length + 1 := by
 unfold lineW Lib.goFieldsP Lib.spansOfP Lib.closeSpans
 have h := spansP_len sp32 (bstr l) (bstr l).size 0 none []
 rw [bstr_size] at h ⊢
 split <;> simp at h ⊢ <;> omega
theorem lineW_each (l : List UInt8) {x : List UInt8} (h : x ∈ lineW l) : x.length ≤ l.length := by
 unfold lineW Lib.goFieldsP at h
 rw [List.map_map] at h
 obtain ⟨q, _, rfl⟩ := List.mem_map.1 h
 simp only [Function.comp]
 have := @ByteArray.size_extract (bstr l) q.1 q.2
 have hz := bstr_size l
 have e : ((bstr l).extract q.1 q.2).data.toList.length = ((bstr l).extract q.1 q.2).size := Array.length_toList
 omega
set_option maxRecDepth 100000 in
theorem line2_any (x : Nat) (W : World) : Calls Tryz.prog 27 #[.int .i32 x] W fun e w' => e = .returned (.bool (sp32 x)) ∧ w' = W := by
 unfold sp32
 go_enter Tryz.func27, Tryz.ntmps27
 go_wp2_with fail
 go_ret
 by_cases h : x = 32
 ·subst h; exact ⟨rfl, rfl⟩
 ·have h1 : decide (x = 32) = false := by simp [h]
  have h2 : ((x : Int) == 32) = false := by simp; omega
  rw [h1]
  simp_all
theorem fields_any (w : World) (l : List UInt8) (hl : l.length ≤ 90000) :
  Calls Tryz.prog 26 #[.string (bstr l), .func (.func 27) #[] #[]] w fun e w' => ∃ m o, e = .returned (.slice o m m) ∧ Wds w' o m m (lineW l) ∧ Keep Nb w w' := by
 refine (Any.strings_FieldsFunc_runes Tryz.lays229 27 #[] (fun args w => by kernel_rfl) sp32 (bstr l) w (by rw [bstr_size]; omega) (fun W x _ _ => ?_) (by kernel_rfl) (by kernel_rfl)).mono ?_
 ·exact (line2_any x W).mono fun e w' h => ⟨h.1, 0, h.2⟩
 ·rintro e w' ⟨A, rfl, hA, hR, hB⟩
  obtain ⟨o, c, hv, hS⟩ := Sl.of_row hR
  cases hv
  have hm : (lineW l).map bstr = Lib.goFieldsP sp32 (bstr l) := by
   unfold lineW
   rw [List.map_map]
   exact List.map_id' _
  have hle : (lineW l).length = (Lib.goFieldsP sp32 (bstr l)).length := by unfold lineW; rw [List.length_map]
  have h1 := lineW_len l
  refine ⟨_, _, rfl, ⟨by rw [hm]; exact hS.toR, hle, by omega, fun x hx => Nat.le_trans (lineW_each l hx) (by omega)⟩, ?_⟩
  exact Keep.below hB
end Go.Proofs.YtfglkgkihafcpaaGreatDoor

namespace Go.Proofs.YtfglkgkihafcpaaGreatDoor
open Go.RowKit Pl
theorem bs_catL (a b : List UInt8) : bstr a ++ bstr b = bstr (a ++ b) := by
 apply ByteArray.ext
 rw [ByteArray.data_append]
 simp
def tErr : List UInt8 := [101, 114, 114, 111, 114, 32]
set_option maxRecDepth 100000 in
set_option maxHeartbeats 4000000 in
theorem line1_panic (X : Nat) (r : Nat) (hr : r < 1000) (older : List PanicEntry) (v0 : Value) (w : World) (hL : LibW w) (hX : Row w X 9 [v0]) :
  CallsD Tryz.prog 24 #[.pointer (some ⟨X, 0, none⟩)] (.panicking ({ v := .iface 68 (.agg #[.int .i64 r]), recovered := false } :: older)) w fun e u' w' =>
   e = .returned (.tuple #[]) ∧ u' = .panicking ({ v := .iface 68 (.agg #[.int .i64 r]), recovered := true } :: older) ∧ w'.cell? ⟨X, 0, none⟩ = some (.string (bstr (tErr ++ Lib.itoa (r : Int)))) ∧ Keep (fun k => k = X) w w' := by
 have HL := Lib.hid hL
 refine callsD_of_wpS Tryz.func24 rfl fun c₀ cs hu => ?_
 apply wpS_seq
 apply wpS_region
 simp [wpOpsS, go_sem, recoverD, hu, Tryz.ntmps24, Exit.thenS]
 refine wpS_of_wp ?_
 have hit := Lib.hid (itoa_any (w.alloc (.cells #[.int .i64 r] 68)) (HL.out.keep ((Keep.refl Nb w).alloc _)) r (by omega) (by omega))
 obtain ⟨Q, hQ⟩ : ∃ Q : Exit → Act → World → Prop, (fun e a' w' => bodyPostS Tryz.prog Tryz.f24 c₀ cs (fun e u' w' => e = Ending.returned (Value.tuple #[]) ∧ u' = FrameMode.panicking (({ v := Value.iface 68 (Value.agg #[Value.int IntKind.i64 r]), recovered := true } : PanicEntry) :: older) ∧ w'.cell? ⟨X, 0, none⟩ = some (Value.string (bstr (tErr ++ Lib.itoa r))) ∧ Keep (fun k => k = X) w w') e a' ({ fn := c₀.fn, tmps := c₀.tmps, todo := c₀.todo, defers := c₀.defers, mode := FrameMode.panicking (({ v := Value.iface 68 (Value.agg #[Value.int IntKind.i64 r]), recovered := true } : PanicEntry) :: older), kind := c₀.kind, roundOf := c₀.roundOf } :: cs) w') = Q := ⟨_, rfl⟩
 change Code.wp _ _ _ ({ tmps := #[Value.pointer (some ⟨X, 0, none⟩), Value.iface 68 (.agg #[.int .i64 r]), undef, undef, Value.iface 68 (.agg #[.int .i64 r]), undef, undef, undef, undef, undef, undef, undef, undef, undef, undef, undef, undef, undef, undef], defers := [] } : Act) w
 rw [hQ]
 have hta : ∀ (v : Value) (w : World), (Instr.typeAssert (Value.iface 68 (.agg #[v])) 20 68 true).run Tryz.prog w = .ok (.tuple #[.agg #[v], .bool true]) w := fun v w => by kernel_rfl
 obtain ⟨W1, hW1⟩ : ∃ W1, w.alloc (.cells #[.int .i64 r] 68) = W1 := ⟨_, rfl⟩
 have kA : Keep Nb w W1 := by rw [← hW1]; exact (Keep.refl Nb w).alloc _
 have hrow : Row W1 w.heap.size 68 [.int .i64 r] := by rw [← hW1]; exact Row.new w #[.int .i64 r] 68
 have x0 := hrow.cell (i := 0) rfl
 have y0 := hrow.frozen 0 none
 have HRX := Lib.hid (hX.keep kA (fun e => e))
 have HKA := Lib.hid kA
 clear hX kA hrow
 rw [hW1] at hit
 go_wp2_with fail
 refine hit.out.mono ?_
 rintro e w2 ⟨rfl, hk2⟩
 have hR2 := HRX.out.keep hk2 (fun e => e)
 have c2 := hR2.cell (i := 0) rfl
 have f2 := hR2.frozen 0 none
 have hlen := itoa_len (x := r) (by omega)
 obtain ⟨tx, htx⟩ : ∃ tx, Lib.itoa (r : Int) = tx := ⟨_, rfl⟩
 rw [htx] at hlen ⊢
 have HT := Lib.hid htx
 have hcat : (⟨#[101, 114, 114, 111, 114, 32]⟩ : ByteArray) ++ bstr tx = bstr (tErr ++ tx) := bs_catL tErr tx
 have p1 : ¬ 9223372036854775807 < 6 + tx.length := by omega
 have HS := Lib.hid (hR2.set (i := 0) (by simp) (.string (bstr (tErr ++ tx))))
 have HK2 := Lib.hid (HKA.out.trans hk2)
 have HC := Lib.hid hcat
 clear hR2 hk2 hcat hit
 go_wp2_with fail
 try rw [HC.out]
 rw [← hQ]
 simp [bodyPostS, results, Tryz.results24]
 rw [HT.out]
 exact ⟨HS.out.cell (i := 0) rfl, (HK2.out.of_nb (F := fun k => k = X)).setCell (.inl rfl) _⟩
set_option maxRecDepth 100000 in
set_option maxHeartbeats 4000000 in
theorem line1_idle (X : Nat) (w : World) :
  CallsD Tryz.prog 24 #[.pointer (some ⟨X, 0, none⟩)] .returning w fun e u' w' => e = .returned (.tuple #[]) ∧ u' = .returning ∧ w' = w := by
 refine callsD_of_wpS Tryz.func24 rfl fun c₀ cs hu => ?_
 apply wpS_seq
 apply wpS_region
 simp [wpOpsS, go_sem, recoverD, hu, Tryz.ntmps24, Exit.thenS]
 refine wpS_of_wp ?_
 obtain ⟨Q, hQ⟩ : ∃ Q : Exit → Act → World → Prop, (fun e a' w' => bodyPostS Tryz.prog Tryz.f24 c₀ cs (fun e u' w' => e = Ending.returned (Value.tuple #[]) ∧ u' = FrameMode.returning ∧ w' = w) e a' (c₀ :: cs) w') = Q := ⟨_, rfl⟩
 change Code.wp _ _ _ ({ tmps := #[Value.pointer (some ⟨X, 0, none⟩), Value.nilIface, undef, undef, Value.nilIface, undef, undef, undef, undef, undef, undef, undef, undef, undef, undef, undef, undef, undef, undef], defers := [] } : Act) w
 rw [hQ]
 go_wp2_with fail
 rw [← hQ]
 cases c₀
 simp_all [bodyPostS, results, Tryz.results24]
end Go.Proofs.YtfglkgkihafcpaaGreatDoor

namespace Go.Proofs.YtfglkgkihafcpaaGreatDoor
open Go.RowKit Pl
def ErrP (A : List (List UInt8) → Nat → List E → Ans) : Prop := ∀ l n es k, (A l n es).out = .error k → ∃ r : Nat, k = r ∧ r < 1000
theorem ErrP.ite {p : Prop} [Decidable p] {a1 a2 : List (List UInt8) → Nat → List E → Ans} (h1 : ErrP a1) (h2 : ErrP a2) : ErrP (if p then a1 else a2) := by split <;> assumption
theorem noNums_err {l : List (List UInt8)} {n : Nat} {es : List E} {t : List UInt8} {n' : Nat} {es' : List E} {k : Int} (h : (noNums l n es ⟨.ok t, n', es'⟩).out = .error k) : ∃ r : Nat, k = r ∧ r < 1000 := by
 unfold noNums at h
 split at h
 ·cases h
 ·cases h; exact ⟨3, rfl, by omega⟩
theorem addErr_bd (n : Nat) (es : List E) (i x y : Int) : ∃ r : Nat, addErr n es i x y = r ∧ r < 1000 := by
 unfold addErr
 repeat' split
 all_goals first | exact ⟨2, rfl, by omega⟩ | exact ⟨1, rfl, by omega⟩ | exact ⟨9, rfl, by omega⟩ | exact ⟨12, rfl, by omega⟩ | exact ⟨0, rfl, by omega⟩
theorem askErr_bd (n : Nat) (x y : Int) (m : Int) : ∃ r : Nat, askErr n x y m = r ∧ r < 1000 := by
 unfold askErr
 repeat' split
 all_goals first | exact ⟨2, rfl, by omega⟩ | exact ⟨1, rfl, by omega⟩ | exact ⟨9, rfl, by omega⟩ | exact ⟨12, rfl, by omega⟩ | exact ⟨0, rfl, by omega⟩
theorem cmdA_err (c : List UInt8) : ErrP (cmdA c) := by
 have h3 : ∀ k : Int, (Except.error 3 : Except Int (List UInt8)) = .error k → ∃ r : Nat, k = r ∧ r < 1000 := fun k h => by cases h; exact ⟨3, rfl, by omega⟩
 have hask : ∀ f : List E → Nat → Nat → Bool, ErrP (fun l n es => aAsk (f es) l n es) := fun f l n es k h => by
  simp only [aAsk] at h
  split at h
  ·exact h3 k h
  ·split at h
   ·split at h
    ·cases h
    ·cases h; exact ⟨2, rfl, by omega⟩
   ·exact h3 k h
 unfold cmdA
 refine ErrP.ite (hask fun es x y => decide (Conn (ends es) x y)) ?_
 refine ErrP.ite (fun l n es k h => ?_) ?_
 ·simp only [aWays] at h
  split at h
  ·exact h3 k h
  ·split at h
   ·split at h
    ·cases h
    ·obtain ⟨r, hr, hb⟩ := askErr_bd n _ _ 120
     rw [hr] at h
     cases h; exact ⟨r, rfl, hb⟩
   ·exact h3 k h
 refine ErrP.ite (hask twB) ?_
 refine ErrP.ite (fun l n es k h => noNums_err h) ?_
 refine ErrP.ite (fun l n es k h => noNums_err h) ?_
 refine ErrP.ite (fun l n es k h => noNums_err h) ?_
 refine ErrP.ite (fun l n es k h => noNums_err h) ?_
 refine ErrP.ite (fun l n es k h => ?_) ?_
 ·simp only [aNodes] at h
  split at h
  ·exact h3 k h
  ·split at h
   ·split at h
    ·cases h
    ·cases h; exact ⟨2, rfl, by omega⟩
   ·exact h3 k h
 refine ErrP.ite (fun l n es k h => noNums_err h) ?_
 refine ErrP.ite (fun l n es k h => noNums_err h) ?_
 refine ErrP.ite (fun l n es k h => ?_) ?_
 ·simp only [aDrop] at h
  split at h
  ·exact h3 k h
  ·split at h
   ·split at h
    ·cases h
    ·cases h; exact ⟨7, rfl, by omega⟩
   ·exact h3 k h
 refine ErrP.ite (fun l n es k h => noNums_err h) ?_
 refine ErrP.ite (fun l n es k h => noNums_err h) ?_
 refine ErrP.ite (fun l n es k h => noNums_err h) ?_
 refine ErrP.ite (fun l n es k h => ?_) (fun l n es k h => h3 k h)
 simp only [aAdd] at h
 split at h
 ·exact h3 k h
 ·split at h
  ·split at h
   ·cases h
   ·obtain ⟨r, hr, hb⟩ := addErr_bd n es _ _ _
    rw [hr] at h
    cases h; exact ⟨r, rfl, hb⟩
  ·exact h3 k h
def tOk : List UInt8 := [111, 107]
structure Lnd where
 txt : List UInt8
 n : Nat
 es : List E
noncomputable def lineA (l : List UInt8) (n : Nat) (es : List E) : Lnd :=
 match lineW l with
 | [] => ⟨tOk, n, es⟩
 | c :: args => ⟨match (cmdA c args n es).out with | .ok t => t | .error k => tErr ++ Lib.itoa k, (cmdA c args n es).n, (cmdA c args n es).es⟩
def LinePost (Z : Nat) (F : Nat → Prop) (w : World) (db : Nat) (r : Lnd) (e : Ending) (w' : World) : Prop :=
 e = .returned (.string (bstr r.txt)) ∧ (∃ F' xb', DkM Z F' w' db xb' r.n r.es ∧ ∀ k, F' k → F k ∨ w.heap.size ≤ k) ∧ Keep (fun k => F k ∨ k = db) w w'
theorem DkM.aside {Z : Nat} {F : Nat → Prop} {w w' : World} {db xb n X : Nat} {es : List E} (h : DkM Z F w db xb n es) (k : Keep (fun j => j = X) w w') (h1 : ¬ F X) (h2 : X ≠ db) (h3 : Z ≤ X) : DkM Z F w' db xb n es :=
 ⟨h.row.keep k (fun e => h2 e.symm), h.ix.keep k (fun j hF e => h1 (e ▸ hF)), h.nd, fun j hj => Nat.lt_of_lt_of_le (h.lt j hj) k.size, h.ok, h.lok, h.lo, h.ldb, h.lib.keep k (fun j e => by rw [e]; exact h3)⟩
theorem line_done {Z : Nat} {F : Nat → Prop} {w w2 w3 w4 : World} {db xb n X n' : Nat} {es es' : List E} (hD : DkM Z F w db xb n es) (hk : Keep Nb w w2) (hX : w.heap.size ≤ X) (hX2 : X < w2.heap.size)
  (h : (∃ F' xb', DkM Z F' w3 db xb' n' es' ∧ ∀ k, F' k → F k ∨ w2.heap.size ≤ k) ∧ Keep (fun k => F k ∨ k = db) w2 w3) (ks : Keep (fun j => j = X) w3 w4) :
  (∃ F' xb', DkM Z F' w4 db xb' n' es' ∧ ∀ k, F' k → F k ∨ w.heap.size ≤ k) ∧ Keep (fun k => F k ∨ k = db) w w4 := by
 obtain ⟨⟨F', xb', h1, h2⟩, h3⟩ := h
 have hz := hk.size
 have hdb := hD.row.lt
 have hld := hD.ldb
 refine ⟨⟨F', xb', h1.aside ks (fun e => ?_) (by omega) (by omega), fun k hF => ?_⟩, ((hk.of_nb (F := fun k => F k ∨ k = db)).trans' h3 (fun _ _ e => e) (fun _ _ e => e)).trans' ks (fun _ _ e => e) (fun j hj e => by omega)⟩
 ·rcases h2 X e with e | e
  ·have := hD.lt X e; omega
  ·omega
 ·rcases h2 k hF with e | e
  ·exact .inl e
  ·exact .inr (by omega)
set_option maxRecDepth 100000 in
set_option maxHeartbeats 4000000 in
theorem line_any (Z : Nat) (F : Nat → Prop) (w : World) (db xb n : Nat) (es : List E) (hD : DkM Z F w db xb n es) (l : List UInt8) (hl : l.length ≤ 90000) :
  Calls Tryz.prog 12 #[.pointer (some ⟨db, 0, none⟩), .string (bstr l)] w (LinePost Z F w db (lineA l n es)) := by
 have hmf : ∀ (fn : Fn) (first cap : Array Value) (w : World), (Instr.makeFunc fn first cap).run Tryz.prog w = .ok (.func fn first cap) w := fun _ _ _ _ => rfl
 obtain ⟨w0, hw0⟩ : ∃ w0, w.alloc (.cells #[.string ⟨#[]⟩] 9) = w0 := ⟨_, rfl⟩
 obtain ⟨X, hX⟩ : ∃ X, w.heap.size = X := ⟨_, rfl⟩
 have k0 : Keep Nb w w0 := by rw [← hw0]; exact (Keep.refl Nb w).alloc _
 have hrow : Row w0 X 9 [.string ⟨#[]⟩] := by rw [← hw0, ← hX]; exact Row.new w #[.string ⟨#[]⟩] 9
 have HF := Lib.hid (fields_any w0 l hl)
 have HD := Lib.hid hD
 have HR := Lib.hid hrow
 have HK0 := Lib.hid k0
 clear hD hrow k0
 go_enter_defers Tryz.func12, Tryz.ntmps12
 go_wp2_with fail
 refine HF.out.mono ?_
 rintro e w1 ⟨m, o, rfl, hW, hk1⟩
 have HK1 := Lib.hid (HK0.out.trans hk1)
 have hR1 := HR.out.keep hk1 (fun e => e)
 have x0 := hR1.cell (i := 0) rfl
 have y0 := hR1.frozen 0 none
 have HR1 := Lib.hid hR1
 have HLT : Hid (w.heap.size ≤ X) := Lib.hid (Nat.le_of_eq hX)
 obtain ⟨ws, hws⟩ : ∃ ws, lineW l = ws := ⟨_, rfl⟩
 rw [hws] at hW
 cases ws with
 | nil =>
  have hA : lineA l n es = ⟨tOk, n, es⟩ := by unfold lineA; rw [hws]
  have HA := Lib.hid hA
  have HD1 := Lib.hid (HD.out.still HK1.out)
  obtain rfl : 0 = m := hW.len
  clear hR1 hk1 HF HR hW hws hA hw0 hX
  go_wp2_with fail
  refine leaves_cons (f := 24) (args := #[.pointer (some ⟨X, 0, none⟩)]) (by simp) (by simp [go_sem]) ?_
  refine (line1_idle X _).mono ?_
  rintro e u' w'' ⟨rfl, rfl, rfl⟩
  simp [Leaves, settle, results, Tryz.results12, go_sem]
  have ks : Keep (fun j => j = X) w1 (w1.setCell ⟨X, 0, none⟩ (.string ⟨#[111, 107]⟩)) := (Keep.refl (fun j => j = X) w1).setCell (.inl rfl) _
  have hc := (HR1.out.set (i := 0) (by simp) (.string ⟨#[111, 107]⟩)).cell (i := 0) rfl
  rw [hc]
  refine ⟨_, rfl, ?_⟩
  rw [HA.out]
  exact ⟨rfl, line_done HD.out HK1.out HLT.out HR1.out.lt (HD1.out.same (Keep.refl Nb w1)) ks⟩
 | cons c0 args =>
  obtain rfl : args.length + 1 = m := hW.len
  obtain ⟨g, off, rfl, hrow⟩ := hW.s.at (by omega)
  have dc : w1.cell? ⟨g, off, none⟩ = some (.string (bstr c0)) := hrow 0 _ rfl
  have HW := Lib.hid hW
  have HDo := Lib.hid (ddoes_any w1 db c0 (hW.each c0 (by simp)))
  have hA : lineA l n es = ⟨match (cmdA c0 args n es).out with | .ok t => t | .error k => tErr ++ Lib.itoa k, (cmdA c0 args n es).n, (cmdA c0 args n es).es⟩ := by unfold lineA; rw [hws]
  have HA := Lib.hid hA
  have hnil : ∀ w : World, (binOp BinOp.eql 35 .nilFunc .nilFunc).run Tryz.prog w = .ok (.bool true) w := fun _ => by kernel_rfl
  have hne : ∀ (f : Nat) (w : World), (binOp BinOp.eql 35 (.func (.func f) #[.pointer (some ⟨db, 0, none⟩)] #[]) .nilFunc).run Tryz.prog w = .ok (.bool false) w := fun _ _ => rfl
  clear hW hrow hR1 hk1 HF HR hws hA hw0 hX
  rcases cmd_any db c0 with ⟨hn0, hbad⟩ | ⟨f, hf, heg, hcmd⟩
  ·rw [hn0] at HDo
   have hv : ((none : Option Value).getD .nilFunc) = .nilFunc := rfl
   rw [hv] at HDo
   clear hv hne hn0
   go_wp2_with fail
   refine HDo.out.mono ?_
   rintro e w2 ⟨rfl, hk2⟩
   have HK2 := Lib.hid (HK1.out.trans hk2)
   have HKB := Lib.hid hk2
   clear hk2 HDo
   go_wp2_with fail
   refine (must_err 3 w2 (HD.out.lib.err.keep HK2.out (fun e => e))).mono ?_
   rintro e w3 ⟨rfl, hk3⟩
   refine leaves_cons (f := 24) (args := #[.pointer (some ⟨X, 0, none⟩)]) (by simp) (by simp [go_sem]) ?_
   refine (line1_panic X 3 (by omega) [] (.string ⟨#[]⟩) w3 (HD.out.lib.lib.keep (HK2.out.trans hk3)) ((HR1.out.keep HKB.out (fun e => e)).keep hk3 (fun e => e))).mono ?_
   rintro e u' w4 ⟨rfl, rfl, hc, hk4⟩
   simp [Leaves, settle, results, Tryz.results12, go_sem]
   rw [hc]
   refine ⟨_, rfl, ?_⟩
   rw [HA.out, hbad]
   have hk := HK2.out.trans hk3
   have hX2 := ((HR1.out.keep HKB.out (fun e => e)).keep hk3 (fun e => e)).lt
   exact ⟨rfl, line_done HD.out hk HLT.out hX2 ((HD.out.still hk).same (Keep.refl Nb w3)) hk4⟩
  ·rw [hf] at HDo
   have HC := Lib.hid hcmd
   have HEG := Lib.hid heg
   have hv : ((some (mv db f)).getD .nilFunc) = .func (.func f) #[.pointer (some ⟨db, 0, none⟩)] #[] := rfl
   rw [hv] at HDo
   clear hcmd heg hv hf hnil
   go_wp2_with fail
   refine HDo.out.mono ?_
   rintro e w2 ⟨rfl, hk2⟩
   have HK2 := Lib.hid (HK1.out.trans hk2)
   have HKB := Lib.hid hk2
   clear hk2 HDo
   have heg := HEG.out
   have hR2 := HR1.out.keep HKB.out (fun e => e)
   have x0 := hR2.cell (i := 0) rfl
   have y0 := hR2.frozen 0 none
   have HW2 : Hid (Wds w2 (some ⟨g, off, none⟩) (args.length + 1) (args.length + 1) (c0 :: args)) := Lib.hid ⟨HW.out.s.keep HKB.out, HW.out.len, HW.out.le, HW.out.each⟩
   have HR2 := Lib.hid hR2
   clear hR2
   obtain ⟨q, hq⟩ : ∃ q, args.length = q := ⟨_, rfl⟩
   have HQ := Lib.hid hq
   rw [hq] at HW2
   rw [hq]
   clear hq
   have HNX : Hid (¬ (F X ∨ X = db)) := Lib.hid (fun e => by
    have h1 := HLT.out
    have h2 := HD.out.row.lt
    rcases e with e | e
    ·have := HD.out.lt X e; omega
    ·omega)
   have HLB : Hid (∀ w3, Keep (fun k => F k ∨ k = db) w2 w3 → LibW w3) := Lib.hid (fun w3 k => ((HD.out.lib.keep HK2.out (fun _ e => e.elim)).keep k (fun j hj => by
    rcases hj with h | h
    ·exact HD.out.lo j h
    ·rw [h]; exact HD.out.ldb)).lib)
   have HD2 := Lib.hid (HD.out.still HK2.out)
   obtain ⟨A, hA⟩ : ∃ A, cmdA c0 args n es = A := ⟨_, rfl⟩
   have HE := Lib.hid (cmdA_err c0 args n es)
   rw [hA] at HA HE
   obtain ⟨out, n', es'⟩ := A
   have HCC : Hid (∀ o c, Wds w2 o args.length c args → Calls Tryz.prog f #[.pointer (some ⟨db, 0, none⟩), .slice o args.length c] w2 (DkPost Z F w2 db ⟨out, n', es'⟩)) := Lib.hid (fun o c hW => by
    have := HC.out Z F w2 xb n es HD2.out o args.length c args hW
    rw [hA] at this
    exact this)
   rw [HQ.out] at HCC
   clear HC HEG hA HW x0 y0 dc HK1 HK0 HR1 HKB
   have x0 := HR2.out.cell (i := 0) rfl
   rcases q with _ | q
   all_goals
    go_wp2_with fail
    first
     | refine (HCC.out _ _ ⟨⟨by simp [strs, HQ.out], .inl rfl⟩, HQ.out, Nat.zero_le _, fun x hx => HW2.out.each x (List.mem_cons_of_mem _ hx)⟩).mono ?_
     | refine (HCC.out _ _ ⟨SlR.tail (v := .string (bstr c0)) (l := strs (args.map bstr)) HW2.out.s, HQ.out, by have := HW2.out.le; omega, fun x hx => HW2.out.each x (List.mem_cons_of_mem _ hx)⟩).mono ?_
    rintro e w3 ⟨hS3, hk3, rfl⟩
    have hR3 := HR2.out.keep hk3 HNX.out
    have HP := Lib.hid (And.intro hS3 hk3)
    have HR3 := Lib.hid hR3
    have x3 := hR3.cell (i := 0) rfl
    have y3 := hR3.frozen 0 none
    clear hS3 hR3 heg HCC x0
    cases out with
    | ok t =>
     clear hk3
     simp only
     go_wp2_with fail
     refine leaves_cons (f := 24) (args := #[.pointer (some ⟨X, 0, none⟩)]) (by simp) (by simp [go_sem]) ?_
     refine (line1_idle X _).mono ?_
     rintro e u' w'' ⟨rfl, rfl, rfl⟩
     simp [Leaves, settle, results, Tryz.results12, go_sem]
     have ks : Keep (fun j => j = X) w3 (w3.setCell ⟨X, 0, none⟩ (.string (bstr t))) := (Keep.refl (fun j => j = X) w3).setCell (.inl rfl) _
     have hc := (HR3.out.set (i := 0) (by simp) (.string (bstr t))).cell (i := 0) rfl
     rw [hc]
     refine ⟨_, rfl, ?_⟩
     rw [HA.out]
     exact ⟨rfl, line_done HD.out HK2.out HLT.out HR2.out.lt HP.out ks⟩
    | error k =>
     obtain ⟨r, rfl, hr⟩ := HE.out k rfl
     simp only
     refine leaves_cons (f := 24) (args := #[.pointer (some ⟨X, 0, none⟩)]) (by simp) (by simp [go_sem]) ?_
     refine (line1_panic X r hr [] (.string ⟨#[]⟩) w3 (HLB.out w3 hk3) HR3.out).mono ?_
     rintro e u' w4 ⟨rfl, rfl, hc, hk4⟩
     simp [Leaves, settle, results, Tryz.results12, go_sem]
     rw [hc]
     refine ⟨_, rfl, ?_⟩
     rw [HA.out]
     exact ⟨rfl, line_done HD.out HK2.out HLT.out HR2.out.lt HP.out hk4⟩
end Go.Proofs.YtfglkgkihafcpaaGreatDoor

