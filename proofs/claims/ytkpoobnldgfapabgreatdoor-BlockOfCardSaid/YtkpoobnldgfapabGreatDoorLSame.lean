/- isthmuslaw: same, sames, of lists that are the same. -/
import Derived.Test.YtkpoobnldgfapabGreatDoorA2
import Derived.Deep.LoopGhost
import Derived.Deep.QuietTactic
import Derived.BigQuiet
set_option linter.unusedVariables false
set_option linter.unusedSimpArgs false
namespace Go.Proofs.YtkpoobnldgfapabGreatDoor
open Go.RowKit Pl

set_option maxRecDepth 100000 in
set_option maxHeartbeats 1000000 in
theorem lsame_q (F F' : Nat → Prop) (w : World) (o o' : Option Addr) (n n' c c' : Nat) (l : List Nat) (hS : Sl F w 3 1 o n c (ints l)) (hS' : Sl F' w 3 1 o' n' c' (ints l)) (hn : l.length ≤ 100000) :
    Calls Tryz.prog 15 #[.slice o n c, .slice o' n' c'] w fun e w' => e = .returned (.bool true) ∧ ∃ m, w' = w.drewN m := by
  have e1 : n = l.length := by have := hS.len; simp at this; exact this.symm
  have e2 : n' = l.length := by have := hS'.len; simp at this; exact this.symm
  subst e1
  subst e2
  have HS := Lib.hid hS
  have HS' := Lib.hid hS'
  have hne : ((l.length : Int) != (l.length : Int)) = false := by simp
  clear hS hS'
  go_enter Tryz.func15, Tryz.ntmps15
  go_wp2_with fail
  go_loopg [5] l.length (fun kx s wr => ∃ i : Nat, s = .int .i64 i ∧ i ≤ l.length ∧ l.length - i ≤ kx ∧ Hid (∃ m, wr = w.drewN m))
  case atStart => exact ⟨0, rfl, Nat.zero_le _, by omega, Lib.hid ⟨0, rfl⟩⟩
  case round =>
    obtain ⟨i, rfl, hi, hg, HK⟩ := hrel
    obtain ⟨m, hm⟩ := HK.out
    have HKM := Lib.hid hm
    have hkw : Keep Nb w wr := by rw [hm]; exact (Keep.refl Nb w).drewN m
    by_cases hlt : i < l.length
    · obtain ⟨g, rfl, _, hnc, hrow⟩ := (HS.out.keep hkw (fun _ _ e => e)).pos (by omega)
      obtain ⟨g', rfl, _, hnc', hrow'⟩ := (HS'.out.keep hkw (fun _ _ e => e)).pos (by omega)
      have hy := List.getElem?_eq_getElem hlt
      generalize l[i]'hlt = p at hy
      have d1 := hrow.cell (ints_get hy)
      have d2 := hrow'.cell (ints_get hy)
      clear hy hrow hrow' hm hkw
      go_wp2_with fail
      go_quiet (fail)
      go_wp2_with fail
      go_roundg (l.length - (i + 1))
      case measure => omega
      case rel => exact ⟨i + 1, rfl, by omega, Nat.le_refl _, Lib.hid ⟨m + nq, by rw [HKM.out, World.drewN_drewN]⟩⟩
    · clear hm hkw
      go_wp2_with fail
      go_ret
      exact ⟨rfl, HK.out⟩

/-- One row of a matrix, its header and its numbers. -/
theorem Mat.lat_ {F : Nat → Prop} {w : World} {T e : TypeId} {o : Option Addr} {n c : Nat} {rows : List Rw} {ll : List (List Nat)} (h : Mat F w T e o n c rows ll) {i : Nat} {l : List Nat} (hl : ll[i]? = some l) :
    ∃ (go : Nat) (r : Rw), o = some ⟨go, 0, none⟩ ∧ n ≤ c ∧ w.cell? ⟨go, i, none⟩ = some (.slice r.o r.n r.c) ∧ Sl F w e 1 r.o r.n r.c (ints l) := by
  have hi := (List.getElem?_eq_some_iff.1 hl).1
  obtain ⟨go, h1, h2, h3, h4⟩ := h.out.pos (by rw [h.n_eq]; omega)
  obtain ⟨r, hr⟩ : ∃ r, rows[i]? = some r := ⟨_, List.getElem?_eq_getElem (by rw [h.len]; exact hi)⟩
  exact ⟨go, r, h1, h3, h4.cell (i := i) (v := r.val) (by simp [hr]), h.row i r l hr hl⟩

set_option maxRecDepth 100000 in
set_option maxHeartbeats 1000000 in
theorem lsames_q (F F' : Nat → Prop) (w : World) (o o' : Option Addr) (n n' c c' : Nat) (rows rows' : List Rw) (ll : List (List Nat)) (hS : Mat F w 33 3 o n c rows ll) (hS' : Mat F' w 33 3 o' n' c' rows' ll) (hn : ll.length ≤ 100000) (hl : ∀ l, l ∈ ll → l.length ≤ 100000) :
    Calls Tryz.prog 21 #[.slice o n c, .slice o' n' c'] w fun e w' => e = .returned (.bool true) ∧ ∃ m, w' = w.drewN m := by
  have e1 : n = ll.length := hS.n_eq
  have e2 : n' = ll.length := hS'.n_eq
  subst e1
  subst e2
  have HS := Lib.hid hS
  have HS' := Lib.hid hS'
  have HL := Lib.hid hl
  have hne : ((ll.length : Int) != (ll.length : Int)) = false := by simp
  clear hS hS' hl
  go_enter Tryz.func21, Tryz.ntmps21
  go_wp2_with fail
  go_loopg [5] ll.length (fun kx s wr => ∃ i : Nat, s = .int .i64 i ∧ i ≤ ll.length ∧ ll.length - i ≤ kx ∧ Hid (∃ m, wr = w.drewN m))
  case atStart => exact ⟨0, rfl, Nat.zero_le _, by omega, Lib.hid ⟨0, rfl⟩⟩
  case round =>
    obtain ⟨i, rfl, hi, hg, HK⟩ := hrel
    obtain ⟨m, hm⟩ := HK.out
    have HKM := Lib.hid hm
    have hkw : Keep Nb w wr := by rw [hm]; exact (Keep.refl Nb w).drewN m
    by_cases hlt : i < ll.length
    · have hy := List.getElem?_eq_getElem hlt
      have hmem := List.getElem_mem hlt
      generalize ll[i]'hlt = p at hy hmem
      have hp := HL.out p hmem
      obtain ⟨go, r, rfl, hnc, d1, hr⟩ := (HS.out.keep hkw (fun _ _ e => e)).lat_ hy
      obtain ⟨go', r', rfl, hnc', d2, hr'⟩ := (HS'.out.keep hkw (fun _ _ e => e)).lat_ hy
      have HQ : Hid (∀ q, Calls Tryz.prog 15 #[.slice r.o r.n r.c, .slice r'.o r'.n r'.c] (wr.drewN q) fun e w' => e = .returned (.bool true) ∧ ∃ m, w' = (wr.drewN q).drewN m) := Lib.hid (fun q =>
        lsame_q F F' _ r.o r'.o r.n r'.n r.c r'.c p (hr.keep ((Keep.refl Nb wr).drewN q) (fun _ _ e => e)) (hr'.keep ((Keep.refl Nb wr).drewN q) (fun _ _ e => e)) hp)
      clear hy hr hr' hm hkw hmem hp
      go_wp2_with fail
      go_quiet ((go_at_call 15; exact Calls.quiet_of (HQ.out _)))
      go_wp2_with fail
      go_roundg (ll.length - (i + 1))
      case measure => omega
      case rel => exact ⟨i + 1, rfl, by omega, Nat.le_refl _, Lib.hid ⟨m + nq, by rw [HKM.out, World.drewN_drewN]⟩⟩
    · clear hm hkw
      go_wp2_with fail
      go_ret
      exact ⟨rfl, HK.out⟩

end Go.Proofs.YtkpoobnldgfapabGreatDoor
