/- sets: Join. -/
import Derived.Test.YtkpoobnldgfapaaSets2
import Derived.Deep.QuietTactic
import Derived.BigQuiet
namespace Go.Proofs.Ytkpoobnldgfapaa
open Go.RowKit Pl

theorem two_get {w : World} {a b : Value} {T : TypeId} (l : List Int) (hl : l.map (Value.int .i64) = [a, b]) :
    ∀ i x, l[i]? = some x → (w.alloc (.cells #[a, b] T)).cell? ⟨w.heap.size, i, none⟩ = some (.int .i64 x) := by
  intro i x hi
  have h : (l.map (Value.int .i64))[i]? = some (.int .i64 x) := by simp [hi]
  rw [hl] at h
  rw [World.cell?_alloc_at _ _ _ _ rfl]
  simpa using h

theorem one_get {w : World} {a : Value} {T : TypeId} (l : List Int) (hl : l.map (Value.int .i64) = [a]) :
    ∀ i x, l[i]? = some x → (w.alloc (.cells #[a] T)).cell? ⟨w.heap.size, i, none⟩ = some (.int .i64 x) := by
  intro i x hi
  have h : (l.map (Value.int .i64))[i]? = some (.int .i64 x) := by simp [hi]
  rw [hl] at h
  rw [World.cell?_alloc_at _ _ _ _ rfl]
  simpa using h

/-- The memory and what it means. -/
def Sets (F : Nat → Prop) (w : World) (b n : Nat) (L : Nat → Nat) : Prop :=
  ∃ (up size low : Nat → Nat) (many : Nat) (ou os ol : Option Addr) (cu cs cl : Nat), SetsMem F w b n up size low many ou os ol cu cs cl ∧ SetsInv n up size low many L ∧ n ≤ 40

def JoinPost (F : Nat → Prop) (w : World) (b n : Nat) (L : Nat → Nat) (x y : Nat) (e : Ending) (w' : World) : Prop :=
  e = .returned (.tuple #[.bool (decide (L x ≠ L y)), .nilIface]) ∧ Sets F w' b n (joinL L x y) ∧ Keep F w w'

theorem join_post_comm (F : Nat → Prop) (w : World) (b n : Nat) (L : Nat → Nat) (x y : Nat) (e : Ending) (w' : World) (h : JoinPost F w b n L y x e w') : JoinPost F w b n L x y e w' := by
  obtain ⟨h1, h2, h3⟩ := h
  refine ⟨?_, ?_, h3⟩
  · rw [h1]
    have : decide (L y ≠ L x) = decide (L x ≠ L y) := by simp [eq_comm]
    rw [this]
  · rw [joinL_comm]; exact h2

theorem join_close (F : Nat → Prop) (w w3 : World) (b n gu gs gl cu cs cl : Nat) (up size low : Nat → Nat) (many : Nat) (L : Nat → Nat) (x y p q k1 k2 : Nat) (hx : x < n) (hy : y < n) (hp : p < n) (hq : q < n) (hn : n ≤ 40)
    (hM : SetsMem F w3 b n up size low many (some ⟨gu, 0, none⟩) (some ⟨gs, 0, none⟩) (some ⟨gl, 0, none⟩) cu cs cl) (hI : SetsInv n up size low many L)
    (hR1 : Root up x p k1) (hR2 : Root up y q k2) (hne : p ≠ q) (hK : Keep F w w3) (nq m : Nat) (hm : m = min (low p) (low q)) :
    JoinPost F w b n L x y (.returned (.tuple #[.bool true, .nilIface]))
      (((((w3.drewN nq).setCell ⟨gu, q, none⟩ (.int .i64 p)).setCell ⟨gs, p, none⟩ (.int .i64 ((size p : Int) + (size q : Int)))).setCell ⟨gl, p, none⟩ (.int .i64 m)).setCell ⟨b, 3, none⟩ (.int .i64 ((many : Int) - 1))).drew.drew := by
  obtain ⟨hI', hm1, hL⟩ := hI.link hx hy hR1 hR2 hne
  have e1 : ((size p : Int) + (size q : Int)) = ((size p + size q : Nat) : Int) := by omega
  have e2 : ((many : Int) - 1) = ((many - 1 : Nat) : Int) := by omega
  rw [e1, e2]
  have hM0 : SetsMem F (w3.drewN nq) b n up size low many (some ⟨gu, 0, none⟩) (some ⟨gs, 0, none⟩) (some ⟨gl, 0, none⟩) cu cs cl := hM.of_heap (fun _ _ _ => rfl)
  have hMm := (((hM0.setUp rfl hq p).setSize rfl hp (size p + size q)).setLow rfl hp m).setMany (many - 1)
  subst hm
  have hFu := hM.u.foot _ rfl
  have hFs := hM.s.foot _ rfl
  have hFl := hM.l.foot _ rfl
  have k1 := (hK.drewN nq).setCell (p := ⟨gu, q, none⟩) (.inl hFu) (.int .i64 p)
  have k2 := k1.setCell (p := ⟨gs, p, none⟩) (.inl hFs) (.int .i64 (size p + size q : Nat))
  have k3 := k2.setCell (p := ⟨gl, p, none⟩) (.inl hFl) (.int .i64 (min (low p) (low q) : Nat))
  have k4 := k3.setCell (p := ⟨b, 3, none⟩) (.inl hM.hb) (.int .i64 (many - 1 : Nat))
  refine ⟨by simp [hL], ⟨upd up q p, upd size p (size p + size q), upd low p (min (low p) (low q)), many - 1, some ⟨gu, 0, none⟩, some ⟨gs, 0, none⟩, some ⟨gl, 0, none⟩, cu, cs, cl, ?_, hI', hn⟩, ?_⟩
  · exact hMm.drew.drew
  · exact k4.drew.drew

set_option maxHeartbeats 1000000 in
theorem join_any (F : Nat → Prop) (w : World) (b n : Nat) (L : Nat → Nat) (x y : Nat) (hx : x < n) (hy : y < n) (hS : Sets F w b n L) :
    Calls Try.prog 13 #[.pointer (some ⟨b, 0, none⟩), .int .i64 x, .int .i64 y] w (JoinPost F w b n L x y) := by
  obtain ⟨up, size, low, many, ou, os, ol, cu, cs, cl, hM, hI, hn⟩ := hS
  have hc0 := hM.head.cell (i := 0) rfl
  have hb := hM.head.lt
  have hca : (w.alloc (.cells #[.int .i64 x, .int .i64 y] 3)).cell? ⟨b, 0, none⟩ = some (.slice ou n cu) := by rw [World.cell?_alloc_past _ _ _ hb]; exact hc0
  have hg2 := Lib.hid (two_get (w := w) (T := 3) [(x : Int), (y : Int)] rfl)
  have hin : ∀ z ∈ [(x : Int), (y : Int)], outB n z = false := by
    intro z hz
    simp at hz
    rcases hz with rfl | rfl <;> exact outB_false.2 (by omega)
  have Hin := Lib.hid hin
  clear hin hc0
  go_enter Try.func13, Try.ntmps13
  go_wp2_with fail
  refine (right_yes _ b n cu ou _ [(x : Int), (y : Int)] 2 2 rfl (Nat.le_refl _) hn hca hg2.out Hin.out).mono ?_
  rintro e w1 ⟨rfl, hk1⟩
  have hM1 := (hM.alloc (.cells #[.int .i64 x, .int .i64 y] 3)).keep hk1 (fun _ _ h => h)
  clear hca
  have HK1 := Lib.hid hk1
  clear hk1
  go_wp2_with fail
  refine (root_any F _ b n up size low many ou os ol cu cs cl L x hx hn hM1 hI).mono ?_
  rintro e w2 ⟨r1, k1, up1, rfl, hr1, hR1, hM2, hI2, hS2, hk2⟩
  have HK2 := Lib.hid hk2
  have HR1 := Lib.hid hR1
  clear hk2 hR1
  go_wp2_with fail
  refine (root_any F _ b n up1 size low many ou os ol cu cs cl L y hy hn hM2 hI2).mono ?_
  rintro e w3 ⟨r2, k2, up2, rfl, hr2, hR2, hM3, hI3, hS3, hk3⟩
  obtain ⟨k0, hR0⟩ := hS2 _ _ _ hx HR1.out
  obtain ⟨k1', hR1'⟩ := hS3 _ _ _ hx hR0
  obtain ⟨k2', hR2'⟩ := hS3 _ _ _ hy hR2
  have hKK : Keep F w w3 := (((Keep.refl F w).alloc _).trans HK1.out.of_nb).trans (HK2.out.trans hk3)
  by_cases hrr : r1 = r2
  · have hLL : L x = L y := by rw [← hI3.lab _ _ _ hx hR1', ← hI3.lab _ _ _ hy hR2', hrr]
    have hfin : JoinPost F w b n L x y (.returned (.tuple #[.bool false, .nilIface])) w3 := by
      refine ⟨by simp [hLL], ?_, hKK⟩
      rw [joinL_same hLL]
      exact ⟨up2, size, low, many, ou, os, ol, cu, cs, cl, hM3, hI3, hn⟩
    have HF := Lib.hid hfin
    have hbe : ((r1 : Int) == (r2 : Int)) = true := by simp [hrr]
    clear hfin hLL hrr hKK hR0 hR1' hR2' hR2 hk3
    go_wp2_with fail
    go_ret2
    exact HF.out
  · have hbe : ((r1 : Int) == (r2 : Int)) = false := by simp; omega
    obtain ⟨gu, hou, hFu, hcu', hru⟩ := hM3.u.pos (by omega)
    obtain ⟨gs, hos, hFs, hcs', hrs⟩ := hM3.s.pos (by omega)
    obtain ⟨gl, hol, hFl, hcl', hrl⟩ := hM3.l.pos (by omega)
    subst hou hos hol
    have hc0 := hM3.head.cell (i := 0) rfl
    have hc1 := hM3.head.cell (i := 1) rfl
    have hc2 := hM3.head.cell (i := 2) rfl
    have hc3 := hM3.head.cell (i := 3) rfl
    have hs1 := hrs.cell (fints_get size hr1)
    have hs2 := hrs.cell (fints_get size hr2)
    have hl1 := hrl.cell (fints_get low hr1)
    have hl2 := hrl.cell (fints_get low hr2)
    have hu1 := hru.cell (fints_get up2 hr1)
    have hu2 := hru.cell (fints_get up2 hr2)
    have f1 := hru.frozen r1 none
    have f2 := hru.frozen r2 none
    have f3 := hrs.frozen r1 none
    have f4 := hrs.frozen r2 none
    have f5 := hrl.frozen r1 none
    have f6 := hrl.frozen r2 none
    have f7 := hM3.head.frozen 3 none
    have d1 : gu ≠ b := hM3.du _ rfl
    have d2 : gs ≠ b := hM3.ds _ rfl
    have d3 : gl ≠ b := hM3.dl _ rfl
    have d4 : gu ≠ gs := hM3.dus _ _ rfl rfl
    have d5 : gu ≠ gl := hM3.dul _ _ rfl rfl
    have d6 : gs ≠ gl := hM3.dsl _ _ rfl rfl
    have d1' := d1.symm
    have d2' := d2.symm
    have d3' := d3.symm
    have d4' := d4.symm
    have d5' := d5.symm
    have d6' := d6.symm
    have hLne : L x ≠ L y := (hI3.link hx hy hR1' hR2' hrr).2.2
    have hmany := (hI3.link hx hy hR1' hR2' hrr).2.1
    have b1 : size r1 ≤ n := by rw [hI3.siz _ _ _ hx hR1']; exact cnt_le _ _
    have b2 : size r2 ≤ n := by rw [hI3.siz _ _ _ hy hR2']; exact cnt_le _ _
    have b3 : many ≤ n := by rw [hI3.man]; exact cnt_le _ _
    have H1 := Lib.hid hR1'
    have H2 := Lib.hid hR2'
    have H3 := Lib.hid hKK
    have H4 := Lib.hid hrr
    clear hR1' hR2' hKK hrr hR0 hR2 hk3 hru hrs hrl
    have hv1 := Lib.hid (join_close F w w3 b n gu gs gl cu cs cl up2 size low many L x y r1 r2 k1' k2' hx hy hr1 hr2 hn hM3 hI3 H1.out H2.out H4.out H3.out)
    have hv2 := Lib.hid (join_close F w w3 b n gu gs gl cu cs cl up2 size low many L y x r2 r1 k2' k1' hy hx hr2 hr1 hn hM3 hI3 H2.out H1.out (fun e => H4.out e.symm) H3.out)
    have hcm := Lib.hid (join_post_comm F w b n L x y)
    by_cases hlt : size r1 < size r2
    · have hltb : decide ((size r1 : Int) < (size r2 : Int)) = true := by simpa using hlt
      go_wp2_with fail
      go_quiet (fail)
      go_wp2_with fail
      go_region
      go_wp2_with fail
      go_region
      all_goals (go_wp2_with fail)
      all_goals
        go_ret2
        exact hcm.out _ _ (hv2.out _ _ (by omega))
    · have hltb : decide ((size r1 : Int) < (size r2 : Int)) = false := by simpa using hlt
      go_wp2_with fail
      go_quiet (fail)
      go_wp2_with fail
      go_region
      go_wp2_with fail
      go_region
      all_goals (go_wp2_with fail)
      all_goals
        go_ret2
        exact hv1.out _ _ (by omega)

end Go.Proofs.Ytkpoobnldgfapaa
