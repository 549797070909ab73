/- sets: Least, Size, Same, Many. -/
import Derived.Test.YtkpoobnldgfapaaSets3
import Derived.Deep.RegionWith
namespace Go.Proofs.Ytkpoobnldgfapaa
open Go.RowKit Pl

theorem SetsMem.lowCell {F : Nat → Prop} {w : World} {b n : Nat} {up size low : Nat → Nat} {many : Nat} {ou os : Option Addr} {g : Nat} {cu cs cl : Nat} (h : SetsMem F w b n up size low many ou os (some ⟨g, 0, none⟩) cu cs cl) {r : Nat} (hr : r < n) :
    w.cell? ⟨g, r, none⟩ = some (.int .i64 (low r)) := by
  obtain ⟨g', e, _, _, hrow⟩ := h.l.pos (by omega)
  obtain rfl : g = g' := by simpa using e
  exact hrow.cell (fints_get low hr)

theorem SetsMem.sizeCell {F : Nat → Prop} {w : World} {b n : Nat} {up size low : Nat → Nat} {many : Nat} {ou ol : Option Addr} {g : Nat} {cu cs cl : Nat} (h : SetsMem F w b n up size low many ou (some ⟨g, 0, none⟩) ol cu cs cl) {r : Nat} (hr : r < n) :
    w.cell? ⟨g, r, none⟩ = some (.int .i64 (size r)) := by
  obtain ⟨g', e, _, _, hrow⟩ := h.s.pos (by omega)
  obtain rfl : g = g' := by simpa using e
  exact hrow.cell (fints_get size hr)

theorem read_fin {F : Nat → Prop} {w w1 w2 : World} {o : Obj} {b n : Nat} {up size low : Nat → Nat} {many : Nat} {ou os ol : Option Addr} {cu cs cl : Nat} {L : Nat → Nat} {p q : Nat}
    (h1 : Keep Nb (w.alloc o) w1) (h2 : Keep F w1.drew w2) (hM : SetsMem F w2 b n up size low many ou os ol cu cs cl) (hI : SetsInv n up size low many L) (hn : n ≤ 40) (he : p = q) :
    p = q ∧ Sets F w2 b n L ∧ Keep F w w2 :=
  ⟨he, ⟨_, _, _, _, _, _, _, _, _, _, hM, hI, hn⟩, ((((Keep.refl F w).alloc o).trans h1.of_nb).drew).trans h2⟩

def ReadPost (F : Nat → Prop) (w : World) (b n : Nat) (L : Nat → Nat) (v : Value) (e : Ending) (w' : World) : Prop :=
  e = .returned v ∧ Sets F w' b n L ∧ Keep F w w'

set_option maxHeartbeats 400000 in
theorem least_any (F : Nat → Prop) (w : World) (b n : Nat) (L : Nat → Nat) (x : Nat) (hx : x < n) (hS : Sets F w b n L) :
    Calls Try.prog 16 #[.pointer (some ⟨b, 0, none⟩), .int .i64 x] w (ReadPost F w b n L (.tuple #[.int .i64 (L x), .nilIface])) := by
  obtain ⟨up, size, low, many, ou, os, ol, cu, cs, cl, hM, hI, hn⟩ := hS
  have hc0 := hM.head.cell (i := 0) rfl
  have hb := hM.head.lt
  have hca : (w.alloc (.cells #[.int .i64 x] 3)).cell? ⟨b, 0, none⟩ = some (.slice ou n cu) := by rw [World.cell?_alloc_past _ _ _ hb]; exact hc0
  have hg2 := Lib.hid (one_get (w := w) (T := 3) [(x : Int)] rfl)
  have hin : ∀ z ∈ [(x : Int)], outB n z = false := by
    intro z hz
    simp at hz
    rw [hz]; exact outB_false.2 (by omega)
  have Hin := Lib.hid hin
  clear hin hc0
  go_enter Try.func16, Try.ntmps16
  go_wp2_with fail
  refine (right_yes _ b n cu ou _ [(x : Int)] 1 1 rfl (by omega) hn hca hg2.out Hin.out).mono ?_
  rintro e w1 ⟨rfl, hk1⟩
  have hM1 := (hM.alloc (.cells #[.int .i64 x] 3)).keep hk1 (fun _ _ h => h)
  clear hca
  have HK1 := Lib.hid hk1
  clear hk1
  obtain ⟨gl, hol, hFl, hcl', hrl⟩ := hM1.l.pos (by omega)
  subst hol
  have hc2 := hM1.head.cell (i := 2) rfl
  go_wp2_with fail
  go_region_with (go_at_call 52; refine (root_any F _ b n up size low many ou os _ cu cs cl L x hx hn hM1.drew hI).mono ?_; rintro e w2 ⟨r1, k1, up1, rfl, hr1, hR1, hM2, hI2, hS2, hk2⟩; have hc2' := hM2.head.cell (i := 2) rfl; have hcl2 := hM2.lowCell hr1; have HF := Lib.hid (read_fin HK1.out hk2 hM2 hI2 hn (hI.lab _ _ _ hx hR1)); clear hk2 hM2 hI2 hS2 hR1)
  all_goals (go_wp2_with fail)
  all_goals
    go_ret2
    exact ⟨by rw [← HF.out.1]; rfl, HF.out.2⟩

set_option maxHeartbeats 400000 in
theorem size_any (F : Nat → Prop) (w : World) (b n : Nat) (L : Nat → Nat) (x : Nat) (hx : x < n) (hS : Sets F w b n L) :
    Calls Try.prog 17 #[.pointer (some ⟨b, 0, none⟩), .int .i64 x] w (ReadPost F w b n L (.tuple #[.int .i64 (cnt n (fun z => decide (L z = L x)) : Nat), .nilIface])) := by
  obtain ⟨up, size, low, many, ou, os, ol, cu, cs, cl, hM, hI, hn⟩ := hS
  have hc0 := hM.head.cell (i := 0) rfl
  have hb := hM.head.lt
  have hca : (w.alloc (.cells #[.int .i64 x] 3)).cell? ⟨b, 0, none⟩ = some (.slice ou n cu) := by rw [World.cell?_alloc_past _ _ _ hb]; exact hc0
  have hg2 := Lib.hid (one_get (w := w) (T := 3) [(x : Int)] rfl)
  have hin : ∀ z ∈ [(x : Int)], outB n z = false := by
    intro z hz
    simp at hz
    rw [hz]; exact outB_false.2 (by omega)
  have Hin := Lib.hid hin
  clear hin hc0
  go_enter Try.func17, Try.ntmps17
  go_wp2_with fail
  refine (right_yes _ b n cu ou _ [(x : Int)] 1 1 rfl (by omega) hn hca hg2.out Hin.out).mono ?_
  rintro e w1 ⟨rfl, hk1⟩
  have hM1 := (hM.alloc (.cells #[.int .i64 x] 3)).keep hk1 (fun _ _ h => h)
  clear hca
  have HK1 := Lib.hid hk1
  clear hk1
  obtain ⟨gs, hos, hFs, hcs', hrs⟩ := hM1.s.pos (by omega)
  subst hos
  have hc1 := hM1.head.cell (i := 1) rfl
  go_wp2_with fail
  go_region_with (go_at_call 52; refine (root_any F _ b n up size low many ou _ ol cu cs cl L x hx hn hM1.drew hI).mono ?_; rintro e w2 ⟨r1, k1, up1, rfl, hr1, hR1, hM2, hI2, hS2, hk2⟩; have hc1' := hM2.head.cell (i := 1) rfl; have hcs2 := hM2.sizeCell hr1; have HF := Lib.hid (read_fin HK1.out hk2 hM2 hI2 hn (hI.siz _ _ _ hx hR1)); clear hk2 hM2 hI2 hS2 hR1)
  all_goals (go_wp2_with fail)
  all_goals
    go_ret2
    exact ⟨by rw [← HF.out.1]; rfl, HF.out.2⟩

theorem sets_fin {F : Nat → Prop} {w w1 w2 w3 : World} {o : Obj} {b n : Nat} {up size low : Nat → Nat} {many : Nat} {ou os ol : Option Addr} {cu cs cl : Nat} {L : Nat → Nat}
    (h1 : Keep Nb (w.alloc o) w1) (h2 : Keep F w1 w2) (h3 : Keep F w2 w3) (hM : SetsMem F w3 b n up size low many ou os ol cu cs cl) (hI : SetsInv n up size low many L) (hn : n ≤ 40) :
    Sets F w3 b n L ∧ Keep F w w3 :=
  ⟨⟨_, _, _, _, _, _, _, _, _, _, hM, hI, hn⟩, (((Keep.refl F w).alloc o).trans h1.of_nb).trans (h2.trans h3)⟩

set_option maxHeartbeats 400000 in
theorem same_any (F : Nat → Prop) (w : World) (b n : Nat) (L : Nat → Nat) (x y : Nat) (hx : x < n) (hy : y < n) (hS : Sets F w b n L) :
    Calls Try.prog 69 #[.pointer (some ⟨b, 0, none⟩), .int .i64 x, .int .i64 y] w (ReadPost F w b n L (.tuple #[.bool (decide (L x = L y)), .nilIface])) := by
  obtain ⟨up, size, low, many, ou, os, ol, cu, cs, cl, hM, hI, hn⟩ := hS
  have hc0 := hM.head.cell (i := 0) rfl
  have hb := hM.head.lt
  have hca : (w.alloc (.cells #[.int .i64 x, .int .i64 y] 3)).cell? ⟨b, 0, none⟩ = some (.slice ou n cu) := by rw [World.cell?_alloc_past _ _ _ hb]; exact hc0
  have hg2 := Lib.hid (two_get (w := w) (T := 3) [(x : Int), (y : Int)] rfl)
  have hin : ∀ z ∈ [(x : Int), (y : Int)], outB n z = false := by
    intro z hz
    simp at hz
    rcases hz with rfl | rfl <;> exact outB_false.2 (by omega)
  have Hin := Lib.hid hin
  clear hin hc0
  go_enter Try.func69, Try.ntmps69
  go_wp2_with fail
  refine (right_yes _ b n cu ou _ [(x : Int), (y : Int)] 2 2 rfl (Nat.le_refl _) hn hca hg2.out Hin.out).mono ?_
  rintro e w1 ⟨rfl, hk1⟩
  have hM1 := (hM.alloc (.cells #[.int .i64 x, .int .i64 y] 3)).keep hk1 (fun _ _ h => h)
  clear hca
  have HK1 := Lib.hid hk1
  clear hk1
  go_wp2_with fail
  refine (root_any F _ b n up size low many ou os ol cu cs cl L x hx hn hM1 hI).mono ?_
  rintro e w2 ⟨r1, k1, up1, rfl, hr1, hR1, hM2, hI2, hS2, hk2⟩
  have HK2 := Lib.hid hk2
  have HR1 := Lib.hid hR1
  clear hk2 hR1
  go_wp2_with fail
  refine (root_any F _ b n up1 size low many ou os ol cu cs cl L y hy hn hM2 hI2).mono ?_
  rintro e w3 ⟨r2, k2, up2, rfl, hr2, hR2, hM3, hI3, hS3, hk3⟩
  obtain ⟨k0, hR0⟩ := hS2 _ _ _ hx HR1.out
  have hiff : ((r1 : Int) == (r2 : Int)) = decide (L x = L y) := by
    rw [Bool.eq_iff_iff]
    simp only [beq_iff_eq, decide_eq_true_eq]
    have e1 := hI2.lab _ _ _ hx hR0
    have e2 := hI2.lab _ _ _ hy hR2
    constructor
    · intro h
      have h' : r1 = r2 := by omega
      rw [← e1, ← e2, h']
    · intro h
      have := hI2.sep _ _ _ _ _ _ hx hy hR0 hR2 h
      rw [this]
  have HF := Lib.hid (sets_fin HK1.out HK2.out hk3 hM3 hI3 hn)
  have HI := Lib.hid hiff
  clear hiff hR0 hk3 hR2
  go_wp2_with fail
  go_ret2
  exact ⟨by rw [HI.out]; rfl, HF.out⟩

theorem many_any (F : Nat → Prop) (w : World) (b n : Nat) (L : Nat → Nat) (hS : Sets F w b n L) :
    Calls Try.prog 14 #[.pointer (some ⟨b, 0, none⟩)] w fun e w' => e = .returned (.int .i64 (cnt n (isRoot L) : Nat)) ∧ w = w' := by
  obtain ⟨up, size, low, many, ou, os, ol, cu, cs, cl, hM, hI, hn⟩ := hS
  have hc3 := hM.head.cell (i := 3) rfl
  have hm := Lib.hid hI.man
  go_enter Try.func14, Try.ntmps14
  go_wp2_with fail
  go_ret
  exact ⟨by rw [hm.out]; rfl, rfl⟩

end Go.Proofs.Ytkpoobnldgfapaa
