/- Part 14 of the proof: BOf. -/
import Derived.Test.YtfglkgkihafcpaaGreatDoorDp13
set_option linter.unusedVariables false
set_option linter.unusedSimpArgs false
namespace Go.Proofs.YtfglkgkihafcpaaGreatDoor
open Go.RowKit Pl Go.Maps
set_option maxRecDepth 100000 in
set_option maxHeartbeats 1000000 in
theorem bofZ_any (F : Nat → Prop) (w : World) (b n : Nat) (es : List E) (hG : Gr F w b n es) (hn : n ≤ 40) (hl : es.length ≤ 1000) (ho : EOk n es) :
  Calls Tryz.prog 48 #[.pointer (some ⟨b, 0, none⟩)] w (BOfPost w n es) := by
 have HG := Lib.hid hG
 have HO := Lib.hid ho
 clear hG ho
 go_enter Tryz.func48, Tryz.ntmps48
 go_wp2_with fail
 refine (nodes_any F w b n es HG.out).mono ?_
 rintro e1 w0 ⟨rfl, rfl⟩
 go_wp2_with fail
 refine (bnew_any n hn _).mono ?_
 rintro e1 w1 ⟨s, rfl, hS1, hk1⟩
 have HS1 := Lib.hid hS1
 have HK1 := Lib.hid hk1
 clear hS1 hk1
 go_wp2_with fail
 refine (edges_any F w1 b n es (HG.out.keep HK1.out (fun _ _ h => h)) hl).mono ?_
 rintro e1 w2 ⟨o2, c2, rfl, hS2, hk2⟩
 have HS2 := Lib.hid hS2
 have HK2 := Lib.hid hk2
 clear hS2 hk2
 go_wp2_with fail
 go_loopg [16] es.length (fun kx s16 wr => ∃ i : Nat, s16 = .int .i64 i ∧ i ≤ es.length ∧ es.length - i ≤ kx ∧ Hid (Brs (fun k => w0.heap.size ≤ k ∧ k < w1.heap.size) wr s n (es.take i) ∧ Keep (fun k => w0.heap.size ≤ k ∧ k < w1.heap.size) w2 wr))
 case atStart => exact ⟨0, rfl, Nat.zero_le _, by omega, Lib.hid ⟨HS1.out.keep HK2.out (fun _ _ h => h), Keep.refl _ w2⟩⟩
 case round =>
  obtain ⟨i, rfl, hi, hg, HR⟩ := hrel
  have hz1 := HK1.out.size
  have hz2 := HK2.out.size
  by_cases hlt : i < es.length
  ·obtain ⟨g, rfl, hFg, hnc, hrow⟩ := HS2.out.pos (by omega)
   have hy := List.getElem?_eq_getElem hlt
   generalize es[i]'hlt = e at hy
   have hEr := hrow.edges.keep HR.out.2 (fun h => by have := h.2; omega)
   have d1 := hEr.id _ _ hy
   have d2 := hEr.a _ _ hy
   have d3 := hEr.b _ _ hy
   have HY := Lib.hid hy
   have hem := List.mem_of_getElem? hy
   have HOe := Lib.hid (HO.out.over e hem)
   have HNe := Lib.hid (HO.out.ne e hem)
   have HSe := Lib.hid (HO.out.small e hem)
   have HFr : Hid (∀ f, f ∈ es.take i → f.id ≠ e.id) := Lib.hid (fun f hf => by
    obtain ⟨j, hj, hfj⟩ := mem_take_get hf
    have := HO.out.sorted.lt hfj HY.out hj
    omega)
   have hwz := HR.out.2.size
   clear hy hrow hEr hem
   go_wp2_with fail
   refine (badd_any (fun k => w0.heap.size ≤ k ∧ k < w1.heap.size) _ s n (es.take i) e.id e.a e.b HOe.out.1 HOe.out.2 HNe.out HFr.out HSe.out (HR.out.1.keep ((Keep.refl Nb wr).alloc _) (fun _ _ h => h)) (fun k hk => by simp only [World.size_alloc]; omega)).mono ?_
   rintro e1 w3 ⟨rfl, hj, hk3⟩
   have HN : Hid (Brs (fun k => w0.heap.size ≤ k ∧ k < w1.heap.size) w3 s n (es.take (i + 1)) ∧ Keep (fun k => w0.heap.size ≤ k ∧ k < w1.heap.size) w2 w3) := Lib.hid ⟨by
    rw [take_snoc' HY.out]; exact hj, (HR.out.2.alloc _).trans hk3⟩
   clear hj hk3
   go_wp2_with fail
   go_roundg (es.length - (i + 1))
   case measure => omega
   case rel => exact ⟨i + 1, rfl, by omega, Nat.le_refl _, HN⟩
  ·obtain rfl : i = es.length := by omega
   have HP : Hid (BOfPost w0 n es (.returned (.pointer (some ⟨s, 0, none⟩))) wr) := Lib.hid (by
    obtain ⟨h1, h2⟩ := HR.out
    rw [List.take_length] at h1
    have := h2.size
    exact ⟨s, rfl, h1.mono (fun k hk => by omega), (HK1.out.trans HK2.out).trans' h2 (fun _ _ h => h) (fun k hk h => by omega)⟩)
   clear HR
   go_wp2_with fail
   go_ret
   exact HP.out
end Go.Proofs.YtfglkgkihafcpaaGreatDoor

