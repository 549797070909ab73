/- cycle: Covered and Alike of a number that is not there. -/
import Derived.Test.YtkpoobnldgfapabGreatDoorC2
import Derived.Test.YtkpoobnldgfapabGreatDoorGEdge
set_option linter.unusedVariables false
set_option linter.unusedSimpArgs false
namespace Go.Proofs.YtkpoobnldgfapabGreatDoor
open Go.RowKit Pl Go.Maps

set_option maxRecDepth 100000 in
set_option maxHeartbeats 1000000 in
theorem ccovered_miss (F Fg : Nat → Prop) (w : World) (c gb n : Nat) (es : List E) (t : Int) (hC : Cov F w c gb es) (hG : Gr Fg w gb n es) (hs : Sorted es) (hl : es.length ≤ 120) (ht : hasId es t = false) :
    Calls Tryz.prog 26 #[.pointer (some ⟨c, 0, none⟩), .int .i64 t] w fun e w' => e = .returned (.tuple #[.int .i64 0, errVal 7]) ∧ Keep Nb w w' := by
  obtain ⟨bm, hM, _⟩ := hC
  have c0 := hM.head.cell (i := 0) rfl
  have hgx := gedge_miss Fg w gb n es t hG hs (by omega) ht
  unfold errVal at hgx ⊢
  have HGX := Lib.hid hgx
  clear hM hG hs hgx
  go_enter Tryz.func26, Tryz.ntmps26
  go_wp2_with fail
  refine HGX.out.mono ?_
  rintro e1 w3 ⟨rfl, hk3⟩
  have HK := Lib.hid hk3
  clear hk3
  go_wp2_with fail
  go_ret2
  exact ⟨rfl, HK.out.alloc _⟩

/-- An edge that is there, or not: what Edge tells. -/
theorem gedge_all (F : Nat → Prop) (w : World) (b n : Nat) (es : List E) (t : Nat) (hG : Gr F w b n es) (hs : Sorted es) (hn : es.length ≤ 120) :
    (∃ e, e ∈ es ∧ e.id = t ∧ Calls Tryz.prog 90 #[.pointer (some ⟨b, 0, none⟩), .int .i64 (t : Nat)] w (fun e' w' => e' = .returned (.tuple #[.agg #[.int .i64 e.id, .int .i64 e.a, .int .i64 e.b], .nilIface]) ∧ Keep Nb w w')) ∨
    Calls Tryz.prog 90 #[.pointer (some ⟨b, 0, none⟩), .int .i64 (t : Nat)] w (fun e' w' => e' = .returned (.tuple #[.agg #[.int .i64 0, .int .i64 0, .int .i64 0], errVal 7]) ∧ Keep Nb w w') := by
  by_cases h : ∃ e, e ∈ es ∧ e.id = t
  · obtain ⟨e, he, rfl⟩ := h
    exact .inl ⟨e, he, rfl, gedge_any F w b n es e hG hs (by omega) he⟩
  · refine .inr (gedge_miss F w b n es t hG hs (by omega) ?_)
    unfold hasId
    rw [List.any_eq_false]
    intro e he h1
    simp only [decide_eq_true_eq] at h1
    exact h ⟨e, he, by omega⟩

set_option maxRecDepth 100000 in
set_option maxHeartbeats 1000000 in
theorem calike_miss (F Fg : Nat → Prop) (w : World) (c gb n x : Nat) (es : List E) (t : Int) (hC : Cov F w c gb es) (hG : Gr Fg w gb n es) (hs : Sorted es) (hl : es.length ≤ 120) (ht : hasId es t = false) :
    Calls Tryz.prog 27 #[.pointer (some ⟨c, 0, none⟩), .int .i64 (x : Nat), .int .i64 t] w fun e w' => e = .returned (.tuple #[.bool false, errVal 7]) ∧ Keep Nb w w' := by
  obtain ⟨bm, hM, _⟩ := hC
  have c0 := hM.head.cell (i := 0) rfl
  have HM := Lib.hid hM.head
  have HG := Lib.hid hG
  have HGT : Hid (∀ w', Keep Nb w w' → Calls Tryz.prog 90 #[.pointer (some ⟨gb, 0, none⟩), .int .i64 t] w' fun e' w'' => e' = .returned (.tuple #[.agg #[.int .i64 0, .int .i64 0, .int .i64 0], errVal 7]) ∧ Keep Nb w' w'') := Lib.hid (fun w' k => gedge_miss Fg w' gb n es t (HG.out.keep k (fun _ _ e => e)) hs (by omega) ht)
  obtain ⟨wA, hwA⟩ : ∃ wA, w.alloc (.cells #[.int .i64 (x : Nat), .int .i64 t] 3) = wA := ⟨_, rfl⟩
  have HA : Hid (Keep Nb w wA ∧ wA.cell? ⟨w.heap.size, 0, none⟩ = some (.int .i64 (x : Nat)) ∧ wA.cell? ⟨w.heap.size, 1, none⟩ = some (.int .i64 t)) := Lib.hid (by
    rw [← hwA]
    exact ⟨(Keep.refl Nb w).alloc _, by rw [World.cell?_alloc_at _ _ _ _ rfl]; rfl, by rw [World.cell?_alloc_at _ _ _ _ rfl]; rfl⟩)
  have HGX : Hid (∀ w', Keep Nb w w' → ∃ e0 : E, Calls Tryz.prog 90 #[.pointer (some ⟨gb, 0, none⟩), .int .i64 (x : Nat)] w' (fun e' w'' => e' = .returned (.tuple #[.agg #[.int .i64 e0.id, .int .i64 e0.a, .int .i64 e0.b], .nilIface]) ∧ Keep Nb w' w'') ∨ Calls Tryz.prog 90 #[.pointer (some ⟨gb, 0, none⟩), .int .i64 (x : Nat)] w' (fun e' w'' => e' = .returned (.tuple #[.agg #[.int .i64 0, .int .i64 0, .int .i64 0], errVal 7]) ∧ Keep Nb w' w'')) := Lib.hid (fun w' k => by
    rcases gedge_all Fg w' gb n es x (HG.out.keep k (fun _ _ e => e)) hs hl with ⟨e, _, _, h⟩ | h
    · exact ⟨e, .inl h⟩
    · exact ⟨⟨0, 0, 0⟩, .inr h⟩)
  unfold errVal at HGT HGX ⊢
  clear hM hG hs
  go_enter Tryz.func27, Tryz.ntmps27
  go_wp2_with fail
  try rw [hwA]
  clear hwA
  go_loopg [16] 2 (fun kx s16 wr => ∃ (i : Nat), s16 = .int .i64 i ∧ i ≤ 1 ∧ 2 - i ≤ kx ∧ Hid (Keep Nb wA wr))
  case atStart => exact ⟨0, rfl, by omega, by omega, Lib.hid (Keep.refl _ _)⟩
  case round =>
    obtain ⟨i, rfl, hi, hg, HR⟩ := hrel
    have g0 := HR.out.cell HA.out.2.1 (fun e => e)
    have g1 := HR.out.cell HA.out.2.2 (fun e => e)
    have c0' := (HA.out.1.trans HR.out).cell c0 (fun e => e)
    have lbq := World.block_lt_of_cell? _ _ g0
    have HKW := Lib.hid (HA.out.1.trans HR.out)
    rcases (by omega : i = 0 ∨ i = 1) with rfl | rfl
    · obtain ⟨e0, h0⟩ := HGX.out wr HKW.out
      rcases h0 with h0 | h0
      · have H0 := Lib.hid h0
        clear h0
        go_wp2_with fail
        refine H0.out.mono ?_
        rintro e1 w3 ⟨rfl, hk3⟩
        have HN : Hid (Keep Nb wA (w3.alloc (.cells #[.int .i64 e0.id, .int .i64 e0.a, .int .i64 e0.b] 42))) := Lib.hid ((HR.out.trans hk3).alloc _)
        clear hk3 HR HKW
        go_wp2_with fail
        go_roundg 1
        case measure => omega
        case rel => exact ⟨1, rfl, by omega, by omega, HN⟩
      · have H0 := Lib.hid h0
        clear h0
        go_wp2_with fail
        refine H0.out.mono ?_
        rintro e1 w3 ⟨rfl, hk3⟩
        have HN : Hid (Keep Nb w w3) := Lib.hid (HKW.out.trans hk3)
        clear hk3 HR HKW
        go_wp2_with fail
        go_ret2
        exact ⟨rfl, HN.out.alloc _⟩
    · go_wp2_with fail
      refine (HGT.out _ HKW.out).mono ?_
      rintro e1 w3 ⟨rfl, hk3⟩
      have HN : Hid (Keep Nb w w3) := Lib.hid (HKW.out.trans hk3)
      clear hk3 HR HKW
      go_wp2_with fail
      go_ret2
      exact ⟨rfl, HN.out.alloc _⟩

end Go.Proofs.YtkpoobnldgfapabGreatDoor
