/- isthmusref: Drop. -/
import Derived.Test.YtkpoobnldgfapaaDoorRGraph3
import Derived.Test.YtkpoobnldgfapaaDoorCutOne
import Derived.Test.YtkpoobnldgfapaaDoorPlDrop
set_option linter.unusedVariables false
set_option linter.unusedSimpArgs false
namespace Go.Proofs.YtkpoobnldgfapaaDoor
open Go.RowKit Pl

def RDropPost (F : Nat → Prop) (w : World) (g n : Nat) (es : List E) (t : Int) (e : Ending) (w' : World) : Prop :=
  (∃ fs, RGr (fun k => F k ∨ w.heap.size ≤ k) w' g n fs ∧ ((e = .returned (.int .i64 7) ∧ hasId es t = false ∧ fs = es) ∨ ∃ k f, e = .returned (.int .i64 0) ∧ hasId es t = true ∧ es[k]? = some f ∧ (f.id : Int) = t ∧ fs = delAt es k)) ∧ Keep F w w'

set_option maxRecDepth 100000 in
set_option maxHeartbeats 1000000 in
theorem rdrop_any (F : Nat → Prop) (w : World) (g n : Nat) (es : List E) (t : Int) (hG : RGr F w g n es) (hl : es.length ≤ 120) :
    Calls Tryd.prog 26 #[.pointer (some ⟨g, 0, none⟩), .int .i64 t] w (RDropPost F w g n es t) := by
  obtain ⟨o, c, hM⟩ := hG
  have c1 := hM.head.cell (i := 1) rfl
  have HM := Lib.hid hM
  clear hM
  go_enter Tryd.func26, Tryd.ntmps26
  go_wp2_with fail
  go_loopg [12] es.length (fun kx s wr => ∃ i : Nat, s = .int .i64 i ∧ i ≤ es.length ∧ es.length - i ≤ kx ∧ Hid ((∀ k e, k < i → es[k]? = some e → (e.id : Int) ≠ t) ∧ Keep Nb w wr))
  case atStart => exact ⟨0, rfl, Nat.zero_le _, by omega, Lib.hid ⟨fun k e hk => absurd hk (by omega), Keep.refl _ _⟩⟩
  case round =>
    obtain ⟨i, rfl, hi, hg, HR⟩ := hrel
    by_cases hlt : i < es.length
    · obtain ⟨g', rfl, hFg', hnc, hrow⟩ := HM.out.s.pos (by omega)
      have hy := List.getElem?_eq_getElem hlt
      generalize es[i]'hlt = e at hy
      have hEr := hrow.edges.keep HR.out.2 (fun e => e)
      have d1 := hEr.id _ _ hy
      have d2 := hEr.a _ _ hy
      have d3 := hEr.b _ _ hy
      have HY := Lib.hid hy
      clear hy hrow hEr
      by_cases hid : (e.id : Int) = t
      · have hid2 : ((e.id : Int) == t) = true := by simpa using hid
        have HID := Lib.hid hid
        obtain ⟨wi, hwi⟩ : ∃ wi, wr.alloc (.cells #[.int .i64 e.id, .int .i64 e.a, .int .i64 e.b] 55) = wi := ⟨_, rfl⟩
        have HKI : Hid (Keep Nb w wi) := Lib.hid (by rw [← hwi]; exact HR.out.2.trans ((Keep.refl Nb wr).alloc _))
        have c2 := HKI.out.cell c1 (fun e => e)
        have hgi : g < wi.heap.size := World.block_lt_of_cell? wi _ c2
        have fz := (HM.out.head.keep HKI.out (fun e => e)).frozen 1 none
        have e1 : wi.cell? ⟨wr.heap.size, 0, none⟩ = some (.int .i64 e.id) := by rw [← hwi, World.cell?_alloc_at _ _ _ _ rfl]; rfl
        obtain ⟨sa, hsa⟩ : ∃ sa : Addr, sa = if c = i + 1 then ⟨g', 0, none⟩ else ⟨g', (i + 1) * 3, none⟩ := ⟨_, rfl⟩
        obtain ⟨o1, a1, v1, o2, a2, v2, H1, H2, H3, H4, H5⟩ := cut_one2 ((HM.out.s.keep HKI.out (fun _ _ e => e)).keep ((Keep.refl Nb wi).drew) (fun _ _ e => e)) hlt (by omega) sa (fun h => by rw [hsa, if_neg (by omega)]) c (c - (i + 1))
        have k2 : Keep Nb w v2 := (HKI.out.trans ((Keep.refl Nb wi).drew)).trans H4
        have hd := HM.out.head.keep k2 (fun e => e)
        have c4 := (HM.out.head.keep ((HKI.out.trans ((Keep.refl Nb wi).drew)).trans H5) (fun e => e)).cell (i := 1) rfl
        have c3 := hd.cell (i := 1) rfl
        have f3 := hd.frozen 1 none
        have HP : Hid (RDropPost F w g n es t (.returned (.int .i64 0)) (v2.setCell ⟨g, 1, none⟩ (.slice (some o2) (es.length - 1) a2))) := Lib.hid (by
          have z := HKI.out.size
          have hll : (delAt es i).length = es.length - 1 := by have := delAt_length (es := es) (k := i) hlt; omega
          have hft : ∀ a, some o2 = some a → wi.heap.size ≤ a.block := fun a ha => by have := H3.foot a ha; simpa using this
          have hgw := HM.out.head.lt
          refine ⟨⟨delAt es i, ⟨some o2, a2, ?_, .inl HM.out.hb, ?_, fun a ha => by have := hft a ha; omega⟩, .inr ⟨i, e, rfl, hasId_true HY.out HID.out, HY.out, HID.out, rfl⟩⟩, ?_⟩
          · rw [hll]
            exact hd.set (i := 1) (by simp) _
          · rw [hll]
            exact (H3.mono (G := fun k => F k ∨ w.heap.size ≤ k) (fun k hk => by simp only [World.size_drew] at hk; exact .inr (by omega))).set_ne (p := ⟨g, 1, none⟩) (fun x hx => by have := hft x hx; show x.block ≠ g; omega) _
          · exact k2.of_nb.setCell (.inl HM.out.hb) _)
        simp only [World.size_drew] at H1 H3
        have hz1 : ((i : Int) + 1).toNat = i + 1 := by omega
        have hz2 : IntKind.i64.wrap ((i : Int) + 1) = (i : Int) + 1 := IntWalk.i64_in _ (by omega)
        have hz3 : (0 : Int) ≤ (i : Int) + 1 := by omega
        have hz4 : (i : Int) + 1 ≤ (es.length : Int) := by omega
        have hz5 : i ≤ c := by omega
        have hz6 : (i : Int) ≤ (c : Int) := by omega
        have hz7 : ¬ c = 0 := by omega
        have mixed : (Tryd.prog).follows Departure.mixedOrders = true := by kernel_rfl
        clear hid k2 hd H3 H4 H5
        go_wp2_with fail
        clear d1 d2 d3 c1 e1 hwi hid2
        obtain ⟨nl, hnl⟩ : ∃ nl, es.length = nl := ⟨_, rfl⟩
        rw [hnl] at c2 H2 HP c3 c4 hz4 hnc hlt
        by_cases hkc : c = i + 1
        · rw [if_pos hkc] at hsa
          subst hsa
          have hz9 : nl - (i + 1) = 0 := by omega
          have hz10 : c - (i + 1) = 0 := by omega
          rw [hz9, hz10] at H2
          have H1 := Lib.hid H1
          have H2 := Lib.hid H2
          clear hz10
          subst hkc
          have hz8 : (i : Int) ≤ (i : Int) + 1 := by omega
          go_region_law_o (first | (refine step_app_run rfl _ _ 62 62 rfl (.slice (some ⟨wi.heap.size, 0, none⟩) 0 0) (.slice (some ⟨g', 0, none⟩) i (i + 1)) (by simp [Act.eval, Act.put]) (by simp [Act.eval, Act.put]) H1.out ?_) | (refine step_app_run rfl _ _ 62 62 rfl (.slice (some o1) i a1) (.slice (some ⟨g', 0, none⟩) 0 0) (by simp [Act.eval, Act.put]) (by simp [Act.eval, Act.put]) H2.out ?_))
          all_goals
            (try go_wp2)
            go_ret
            exact HP.out
        · rw [if_neg hkc] at hsa
          subst hsa
          have H1 := Lib.hid H1
          have H2 := Lib.hid H2
          go_region_law_o (first | (refine step_app_run rfl _ _ 62 62 rfl (.slice (some ⟨wi.heap.size, 0, none⟩) 0 0) (.slice (some ⟨g', 0, none⟩) i c) (by simp [Act.eval, Act.put]) (by simp [Act.eval, Act.put]) H1.out ?_) | (refine step_app_run rfl _ _ 62 62 rfl (.slice (some o1) i a1) (.slice (some ⟨g', (i + 1) * 3, none⟩) (nl - (i + 1)) (c - (i + 1))) (by simp [Act.eval, Act.put]) (by simp [Act.eval, Act.put]) H2.out ?_))
          all_goals
            (try go_wp2)
            go_ret
            exact HP.out
      · have hid2 : ((e.id : Int) == t) = false := by simpa using hid
        have HN : Hid ((∀ k e, k < i + 1 → es[k]? = some e → (e.id : Int) ≠ t) ∧ Keep Nb w (wr.alloc (.cells #[.int .i64 e.id, .int .i64 e.a, .int .i64 e.b] 55))) := Lib.hid ⟨fun k f hk hf => by
          by_cases hki : k = i
          · subst hki; rw [HY.out] at hf; cases hf; exact hid
          · exact HR.out.1 k f (by omega) hf, HR.out.2.trans ((Keep.refl Nb wr).alloc _)⟩
        clear hid c1
        go_wp2_with fail
        go_roundg (es.length - (i + 1))
        case measure => omega
        case rel => exact ⟨i + 1, rfl, by omega, Nat.le_refl _, HN⟩
    · obtain rfl : i = es.length := by omega
      have HP : Hid (RDropPost F w g n es t (.returned (.int .i64 7)) wr) := Lib.hid ⟨⟨es, RGr.mono (RGr.keep ⟨o, c, HM.out⟩ HR.out.2 (fun _ _ e => e)) (fun _ h => .inl h), .inl ⟨rfl, hasId_false HR.out.1, rfl⟩⟩, HR.out.2.of_nb⟩
      clear HR c1
      go_wp2_with fail
      go_ret
      exact HP.out

end Go.Proofs.YtkpoobnldgfapaaDoor
