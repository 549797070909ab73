/- Part 19 of the proof: GDel GDel2. -/
import Derived.Test.YtfglkgkihafcpaaGreatDoorDp05
import Derived.Test.YtfglkgkihafcpaaGreatDoorDp07
import Derived.Test.YtfglkgkihafcpaaGreatDoorDp17
import Derived.Test.YtfglkgkihafcpaaGreatDoorDp18
set_option linter.unusedVariables false
set_option linter.unusedSimpArgs false
namespace Go.Proofs.YtfglkgkihafcpaaGreatDoor
open Go.RowKit Pl
theorem ecs_take3 {es : List E} {cur : List Value} {n : Nat} (h : cur.take (n * 3) = ecs es) (k : Nat) (hk : k ≤ n) : cur.take (k * 3) = ecs (es.take k) := by
 rw [ecs_take, ← h, List.take_take, Nat.min_eq_left (by omega)]
set_option maxRecDepth 100000 in
/-- One edge goes out: those behind it come forward. -/
theorem del_room {F : Nat → Prop} {w : World} {g n c : Nat} {es : List E} (h : Sl F w 125 3 (some ⟨g, 0, none⟩) n c (ecs es)) (hn : es.length = n) {i m : Nat} (him : i + 1 + m = n) (c1 : Nat) (sa : Addr) (hsa : 0 < m → sa = ⟨g, (i + 1) * 3, none⟩) :
  ∃ w', (∀ ty, (Builtin.append_ #[117, 117] ty #[.slice (some ⟨g, 0, none⟩) i c, .slice (some sa) m c1]).run Tryz.prog w = .ok (.slice (some ⟨g, 0, none⟩) (i + m) c) w') ∧
   (∃ L, Sl F w' 125 3 (some ⟨g, 0, none⟩) n c (ecs L) ∧ L.take (i + m) = delAt es i) ∧ Keep (fun j => j = g) w w' := by
 rcases h.cases with ⟨h0, _⟩ | ⟨g', e1, hF, hnc, hcm, hrow, cur, hg, hcs⟩
 ·cases h0
 ·have hlen := h.len
  rw [ecs_length] at hlen
  cases e1
  obtain ⟨info, hinfo, hz, hs, hb⟩ := info_parts elem_edge
  have htk : cur.toList.take (n * 3) = ecs es := by
   rcases h.own.2 with ⟨e, _⟩ | ⟨g2, cap2, cur2, e2, _, hg2, _, _, _, ht⟩
   ·simp at e
   ·simp only [Value.slice.injEq, Option.some.injEq, Addr.mk.injEq, and_true, true_and] at e2
    obtain ⟨rfl, rfl⟩ := e2
    rw [hg] at hg2
    cases hg2
    exact ht
  obtain ⟨news, hnews⟩ : ∃ news, ecs (es.drop (i + 1)) = news := ⟨_, rfl⟩
  have hnl : news.length = m * 3 := by rw [← hnews, ecs_length, List.length_drop]; congr 1; omega
  have hsz : info.size = 3 := hs
  have hr := fun ty => run_append_room (P := Tryz.prog) w 117 ty 125 info und_edges hinfo g i c cur hg sa m c1 news (by rw [hsz]; exact hnl)
   (fun j u hj => by
    have hj' : j < news.length := (List.getElem?_eq_some_iff.1 hj).1
    rw [hsa (by omega)]
    have : (ecs es)[(i + 1) * 3 + j]? = some u := by
     rw [← hnews, ecs_drop, List.getElem?_drop] at hj
     exact hj
    rw [show (⟨g, (i + 1) * 3, none⟩ : Addr).add j = ⟨g, (i + 1) * 3 + j, none⟩ from by unfold Addr.add; split <;> simp_all]
    exact hrow.cell this)
   (by rw [← hnews]; exact ecs_one _) (by omega) (by rw [hsz, hnl]; omega)
  have hA : (cur.toList.take (i * 3) ++ news).length = (i + m) * 3 := by
   rw [List.length_append, List.length_take, Array.length_toList, hnl]; omega
  refine ⟨_, hr, ⟨delAt es i ++ es.drop (i + m), ?_, ?_⟩, ?_⟩
  ·refine ⟨⟨?_, .inr ⟨g, c, _, rfl, Nat.zero_le _, setRow_heap w g cur _ 125 _ hg, hnc, hcm, ?_, ?_⟩⟩, h.foot⟩
   ·rw [ecs_length, List.length_append, List.length_drop]
    have := delAt_length (es := es) (k := i) (by omega)
    omega
   ·rw [hsz]
    simp only [List.size_toArray, List.length_append, List.length_take, List.length_drop, Array.length_toList, hnl]
    omega
   ·rw [hsz]
    show ((cur.toList.take (i * 3) ++ news) ++ cur.toList.drop (i * 3 + news.length)).take (n * 3) = _
    have e3 : i * 3 + news.length = (i + m) * 3 := by rw [hnl]; omega
    rw [List.take_append, hA, List.take_of_length_le (by rw [hA]; omega), e3, ecs_take3 htk i (by omega)]
    have e4 : (cur.toList.drop ((i + m) * 3)).take (n * 3 - (i + m) * 3) = ecs (es.drop (i + m)) := by
     rw [ecs_drop, ← htk, List.drop_take]
    rw [e4, ← hnews]
    unfold delAt
    rw [ecs_append, ecs_append]
  ·rw [List.take_append_of_le_length (by have := delAt_length (es := es) (k := i) (by omega); omega), List.take_of_length_le (by have := delAt_length (es := es) (k := i) (by omega); omega)]
  ·exact ⟨rfl, rfl, rfl, by simp, fun k _ hk => setRow_other w g k _ (fun e => hk e)⟩
def DropPost (F : Nat → Prop) (w : World) (g n : Nat) (es : List E) (t : Int) (e : Ending) (w' : World) : Prop :=
 e = .returned (if hasId es t = true then .nilIface else errVal 7) ∧ Gr F w' g n (if hasId es t = true then delAt es (posOf es t) else es) ∧ Keep F w w'
end Go.Proofs.YtfglkgkihafcpaaGreatDoor

namespace Go.Proofs.YtfglkgkihafcpaaGreatDoor
open Go.RowKit Pl
set_option maxRecDepth 100000 in
set_option maxHeartbeats 1000000 in
theorem delete_any (F : Nat → Prop) (w : World) (g c i n p : Nat) (es : List E) (hS : Sl F w 125 3 (some ⟨g, 0, none⟩) n c (ecs es)) (hln : es.length = n) (hnp : n = p + 1) (hi : i ≤ p) (hn : n ≤ 1000) :
  Calls Tryz.prog 173 #[.slice (some ⟨g, 0, none⟩) n c, .int .i64 i, .int .i64 ((i : Int) + 1)] w fun e w' =>
   e = .returned (.slice (some ⟨g, 0, none⟩) p c) ∧ Sl F w' 125 3 (some ⟨g, 0, none⟩) p c (ecs (delAt es i)) ∧ Keep F w w' := by
 have hnc : n ≤ c := by obtain ⟨_, _, _, h, _⟩ := hS.pos (by omega); exact h
 have hF : F g := hS.foot _ rfl
 have hSd := hS.keep ((Keep.refl Nb w).drew) (fun _ _ e => e)
 obtain ⟨sa, hsa⟩ : ∃ sa : Addr, sa = if c = i + 1 then ⟨g, 0, none⟩ else ⟨g, (i + 1) * 3, none⟩ := ⟨_, rfl⟩
 obtain ⟨w1, q1, ⟨L, q2, q3⟩, q4⟩ := del_room hSd hln (i := i) (m := n - (i + 1)) (by omega) (c - (i + 1)) sa (fun h => by rw [hsa, if_neg (by omega)])
 rw [show i + (n - (i + 1)) = p by omega] at q1 q3
 obtain ⟨w2, r1, r2, r3⟩ := clear_tail q2 (i := p) (by omega) (n - p) (c - p) (by omega)
 rw [q3] at r2
 have HK : Hid (Keep F w w2) := Lib.hid (((Keep.refl F w).drew.trans' q4 (fun _ _ e => e) (fun k _ e => by rw [e]; exact hF)).trans' r3 (fun _ _ e => e) (fun k _ e => by rw [e]; exact hF))
 have HR2 := Lib.hid r2
 have Q1 := Lib.hid q1
 have R1 := Lib.hid r1
 have hb : ((i : Int) == (i : Int) + 1) = false := by rw [beq_eq_false_iff_ne]; omega
 have htn : ((i : Int) + 1).toNat = i + 1 := by omega
 have hb1 : (0 : Int) ≤ (i : Int) + 1 := by omega
 have hb2 : (i : Int) + 1 ≤ (n : Int) := by omega
 have hb3 : (i : Int) ≤ (i : Int) + 1 := by omega
 have hb4 : (i : Int) ≤ (c : Int) := by omega
 have hb5 : (n : Int) ≤ (c : Int) := by omega
 have hb6 : (p : Int) ≤ (n : Int) := by omega
 have hb7 : ¬ c = p := by omega
 have mixed : (Tryz.prog).follows Departure.mixedOrders = true := by kernel_rfl
 clear hS hF hSd q1 q2 q3 q4 r1 r2 r3 hln hnp
 by_cases hkc : c = i + 1
 ·rw [if_pos hkc] at hsa
  subst hsa
  have hz9 : n - (i + 1) = 0 := by omega
  have hz10 : c - (i + 1) = 0 := by omega
  rw [hz9, hz10] at Q1
  clear hz10
  subst hkc
  have hb8 : (i : Int) ≤ (i : Int) + 1 := by omega
  go_enter Tryz.func173, Tryz.ntmps173
  go_wp2_with fail
  go_region_law_o (refine step_app_run rfl _ _ 117 117 rfl (.slice (some ⟨g, 0, none⟩) i (i + 1)) (.slice (some ⟨g, 0, none⟩) 0 0) (by simp [Act.eval, Act.put]) (by simp [Act.eval, Act.put]) (Q1.out _) ?_)
  go_wp2_with (rw [R1.out])
  go_ret
  exact ⟨rfl, HR2.out, HK.out⟩
 ·rw [if_neg hkc] at hsa
  subst hsa
  go_enter Tryz.func173, Tryz.ntmps173
  go_wp2_with fail
  go_region_law_o (refine step_app_run rfl _ _ 117 117 rfl (.slice (some ⟨g, 0, none⟩) i c) (.slice (some ⟨g, (i + 1) * 3, none⟩) (n - (i + 1)) (c - (i + 1))) (by simp [Act.eval, Act.put]) (by simp [Act.eval, Act.put]) (Q1.out _) ?_)
  go_wp2_with (rw [R1.out])
  go_ret
  exact ⟨rfl, HR2.out, HK.out⟩
set_option maxRecDepth 100000 in
set_option maxHeartbeats 1000000 in
theorem drop_any (F : Nat → Prop) (w : World) (b n : Nat) (es : List E) (t : Int) (hG : Gr F w b n es) (hs : Sorted es) (hn : es.length ≤ 1000) :
  Calls Tryz.prog 139 #[.pointer (some ⟨b, 0, none⟩), .int .i64 t] w (DropPost F w b n es t) := by
 have HG := Lib.hid hG
 have HS := Lib.hid hs
 clear hG hs
 go_enter Tryz.func139, Tryz.ntmps139
 go_wp2_with fail
 refine (find_any F _ b n es t HG.out HS.out hn).mono ?_
 rintro e1 w1 ⟨rfl, hk⟩
 have HK := Lib.hid hk
 have hG1 := HG.out.keep hk (fun _ _ e => e)
 cases hid : hasId es t with
 | false =>
  have HP : Hid (DropPost F w b n es t (.returned (errVal 7)) w1) := Lib.hid ⟨by rw [hid]; rfl, by rw [hid]; exact hG1, hk.of_nb⟩
  clear hk hG1 hid
  go_wp2_with fail
  go_ret
  exact HP.out
 | true =>
  obtain ⟨e, he, heid⟩ := pos_at HS.out hid
  obtain ⟨k, hk2⟩ : ∃ k, posOf es t = k := ⟨_, rfl⟩
  have HID := Lib.hid hid
  have HPK := Lib.hid hk2
  rw [hk2] at he ⊢
  have hlt := (List.getElem?_eq_some_iff.1 he).1
  obtain ⟨o, c, hM⟩ := hG1
  obtain ⟨g, ho, hFg, hnc, _⟩ := hM.s.pos (by omega)
  subst ho
  have hgb : g ≠ b := hM.d _ rfl
  have c1 := hM.head.cell (i := 1) rfl
  have f1 := hM.head.frozen 1 none
  have HM := Lib.hid hM
  obtain ⟨m, hm⟩ : ∃ m, es.length = m := ⟨_, rfl⟩
  obtain ⟨p, hp⟩ : ∃ p, m = p + 1 := ⟨m - 1, by omega⟩
  have hw1 : IntKind.i64.wrap ((k : Int) + 1) = (k : Int) + 1 := IntWalk.i64_in _ (by omega)
  have HDL : Hid ((delAt es k).length = p) := Lib.hid (by have := delAt_length (es := es) (k := k) hlt; omega)
  rw [hm] at c1
  have HMM := Lib.hid hm
  have HB : Hid (m = p + 1 ∧ k ≤ p ∧ m ≤ 1000) := Lib.hid ⟨hp, by omega, by omega⟩
  clear hk hM hid hk2 he heid hlt hm hp hn hnc
  go_wp2_with fail
  refine (delete_any (fun j => j = g) w1 g c k m p es ⟨by rw [← HMM.out]; exact HM.out.s.own, fun a ha => by cases ha; rfl⟩ HMM.out HB.out.1 HB.out.2.1 HB.out.2.2).mono ?_
  rintro e2 w2 ⟨rfl, hS2, hk2⟩
  have hR := HM.out.head.keep hk2 (fun e => hgb e.symm)
  have c2 := hR.cell (i := 1) rfl
  have f2 := hR.frozen 1 none
  have HP : Hid (DropPost F w b n es t (.returned .nilIface) (w2.setCell ⟨b, 1, none⟩ (.slice (some ⟨g, 0, none⟩) p c))) := Lib.hid (by
   refine ⟨by rw [HID.out]; rfl, ?_, ?_⟩
   ·rw [HID.out, if_pos rfl, HPK.out]
    refine ⟨_, c, ?_, HM.out.hb, ?_, HM.out.d⟩
    ·rw [HDL.out]
     exact hR.set (i := 1) (by simp) _
    ·rw [HDL.out]
     exact (hS2.keep ((Keep.refl (fun j => j = b) w2).setCell (p := ⟨b, 1, none⟩) (.inl rfl) _) (fun j hj e => hgb (by rw [← hj, ← e]))).mono (fun j hj => by rw [hj]; exact hFg)
   ·refine (HK.out.of_nb.trans (hk2.mono (fun j _ hj => by rw [hj]; exact hFg))).setCell (.inl HM.out.hb) _)
  clear hS2 hk2 hR c1 f1
  go_wp2_with fail
  go_ret
  exact HP.out
end Go.Proofs.YtfglkgkihafcpaaGreatDoor

