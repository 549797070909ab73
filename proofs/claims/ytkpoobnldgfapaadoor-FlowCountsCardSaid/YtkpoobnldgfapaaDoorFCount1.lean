/- isthmuslaw.FlowCounts: the walk. -/
import Derived.Test.YtkpoobnldgfapaaDoorWaysB
import Derived.Test.YtkpoobnldgfapaaDoorRRoom4
import Derived.Test.YtkpoobnldgfapaaDoorFErr
import Derived.Test.YtkpoobnldgfapaaDoorLMade
import Derived.Test.YtkpoobnldgfapaaDoorGPlay1
import Derived.Test.YtkpoobnldgfapaaDoorAsErr
import Derived.Test.YtkpoobnldgfapaaDoorPlFCount
set_option linter.unusedVariables false
set_option linter.unusedSimpArgs false
namespace Go.Proofs.YtkpoobnldgfapaaDoor
open Go.RowKit Pl Go.Maps

set_option maxRecDepth 100000 in
theorem fcounts_none (n a b most : Int) (oa : Option Addr) (len cap : Nat) (h : n < 0 ∨ 16 < n ∨ 60 < len) (w : World) :
    Calls Tryd.prog 4 #[.int .i64 n, .slice oa len cap, .int .i64 a, .int .i64 b, .int .i64 most] w fun e w' => e = .returned (.bool true) ∧ Keep Nb w w' := by
  have HC := Lib.hid (lmade_none n oa len cap h w)
  clear h
  go_enter Tryd.func4, Tryd.ntmps4
  go_wp2_with fail
  refine HC.out.mono ?_
  rintro e w1 ⟨rfl, hk⟩
  have HK := Lib.hid hk
  clear hk
  go_wp2_with fail
  go_ret
  exact ⟨rfl, HK.out⟩

theorem madeG_lt (n : Nat) (A B : Nat → Int) (i : Nat) : ∀ e, e ∈ madeG n A B i → e.a < e.b := by
  induction i with
  | zero => intro e he; cases he
  | succ i ih =>
    intro e he
    have he : e ∈ addEs n (madeG n A B i) (idL i) (A i) (B i) := he
    unfold addEs at he
    split at he
    · exact ih e he
    · rename_i hb
      rcases List.mem_append.1 he with he | he
      · exact ih e (List.mem_of_mem_take he)
      · rcases List.mem_cons.1 he with he | he
        · subst he
          unfold addBad at hb
          unfold mkE
          simp only
          omega
        · exact ih e (List.mem_of_mem_drop he)

theorem madeG_small (n : Nat) (A B : Nat → Int) (i : Nat) : ∀ e, e ∈ madeG n A B i → e.id ≤ 60 := by
  induction i with
  | zero => intro e he; cases he
  | succ i ih =>
    intro e he
    have he : e ∈ addEs n (madeG n A B i) (idL i) (A i) (B i) := he
    have hid := idL_range i
    unfold addEs at he
    split at he
    · exact ih e he
    · rcases List.mem_append.1 he with he | he
      · exact ih e (List.mem_of_mem_take he)
      · rcases List.mem_cons.1 he with he | he
        · subst he
          unfold mkE
          simp only
          omega
        · exact ih e (List.mem_of_mem_drop he)

set_option maxRecDepth 100000 in
set_option maxHeartbeats 2000000 in
theorem fcounts_err (n : Nat) (b off len cap : Nat) (oa : Option Addr) (hoa : 0 < len → oa = some ⟨b, off, none⟩) (A B : Nat → Int) (hn : n ≤ 16) (hlen : len ≤ 60) (hcap : len ≤ cap) (s t most r : Int) (hr : askErr n s t most = r) (h0 : r ≠ 0)
    (w : World) (hbw : 0 < len → b < w.heap.size) (hP : Prs w b off len A B) (hE : ErrT w) :
    Calls Tryd.prog 4 #[.int .i64 n, .slice oa len cap, .int .i64 s, .int .i64 t, .int .i64 most] w fun e w' => e = .returned (.bool true) ∧ Keep Nb w w' := by
  have HC := Lib.hid (lmade_any n b off len cap oa hoa A B hn hlen hcap w hbw hP)
  have HB : Hid (∀ wx, Keep Nb w wx → Calls Tryd.prog 7 #[.iface 29 (.int .i64 r), .int .i64 r] wx fun e w' => e = .returned (.bool true) ∧ Keep Nb wx w') := Lib.hid (fun wx k => by
    have := lbare_any (.iface 29 (.int .i64 r)) r r (by unfold errV; rw [if_neg h0]) wx (hE.keep k (fun e => e))
    rw [decide_eq_true (rfl : r = r)] at this
    exact this)
  have HR := Lib.hid (And.intro hr h0)
  clear hoa hbw hP hE hr h0
  go_enter Tryd.func4, Tryd.ntmps4
  go_wp2_with fail
  refine HC.out.mono ?_
  rintro e w1 ⟨gb, rb, rfl, F1, F2, m1, m2, m3, m4, m5, m6⟩
  have HM1 := Lib.hid m1
  have HM2 := Lib.hid m2
  have HK1 := Lib.hid m6
  clear m1 m2 m3 m4 m5 m6 HC
  go_wp2_with fail
  refine (rby_edges_err F2 w1 rb n _ s t most r HM2.out (by omega) HR.out.1 HR.out.2).mono ?_
  rintro e w1 ⟨rfl, rfl⟩
  go_wp2_with fail
  refine (rby_nodes_err F2 _ rb n _ s t most r HM2.out (by omega) HR.out.1 HR.out.2).mono ?_
  rintro e w1 ⟨rfl, rfl⟩
  go_wp2_with fail
  refine (fedges_err F1 _ gb n _ s t most r HM1.out HR.out.1 HR.out.2).mono ?_
  rintro e w2 ⟨rfl, hk2⟩
  have HM1a := Lib.hid (HM1.out.keep hk2 (fun _ _ e => e))
  have HK2 := Lib.hid (HK1.out.trans hk2)
  clear hk2 HM1 HM2 HK1
  go_wp2_with fail
  refine (fnodes_err F1 _ gb n _ s t most r HM1a.out HR.out.1 HR.out.2).mono ?_
  rintro e w3 ⟨rfl, hk3⟩
  have HM1b := Lib.hid (HM1a.out.keep hk3 (fun _ _ e => e))
  have HK3 := Lib.hid (HK2.out.trans hk3)
  clear hk3 HM1a HK2
  go_wp2_with fail
  refine (fways_err F1 _ gb n _ s t most r HM1b.out HR.out.1 HR.out.2).mono ?_
  rintro e w4 ⟨rfl, hk4⟩
  have HK4 := Lib.hid (HK3.out.trans hk4)
  clear hk4 HM1b HK3
  go_wp2_with fail
  refine (HB.out _ HK4.out).mono ?_
  rintro e w5 ⟨rfl, hk5⟩
  have HK5 := Lib.hid (HK4.out.trans hk5)
  clear hk5 HK4
  go_wp2_with fail
  refine (HB.out _ HK5.out).mono ?_
  rintro e w6 ⟨rfl, hk6⟩
  have HK6 := Lib.hid (HK5.out.trans hk6)
  clear hk6 HK5
  go_wp2_with fail
  refine (HB.out _ HK6.out).mono ?_
  rintro e w7 ⟨rfl, hk7⟩
  have HK7 := Lib.hid (HK6.out.trans hk7)
  have hmm := @run_makeMap Tryd.prog
  clear hk7 HK6
  go_wp2_with fail
  go_loopg [25] 0 (fun kx s25 wr => s25 = .int .i64 0 ∧ Hid (Keep Nb w wr))
  case atStart => exact ⟨rfl, Lib.hid (HK7.out.alloc _)⟩
  case round =>
    obtain ⟨rfl, HR⟩ := hrel
    go_wp2_with fail
    go_ret
    exact ⟨rfl, HR.out⟩

/-- Which edges were met. -/
def UMap (w : World) (um : Nat) (S : List Nat) : Prop := ∃ m, MapAt encN DN w um m ∧ ∀ id, mget m id = if id ∈ S then some (.bool true) else none

theorem UMap.keep {G : Nat → Prop} {w w' : World} {um : Nat} {S : List Nat} (h : UMap w um S) (k : Keep G w w') (hn : ¬ G um) : UMap w' um S := by
  obtain ⟨m, h1, h2⟩ := h; exact ⟨m, h1.keep k hn, h2⟩
theorem UMap.look {w : World} {um : Nat} {S : List Nat} (h : UMap w um S) {id : Nat} (hd : DN id) :
    (Instr.lookup 53 (.map (some um)) (.int .i64 id) false).run Tryd.prog w = .ok (.bool (decide (id ∈ S))) w := by
  obtain ⟨m, h1, h2⟩ := h
  have hl := h1.look (encN_enc Tryd.underlying3) Tryd.underlying53 (zero_boolZ w) hd false
  rw [if_neg (by simp), h2] at hl
  by_cases e : id ∈ S
  · rw [if_pos e] at hl; rw [decide_eq_true e]; exact hl
  · rw [if_neg e] at hl; rw [decide_eq_false e]; exact hl
theorem UMap.store {w : World} {um : Nat} {S : List Nat} (h : UMap w um S) {id : Nat} (hd : DN id) :
    ∃ w', (Instr.mapUpdate 53 (.map (some um)) (.int .i64 id) (.bool true)).run Tryd.prog w = .ok () w' ∧ UMap w' um (S ++ [id]) ∧ Keep (fun k => k = um) w w' := by
  obtain ⟨m, h1, h2⟩ := h
  obtain ⟨w', r1, r2, r3⟩ := h1.store (encN_enc Tryd.underlying3) Tryd.underlying53 hd (.bool true)
  refine ⟨w', r1, ⟨_, r2, fun j => ?_⟩, r3⟩
  rw [mget_mset, h2]
  by_cases e : j = id
  · simp [e]
  · simp [e]

theorem flat_take_succ {α : Type} {ws : List (List α)} {i : Nat} {l : List α} (h : ws[i]? = some l) : (ws.take (i + 1)).flatten = (ws.take i).flatten ++ l := by
  rw [List.take_add_one, h]; simp

theorem flat_split {ws : List (List E)} {i k : Nat} {l : List E} {e : E} (hn : ws.flatten.Nodup) (hl : ws[i]? = some l) (hk : l[k]? = some e) : e ∉ (ws.take i).flatten ++ l.take k := by
  have h1 : ws.flatten = (ws.take i).flatten ++ (l ++ (ws.drop (i + 1)).flatten) := by
    have hi := List.getElem?_eq_some_iff.1 hl
    conv => lhs; rw [← List.take_append_drop i ws, List.drop_eq_getElem_cons hi.1, hi.2]
    simp
  have hk' := List.getElem?_eq_some_iff.1 hk
  have h2 : l = l.take k ++ (e :: l.drop (k + 1)) := by
    conv => lhs; rw [← List.take_append_drop k l, List.drop_eq_getElem_cons hk'.1, hk'.2]
  rw [h1, h2] at hn
  intro he
  have h3 : ((ws.take i).flatten ++ l.take k ++ (e :: l.drop (k + 1) ++ (ws.drop (i + 1)).flatten)).Nodup := by
    simpa [List.append_assoc] using hn
  exact (List.nodup_append.1 h3).2.2 e he e (by simp) rfl

set_option maxRecDepth 100000 in
set_option maxHeartbeats 4000000 in
theorem fcounts_ok (n : Nat) (b off len cap : Nat) (oa : Option Addr) (hoa : 0 < len → oa = some ⟨b, off, none⟩) (A B : Nat → Int) (hn : n ≤ 16) (hlen : len ≤ 60) (hcap : len ≤ cap) (s t most : Nat) (hs : s < n) (ht : t < n) (hst : s ≠ t) (hm : most ≤ 120)
    (w : World) (hbw : 0 < len → b < w.heap.size) (hP : Prs w b off len A B) (hE : ErrT w) :
    Calls Tryd.prog 4 #[.int .i64 n, .slice oa len cap, .int .i64 s, .int .i64 t, .int .i64 most] w fun e w' => e = .returned (.bool true) ∧ Keep Nb w w' := by
  have HC := Lib.hid (lmade_any n b off len cap oa hoa A B hn hlen hcap w hbw hP)
  have HB : Hid (∀ wx, Keep Nb w wx → Calls Tryd.prog 7 #[.nilIface, .int .i64 0] wx fun e w' => e = .returned (.bool true) ∧ Keep Nb wx w') := Lib.hid (fun wx k => lbare_any .nilIface 0 0 rfl wx (hE.keep k (fun e => e)))
  have HST := Lib.hid hst
  clear hoa hbw hP hE hst
  go_enter Tryd.func4, Tryd.ntmps4
  go_wp2_with fail
  refine HC.out.mono ?_
  rintro e w1 ⟨gb, rb, rfl, F1, F2, m1, m2, m3, m4, m5, m6⟩
  obtain ⟨es, hes⟩ : ∃ es, madeG n A B len = es := ⟨_, rfl⟩
  obtain ⟨fs, hfs⟩ : ∃ fs, madeR n A B len = fs := ⟨_, rfl⟩
  have hM := made_made n A B len
  have hlt : ∀ e, e ∈ es → e.a < e.b := by rw [← hes]; exact madeG_lt n A B len
  have hsm : ∀ e, e ∈ es → e.id ≤ 60 := by rw [← hes]; exact madeG_small n A B len
  rw [hes, hfs] at hM
  rw [hes] at m1
  rw [hfs] at m2
  have HM := Lib.hid hM
  have HPM := Lib.hid hM.perm'
  have HLT := Lib.hid hlt
  have HSM := Lib.hid hsm
  have HM1 := Lib.hid m1
  have HM2 := Lib.hid m2
  have HK1 := Lib.hid m6
  have hel : es.length ≤ 60 ∧ fs.length ≤ 60 := ⟨by have := hM.le; omega, by have := hM.le; have := hM.len; omega⟩
  have HEL := Lib.hid hel
  have HOF : Hid (∀ e, e ∈ fs → e.a < n ∧ e.b < n) := Lib.hid (fun e he => hM.over e ((hM.mem e).2 he))
  clear m1 m2 m3 m4 m5 m6 HC hes hfs hM hlt hsm hel
  go_wp2_with fail
  refine (rby_edges F2 w1 rb n fs s t most HM2.out (by omega) (by have := HEL.out; omega) HOF.out hs ht HST.out hm).mono ?_
  rintro e w2 ⟨v1, rfl, hv1, hc1, hk2⟩
  have HC1 : Hid (v1 ≤ most ∧ MinCap (cutE es) s t most v1) := Lib.hid ⟨hv1, by rw [cutE_perm HPM.out]; exact hc1⟩
  have HM1a := Lib.hid (HM1.out.keep hk2 (fun _ _ e => e))
  have HM2a := Lib.hid (HM2.out.keep hk2 (fun _ _ e => e))
  have HK2 := Lib.hid (HK1.out.trans hk2)
  clear hk2 hc1 hv1 HM1 HM2 HK1
  go_wp2_with fail
  refine (rby_nodes F2 w2 rb n fs s t most HM2a.out (by omega) (by have := HEL.out; omega) HOF.out (fun e he => HLT.out e (HPM.out.mem_iff.2 he)) hs ht HST.out hm).mono ?_
  rintro e w3 ⟨v2, rfl, hv2, hc2, hk3⟩
  have HC2 : Hid (v2 ≤ most ∧ MinCap (capL (arcsN n s t ++ arcsNE s t es)) (2 * s + 1) (2 * t) most v2) := Lib.hid ⟨hv2, by rw [capN_perm HPM.out]; exact hc2⟩
  have HM1b := Lib.hid (HM1a.out.keep hk3 (fun _ _ e => e))
  have HK3 := Lib.hid (HK2.out.trans hk3)
  clear hk3 hc2 hv2 HM1a HM2a HK2
  go_wp2_with fail
  refine (fedges_any F1 w3 gb n es s t most HM1b.out (by omega) (by have := HEL.out; omega) HM.out.over hs ht HST.out hm).mono ?_
  rintro e w4 ⟨v3, rfl, hv3, hc3, hk4⟩
  obtain rfl : v1 = v3 := HC1.out.2.same hc3
  have HM1c := Lib.hid (HM1b.out.keep hk4 (fun _ _ e => e))
  have HK4 := Lib.hid (HK3.out.trans hk4)
  clear hk4 hc3 hv3 HM1b HK3
  go_wp2_with fail
  refine (fnodes_any F1 w4 gb n es s t most HM1c.out (by omega) (by have := HEL.out; omega) HM.out.over hs ht HST.out hm).mono ?_
  rintro e w5 ⟨v4, rfl, hv4, hc4, hk5⟩
  obtain rfl : v2 = v4 := HC2.out.2.same hc4
  have HM1d := Lib.hid (HM1c.out.keep hk5 (fun _ _ e => e))
  have HK5 := Lib.hid (HK4.out.trans hk5)
  clear hk5 hc4 hv4 HM1c HK4
  go_wp2_with fail
  refine (fways_any F1 w5 gb n es s t most HM1d.out (by omega) (by have := HEL.out; omega) HM.out.over hs ht HST.out hm HM.out.sorted (fun e he => by have := HLT.out e he; omega) (fun e he => by have := HSM.out e he; unfold DN; omega)).mono ?_
  rintro e w6 ⟨v5, ws, ow, cw, rows, rfl, hv5, hc5, hwl, hwo, hmat, hk6⟩
  obtain rfl : v1 = v5 := HC1.out.2.same hc5
  have HM1e := Lib.hid (HM1d.out.keep hk6 (fun _ _ e => e))
  have HK6 := Lib.hid (HK5.out.trans hk6)
  have HMAT := Lib.hid hmat
  have HWO := Lib.hid (And.intro hwl hwo)
  have hv120 : v1 ≤ 120 := by omega
  have e1 : ((v1 : Int) != (v1 : Int)) = false := by simp
  have e2 : ((v2 : Int) != (v2 : Int)) = false := by simp
  clear hk6 hc5 hv5 HM1d HK5 hmat hwl hwo
  go_wp2_with fail
  refine (HB.out _ HK6.out).mono ?_
  rintro e w7 ⟨rfl, hk7⟩
  have HK7 := Lib.hid (HK6.out.trans hk7)
  have HX7 := Lib.hid hk7
  clear hk7 HK6
  go_wp2_with fail
  refine (HB.out _ HK7.out).mono ?_
  rintro e w8 ⟨rfl, hk8⟩
  have HK8 := Lib.hid (HK7.out.trans hk8)
  have HX8 := Lib.hid (HX7.out.trans hk8)
  clear hk8 HK7 HX7
  go_wp2_with fail
  refine (HB.out _ HK8.out).mono ?_
  rintro e w9 ⟨rfl, hk9⟩
  have HK9 := Lib.hid (HK8.out.trans hk9)
  have HX9 := Lib.hid (HX8.out.trans hk9)
  have hmm := @run_makeMap Tryd.prog
  clear hk9 HK8 HX8
  go_wp2_with fail
  obtain ⟨um, hum⟩ : ∃ um, w9.heap.size = um := ⟨_, rfl⟩
  obtain ⟨wa, hwa⟩ : ∃ wa, w9.alloc (.map #[] 0) = wa := ⟨_, rfl⟩
  have H0 : Hid (UMap wa um ((ws.take 0).flatten.map (·.id)) ∧ Keep (fun k => k = um) wa wa) := Lib.hid (by
    rw [← hwa, ← hum]
    exact ⟨⟨[], MapAt.made encN DN w9, fun id => by simp [mget_nil]⟩, Keep.refl _ _⟩)
  have HKA : Hid (Keep Nb w wa) := Lib.hid (by rw [← hwa]; exact HK9.out.alloc _)
  have HMA : Hid (Mat (fun k => k < um) wa 30 3 ow v1 cw rows (ws.map (fun l => l.map (·.id)))) := Lib.hid (by
    have h1 := (HMAT.out.tight.keep HX9.out (fun _ _ e => e))
    have h2 : Keep Nb w9 wa := by rw [← hwa]; exact (Keep.refl Nb w9).alloc _
    exact (h1.keep h2 (fun _ _ e => e)).mono (fun k hk => by have h3 := hk.2; have h4 := HX9.out.size; show k < um; omega))
  have HGA : Hid (Gr (fun k => k < um) wa gb n es) := Lib.hid (by
    have h1 := (HM1e.out.tightT.keep HX9.out (fun _ _ e => e))
    have h2 : Keep Nb w9 wa := by rw [← hwa]; exact (Keep.refl Nb w9).alloc _
    exact (h1.keep h2 (fun _ _ e => e)).mono (fun k hk => by have h3 := hk.2; have h4 := HX9.out.size; show k < um; omega))
  have HUW : Hid (w.heap.size ≤ um) := Lib.hid (by have := HK9.out.size; omega)
  rw [hwa, hum]
  clear hwa hum HMAT HM1e HX9 HK9 HC1 HC2 HB HPM HOF
  go_loopg [25] v1 (fun kx s25 wr => ∃ (i : Nat), s25 = .int .i64 i ∧ i ≤ v1 ∧ v1 - i ≤ kx ∧ Hid (UMap wr um ((ws.take i).flatten.map (·.id)) ∧ Keep (fun k => k = um) wa wr))
  case atStart => exact ⟨0, rfl, Nat.zero_le _, by omega, H0⟩
  case round =>
    clear H0
    obtain ⟨i, rfl, hi, hg, HR⟩ := hrel
    obtain ⟨wr0, rfl⟩ : ∃ w' : World, w' = wr := ⟨_, rfl⟩
    by_cases hlt : i < v1
    · as_aux_lemma =>
      obtain ⟨l, hl⟩ : ∃ l, ws[i]? = some l := ⟨_, List.getElem?_eq_getElem (by rw [HWO.out.1]; exact hlt)⟩
      obtain ⟨ml, hml⟩ : ∃ ml, l.length = ml := ⟨_, rfl⟩
      have HL : Hid (ws[i]? = some l ∧ l.length = ml) := Lib.hid ⟨hl, hml⟩
      have hll : (ws.map (fun l => l.map (·.id)))[i]? = some (l.map (·.id)) := by rw [List.getElem?_map, hl]; rfl
      have HLL := Lib.hid hll
      have hml120 : ml ≤ 120 := by
        have h1 : ∀ e, e ∈ l → e ∈ ws.flatten := fun e he => List.mem_flatten.2 ⟨l, List.mem_of_getElem? hl, he⟩
        have h2 : l.Nodup := by
          have h3 : l.Sublist ws.flatten := List.sublist_flatten_of_mem (List.mem_of_getElem? hl)
          exact HWO.out.2.nodup.sublist h3
        have h3 := nodup_len h2 (fun e he => HWO.out.2.sub e (h1 e he))
        have := HEL.out
        omega
      have HT0 : Hid (Trail (l.drop 0) s t) := Lib.hid (HWO.out.2.whole l (List.mem_of_getElem? hl))
      have HI0 : Hid (UMap wr0 um ((ws.take i).flatten.map (·.id) ++ (l.take 0).map (·.id)) ∧ Keep (fun k => k = um) wa wr0) := Lib.hid ⟨by simpa using HR.out.1, HR.out.2⟩
      clear hl hml hll HR
      go_wp2_with fail
      go_loopg [26, 27] ml (fun ky s26 s27 wr2 => ∃ (k y : Nat), s26 = .int .i64 y ∧ s27 = .int .i64 k ∧ k ≤ ml ∧ ml - k ≤ ky ∧ y < n ∧ Hid (Trail (l.drop k) y t) ∧ Hid (UMap wr2 um ((ws.take i).flatten.map (·.id) ++ (l.take k).map (·.id)) ∧ Keep (fun k => k = um) wa wr2))
      case atStart => exact ⟨0, s, rfl, rfl, Nat.zero_le _, by omega, hs, HT0, HI0⟩
      case round =>
        clear HT0 HI0
        obtain ⟨k, y, rfl, rfl, hk, hgk, hyn, HT, HR⟩ := hrel
        obtain ⟨wv, rfl⟩ : ∃ w' : World, w' = wr := ⟨_, rfl⟩
        obtain ⟨go, r0, rfl, hrow0, him, hmc, hcell, _, hSl, hrn, _⟩ := mat_at (HMA.out.keep HR.out.2 (fun k h1 h2 => by have h3 : k = um := h2; have h4 : k < um := h1; omega)) HLL.out
        have hrn2 : r0.n = ml := by rw [hrn, List.length_map]; exact HL.out.2
        rw [hrn2] at hcell hSl
        by_cases hlt2 : k < ml
        · as_aux_lemma =>
          obtain ⟨e, he⟩ : ∃ e, l[k]? = some e := ⟨_, List.getElem?_eq_getElem (by rw [HL.out.2]; exact hlt2)⟩
          obtain ⟨g0, hg0, _, hnc0, hrow1⟩ := hSl.pos (by omega)
          have hide : (l.map (·.id))[k]? = some e.id := by rw [List.getElem?_map, he]; rfl
          have d0 := hrow1.cell (ints_get hide)
          rw [hg0] at hcell
          have hem : e ∈ es := HWO.out.2.sub e (List.mem_flatten.2 ⟨l, List.mem_of_getElem? HL.out.1, List.mem_of_getElem? he⟩)
          have hGv := HGA.out.keep HR.out.2 (fun k h1 h2 => by have h3 : k = um := h2; have h4 : k < um := h1; omega)
          have hge := gp_edge _ wv gb n es (e.id : Int) e 0 hGv HM.out.sorted (by have := HEL.out; omega) (.inl ⟨hasId_iff.2 ⟨e, hem, rfl⟩, hem, rfl, rfl⟩)
          rw [show errV 0 = .nilIface from rfl] at hge
          have HGE := Lib.hid hge
          have hde : DN e.id := by have := HSM.out e hem; unfold DN; omega
          have hno : e.id ∉ (ws.take i).flatten.map (·.id) ++ (l.take k).map (·.id) := by
            rw [← List.map_append]
            intro hmem
            obtain ⟨f, hf, hfe⟩ := List.mem_map.1 hmem
            have hfs : f ∈ es := by
              rcases List.mem_append.1 hf with hf | hf
              · obtain ⟨l', hl', hf'⟩ := List.mem_flatten.1 hf
                exact HWO.out.2.sub f (List.mem_flatten.2 ⟨l', List.mem_of_mem_take hl', hf'⟩)
              · exact HWO.out.2.sub f (List.mem_flatten.2 ⟨l, List.mem_of_getElem? HL.out.1, List.mem_of_mem_take hf⟩)
            have : f = e := sorted_inj HM.out.sorted _ _ hfs hem hfe
            rw [this] at hf
            exact flat_split HWO.out.2.nodup HL.out.1 he hf
          have hoe := HM.out.over e hem
          have hcase := Trail.at he HT.out
          obtain ⟨y', hy', hcase2⟩ : ∃ y', Trail (l.drop (k + 1)) y' t ∧ ((e.a = y ∧ y' = e.b) ∨ (e.b = y ∧ e.a ≠ y ∧ y' = e.a)) := by
            rcases hcase with ⟨h1, h2⟩ | ⟨h1, h2, h3⟩
            · exact ⟨_, h2, .inl ⟨h1, rfl⟩⟩
            · exact ⟨_, h3, .inr ⟨h1, h2, rfl⟩⟩
          have HT2 := Lib.hid hy'
          have hy'n : y' < n := by omega
          have HE := Lib.hid he
          have HNO := Lib.hid hno
          clear hrow1 hide hem hGv hge hcase hy' he hno hSl hrow0 hrn hrn2
          go_wp2_with fail
          refine HGE.out.mono ?_
          rintro e1 wb ⟨rfl, hkb⟩
          have hUb := HR.out.1.keep (hkb.alloc (.cells #[.int .i64 e.id, .int .i64 e.a, .int .i64 e.b] 55)) (fun e => e)
          have hlook := hUb.look hde
          rw [decide_eq_false HNO.out] at hlook
          obtain ⟨wc, r1, r2, r3⟩ := hUb.store hde
          have HN : Hid (UMap wc um ((ws.take i).flatten.map (·.id) ++ (l.take (k + 1)).map (·.id)) ∧ Keep (fun k => k = um) wa wc) := Lib.hid ⟨by
            have h1 : (l.take (k + 1)).map (·.id) = (l.take k).map (·.id) ++ [e.id] := by rw [List.take_add_one, HE.out]; simp
            rw [h1, ← List.append_assoc]; exact r2, (HR.out.2.trans (hkb.alloc _).of_nb).trans r3⟩
          have hul : um < wv.heap.size := by
            obtain ⟨m, h5, _⟩ := HR.out.1
            exact h5.lt
          have hbl : wb.heap.size ≠ um := by have h3 := hkb.size; omega
          have x1 := r3.cell (p := ⟨wb.heap.size, 1, none⟩) (v := .int .i64 e.a) (by rw [World.cell?_alloc_at _ _ _ _ rfl]; rfl) hbl
          have x2 := r3.cell (p := ⟨wb.heap.size, 2, none⟩) (v := .int .i64 e.b) (by rw [World.cell?_alloc_at _ _ _ _ rfl]; rfl) hbl
          have R1 := Lib.hid r1
          clear r1 r2 r3 hUb hkb HR HGE d0 hcell HNO hbl
          rcases hcase2 with ⟨h1, h2⟩ | ⟨h1, h2, h3⟩
          · subst h1 h2
            have b1 : ((e.a : Int) != (e.a : Int)) = false := by simp
            have hsum : (e.a : Int) + (e.b : Int) - (e.a : Int) = (e.b : Int) := by omega
            go_wp2_with (first | (at_mapUpdate; refine wpList_mapset rfl _ _ _ _ rfl rfl rfl rfl R1.out ?_))
            go_roundg (ml - (k + 1))
            case measure => omega
            case rel => exact ⟨k + 1, e.b, rfl, by go_num, by omega, Nat.le_refl _, by omega, HT2, HN⟩
          · subst h1 h3
            have b1 : ((e.a : Int) != (e.b : Int)) = true := by rw [bne_iff_ne]; omega
            have b2 : ((e.b : Int) != (e.b : Int)) = false := by simp
            have hsum : (e.a : Int) + (e.b : Int) - (e.b : Int) = (e.a : Int) := by omega
            clear h2
            go_wp2_with (first | (at_mapUpdate; refine wpList_mapset rfl _ _ _ _ rfl rfl rfl rfl R1.out ?_))
            go_roundg (ml - (k + 1))
            case measure => omega
            case rel => exact ⟨k + 1, e.a, rfl, by go_num, by omega, Nat.le_refl _, by omega, HT2, HN⟩
        · as_aux_lemma =>
          obtain rfl : k = ml := by omega
          obtain rfl : y = t := Trail.end HL.out.2.symm HT.out
          have HN : Hid (UMap wv um ((ws.take (i + 1)).flatten.map (·.id)) ∧ Keep (fun k => k = um) wa wv) := Lib.hid ⟨by
            have h1 := HR.out.1
            rw [← HL.out.2, List.take_length, ← List.map_append, ← flat_take_succ HL.out.1] at h1
            exact h1, HR.out.2⟩
          have b1 : ((y : Int) != (y : Int)) = false := by simp
          clear HR hSl hrow0
          go_wp2_with fail
          go_roundg (v1 - (i + 1))
          case measure => omega
          case rel => exact ⟨i + 1, by go_num, by omega, Nat.le_refl _, HN⟩
    · as_aux_lemma =>
      obtain rfl : i = v1 := by omega
      have HF : Hid (Keep Nb w wr0) := Lib.hid (HKA.out.trans' HR.out.2 (fun _ _ e => e) (fun k hk e => by have e' : k = um := e; have := HUW.out; show False; omega))
      clear HR
      go_wp2_with fail
      go_ret
      exact ⟨rfl, HF.out⟩

end Go.Proofs.YtkpoobnldgfapaaDoor
