/- isthmuslaw.BridgePlays: both sides' memory; an edge put in on both sides. -/
import Derived.Test.YtkpoobnldgfapabGreatDoorBErr
import Derived.Test.YtkpoobnldgfapabGreatDoorRWhole
import Derived.Test.YtkpoobnldgfapabGreatDoorRTwice
import Derived.Test.YtkpoobnldgfapabGreatDoorRBr
import Derived.Test.YtkpoobnldgfapabGreatDoorB5
import Derived.Test.YtkpoobnldgfapabGreatDoorPlNorm
import Derived.Test.YtkpoobnldgfapabGreatDoorA1
import Derived.Test.YtkpoobnldgfapabGreatDoorAsErr
set_option linter.unusedVariables false
set_option linter.unusedSimpArgs false
namespace Go.Proofs.YtkpoobnldgfapabGreatDoor
open Go.RowKit Pl

/-- The program's and the document's, each in blocks of its own. -/
def BpS (w : World) (n b rb : Nat) (es fs : List E) (wr : World) : Prop :=
  ∃ F1 F2 : Nat → Prop, Brs F1 wr b n es ∧ RGr F2 wr rb n fs ∧ (∀ k, F1 k → w.heap.size ≤ k ∧ k < wr.heap.size) ∧ (∀ k, F2 k → w.heap.size ≤ k ∧ k < wr.heap.size) ∧ (∀ k, F1 k → ¬ F2 k) ∧ Keep Nb w wr

theorem Brs.keepN {F G : Nat → Prop} {w w' : World} {b n : Nat} {es : List E} (h : Brs F w b n es) (k : Keep G w w') (d : ∀ k, F k → ¬ G k) : Brs F w' b n es := h.keep k d

theorem BpS.keepN {w wr w' : World} {n b rb : Nat} {es fs : List E} (h : BpS w n b rb es fs wr) (k : Keep Nb wr w') : BpS w n b rb es fs w' := by
  obtain ⟨F1, F2, m1, m2, m3, m4, m5, m6⟩ := h
  have z := k.size
  exact ⟨F1, F2, m1.keep k (fun _ _ e => e), m2.keep k (fun _ _ e => e), fun j h => by have := m3 j h; omega, fun j h => by have := m4 j h; omega, m5, m6.trans k⟩

theorem BpS.kept {w wr : World} {n b rb : Nat} {es fs : List E} (h : BpS w n b rb es fs wr) : Keep Nb w wr := by
  obtain ⟨F1, F2, m1, m2, m3, m4, m5, m6⟩ := h; exact m6

theorem BpS.rgr {w wr : World} {n b rb : Nat} {es fs : List E} (h : BpS w n b rb es fs wr) : RGr (fun _ => True) wr rb n fs := by
  obtain ⟨F1, F2, m1, m2, m3, m4, m5, m6⟩ := h; exact m2.mono (fun _ _ => trivial)

/-- The bridge's own blocks may turn; what is not older than w, and is not older than wr neither, stays. -/
theorem BpS.brs {w wr : World} {n b rb : Nat} {es fs : List E} (h : BpS w n b rb es fs wr) : ∃ F1 : Nat → Prop, Brs F1 wr b n es ∧ (∀ k, F1 k → w.heap.size ≤ k ∧ k < wr.heap.size) ∧ ∀ es' w', Brs F1 w' b n es' → Keep F1 wr w' → BpS w n b rb es' fs w' := by
  obtain ⟨F1, F2, m1, m2, m3, m4, m5, m6⟩ := h
  refine ⟨F1, m1, m3, fun es' w' hB k => ?_⟩
  have z := k.size
  exact ⟨F1, F2, hB, m2.keep k (fun j h h' => m5 j h' h), fun j h => by have := m3 j h; omega, fun j h => by have := m4 j h; omega, m5, m6.trans' k (fun _ _ e => e) (fun j hj e => by have := m3 j e; show False; omega)⟩

/-- The document's side puts an edge in. -/
theorem bp_radd {w wr : World} {n b rb : Nat} {es fs : List E} (h : BpS w n b rb es fs wr) (id x y : Int) (hn : n ≤ 40) (hl : fs.length ≤ 120) :
    Calls Tryz.prog 30 #[.pointer (some ⟨rb, 0, none⟩), .int .i64 id, .int .i64 x, .int .i64 y] wr fun e w' => e = .returned (.int .i64 (addErr n fs id x y)) ∧ BpS w n b rb es (raddEs n fs id x y) w' := by
  obtain ⟨F1, F2, m1, m2, m3, m4, m5, m6⟩ := h
  refine (radd_any F2 wr rb n fs id x y m2 (fun k hk => (m4 k hk).2) hn hl).mono ?_
  rintro e w' ⟨he, hg, hk⟩
  have z := hk.size
  have z0 := m6.size
  refine ⟨he, F1, _, m1.keep hk (fun k a b => m5 k a b), hg.tight, fun k h => by have := m3 k h; omega, fun k h => ?_, fun k h' h => ?_, m6.trans' hk (fun _ _ e => e) (fun k hk e => by have := m4 k e; show False; omega)⟩
  · obtain ⟨h | h, h'⟩ := h
    · have := m4 k h; omega
    · omega
  · obtain ⟨h | h, _⟩ := h
    · exact m5 k h' h
    · have := m3 k h'; omega

theorem addErr_bp {n i : Nat} {es : List E} (h : BP n i es) (hi : i ≤ 100) (x y : Int) :
    ((outB n x = true ∨ outB n y = true) ∧ addErr n (es.map norm) i x y = 2 ∧ raddEs n (es.map norm) i x y = es.map norm) ∨
    (∃ p : Nat, p < n ∧ x = p ∧ y = p ∧ addErr n (es.map norm) i x y = 1 ∧ raddEs n (es.map norm) i x y = es.map norm) ∨
    (∃ p q : Nat, p < n ∧ q < n ∧ p ≠ q ∧ x = p ∧ y = q ∧ addErr n (es.map norm) i x y = 0 ∧ raddEs n (es.map norm) i x y = (es ++ [(⟨i, p, q⟩ : E)]).map norm) := by
  have hh : hasId (es.map norm) (i : Nat) = false := by
    simp only [hasId, List.any_eq_false, decide_eq_true_eq]
    intro e he hid
    obtain ⟨f, hf, rfl⟩ := List.mem_map.1 he
    exact h.fresh f hf (by have : ((norm f).id : Int) = i := hid; have e2 : (norm f).id = f.id := rfl; omega)
  have hl : (es.map norm).length < 120 := by rw [List.length_map]; have := h.len; omega
  by_cases hb : addBad n i x y
  · refine .inl ⟨?_, by unfold addErr; rw [if_pos hb], by unfold raddEs; rw [if_pos (.inl hb)]⟩
    rw [outB_true, outB_true]
    unfold addBad at hb
    omega
  · have hb' := hb
    unfold addBad at hb'
    obtain ⟨p, rfl⟩ := Int.eq_ofNat_of_zero_le (show 0 ≤ x by omega)
    obtain ⟨q, rfl⟩ := Int.eq_ofNat_of_zero_le (show 0 ≤ y by omega)
    by_cases he : (p : Int) = q
    · refine .inr (.inl ⟨p, by omega, rfl, he.symm, ?_, ?_⟩)
      · unfold addErr; rw [if_neg hb, if_pos he]
      · unfold raddEs; rw [if_pos (.inr (.inl he))]
    · refine .inr (.inr ⟨p, q, by omega, by omega, by omega, rfl, rfl, ?_, ?_⟩)
      · unfold addErr; rw [if_neg hb, if_neg he, if_neg (by rw [hh]; simp), if_neg (by omega)]
      · unfold raddEs
        rw [if_neg (by rw [hh]; rintro (h1 | h1 | h1 | h1); exact hb h1; exact he h1; simp at h1; omega), List.map_append]
        congr 1
        simp only [List.map_cons, List.map_nil]
        congr 1
        unfold mkE norm
        simp only [E.mk.injEq]
        omega

/-- .. and the program's. -/
theorem bp_badd {w wr : World} {n b rb i : Nat} {es fs : List E} (hP : BP n i es) (hi : i ≤ 100) (x y : Int) (h : BpS w n b rb es fs wr) (hf : fs = raddEs n (es.map norm) i x y) :
    Calls Tryz.prog 31 #[.pointer (some ⟨b, 0, none⟩), .int .i64 (i : Nat), .int .i64 x, .int .i64 y] wr fun e w' => ∃ es' ok, e = .returned (.tuple #[.bool ok, errV (addErr n (es.map norm) i x y)]) ∧ (ok = true ↔ i ∈ brE (es'.map norm)) ∧ BP n (i + 1) es' ∧ BpS w n b rb es' (es'.map norm) w' := by
  obtain ⟨F1, hB, hF, hnext⟩ := h.brs
  rcases addErr_bp hP hi x y with ⟨h1, h2, h3⟩ | ⟨p, hp, rfl, rfl, h2, h3⟩ | ⟨p, q, hp, hq, hpq, rfl, rfl, h2, h3⟩
  · refine (badd_range F1 wr b n es i x y h1 hB).mono ?_
    rintro e w' ⟨rfl, hk⟩
    refine ⟨es, false, by rw [h2]; rfl, ⟨fun h => (by cases h), fun h => absurd h hP.notin⟩, hP.same, ?_⟩
    have := h.keepN hk
    rwa [hf, h3] at this
  · refine (badd_loop F1 wr b n p es i hp hB).mono ?_
    rintro e w' ⟨rfl, hB', hk⟩
    refine ⟨es, false, by rw [h2]; rfl, ⟨fun h => (by cases h), fun h => absurd h hP.notin⟩, hP.same, ?_⟩
    have := hnext es w' hB' hk
    rwa [hf, h3] at this
  · refine (badd_any F1 wr b n es i p q hp hq hpq (fun f hf => hP.fresh f hf) (by omega) hB (fun k hk => (hF k hk).2)).mono ?_
    rintro e w' ⟨rfl, hB', hk⟩
    refine ⟨es ++ [⟨i, p, q⟩], _, by rw [h2]; rfl, ?_, hP.add hp hq, ?_⟩
    · rw [hP.last hp hq]; simp
    · have := hnext _ w' hB' hk
      rwa [hf, h3] at this

theorem BridgeIds.norm {n i : Nat} {es : List E} {l : List Nat} (hP : BP n i es) (h : BridgeIds es l) : l = brE (es.map Pl.norm) :=
  h.unique ⟨brE_sorted (sorted_norm.2 hP.sorted), fun id => by rw [mem_brE (sorted_norm.2 hP.sorted)]⟩ (fun id => by
    rw [h.mem, mem_brE (sorted_norm.2 hP.sorted), ids_norm])

theorem parts_in {n : Nat} {L : Nat → Nat} (C : Canon n L) {x y : Nat} (hx : x < n) (hy : y < n) : (∃ l, l ∈ parts n L ∧ x ∈ l ∧ y ∈ l) ↔ L x = L y := by
  constructor
  · rintro ⟨l, hl, h1, h2⟩
    rw [parts_eq] at hl
    obtain ⟨r, _, rfl⟩ := List.mem_map.1 hl
    have e1 := (List.mem_filter.1 h1).2
    have e2 := (List.mem_filter.1 h2).2
    simp only [decide_eq_true_eq] at e1 e2
    rw [e1, e2]
  · intro h
    refine ⟨(List.range n).filter (fun z => decide (L z = L x)), ?_, by simp [hx], by simp [hy, h]⟩
    rw [parts_eq]
    exact List.mem_map.2 ⟨L x, List.mem_filter.2 ⟨List.mem_range.2 (C.lt hx), by simp [isRoot, C.idem x hx]⟩, rfl⟩

theorem parts_bound (n : Nat) (L : Nat → Nat) (hn : n ≤ 40) : (parts n L).length ≤ 1000 ∧ ∀ l, l ∈ parts n L → l.length ≤ 1000 := by
  refine ⟨by rw [parts_length]; have := cnt_le n (isRoot L); omega, fun l hl => ?_⟩
  rw [parts_eq] at hl
  obtain ⟨r, _, rfl⟩ := List.mem_map.1 hl
  refine Nat.le_trans (List.length_filter_le _ _) ?_
  rw [List.length_range]; omega

theorem tw_norm {es : List E} {x y : Nat} : Tw (es.map norm) x y ↔ Conn (ends es) x y ∧ ∀ e, e ∈ es → Conn (ends (sans es [e.id])) x y := by
  unfold Tw
  rw [conn_norm]
  refine and_congr Iff.rfl ⟨fun h e he => ?_, fun h e he => ?_⟩
  · have := h (norm e) (List.mem_map.2 ⟨e, he, rfl⟩)
    rw [sans_norm, conn_norm] at this
    exact this
  · obtain ⟨f, hf, rfl⟩ := List.mem_map.1 he
    rw [sans_norm, conn_norm]
    exact h f hf

end Go.Proofs.YtkpoobnldgfapabGreatDoor
