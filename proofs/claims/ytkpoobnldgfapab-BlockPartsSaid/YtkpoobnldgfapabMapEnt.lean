/- Maps: an entry that is laid first and stored into later ('m[k] = v' within a drawn region). Nothing of one program stands here. -/
import Derived.Test.YtkpoobnldgfapabA1
import Derived.WideKeyEntry
set_option linter.unusedVariables false
set_option linter.unusedSimpArgs false
namespace Go.Proofs.Ytkpoobnldgfapab
open Go.RowKit Go.Maps Go.WideElems

theorem mset_same {α : Type} [DecidableEq α] {m : List (α × Value)} (hn : m.Pairwise (fun p q => p.1 ≠ q.1)) {a : α} {v : Value} (h : mget m a = some v) : mset m a v = m := by
  unfold mset
  rw [if_pos (by rw [← mget_isSome, h]; rfl)]
  induction m with
  | nil => rfl
  | cons p m ih =>
    rw [List.pairwise_cons] at hn
    rw [mget_cons] at h
    rw [List.map_cons]
    by_cases e : p.1 = a
    · rw [if_pos e] at h ⊢
      have : p = (a, v) := Prod.ext e (by simpa using h)
      rw [← this]
      congr 1
      conv => rhs; rw [← List.map_id m]
      refine List.map_congr_left fun q hq => ?_
      rw [if_neg (fun e2 => hn.1 q hq (by rw [e, e2]))]; rfl
    · rw [if_neg e] at h ⊢
      rw [ih hn.2 h]

theorem mset_mset {α : Type} [DecidableEq α] (m : List (α × Value)) (a : α) (u v : Value) : mset (mset m a u) a v = mset m a v := by
  unfold mset
  by_cases h : m.any (fun p => decide (p.1 = a)) = true
  · rw [if_pos h, if_pos h]
    have h2 : (m.map (fun p => if p.1 = a then (a, u) else p)).any (fun p => decide (p.1 = a)) = true := by
      obtain ⟨p, hp, hpa⟩ := List.any_eq_true.1 h
      exact List.any_eq_true.2 ⟨(a, u), List.mem_map.2 ⟨p, hp, by rw [if_pos (by simpa using hpa)]⟩, by simp⟩
    rw [if_pos h2, List.map_map]
    refine List.map_congr_left fun p _ => ?_
    simp only [Function.comp]
    by_cases e : p.1 = a <;> simp [e]
  · rw [if_neg h, if_neg h]
    have h2 : (m ++ [(a, u)]).any (fun p => decide (p.1 = a)) = true := List.any_eq_true.2 ⟨(a, u), by simp, by simp⟩
    rw [if_pos h2, List.map_append]
    congr 1
    · conv => rhs; rw [← List.map_id m]
      refine List.map_congr_left fun q hq => ?_
      rw [if_neg (fun e => h (List.any_eq_true.2 ⟨q, hq, by simpa using e⟩))]; rfl
    · simp

section
variable {α : Type} {enc : α → Value} {D : α → Prop} {w : World} {b : Nat} {m : List (α × Value)} {P : Program} {k : TypeId}

theorem mapAt_push [DecidableEq α] {es : Array MapEntry} {clock : Nat} (hb : w.heap[b]? = some (.map es clock)) (hm : es.toList.map (fun e => (e.key, e.val)) = m.map (fun p => (enc p.1, p.2))) (hD : ∀ p ∈ m, D p.1) (hn : m.Pairwise (fun p q => p.1 ≠ q.1))
    (hs : (es.toList.map (·.born)).Pairwise (· ≠ ·)) (hc : ∀ e ∈ es.toList, e.born < clock) {a : α} (ha : D a) (h2 : mget m a = none) (v : Value) {w2 : World} {es2 : Array MapEntry} {clock2 : Nat} (hb2 : w2.heap[b]? = some (.map es2 clock2)) :
    MapAt enc D (ChangeMaps.setBlock w2 b (.map (es.push ⟨enc a, v, clock⟩) (clock + 1))) b (mset m a v) := by
  refine ⟨es.push ⟨enc a, v, clock⟩, clock + 1, ChangeMaps.heap_setBlock_same hb2 _, ?_, dom_mset hD ha v, pairwise_mset hn a v, ?_, ?_⟩
  · have : ¬ (m.any (fun p => decide (p.1 = a)) = true) := by rw [← mget_isSome, h2]; simp
    unfold mset
    rw [if_neg this]
    simp [hm]
  · simp only [Array.toList_push, List.map_append, List.map_cons, List.map_nil]
    rw [List.pairwise_append]
    refine ⟨hs, by simp, fun p hp q hq => ?_⟩
    obtain ⟨e, he, rfl⟩ := List.mem_map.1 hp
    simp at hq; subst hq
    have := hc e he
    omega
  · intro e he
    simp only [Array.toList_push, List.mem_append, List.mem_singleton] at he
    rcases he with he | rfl
    · have := hc e he; omega
    · show clock < clock + 1; omega

theorem MapAt.entry [DecidableEq α] (E : Enc P k enc D) {t e : TypeId} (ht : P.underlying t = some (.map k e)) {z : Value} (hz : (zeroValue e).run P w = .ok z w) (h : MapAt enc D w b m) {a : α} (ha : D a) :
    ∃ w1 st, (Instr.mapEntry t (.map (some b)) (enc a)).run P w = .ok (.tuple #[(mget m a).getD z, goInt st]) w1 ∧ MapAt enc D w1 b (mset m a ((mget m a).getD z)) ∧ Keep (fun i => i = b) w w1 ∧
      ∀ w2, w2.heap[b]? = w1.heap[b]? → ∀ v, ∃ w', (Instr.entryStore t (.map (some b)) (goInt st) v).run P w2 = .ok () w' ∧ MapAt enc D w' b (mset m a v) ∧ Keep (fun i => i = b) w2 w' := by
  have h0 := h
  obtain ⟨es, clock, hb, hm, hD, hn, hs, hc⟩ := h
  obtain ⟨l, hl⟩ := E.ok ha
  rcases entries_find E hm hD ha w with ⟨h1, h2⟩ | ⟨j, v0, h1, h2, e0, h3, h4⟩
  · refine ⟨ChangeMaps.setBlock w b (.map (es.push ⟨enc a, z, clock⟩) (clock + 1)), clock, ?_, ?_, keep_setBlock hb, fun w2 hw2 v => ?_⟩
    · rw [h2]
      simp [Instr.mapEntry, run_underlying ht, MapKept.run_getObj_map hb, E.keyed.check w false hl, h1, hz, MapKept.run_setObj_map _ hb, Result.andThen, ChangeMaps.setBlock]
    · rw [h2]; exact mapAt_push hb hm hD hn hs hc ha h2 z hb
    · have hw2 : w2.heap[b]? = some (.map (es.push ⟨enc a, z, clock⟩) (clock + 1)) := hw2.trans (ChangeMaps.heap_setBlock_same hb _)
      refine ⟨ChangeMaps.setBlock w2 b (.map (es.push ⟨enc a, v, clock⟩) (clock + 1)), ?_, mapAt_push hb hm hD hn hs hc ha h2 v hw2, keep_setBlock hw2⟩
      have hidx : (es.push ⟨enc a, z, clock⟩).findIdx? (fun e => ((e.born : Nat) : Int) == ((clock : Nat) : Int)) = some es.size := by
        rw [findIdx_arr]
        exact findIdx_born (l := (es.push ⟨enc a, z, clock⟩).toList) (j := es.size) (e0 := ⟨enc a, z, clock⟩) (by
          simp only [Array.toList_push, List.map_append, List.map_cons, List.map_nil]
          refine List.nodup_append.2 ⟨hs, by simp, fun x hx y hy e1 => ?_⟩
          simp only [List.mem_singleton] at hy
          obtain ⟨u, hu, rfl⟩ := List.mem_map.1 hx
          have := hc u hu
          omega) (by simp)
      have hmod : (es.push ⟨enc a, z, clock⟩).modify es.size (fun e => { e with val := v }) = es.push ⟨enc a, v, clock⟩ := by
        apply Array.ext'
        rw [Array.toList_modify, Array.toList_push, Array.toList_push, ← Array.length_toList, modify_last]
      simp [Instr.entryStore, MapKept.run_getObj_map hw2, asInt, asIntOf, goInt, hidx, hmod, MapKept.run_setObj_map _ hw2, Result.andThen, ChangeMaps.setBlock]
  · have hg := mget_of_get hn h2
    have hj : es[j]? = some e0 := by simpa using h3
    have hv0 : e0.val = v0 := by
      have h5 : (es.toList.map (fun e => (e.key, e.val)))[j]? = some (e0.key, e0.val) := by simp [h3]
      rw [hm] at h5
      simp only [List.getElem?_map, h2, Option.map_some, Option.some.injEq, Prod.mk.injEq] at h5
      exact h5.2.symm
    have hsame : es.modify j (fun e => { e with key := enc a }) = es := by
      apply Array.ext'
      rw [Array.toList_modify, Go.ChangeMaps.modify_eq_set _ _ _ _ h3]
      have : ({ e0 with key := enc a } : MapEntry) = e0 := by rw [← h4]
      rw [this]
      exact set_self _ _ _ h3
    refine ⟨ChangeMaps.setBlock w b (.map es clock), e0.born, ?_, ?_, keep_setBlock hb, fun w2 hw2 v => ?_⟩
    · rw [hg]
      simp [Instr.mapEntry, run_underlying ht, MapKept.run_getObj_map hb, E.keyed.check w false hl, h1, hj, h4, E.keyed.stays w hl, hsame, MapKept.run_setObj_map _ hb, Result.andThen, ChangeMaps.setBlock]
    · rw [hg]
      show MapAt enc D _ b (mset m a v0)
      rw [mset_same hn hg]
      exact ⟨es, clock, ChangeMaps.heap_setBlock_same hb _, hm, hD, hn, hs, hc⟩
    · have hw2 : w2.heap[b]? = some (.map es clock) := hw2.trans (ChangeMaps.heap_setBlock_same hb _)
      obtain ⟨w', r1, r2, r3⟩ := (show MapAt enc D w2 b m from ⟨es, clock, hw2, hm, hD, hn, hs, hc⟩).store E ht ha v
      refine ⟨w', ?_, r2, r3⟩
      rw [← r1]
      have h1' : (Instr.findKey k (enc a) es.toList).run P w2 = .ok (some (j, v0)) w2 := by
        rcases entries_find E hm hD ha w2 with ⟨_, g2⟩ | ⟨j', v', g1, g2, _⟩
        · rw [hg] at g2; cases g2
        · have hjj : j' = j := by
            apply Classical.byContradiction
            intro hne
            rw [List.pairwise_iff_getElem] at hn
            obtain ⟨l1, q1⟩ := List.getElem?_eq_some_iff.1 h2
            obtain ⟨l2, q2⟩ := List.getElem?_eq_some_iff.1 g2
            rcases Nat.lt_or_gt_of_ne hne with hlt | hlt
            · exact hn j' j l2 l1 hlt (by rw [q1, q2])
            · exact hn j j' l1 l2 hlt (by rw [q1, q2])
          subst hjj
          rw [h2] at g2; cases g2
          exact g1
      have hidx : es.findIdx? (fun e => ((e.born : Nat) : Int) == ((e0.born : Nat) : Int)) = some j := by
        rw [findIdx_arr]
        exact findIdx_born hs h3
      have hmod : es.modify j (fun e => { e with val := v }) = es.modify j (fun e' => { e' with key := enc a, val := v }) := by
        apply Array.ext'
        rw [Array.toList_modify, Array.toList_modify, Go.ChangeMaps.modify_eq_set _ _ _ _ h3, Go.ChangeMaps.modify_eq_set _ _ _ _ h3, ← h4]
      simp [Instr.entryStore, Instr.mapUpdate, run_underlying ht, E.keyed.check w2 false hl, h1', hj, h4, E.keyed.stays w2 hl, MapKept.run_getObj_map hw2, asInt, asIntOf, goInt, hidx, hmod, MapKept.run_setObj_map _ hw2, Result.andThen, ChangeMaps.setBlock]
end

end Go.Proofs.Ytkpoobnldgfapab
