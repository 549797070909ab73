/- Parts: their members, their first ones, how many they are together. -/
import Derived.Test.YtkpoobnldgfapaaPlConn
namespace Go.Proofs.Ytkpoobnldgfapaa.Pl

/-- What a part is. -/
theorem parts_part {n : Nat} {L : Nat → Nat} (C : Canon n L) {i : Nat} {l : List Nat} (h : (parts n L)[i]? = some l) :
    ∃ r, r < n ∧ L r = r ∧ (∀ x, x ∈ l ↔ x < n ∧ L x = r) ∧ l.length = cnt n (fun z => decide (L z = r)) ∧ l[0]? = some r := by
  have hm := List.mem_of_getElem? h
  unfold parts at hm
  obtain ⟨r, hr, rfl⟩ := List.mem_map.1 hm
  rw [List.mem_filter, List.mem_range] at hr
  obtain ⟨hr1, hr2⟩ := hr
  have hr3 : L r = r := by simpa using hr2
  refine ⟨r, hr1, hr3, fun x => by rw [List.mem_filter, List.mem_range]; simp, by rw [← List.countP_eq_length_filter]; rfl, ?_⟩
  have h0 : cnt r (fun z => decide (L z = r)) = 0 := by
    have : cnt r (fun z => decide (L z = r)) = cnt r (fun _ => false) := cnt_congr fun z hz => by
      have := C.le z (by omega)
      simp; omega
    rw [this]; simp [cnt]
  have := roots_get (p := fun z => decide (L z = r)) hr1 (by simp [hr3])
  rw [h0] at this
  exact this

theorem sum_modify {l : List (List Nat)} {i x : Nat} (hi : i < l.length) : ((l.modify i (fun p => p ++ [x])).map List.length).sum = (l.map List.length).sum + 1 := by
  induction l generalizing i with
  | nil => simp at hi
  | cons p l ih =>
    cases i with
    | zero => simp; omega
    | succ i =>
      simp at hi
      have := ih hi
      simp [this]; omega

theorem sum_parts {n : Nat} {L : Nat → Nat} (C : Canon n L) : ((parts n L).map List.length).sum = n := by
  induction n with
  | zero => rfl
  | succ n ih =>
    have C' : Canon n L := ⟨fun x hx => C.le x (by omega), fun x hx => C.idem x (by omega)⟩
    by_cases h : L n = n
    · rw [parts_succ_root C h]; simp [ih C']
    · rw [parts_succ_other C h, sum_modify, ih C']
      rw [parts_length]
      have h1 := C.le n (by omega)
      exact cnt_lt (by omega) (by simp [isRoot, C.idem n (by omega)])

/-- How many roots there are once two sets are one. -/
theorem roots_join {n : Nat} {L : Nat → Nat} (C : Canon n L) {x y : Nat} (hx : x < n) (hy : y < n) (h : L x ≠ L y) : cnt n (isRoot L) = cnt n (isRoot (joinL L x y)) + 1 := by
  have hxl := C.lt hx
  have hyl := C.lt hy
  have h1 := C.idem x hx
  have h2 := C.idem y hy
  have hmm : L (max (L x) (L y)) = max (L x) (L y) := by
    by_cases h : L x ≤ L y
    · rw [Nat.max_eq_right h]; exact h2
    · rw [Nat.max_eq_left (by omega)]; exact h1
  refine cnt_remove (x := max (L x) (L y)) (by omega) (by simp [isRoot, hmm]) fun z hz => ?_
  have hle := C.le z hz
  by_cases c : z = max (L x) (L y)
  · subst c
    have : joinL L x y (max (L x) (L y)) = min (L x) (L y) := by unfold joinL; rw [hmm, if_pos rfl]
    simp [isRoot, this]; omega
  · by_cases c2 : L z = max (L x) (L y)
    · have h3 : joinL L x y z = min (L x) (L y) := by unfold joinL; rw [if_pos c2]
      have : ¬ L z = z := by omega
      simp [isRoot, h3, this]; omega
    · have h3 : joinL L x y z = L z := by unfold joinL; rw [if_neg c2]
      simp [isRoot, h3, c]

theorem labs_map_succ (f : Nat → Nat × Nat) (k : Nat) : labs ((List.range (k + 1)).map f) = joinL (labs ((List.range k).map f)) (f k).1 (f k).2 := by
  rw [List.range_succ, List.map_append]; exact labs_snoc _ _

/-- Whatever the turn, and whichever is named first: the sets are the same. -/
theorem labs_turn {m t : Nat} (ht : t < m) (f : Nat → Nat × Nat) (x : Nat) :
    labs ((List.range m).map f) x = labs ((List.range m).map (fun i => ((f ((i + t) % m)).2, (f ((i + t) % m)).1))) x := by
  refine labs_mem (fun a b h => .inr ?_) (fun a b h => .inr ?_) x
  · obtain ⟨i, hi, he⟩ := List.mem_map.1 h
    rw [List.mem_range] at hi
    refine List.mem_map.2 ⟨(i + (m - t)) % m, List.mem_range.2 (Nat.mod_lt _ (by omega)), ?_⟩
    have : ((i + (m - t)) % m + t) % m = i := by
      rw [Nat.mod_add_mod]
      have : i + (m - t) + t = i + m := by omega
      rw [this, Nat.add_mod_right, Nat.mod_eq_of_lt hi]
    rw [this, he]
  · obtain ⟨i, hi, he⟩ := List.mem_map.1 h
    rw [List.mem_range] at hi
    refine List.mem_map.2 ⟨(i + t) % m, List.mem_range.2 (Nat.mod_lt _ (by omega)), ?_⟩
    simp only [Prod.mk.injEq] at he
    exact Prod.ext he.2 he.1

end Go.Proofs.Ytkpoobnldgfapaa.Pl
