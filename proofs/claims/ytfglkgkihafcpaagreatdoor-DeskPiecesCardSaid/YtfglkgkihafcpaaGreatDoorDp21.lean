/- Part 21 of the proof: MatNew. -/
import Derived.Test.YtfglkgkihafcpaaGreatDoorDp01
set_option linter.unusedVariables false
set_option linter.unusedSimpArgs false
namespace Go.Proofs.YtfglkgkihafcpaaGreatDoor
open Go.RowKit
theorem Mat.pushNew {F : Nat → Prop} {w w' : World} {T e : TypeId} {o : Option Addr} {n c : Nat} {rows : List Rw} {ll : List (List Nat)} {g c' q m cq : Nat} {l : List Nat} (h : Mat F w T e o n c rows ll) (hS : Sl F w' T 1 (some ⟨g, 0, none⟩) (n + 1) c' (rows.map Rw.val ++ [.slice (some ⟨q, 0, none⟩) m cq]))
  (hk : Keep (Bl o) w w') (hg : o = some ⟨g, 0, none⟩ ∨ g = w.heap.size + 1) (hr : Sl F w e 1 (some ⟨q, 0, none⟩) m cq (ints l)) (hq : ¬ Bl o q) (hqr : ∀ (i : Nat) s a, rows[i]? = some s → s.o = some a → a.block ≠ q) (hgq : g ≠ q) :
  Mat F w' T e (some ⟨g, 0, none⟩) (n + 1) c' (rows ++ [⟨some ⟨q, 0, none⟩, m, cq⟩]) (ll ++ [l]) := by
 have last : ∀ {i : Nat} {s : Rw}, (rows ++ [⟨some ⟨q, 0, none⟩, m, cq⟩])[i]? = some s → ¬ i < rows.length → i = rows.length ∧ s = ⟨some ⟨q, 0, none⟩, m, cq⟩ := by
  intro i s h1 hi
  have hi' : i = rows.length := by
   have := (List.getElem?_eq_some_iff.1 h1).1
   simp at this; omega
  subst hi'
  simp at h1
  exact ⟨rfl, h1.symm⟩
 refine ⟨by simpa [Rw.val] using hS, by simp [h.len], fun i r l' h1 h2 => ?_, fun i r a h1 ha => ?_, fun i j r s a b hij h1 h2 ha hb => ?_⟩
 ·by_cases hi : i < rows.length
  ·rw [List.getElem?_append_left hi] at h1
   rw [List.getElem?_append_left (by rw [← h.len]; exact hi)] at h2
   refine (h.row i r l' h1 h2).of_block fun a ha => hk.block _ (h.rowLt h1 ha) (h.ne i r a h1 ha)
  ·obtain ⟨rfl, rfl⟩ := last h1 hi
   rw [h.len] at h2
   simp at h2
   subst h2
   refine hr.of_block fun a ha => hk.block _ (hr.lt ha) ?_
   simp at ha; subst ha
   exact hq
 ·by_cases hi : i < rows.length
  ·rw [List.getElem?_append_left hi] at h1
   rintro ⟨a', ha', hb⟩
   simp at ha'
   subst ha'
   rcases hg with hg | hg
   ·exact h.ne i r a h1 ha ⟨_, hg, hb⟩
   ·have := h.rowLt h1 ha
    simp at hb; omega
  ·obtain ⟨rfl, rfl⟩ := last h1 hi
   simp at ha; subst ha
   rintro ⟨a', ha', hb⟩
   simp at ha'; subst ha'
   exact hgq hb
 ·by_cases hi : i < rows.length
  ·rw [List.getElem?_append_left hi] at h1
   by_cases hj : j < rows.length
   ·rw [List.getElem?_append_left hj] at h2
    exact h.nn i j r s a b hij h1 h2 ha hb
   ·obtain ⟨rfl, rfl⟩ := last h2 hj
    simp at hb; subst hb
    exact hqr i r a h1 ha
  ·obtain ⟨rfl, rfl⟩ := last h1 hi
   simp at ha; subst ha
   by_cases hj : j < rows.length
   ·rw [List.getElem?_append_left hj] at h2
    exact fun e => hqr j s b h2 hb e.symm
   ·obtain ⟨rfl, rfl⟩ := last h2 hj
    exact absurd rfl hij
end Go.Proofs.YtfglkgkihafcpaaGreatDoor

