/- isthmuslaw.FlowCounts in plain terms: both graphs count alike; a told way is gone along. -/
import Derived.Test.YtkpoobnldgfapabGreatDoorPlWays
import Derived.Test.YtkpoobnldgfapabGreatDoorPlRoom3
import Derived.Test.YtkpoobnldgfapabGreatDoorP3
set_option linter.unusedVariables false
set_option linter.unusedSimpArgs false
namespace Go.Proofs.YtkpoobnldgfapabGreatDoor.Pl

theorem perm_of_sub {l es : List E} (hn : l.Nodup) (hs : ∀ e, e ∈ l → e ∈ es) (hl : l.length = es.length) : l.Perm es := by
  induction l generalizing es with
  | nil => rw [List.eq_nil_of_length_eq_zero hl.symm]
  | cons a l ih =>
    rw [List.nodup_cons] at hn
    have ha := hs a (by simp)
    have h0 := List.length_pos_of_mem ha
    have := ih (es := es.erase a) hn.2 (fun e he => (List.mem_erase_of_ne (fun h => hn.1 (by rw [← h]; exact he))).2 (hs e (by simp [he]))) (by
      rw [List.length_erase_of_mem ha]
      rw [List.length_cons] at hl
      omega)
    exact (this.cons a).trans (List.perm_cons_erase ha).symm

/-- As many, and the same ones. -/
theorem Made.perm' {n m : Nat} {es fs : List E} (h : Made n m es fs) : es.Perm fs :=
  perm_of_sub (List.Pairwise.imp (fun hlt e => by rw [e] at hlt; omega) h.sorted) (fun e he => (h.mem e).1 he) h.len

theorem cutE_perm {es fs : List E} (h : es.Perm fs) : cutE es = cutE fs := by
  funext R; unfold cutE; rw [h.countP_eq]

theorem capL_perm {as bs : List (Nat × Nat)} (h : as.Perm bs) : capL as = capL bs := by
  funext R; unfold capL; rw [h.countP_eq]

theorem capN_perm {n a b : Nat} {es fs : List E} (h : es.Perm fs) : capL (arcsN n a b ++ arcsNE a b es) = capL (arcsN n a b ++ arcsNE a b fs) := by
  refine capL_perm (List.Perm.append_left _ ?_)
  unfold arcsNE
  exact h.flatMap_right _

theorem MinCap.same {c : (Nat → Bool) → Int} {s t : Nat} {most : Nat} {v v' : Nat} (h : MinCap c s t most v) (h' : MinCap c s t most v') : v = v' := by
  have := h.unique h'; omega

/-- The first edge of the rest of a way. -/
theorem Trail.at {l : List E} {k : Nat} {e : E} {y t : Nat} (hk : l[k]? = some e) (h : Trail (l.drop k) y t) :
    (e.a = y ∧ Trail (l.drop (k + 1)) e.b t) ∨ (e.b = y ∧ e.a ≠ y ∧ Trail (l.drop (k + 1)) e.a t) := by
  have hl := (List.getElem?_eq_some_iff.1 hk)
  rw [List.drop_eq_getElem_cons hl.1, hl.2] at h
  exact h

theorem Trail.end {l : List E} {k : Nat} {y t : Nat} (hk : k = l.length) (h : Trail (l.drop k) y t) : y = t := by
  rw [hk, List.drop_length] at h; exact h

end Go.Proofs.YtkpoobnldgfapabGreatDoor.Pl
