/- Part 11 of the proof: P2. -/
import Derived.Test.YtfglkgkihafcpaaGreatDoorDp04
set_option linter.unusedVariables false
set_option linter.unusedSimpArgs false
namespace Go.Proofs.YtfglkgkihafcpaaGreatDoor.Pl
def afr (fr to : Nat → Nat) (k : Nat) : Nat := if k % 2 = 0 then fr (k / 2) else to (k / 2)
def ato (fr to : Nat → Nat) (k : Nat) : Nat := if k % 2 = 0 then to (k / 2) else fr (k / 2)
def ause (u : Nat → Bool) (k : Nat) : Bool := if k % 2 = 0 then u (k / 2) else !u (k / 2)
def bk (k : Nat) : Nat := if k % 2 = 0 then k + 1 else k - 1
structure Bfs (m : Nat) (fr to : Nat → Nat) (u : Nat → Bool) (s : Nat) (line : List Nat) (by_ : Nat → Option Int) : Prop where
 head : line[0]? = some s
 nodup : line.Nodup
 keys : ∀ v, (by_ v).isSome = true ↔ v ∈ line
 first : by_ s = some (-1)
 arc : ∀ j v, 0 < j → line[j]? = some v → ∃ k : Nat, k < 2 * m ∧ by_ v = some (k : Int) ∧ ato fr to k = v ∧ ause u k = false ∧ ∃ j', j' < j ∧ line[j']? = some (afr fr to k)
def Seen (m : Nat) (fr to : Nat → Nat) (u : Nat → Bool) (line : List Nat) (i : Nat) : Prop :=
 ∀ i' v k, i' < i → line[i']? = some v → k < 2 * m → afr fr to k = v → ause u k = false → ato fr to k ∈ line
theorem Bfs.start (m : Nat) (fr to : Nat → Nat) (u : Nat → Bool) (s : Nat) : Bfs m fr to u s [s] (fun v => if v = s then some (-1) else none) := by
 refine ⟨rfl, by simp, fun v => ?_, by simp, fun j v h0 hj => ?_⟩
 ·by_cases e : v = s <;> simp [e]
 ·cases j with
  | zero => omega
  | succ j => simp at hj
theorem Bfs.meet {m : Nat} {fr to : Nat → Nat} {u : Nat → Bool} {s : Nat} {line : List Nat} {by_ : Nat → Option Int} (h : Bfs m fr to u s line by_) {i k : Nat} (hi : line[i]? = some (afr fr to k)) (hk : k < 2 * m)
  (hu : ause u k = false) (hn : by_ (ato fr to k) = none) : Bfs m fr to u s (line ++ [ato fr to k]) (fun v => if v = ato fr to k then some (k : Int) else by_ v) := by
 have hnm : ato fr to k ∉ line := fun hm => by
  have := (h.keys _).2 hm
  rw [hn] at this; cases this
 have hl := (List.getElem?_eq_some_iff.1 h.head).1
 have hil := (List.getElem?_eq_some_iff.1 hi).1
 have hs : s ∈ line := List.mem_of_getElem? h.head
 refine ⟨by rw [List.getElem?_append_left hl]; exact h.head, ?_, fun v => ?_, ?_, fun j v h0 hj => ?_⟩
 ·rw [List.nodup_append]
  exact ⟨h.nodup, by simp, fun a ha b hb e => by simp at hb; subst hb; subst e; exact hnm ha⟩
 ·by_cases e : v = ato fr to k
  ·simp [e]
  ·simp [e, h.keys]
 ·rw [if_neg (fun (e : s = ato fr to k) => hnm (e ▸ hs))]; exact h.first
 ·by_cases hjl : j < line.length
  ·rw [List.getElem?_append_left hjl] at hj
   obtain ⟨k', h1, h2, h3, h4, j', h5, h6⟩ := h.arc j v h0 hj
   have hv : v ≠ ato fr to k := fun e => hnm (e ▸ List.mem_of_getElem? hj)
   exact ⟨k', h1, by rw [if_neg hv]; exact h2, h3, h4, j', h5, by rw [List.getElem?_append_left (by omega)]; exact h6⟩
  ·rw [List.getElem?_append_right (by omega)] at hj
   have hj0 : j - line.length = 0 := by
    have := (List.getElem?_eq_some_iff.1 hj).1
    simp at this; omega
   rw [hj0] at hj
   simp at hj
   subst hj
   exact ⟨k, hk, by rw [if_pos rfl], rfl, hu, i, by omega, by rw [List.getElem?_append_left hil]; exact hi⟩
theorem Seen.grow {m : Nat} {fr to : Nat → Nat} {u : Nat → Bool} {line : List Nat} {i : Nat} (h : Seen m fr to u line i) (hi : i ≤ line.length) (x : Nat) : Seen m fr to u (line ++ [x]) i := by
 intro i' v k h1 h2 h3 h4 h5
 rw [List.getElem?_append_left (by omega)] at h2
 exact List.mem_append_left _ (h i' v k h1 h2 h3 h4 h5)
theorem Bfs.stuck {m : Nat} {fr to : Nat → Nat} {u : Nat → Bool} {s t : Nat} {line : List Nat} {by_ : Nat → Option Int} (h : Bfs m fr to u s line by_) (hs : Seen m fr to u line line.length) (ht : by_ t = none) :
  ∃ R : Nat → Bool, R s = true ∧ R t = false ∧ (∀ i, i < m → R (fr i) = true → R (to i) = false → u i = true) ∧ (∀ i, i < m → R (fr i) = false → R (to i) = true → u i = false) := by
 refine ⟨fun v => decide (v ∈ line), by simpa using List.mem_of_getElem? h.head, ?_, fun i hi h1 h2 => ?_, fun i hi h1 h2 => ?_⟩
 ·have : ¬ (by_ t).isSome = true := by rw [ht]; simp
  rw [h.keys] at this
  simpa using this
 ·simp only [decide_eq_true_eq, decide_eq_false_iff_not] at h1 h2
  obtain ⟨j, hj⟩ := List.mem_iff_getElem?.1 h1
  have hjl := (List.getElem?_eq_some_iff.1 hj).1
  cases hu : u i with
  | true => rfl
  | false =>
   have := hs j (fr i) (2 * i) hjl hj (by omega) (by simp [afr]) (by simp [ause, hu])
   exact absurd (by simpa [ato] using this) h2
 ·simp only [decide_eq_true_eq, decide_eq_false_iff_not] at h1 h2
  obtain ⟨j, hj⟩ := List.mem_iff_getElem?.1 h2
  have hjl := (List.getElem?_eq_some_iff.1 hj).1
  have e1 : (2 * i + 1) / 2 = i := by omega
  have e2 : ¬ (2 * i + 1) % 2 = 0 := by omega
  cases hu : u i with
  | false => rfl
  | true =>
   have := hs j (to i) (2 * i + 1) hjl hj (by omega) (by simp [afr, e1, e2]) (by simp [ause, e1, e2, hu])
   exact absurd (by simpa [ato, e1, e2] using this) h1
structure Aug (m : Nat) (fr to : Nat → Nat) (u : Nat → Bool) (t : Nat) (line : List Nat) (by_ : Nat → Option Int) (u' : Nat → Bool) (j v : Nat) : Prop where
 at_ : line[j]? = some v
 exc : ∀ w, exc m fr to u' w = Pl.exc m fr to u w + ind (decide (w = v)) - ind (decide (w = t))
 keep : ∀ (j' v' k : Nat), 0 < j' → j' ≤ j → line[j']? = some v' → by_ v' = some (k : Int) → ause u' k = false
theorem exc_take {m : Nat} {fr to : Nat → Nat} {u u' : Nat → Bool} {k : Nat} (hk : k < 2 * m) (h0 : ause u k = false) (h1 : ause u' k = true) (hn : ∀ j, j < m → j ≠ k / 2 → u' j = u j) (w : Nat) :
  exc m fr to u' w = exc m fr to u w + ind (decide (w = afr fr to k)) - ind (decide (w = ato fr to k)) := by
 rw [exc_set (i := k / 2) (by omega) fr to hn]
 have sw : ∀ a b : Nat, decide (a = b) = decide (b = a) := fun a b => by rw [decide_eq_decide]; exact eq_comm
 unfold ause at h0 h1
 unfold afr ato
 by_cases hp : k % 2 = 0
 ·rw [if_pos hp] at h0 h1
  rw [if_pos hp, if_pos hp, h0, h1, ind_true, ind_false, sw (fr (k / 2)), sw (to (k / 2))]; omega
 ·rw [if_neg hp] at h0 h1
  have h0' : u (k / 2) = true := by simpa using h0
  have h1' : u' (k / 2) = false := by simpa using h1
  rw [if_neg hp, if_neg hp, h0', h1', ind_true, ind_false, sw (fr (k / 2)), sw (to (k / 2))]; omega
theorem Aug.start {m : Nat} {fr to : Nat → Nat} {u : Nat → Bool} {s t : Nat} {line : List Nat} {by_ : Nat → Option Int} (h : Bfs m fr to u s line by_) (ht : (by_ t).isSome = true) : ∃ j, Aug m fr to u t line by_ u j t := by
 obtain ⟨j, hj⟩ := List.mem_iff_getElem?.1 ((h.keys t).1 ht)
 refine ⟨j, hj, fun w => by omega, fun j' v' k h0 _ hv hb => ?_⟩
 obtain ⟨k', _, h2, _, h4, _⟩ := h.arc j' v' h0 hv
 rw [hb] at h2
 have h2' := Option.some.inj h2
 have : k = k' := by omega
 rw [this]; exact h4
def take_ (u : Nat → Bool) (k : Nat) : Nat → Bool := upd u (k / 2) (decide (k % 2 = 0))
theorem bk_half (k : Nat) : bk k / 2 = k / 2 := by unfold bk; split <;> omega
theorem bk_lt {k m : Nat} (h : k < 2 * m) : bk k < 2 * m := by unfold bk; split <;> omega
theorem bk_ne (k : Nat) : bk k ≠ k := by unfold bk; split <;> omega
theorem ause_bk (u : Nat → Bool) (k : Nat) : ause u (bk k) = !ause u k := by
 unfold ause
 rw [bk_half]
 unfold bk
 by_cases p : k % 2 = 0
 ·rw [if_pos p, if_pos p, if_neg (by omega)]
 ·rw [if_neg p, if_neg p, if_pos (by omega)]; simp
theorem ause_take_same (u : Nat → Bool) (k : Nat) : ause (take_ u k) k = true := by
 unfold ause take_
 rw [upd_same]
 by_cases p : k % 2 = 0 <;> simp [p]
theorem ause_take (u : Nat → Bool) (k k' : Nat) : ause (take_ u k) k' = if k' = k then true else if k' = bk k then false else ause u k' := by
 by_cases e1 : k' = k
 ·rw [if_pos e1, e1, ause_take_same]
 ·rw [if_neg e1]
  by_cases e2 : k' = bk k
  ·rw [if_pos e2, e2, ause_bk, ause_take_same]; rfl
  ·rw [if_neg e2]
   have e : k' / 2 ≠ k / 2 := by
    unfold bk at e2
    split at e2 <;> omega
   unfold ause take_
   rw [upd_ne _ _ _ _ e]
theorem Aug.next {m : Nat} {fr to : Nat → Nat} {u u' : Nat → Bool} {s t : Nat} {line : List Nat} {by_ : Nat → Option Int} {j v k : Nat} (h : Bfs m fr to u s line by_) (a : Aug m fr to u t line by_ u' j v)
  (hk : by_ v = some (k : Int)) : k < 2 * m ∧ ∃ j', j' < j ∧ Aug m fr to u t line by_ (take_ u' k) j' (afr fr to k) ∧ (by_ (afr fr to k)).isSome = true := by
 have h0 : 0 < j := by
  apply Classical.byContradiction
  intro hj
  have hj0 : j = 0 := by omega
  have e := a.at_
  rw [hj0, h.head] at e
  cases e
  rw [h.first] at hk
  have := Option.some.inj hk
  omega
 obtain ⟨k', h1, h2, h3, h4, j', h5, h6⟩ := h.arc j v h0 a.at_
 rw [hk] at h2
 have h2' := Option.some.inj h2
 obtain rfl : k = k' := by omega
 have hf : ause u' k = false := a.keep j v k h0 (Nat.le_refl _) a.at_ hk
 have ht : ause (take_ u' k) k = true := by rw [ause_take, if_pos rfl]
 refine ⟨h1, j', h5, ⟨h6, fun w => ?_, fun j'' v' k' g0 g1 g2 g3 => ?_⟩, (h.keys _).2 (List.mem_of_getElem? h6)⟩
 ·rw [exc_take h1 hf ht (fun i _ hne => upd_ne _ _ _ _ hne), a.exc, h3]; omega
 ·obtain ⟨k'', c1, c2, c3, c4, _⟩ := h.arc j'' v' g0 g2
  rw [g3] at c2
  have c2' := Option.some.inj c2
  obtain rfl : k' = k'' := by omega
  rw [ause_take]
  have n1 : k' ≠ k := by
   intro e
   subst e
   rw [h3] at c3
   subst c3
   have x1 := List.getElem?_eq_some_iff.1 g2
   have x2 := List.getElem?_eq_some_iff.1 a.at_
   have := (List.getElem_inj h.nodup).1 (x1.2.trans x2.2.symm)
   omega
  rw [if_neg n1]
  split
  ·rfl
  ·exact a.keep j'' v' k' g0 (by omega) g2 g3
theorem Aug.done {m : Nat} {fr to : Nat → Nat} {u u' : Nat → Bool} {s t : Nat} {line : List Nat} {by_ : Nat → Option Int} {j v : Nat} {k : Int} (h : Bfs m fr to u s line by_) (a : Aug m fr to u t line by_ u' j v)
  (hk : by_ v = some k) (hneg : k < 0) : ∀ w, Pl.exc m fr to u' w = Pl.exc m fr to u w + ind (decide (w = s)) - ind (decide (w = t)) := by
 have : v = s := by
  cases j with
  | zero => have := a.at_; rw [h.head] at this; exact (Option.some.inj this).symm
  | succ j =>
   obtain ⟨k', _, h2, _⟩ := h.arc (j + 1) v (by omega) a.at_
   rw [hk] at h2
   have : k = (k' : Int) := Option.some.inj h2
   omega
 subst this
 exact a.exc
structure FlowK (m N : Nat) (fr to : Nat → Nat) (s t : Nat) (u : Nat → Bool) (k : Nat) : Prop where
 val : exc m fr to u s = k
 bal : ∀ v, v < N → v ≠ s → v ≠ t → exc m fr to u v = 0
theorem FlowK.zero (m N : Nat) (fr to : Nat → Nat) (s t : Nat) : FlowK m N fr to s t (fun _ => false) 0 :=
 ⟨exc_none m fr to (fun _ _ => rfl) s, fun v _ _ _ => exc_none m fr to (fun _ _ => rfl) v⟩
theorem FlowK.more {m N : Nat} {fr to : Nat → Nat} {s t : Nat} {u u' : Nat → Bool} {k : Nat} (h : FlowK m N fr to s t u k) (hst : s ≠ t)
  (he : ∀ w, exc m fr to u' w = exc m fr to u w + ind (decide (w = s)) - ind (decide (w = t))) : FlowK m N fr to s t u' (k + 1) := by
 refine ⟨?_, fun v hv h1 h2 => ?_⟩
 ·rw [he, h.val, decide_eq_true rfl, decide_eq_false hst, ind_true, ind_false]; omega
 ·rw [he, h.bal v hv h1 h2, decide_eq_false h1, decide_eq_false h2, ind_false]; omega
theorem FlowK.stuck {m N : Nat} {fr to : Nat → Nat} {s t : Nat} {u : Nat → Bool} {k most : Nat} (h : FlowK m N fr to s t u k) (hN : ∀ i, i < m → fr i < N ∧ to i < N) (hs : s < N) (hm : k ≤ most)
  (hR : ∃ R : Nat → Bool, R s = true ∧ R t = false ∧ (∀ i, i < m → R (fr i) = true → R (to i) = false → u i = true) ∧ (∀ i, i < m → R (fr i) = false → R (to i) = true → u i = false)) :
  MinCap (cap m fr to) s t most k :=
 MinCap.of_flow hN hs h.bal h.val (by omega) (by omega) (.inr hR)
theorem FlowK.full {m N : Nat} {fr to : Nat → Nat} {s t : Nat} {u : Nat → Bool} {k : Nat} (h : FlowK m N fr to s t u k) (hN : ∀ i, i < m → fr i < N ∧ to i < N) (hs : s < N) : MinCap (cap m fr to) s t k k :=
 MinCap.of_flow hN hs h.bal h.val (by omega) (Int.le_refl _) (.inl rfl)
end Go.Proofs.YtfglkgkihafcpaaGreatDoor.Pl
namespace Go.Proofs.YtfglkgkihafcpaaGreatDoor.Pl
def frL (as : List (Nat × Nat)) (i : Nat) : Nat := (as[i]?.getD (0, 0)).1
def toL (as : List (Nat × Nat)) (i : Nat) : Nat := (as[i]?.getD (0, 0)).2
def capL (as : List (Nat × Nat)) (R : Nat → Bool) : Int := (as.countP (fun e => R e.1 && !R e.2) : Nat)
theorem capL_append (as bs : List (Nat × Nat)) (R : Nat → Bool) : capL (as ++ bs) R = capL as R + capL bs R := by
 unfold capL; rw [List.countP_append]; omega
theorem capL_one (e : Nat × Nat) (R : Nat → Bool) : capL [e] R = ind (R e.1 && !R e.2) := by
 unfold capL; cases h : R e.1 && !R e.2 <;> simp [h, ind]
theorem cap_capL (as : List (Nat × Nat)) (R : Nat → Bool) : cap as.length (frL as) (toL as) R = capL as R := by
 induction as using list_snoc_ind with
 | nil => rfl
 | snoc as e ih =>
  rw [capL_append, capL_one, ← ih, List.length_append]
  unfold cap
  show bsum as.length _ + _ = _
  have a1 : frL (as ++ [e]) as.length = e.1 := by simp [frL]
  have a2 : toL (as ++ [e]) as.length = e.2 := by simp [toL]
  simp only [a1, a2]
  congr 1
  refine bsum_congr fun i hi => ?_
  have b1 : frL (as ++ [e]) i = frL as i := by unfold frL; rw [List.getElem?_append_left hi]
  have b2 : toL (as ++ [e]) i = toL as i := by unfold toL; rw [List.getElem?_append_left hi]
  rw [b1, b2]
theorem frL_lt {as : List (Nat × Nat)} {N : Nat} (h : ∀ e, e ∈ as → e.1 < N ∧ e.2 < N) : ∀ i, i < as.length → frL as i < N ∧ toL as i < N := fun i hi => by
 unfold frL toL
 rw [List.getElem?_eq_getElem hi]
 exact h _ (List.getElem_mem hi)
def arcsE (es : List E) : List (Nat × Nat) := es.flatMap fun e => [(e.a, e.b), (e.b, e.a)]
theorem arcsE_snoc (es : List E) (e : E) : arcsE (es ++ [e]) = arcsE es ++ [(e.a, e.b), (e.b, e.a)] := by simp [arcsE]
theorem capL_edges (es : List E) (R : Nat → Bool) : capL (arcsE es) R = cutE es R := by
 induction es using list_snoc_ind with
 | nil => rfl
 | snoc es e ih =>
  rw [arcsE_snoc, capL_append, ih, cutE_snoc, show [(e.a, e.b), (e.b, e.a)] = [(e.a, e.b)] ++ [(e.b, e.a)] from rfl, capL_append, capL_one, capL_one]
  simp only
  omega
theorem mem_arcsE {es : List E} {p : Nat × Nat} : p ∈ arcsE es ↔ ∃ e, e ∈ es ∧ (p = (e.a, e.b) ∨ p = (e.b, e.a)) := by
 simp [arcsE]
def outP (b x : Nat) : Nat := if x = b then 2 * b else 2 * x + 1
def intoP (a x : Nat) : Nat := if x = a then 2 * a + 1 else 2 * x
def arcsN (n a b : Nat) : List (Nat × Nat) := ((List.range n).filter (fun x => decide (x ≠ a ∧ x ≠ b))).map fun x => (2 * x, 2 * x + 1)
def arcsNE (a b : Nat) (es : List E) : List (Nat × Nat) := es.flatMap fun e => [(outP b e.a, intoP a e.b), (outP b e.b, intoP a e.a)]
end Go.Proofs.YtfglkgkihafcpaaGreatDoor.Pl
namespace Go.Proofs.YtfglkgkihafcpaaGreatDoor.Pl
end Go.Proofs.YtfglkgkihafcpaaGreatDoor.Pl

