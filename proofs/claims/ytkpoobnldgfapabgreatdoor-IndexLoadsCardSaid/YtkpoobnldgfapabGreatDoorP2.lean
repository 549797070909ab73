/- Joined: PlWay PlNodes PlHold. -/
import Derived.Test.YtkpoobnldgfapabGreatDoorP1
set_option linter.unusedVariables false
set_option linter.unusedSimpArgs false
/- One more way: arcs both ways, the search for a way, and its taking. -/
namespace Go.Proofs.YtkpoobnldgfapabGreatDoor.Pl

/-- Arcs stand in twos: the even one goes ahead, the odd one back. -/
def afr (fr to : Nat → Nat) (k : Nat) : Nat := if k % 2 = 0 then fr (k / 2) else to (k / 2)
def ato (fr to : Nat → Nat) (k : Nat) : Nat := if k % 2 = 0 then to (k / 2) else fr (k / 2)
def ause (u : Nat → Bool) (k : Nat) : Bool := if k % 2 = 0 then u (k / 2) else !u (k / 2)
/-- The arc that takes it back. -/
def bk (k : Nat) : Nat := if k % 2 = 0 then k + 1 else k - 1

/-- What a search knows: who was met, in order, and by which arc. -/
structure Bfs (m : Nat) (fr to : Nat → Nat) (u : Nat → Bool) (s : Nat) (line : List Nat) (by_ : Nat → Option Int) : Prop where
  head : line[0]? = some s
  nodup : line.Nodup
  keys : ∀ v, (by_ v).isSome = true ↔ v ∈ line
  first : by_ s = some (-1)
  arc : ∀ j v, 0 < j → line[j]? = some v → ∃ k : Nat, k < 2 * m ∧ by_ v = some (k : Int) ∧ ato fr to k = v ∧ ause u k = false ∧ ∃ j', j' < j ∧ line[j']? = some (afr fr to k)

/-- All arcs of the first i are seen. -/
def Seen (m : Nat) (fr to : Nat → Nat) (u : Nat → Bool) (line : List Nat) (i : Nat) : Prop :=
  ∀ i' v k, i' < i → line[i']? = some v → k < 2 * m → afr fr to k = v → ause u k = false → ato fr to k ∈ line

theorem Bfs.start (m : Nat) (fr to : Nat → Nat) (u : Nat → Bool) (s : Nat) : Bfs m fr to u s [s] (fun v => if v = s then some (-1) else none) := by
  refine ⟨rfl, by simp, fun v => ?_, by simp, fun j v h0 hj => ?_⟩
  · by_cases e : v = s <;> simp [e]
  · cases j with
    | zero => omega
    | succ j => simp at hj

theorem Bfs.meet {m : Nat} {fr to : Nat → Nat} {u : Nat → Bool} {s : Nat} {line : List Nat} {by_ : Nat → Option Int} (h : Bfs m fr to u s line by_) {i k : Nat} (hi : line[i]? = some (afr fr to k)) (hk : k < 2 * m)
    (hu : ause u k = false) (hn : by_ (ato fr to k) = none) : Bfs m fr to u s (line ++ [ato fr to k]) (fun v => if v = ato fr to k then some (k : Int) else by_ v) := by
  have hnm : ato fr to k ∉ line := fun hm => by
    have := (h.keys _).2 hm
    rw [hn] at this; cases this
  have hl := (List.getElem?_eq_some_iff.1 h.head).1
  have hil := (List.getElem?_eq_some_iff.1 hi).1
  have hs : s ∈ line := List.mem_of_getElem? h.head
  refine ⟨by rw [List.getElem?_append_left hl]; exact h.head, ?_, fun v => ?_, ?_, fun j v h0 hj => ?_⟩
  · rw [List.nodup_append]
    exact ⟨h.nodup, by simp, fun a ha b hb e => by simp at hb; subst hb; subst e; exact hnm ha⟩
  · by_cases e : v = ato fr to k
    · simp [e]
    · simp [e, h.keys]
  · rw [if_neg (fun (e : s = ato fr to k) => hnm (e ▸ hs))]; exact h.first
  · by_cases hjl : j < line.length
    · rw [List.getElem?_append_left hjl] at hj
      obtain ⟨k', h1, h2, h3, h4, j', h5, h6⟩ := h.arc j v h0 hj
      have hv : v ≠ ato fr to k := fun e => hnm (e ▸ List.mem_of_getElem? hj)
      exact ⟨k', h1, by rw [if_neg hv]; exact h2, h3, h4, j', h5, by rw [List.getElem?_append_left (by omega)]; exact h6⟩
    · rw [List.getElem?_append_right (by omega)] at hj
      have hj0 : j - line.length = 0 := by
        have := (List.getElem?_eq_some_iff.1 hj).1
        simp at this; omega
      rw [hj0] at hj
      simp at hj
      subst hj
      exact ⟨k, hk, by rw [if_pos rfl], rfl, hu, i, by omega, by rw [List.getElem?_append_left hil]; exact hi⟩

theorem Seen.grow {m : Nat} {fr to : Nat → Nat} {u : Nat → Bool} {line : List Nat} {i : Nat} (h : Seen m fr to u line i) (hi : i ≤ line.length) (x : Nat) : Seen m fr to u (line ++ [x]) i := by
  intro i' v k h1 h2 h3 h4 h5
  rw [List.getElem?_append_left (by omega)] at h2
  exact List.mem_append_left _ (h i' v k h1 h2 h3 h4 h5)

/-- No way: those that were met are a full cut. -/
theorem Bfs.stuck {m : Nat} {fr to : Nat → Nat} {u : Nat → Bool} {s t : Nat} {line : List Nat} {by_ : Nat → Option Int} (h : Bfs m fr to u s line by_) (hs : Seen m fr to u line line.length) (ht : by_ t = none) :
    ∃ R : Nat → Bool, R s = true ∧ R t = false ∧ (∀ i, i < m → R (fr i) = true → R (to i) = false → u i = true) ∧ (∀ i, i < m → R (fr i) = false → R (to i) = true → u i = false) := by
  refine ⟨fun v => decide (v ∈ line), by simpa using List.mem_of_getElem? h.head, ?_, fun i hi h1 h2 => ?_, fun i hi h1 h2 => ?_⟩
  · have : ¬ (by_ t).isSome = true := by rw [ht]; simp
    rw [h.keys] at this
    simpa using this
  · simp only [decide_eq_true_eq, decide_eq_false_iff_not] at h1 h2
    obtain ⟨j, hj⟩ := List.mem_iff_getElem?.1 h1
    have hjl := (List.getElem?_eq_some_iff.1 hj).1
    cases hu : u i with
    | true => rfl
    | false =>
      have := hs j (fr i) (2 * i) hjl hj (by omega) (by simp [afr]) (by simp [ause, hu])
      exact absurd (by simpa [ato] using this) h2
  · simp only [decide_eq_true_eq, decide_eq_false_iff_not] at h1 h2
    obtain ⟨j, hj⟩ := List.mem_iff_getElem?.1 h2
    have hjl := (List.getElem?_eq_some_iff.1 hj).1
    have e1 : (2 * i + 1) / 2 = i := by omega
    have e2 : ¬ (2 * i + 1) % 2 = 0 := by omega
    cases hu : u i with
    | false => rfl
    | true =>
      have := hs j (to i) (2 * i + 1) hjl hj (by omega) (by simp [afr, e1, e2]) (by simp [ause, e1, e2, hu])
      exact absurd (by simpa [ato, e1, e2] using this) h1

/-- On the way back: so far the way from v on is taken. -/
structure Aug (m : Nat) (fr to : Nat → Nat) (u : Nat → Bool) (t : Nat) (line : List Nat) (by_ : Nat → Option Int) (u' : Nat → Bool) (j v : Nat) : Prop where
  at_ : line[j]? = some v
  exc : ∀ w, exc m fr to u' w = Pl.exc m fr to u w + ind (decide (w = v)) - ind (decide (w = t))
  keep : ∀ (j' v' k : Nat), 0 < j' → j' ≤ j → line[j']? = some v' → by_ v' = some (k : Int) → ause u' k = false

/-- An arc is taken: from its place one more goes out, to its place one more comes in. -/
theorem exc_take {m : Nat} {fr to : Nat → Nat} {u u' : Nat → Bool} {k : Nat} (hk : k < 2 * m) (h0 : ause u k = false) (h1 : ause u' k = true) (hn : ∀ j, j < m → j ≠ k / 2 → u' j = u j) (w : Nat) :
    exc m fr to u' w = exc m fr to u w + ind (decide (w = afr fr to k)) - ind (decide (w = ato fr to k)) := by
  rw [exc_set (i := k / 2) (by omega) fr to hn]
  have sw : ∀ a b : Nat, decide (a = b) = decide (b = a) := fun a b => by rw [decide_eq_decide]; exact eq_comm
  unfold ause at h0 h1
  unfold afr ato
  by_cases hp : k % 2 = 0
  · rw [if_pos hp] at h0 h1
    rw [if_pos hp, if_pos hp, h0, h1, ind_true, ind_false, sw (fr (k / 2)), sw (to (k / 2))]; omega
  · rw [if_neg hp] at h0 h1
    have h0' : u (k / 2) = true := by simpa using h0
    have h1' : u' (k / 2) = false := by simpa using h1
    rw [if_neg hp, if_neg hp, h0', h1', ind_true, ind_false, sw (fr (k / 2)), sw (to (k / 2))]; omega

theorem Aug.start {m : Nat} {fr to : Nat → Nat} {u : Nat → Bool} {s t : Nat} {line : List Nat} {by_ : Nat → Option Int} (h : Bfs m fr to u s line by_) (ht : (by_ t).isSome = true) : ∃ j, Aug m fr to u t line by_ u j t := by
  obtain ⟨j, hj⟩ := List.mem_iff_getElem?.1 ((h.keys t).1 ht)
  refine ⟨j, hj, fun w => by omega, fun j' v' k h0 _ hv hb => ?_⟩
  obtain ⟨k', _, h2, _, h4, _⟩ := h.arc j' v' h0 hv
  rw [hb] at h2
  have h2' := Option.some.inj h2
  have : k = k' := by omega
  rw [this]; exact h4

/-- An arc and the one that takes it back, set. -/
def take_ (u : Nat → Bool) (k : Nat) : Nat → Bool := upd u (k / 2) (decide (k % 2 = 0))

theorem bk_half (k : Nat) : bk k / 2 = k / 2 := by unfold bk; split <;> omega
theorem bk_lt {k m : Nat} (h : k < 2 * m) : bk k < 2 * m := by unfold bk; split <;> omega
theorem bk_ne (k : Nat) : bk k ≠ k := by unfold bk; split <;> omega
theorem bk_bk (k : Nat) : bk (bk k) = k := by unfold bk; split <;> split <;> omega
theorem ause_bk (u : Nat → Bool) (k : Nat) : ause u (bk k) = !ause u k := by
  unfold ause
  rw [bk_half]
  unfold bk
  by_cases p : k % 2 = 0
  · rw [if_pos p, if_pos p, if_neg (by omega)]
  · rw [if_neg p, if_neg p, if_pos (by omega)]; simp

theorem ause_take_same (u : Nat → Bool) (k : Nat) : ause (take_ u k) k = true := by
  unfold ause take_
  rw [upd_same]
  by_cases p : k % 2 = 0 <;> simp [p]

theorem ause_take (u : Nat → Bool) (k k' : Nat) : ause (take_ u k) k' = if k' = k then true else if k' = bk k then false else ause u k' := by
  by_cases e1 : k' = k
  · rw [if_pos e1, e1, ause_take_same]
  · rw [if_neg e1]
    by_cases e2 : k' = bk k
    · rw [if_pos e2, e2, ause_bk, ause_take_same]; rfl
    · rw [if_neg e2]
      have e : k' / 2 ≠ k / 2 := by
        unfold bk at e2
        split at e2 <;> omega
      unfold ause take_
      rw [upd_ne _ _ _ _ e]

/-- One arc further back. -/
theorem Aug.next {m : Nat} {fr to : Nat → Nat} {u u' : Nat → Bool} {s t : Nat} {line : List Nat} {by_ : Nat → Option Int} {j v k : Nat} (h : Bfs m fr to u s line by_) (a : Aug m fr to u t line by_ u' j v)
    (hk : by_ v = some (k : Int)) : k < 2 * m ∧ ∃ j', j' < j ∧ Aug m fr to u t line by_ (take_ u' k) j' (afr fr to k) ∧ (by_ (afr fr to k)).isSome = true := by
  have h0 : 0 < j := by
    apply Classical.byContradiction
    intro hj
    have hj0 : j = 0 := by omega
    have e := a.at_
    rw [hj0, h.head] at e
    cases e
    rw [h.first] at hk
    have := Option.some.inj hk
    omega
  obtain ⟨k', h1, h2, h3, h4, j', h5, h6⟩ := h.arc j v h0 a.at_
  rw [hk] at h2
  have h2' := Option.some.inj h2
  obtain rfl : k = k' := by omega
  have hf : ause u' k = false := a.keep j v k h0 (Nat.le_refl _) a.at_ hk
  have ht : ause (take_ u' k) k = true := by rw [ause_take, if_pos rfl]
  refine ⟨h1, j', h5, ⟨h6, fun w => ?_, fun j'' v' k' g0 g1 g2 g3 => ?_⟩, (h.keys _).2 (List.mem_of_getElem? h6)⟩
  · rw [exc_take h1 hf ht (fun i _ hne => upd_ne _ _ _ _ hne), a.exc, h3]; omega
  · obtain ⟨k'', c1, c2, c3, c4, _⟩ := h.arc j'' v' g0 g2
    rw [g3] at c2
    have c2' := Option.some.inj c2
    obtain rfl : k' = k'' := by omega
    rw [ause_take]
    have n1 : k' ≠ k := by
      intro e
      subst e
      rw [h3] at c3
      subst c3
      have x1 := List.getElem?_eq_some_iff.1 g2
      have x2 := List.getElem?_eq_some_iff.1 a.at_
      have := (List.getElem_inj h.nodup).1 (x1.2.trans x2.2.symm)
      omega
    rw [if_neg n1]
    split
    · rfl
    · exact a.keep j'' v' k' g0 (by omega) g2 g3

/-- Back at the start: one more way is taken. -/
theorem Aug.done {m : Nat} {fr to : Nat → Nat} {u u' : Nat → Bool} {s t : Nat} {line : List Nat} {by_ : Nat → Option Int} {j v : Nat} {k : Int} (h : Bfs m fr to u s line by_) (a : Aug m fr to u t line by_ u' j v)
    (hk : by_ v = some k) (hneg : k < 0) : ∀ w, Pl.exc m fr to u' w = Pl.exc m fr to u w + ind (decide (w = s)) - ind (decide (w = t)) := by
  have : v = s := by
    cases j with
    | zero => have := a.at_; rw [h.head] at this; exact (Option.some.inj this).symm
    | succ j =>
      obtain ⟨k', _, h2, _⟩ := h.arc (j + 1) v (by omega) a.at_
      rw [hk] at h2
      have : k = (k' : Int) := Option.some.inj h2
      omega
  subst this
  exact a.exc

/-- So many ways are taken. -/
structure FlowK (m N : Nat) (fr to : Nat → Nat) (s t : Nat) (u : Nat → Bool) (k : Nat) : Prop where
  val : exc m fr to u s = k
  bal : ∀ v, v < N → v ≠ s → v ≠ t → exc m fr to u v = 0

theorem FlowK.zero (m N : Nat) (fr to : Nat → Nat) (s t : Nat) : FlowK m N fr to s t (fun _ => false) 0 :=
  ⟨exc_none m fr to (fun _ _ => rfl) s, fun v _ _ _ => exc_none m fr to (fun _ _ => rfl) v⟩

theorem FlowK.more {m N : Nat} {fr to : Nat → Nat} {s t : Nat} {u u' : Nat → Bool} {k : Nat} (h : FlowK m N fr to s t u k) (hst : s ≠ t)
    (he : ∀ w, exc m fr to u' w = exc m fr to u w + ind (decide (w = s)) - ind (decide (w = t))) : FlowK m N fr to s t u' (k + 1) := by
  refine ⟨?_, fun v hv h1 h2 => ?_⟩
  · rw [he, h.val, decide_eq_true rfl, decide_eq_false hst, ind_true, ind_false]; omega
  · rw [he, h.bal v hv h1 h2, decide_eq_false h1, decide_eq_false h2, ind_false]; omega

theorem FlowK.stuck {m N : Nat} {fr to : Nat → Nat} {s t : Nat} {u : Nat → Bool} {k most : Nat} (h : FlowK m N fr to s t u k) (hN : ∀ i, i < m → fr i < N ∧ to i < N) (hs : s < N) (hm : k ≤ most)
    (hR : ∃ R : Nat → Bool, R s = true ∧ R t = false ∧ (∀ i, i < m → R (fr i) = true → R (to i) = false → u i = true) ∧ (∀ i, i < m → R (fr i) = false → R (to i) = true → u i = false)) :
    MinCap (cap m fr to) s t most k :=
  MinCap.of_flow hN hs h.bal h.val (by omega) (by omega) (.inr hR)

theorem FlowK.full {m N : Nat} {fr to : Nat → Nat} {s t : Nat} {u : Nat → Bool} {k : Nat} (h : FlowK m N fr to s t u k) (hN : ∀ i, i < m → fr i < N ∧ to i < N) (hs : s < N) : MinCap (cap m fr to) s t k k :=
  MinCap.of_flow hN hs h.bal h.val (by omega) (Int.le_refl _) (.inl rfl)

end Go.Proofs.YtkpoobnldgfapabGreatDoor.Pl

/- As many nodes as hold: cuts of nodes that are two places each. -/
namespace Go.Proofs.YtkpoobnldgfapabGreatDoor.Pl

/-- Arcs as a list. -/
def frL (as : List (Nat × Nat)) (i : Nat) : Nat := (as[i]?.getD (0, 0)).1
def toL (as : List (Nat × Nat)) (i : Nat) : Nat := (as[i]?.getD (0, 0)).2
def capL (as : List (Nat × Nat)) (R : Nat → Bool) : Int := (as.countP (fun e => R e.1 && !R e.2) : Nat)

theorem capL_nil (R : Nat → Bool) : capL [] R = 0 := rfl
theorem capL_append (as bs : List (Nat × Nat)) (R : Nat → Bool) : capL (as ++ bs) R = capL as R + capL bs R := by
  unfold capL; rw [List.countP_append]; omega
theorem capL_one (e : Nat × Nat) (R : Nat → Bool) : capL [e] R = ind (R e.1 && !R e.2) := by
  unfold capL; cases h : R e.1 && !R e.2 <;> simp [h, ind]

theorem cap_capL (as : List (Nat × Nat)) (R : Nat → Bool) : cap as.length (frL as) (toL as) R = capL as R := by
  induction as using list_snoc_ind with
  | nil => rfl
  | snoc as e ih =>
    rw [capL_append, capL_one, ← ih, List.length_append]
    unfold cap
    show bsum as.length _ + _ = _
    have a1 : frL (as ++ [e]) as.length = e.1 := by simp [frL]
    have a2 : toL (as ++ [e]) as.length = e.2 := by simp [toL]
    simp only [a1, a2]
    congr 1
    refine bsum_congr fun i hi => ?_
    have b1 : frL (as ++ [e]) i = frL as i := by unfold frL; rw [List.getElem?_append_left hi]
    have b2 : toL (as ++ [e]) i = toL as i := by unfold toL; rw [List.getElem?_append_left hi]
    rw [b1, b2]

theorem frL_lt {as : List (Nat × Nat)} {N : Nat} (h : ∀ e, e ∈ as → e.1 < N ∧ e.2 < N) : ∀ i, i < as.length → frL as i < N ∧ toL as i < N := fun i hi => by
  unfold frL toL
  rw [List.getElem?_eq_getElem hi]
  exact h _ (List.getElem_mem hi)

/-- Both ways along each edge. -/
def arcsE (es : List E) : List (Nat × Nat) := es.flatMap fun e => [(e.a, e.b), (e.b, e.a)]

theorem arcsE_snoc (es : List E) (e : E) : arcsE (es ++ [e]) = arcsE es ++ [(e.a, e.b), (e.b, e.a)] := by simp [arcsE]

theorem capL_edges (es : List E) (R : Nat → Bool) : capL (arcsE es) R = cutE es R := by
  induction es using list_snoc_ind with
  | nil => rfl
  | snoc es e ih =>
    rw [arcsE_snoc, capL_append, ih, cutE_snoc, show [(e.a, e.b), (e.b, e.a)] = [(e.a, e.b)] ++ [(e.b, e.a)] from rfl, capL_append, capL_one, capL_one]
    simp only
    omega

theorem mem_arcsE {es : List E} {p : Nat × Nat} : p ∈ arcsE es ↔ ∃ e, e ∈ es ∧ (p = (e.a, e.b) ∨ p = (e.b, e.a)) := by
  simp [arcsE]

/-- From which place one goes out of a node, into which one comes in: both ends are one place. -/
def outP (b x : Nat) : Nat := if x = b then 2 * b else 2 * x + 1
def intoP (a x : Nat) : Nat := if x = a then 2 * a + 1 else 2 * x

def arcsN (n a b : Nat) : List (Nat × Nat) := ((List.range n).filter (fun x => decide (x ≠ a ∧ x ≠ b))).map fun x => (2 * x, 2 * x + 1)
def arcsNE (a b : Nat) (es : List E) : List (Nat × Nat) := es.flatMap fun e => [(outP b e.a, intoP a e.b), (outP b e.b, intoP a e.a)]

/-- The graph without all edges of some nodes. -/
def sansN (es : List E) (nd : List Nat) : List E := es.filter (fun e => decide (e.a ∉ nd ∧ e.b ∉ nd))
theorem mem_sansN {es : List E} {nd : List Nat} {e : E} : e ∈ sansN es nd ↔ e ∈ es ∧ e.a ∉ nd ∧ e.b ∉ nd := by simp [sansN]

theorem countP_map_le {α β : Type} (l : List α) (f : α → β) (p : β → Bool) : (l.map f).countP p = l.countP (fun x => p (f x)) := by
  rw [List.countP_map]; rfl

/-- Nodes that part two are no fewer than some cut. -/
theorem cutN_of_took {n a b : Nat} {es : List E} (hab : a ≠ b) (hes : ∀ e, e ∈ es → e.a < n ∧ e.b < n) {nd : List Nat} (hn : nd.Nodup) (ha : a ∉ nd) (hb : b ∉ nd) (h : ¬ Conn (ends (sansN es nd)) a b) :
    ∃ R : Nat → Bool, R (2 * a + 1) = true ∧ R (2 * b) = false ∧ capL (arcsN n a b ++ arcsNE a b es) R ≤ nd.length := by
  let C : Nat → Prop := fun v => Conn (ends (sansN es nd)) a v
  have hR : ∃ R : Nat → Bool, (∀ x, R (2 * x) = true ↔ (x = a ∨ (x ≠ b ∧ (C x ∨ x ∈ nd)))) ∧ (∀ x, R (2 * x + 1) = true ↔ (x ≠ b ∧ C x ∧ x ∉ nd)) := by
    refine ⟨fun k => open Classical in if k % 2 = 0 then decide (k / 2 = a ∨ (k / 2 ≠ b ∧ (C (k / 2) ∨ k / 2 ∈ nd))) else decide (k / 2 ≠ b ∧ C (k / 2) ∧ k / 2 ∉ nd), fun x => ?_, fun x => ?_⟩
    · have e1 : 2 * x / 2 = x := by omega
      have e2 : 2 * x % 2 = 0 := by omega
      simp [e1, e2]
    · have e1 : (2 * x + 1) / 2 = x := by omega
      have e2 : ¬ (2 * x + 1) % 2 = 0 := by omega
      simp [e1, e2]
  obtain ⟨R, R0, R1⟩ := hR
  refine ⟨R, (R1 a).2 ⟨hab, Conn.refl _ _, ha⟩, ?_, ?_⟩
  · rw [← Bool.not_eq_true, R0]
    rintro (h1 | ⟨h1, _⟩)
    · exact hab h1.symm
    · exact h1 rfl
  · rw [capL_append]
    have z : capL (arcsNE a b es) R = 0 := by
      have hz : ∀ p, p ∈ arcsNE a b es → (R p.1 && !R p.2) = false := by
        have one : ∀ x y, (∃ e, e ∈ es ∧ ((e.a = x ∧ e.b = y) ∨ (e.a = y ∧ e.b = x))) → (R (outP b x) && !R (intoP a y)) = false := by
          rintro x y ⟨e, he, hxy⟩
          cases h1 : R (outP b x) with
          | false => rfl
          | true =>
            have h2 : R (intoP a y) = true := by
              unfold outP at h1
              unfold intoP
              by_cases hya : y = a
              · rw [if_pos hya, R1]; exact ⟨hab, Conn.refl _ _, ha⟩
              · rw [if_neg hya, R0]
                right
                have hCx : C x ∧ x ∉ nd := by
                  by_cases hxb : x = b
                  · rw [if_pos hxb] at h1
                    rcases (R0 b).1 h1 with h3 | ⟨h3, _⟩
                    · exact absurd h3.symm hab
                    · exact absurd rfl h3
                  · rw [if_neg hxb] at h1
                    exact ((R1 x).1 h1).2
                by_cases hyn : y ∈ nd
                · exact ⟨fun e => hb (e ▸ hyn), .inr hyn⟩
                · have hCy : C y := by
                    refine hCx.1.trans ?_
                    rcases hxy with ⟨h3, h4⟩ | ⟨h3, h4⟩
                    · have : Conn (ends (sansN es nd)) e.a e.b := Conn.of_mem (mem_ends' (mem_sansN.2 ⟨he, by rw [h3]; exact hCx.2, by rw [h4]; exact hyn⟩))
                      rwa [h3, h4] at this
                    · have : Conn (ends (sansN es nd)) e.a e.b := Conn.of_mem (mem_ends' (mem_sansN.2 ⟨he, by rw [h3]; exact hyn, by rw [h4]; exact hCx.2⟩))
                      rw [h3, h4] at this; exact this.symm
                  exact ⟨fun e => h (e ▸ hCy), .inl hCy⟩
            rw [h2]; rfl
        intro p hp
        simp only [arcsNE, List.mem_flatMap, List.mem_cons, List.not_mem_nil, or_false] at hp
        obtain ⟨e, he, rfl | rfl⟩ := hp
        · exact one _ _ ⟨e, he, .inl ⟨rfl, rfl⟩⟩
        · exact one _ _ ⟨e, he, .inr ⟨rfl, rfl⟩⟩
      unfold capL
      rw [List.countP_eq_zero.2 (fun p hp => by rw [hz p hp]; simp)]; rfl
    rw [z]
    unfold capL arcsN
    rw [countP_map_le, List.countP_eq_length_filter]
    have hsub : ∀ x, x ∈ List.filter (fun x => R (2 * x, 2 * x + 1).1 && !R (2 * x, 2 * x + 1).2) ((List.range n).filter (fun x => decide (x ≠ a ∧ x ≠ b))) → x ∈ nd := by
      intro x hx
      rw [List.mem_filter, List.mem_filter] at hx
      obtain ⟨⟨_, h2⟩, h3⟩ := hx
      simp only [decide_eq_true_eq] at h2
      simp only [Bool.and_eq_true, Bool.not_eq_true'] at h3
      obtain ⟨h4, h5⟩ := h3
      rcases (R0 x).1 h4 with h6 | ⟨_, h6 | h6⟩
      · exact absurd h6 h2.1
      · apply Classical.byContradiction
        intro hxn
        have := (R1 x).2 ⟨h2.2, h6, hxn⟩
        rw [h5] at this; cases this
      · exact h6
    have nd2 : (List.filter (fun x => R (2 * x, 2 * x + 1).1 && !R (2 * x, 2 * x + 1).2) ((List.range n).filter (fun x => decide (x ≠ a ∧ x ≠ b)))).Nodup :=
      List.Pairwise.filter _ (List.Pairwise.filter _ List.nodup_range)
    have := len_le_of_mem nd2 hsub
    omega

/-- A cut of places, and nodes no more than it that part. -/
theorem took_of_cutN {n a b : Nat} {es : List E} (hab : a ≠ b) (hes : ∀ e, e ∈ es → e.a < n ∧ e.b < n) (hdir : ∀ e, e ∈ es → ¬ (e.a = a ∧ e.b = b) ∧ ¬ (e.a = b ∧ e.b = a)) {R : Nat → Bool} (ha : R (2 * a + 1) = true) (hb : R (2 * b) = false) :
    ∃ S : Nat → Bool, S a = false ∧ S b = false ∧ (((List.range n).filter S).length : Int) ≤ capL (arcsN n a b ++ arcsNE a b es) R ∧ ¬ Conn (ends (sansN es ((List.range n).filter S))) a b := by
  -- of an edge over the cut: its far end, but the near one at b
  let far : Nat × Nat → Nat := fun p => if p.2 = b then p.1 else p.2
  let two : List (Nat × Nat) := es.flatMap fun e => [(e.a, e.b), (e.b, e.a)]
  let over : Nat × Nat → Bool := fun p => R (outP b p.1) && !R (intoP a p.2)
  let L : List Nat := (((List.range n).filter (fun x => decide (x ≠ a ∧ x ≠ b))).filter (fun x => R (2 * x) && !R (2 * x + 1))) ++ (two.filter over).map far
  have hL : (L.length : Int) = capL (arcsN n a b ++ arcsNE a b es) R := by
    rw [capL_append]
    unfold capL arcsN
    rw [countP_map_le, List.countP_eq_length_filter]
    have e2 : arcsNE a b es = two.map (fun p => (outP b p.1, intoP a p.2)) := by
      show _ = (es.flatMap _).map _
      rw [List.map_flatMap]; rfl
    rw [e2, countP_map_le, List.countP_eq_length_filter]
    show ((_ ++ _ : List Nat).length : Int) = _
    rw [List.length_append, List.length_map]
    rfl
  have hout : ∀ x, x ≠ b → outP b x = 2 * x + 1 := fun x hx => if_neg hx
  have hin : ∀ x, x ≠ a → intoP a x = 2 * x := fun x hx => if_neg hx
  have hoveri : ∀ p, p ∈ two → over p = true → far p ≠ a ∧ far p ≠ b := by
    intro p hp ho
    simp only [over, Bool.and_eq_true, Bool.not_eq_true'] at ho
    obtain ⟨h1, h2⟩ := ho
    have hpb : p.1 ≠ b := by
      intro e
      rw [e] at h1
      unfold outP at h1
      rw [if_pos rfl, hb] at h1; cases h1
    have hpa : p.2 ≠ a := by
      intro e
      rw [e] at h2
      unfold intoP at h2
      rw [if_pos rfl, ha] at h2; cases h2
    have hd : ¬ (p.1 = a ∧ p.2 = b) := by
      rintro ⟨h3, h4⟩
      simp only [two, List.mem_flatMap, List.mem_cons, List.not_mem_nil, or_false] at hp
      obtain ⟨e, he, rfl | rfl⟩ := hp
      · exact (hdir e he).1 ⟨h3, h4⟩
      · exact (hdir e he).2 ⟨h4, h3⟩
    simp only [far]
    split
    · rename_i h; exact ⟨fun e => hd ⟨e, h⟩, hpb⟩
    · rename_i h; exact ⟨hpa, h⟩
  have hLab : ∀ x, x ∈ L → x ≠ a ∧ x ≠ b := by
    intro x hx
    rcases List.mem_append.1 hx with hx | hx
    · rw [List.mem_filter, List.mem_filter] at hx
      simpa using hx.1.2
    · obtain ⟨p, hp, rfl⟩ := List.mem_map.1 hx
      rw [List.mem_filter] at hp
      exact hoveri p hp.1 hp.2
  refine ⟨fun x => decide (x ∈ L), by simpa using fun h => (hLab a h).1 rfl, by simpa using fun h => (hLab b h).2 rfl, ?_, ?_⟩
  · rw [← hL]
    have : ((List.range n).filter (fun x => decide (x ∈ L))).length ≤ L.length :=
      len_le_of_mem (List.Pairwise.filter _ List.nodup_range) (fun x hx => by simpa using (List.mem_filter.1 hx).2)
    omega
  · intro c
    -- what the cut has of nodes that stay
    have hmem : ∀ x, x < n → x ∉ (List.range n).filter (fun x => decide (x ∈ L)) → x ∉ L := fun x hx h hl => h (List.mem_filter.2 ⟨List.mem_range.2 hx, by simpa using hl⟩)
    have one : ∀ x y, (x, y) ∈ two → x ∉ L → y ∉ L → x < n → y < n → (x ≠ b ∧ R (2 * x + 1) = true) → (y ≠ b ∧ R (2 * y + 1) = true) := by
      intro x y hxy hx hy hxn hyn ⟨h1, h2⟩
      have hnov : over (x, y) = false := by
        cases ho : over (x, y) with
        | false => rfl
        | true =>
          exfalso
          have hm : far (x, y) ∈ L := List.mem_append_right _ (List.mem_map.2 ⟨(x, y), List.mem_filter.2 ⟨hxy, ho⟩, rfl⟩)
          simp only [far] at hm
          split at hm
          · exact hx hm
          · exact hy hm
      have hiny : R (intoP a y) = true := by
        simp only [over, hout x h1, h2, Bool.true_and, Bool.not_eq_false'] at hnov
        exact hnov
      by_cases hya : y = a
      · rw [hya]; exact ⟨hab, ha⟩
      · rw [hin y hya] at hiny
        have hyb : y ≠ b := fun e => by rw [e, hb] at hiny; cases hiny
        refine ⟨hyb, ?_⟩
        cases hr : R (2 * y + 1) with
        | true => rfl
        | false =>
          exfalso
          exact hy (List.mem_append_left _ (List.mem_filter.2 ⟨List.mem_filter.2 ⟨List.mem_range.2 hyn, by simpa using ⟨hya, hyb⟩⟩, by simp [hiny, hr]⟩))
    have key := conn_closed (R := fun x => decide (x ≠ b ∧ R (2 * x + 1) = true)) (es := ends (sansN es ((List.range n).filter (fun x => decide (x ∈ L))))) (fun p hp => by
      obtain ⟨e, he, rfl⟩ := List.mem_map.1 hp
      obtain ⟨h1, h2, h3⟩ := mem_sansN.1 he
      obtain ⟨o1, o2⟩ := hes e h1
      rw [decide_eq_decide]
      constructor
      · exact one e.a e.b (List.mem_flatMap.2 ⟨e, h1, by simp⟩) (hmem _ o1 h2) (hmem _ o2 h3) o1 o2
      · exact one e.b e.a (List.mem_flatMap.2 ⟨e, h1, by simp⟩) (hmem _ o2 h3) (hmem _ o1 h2) o2 o1) c
    simp [hab, ha] at key

/-- A cut of edges is a cut of places. -/
theorem cutN_of_cutE {n a b : Nat} {es : List E} (hab : a ≠ b) {R : Nat → Bool} (ha : R a = true) (hb : R b = false) :
    ∃ R2 : Nat → Bool, R2 (2 * a + 1) = true ∧ R2 (2 * b) = false ∧ capL (arcsN n a b ++ arcsNE a b es) R2 ≤ cutE es R := by
  refine ⟨fun k => R (k / 2), by simpa using (by rw [show (2 * a + 1) / 2 = a by omega]; exact ha), by simpa using hb, ?_⟩
  have hO : ∀ x, outP b x / 2 = x := fun x => by unfold outP; split <;> omega
  have hI : ∀ x, intoP a x / 2 = x := fun x => by unfold intoP; split <;> omega
  rw [capL_append]
  have z : capL (arcsN n a b) (fun k => R (k / 2)) = 0 := by
    unfold capL arcsN
    rw [countP_map_le, List.countP_eq_zero.2 (fun x _ => by
      have e1 : 2 * x / 2 = x := by omega
      have e2 : (2 * x + 1) / 2 = x := by omega
      simp [e1, e2])]; rfl
  rw [z]
  have : capL (arcsNE a b es) (fun k => R (k / 2)) = cutE es R := by
    rw [← capL_edges]
    have e2 : arcsNE a b es = (arcsE es).map (fun p => (outP b p.1, intoP a p.2)) := by
      unfold arcsNE arcsE; rw [List.map_flatMap]; rfl
    unfold capL
    rw [e2, countP_map_le]
    simp only [hO, hI]
  omega

end Go.Proofs.YtkpoobnldgfapabGreatDoor.Pl

/- Subsets by their bits; the least of those that part. -/
namespace Go.Proofs.YtkpoobnldgfapabGreatDoor.Pl

/-- Which of the first m bits are set. -/
def bitsL (s m : Nat) : List Nat := (List.range m).filter (fun j => s.testBit j)

theorem bitsL_succ (s m : Nat) : bitsL s (m + 1) = bitsL s m ++ if s.testBit m = true then [m] else [] := by
  unfold bitsL
  rw [List.range_succ, List.filter_append]
  congr 1
  cases h : s.testBit m <;> simp [List.filter_cons, h]

theorem bitsL_len (s m : Nat) : (bitsL s m).length ≤ m := by
  unfold bitsL; exact Nat.le_trans (List.length_filter_le _ _) (by simp)

theorem mem_bitsL {s m j : Nat} : j ∈ bitsL s m ↔ j < m ∧ s.testBit j = true := by
  unfold bitsL; simp

theorem bitsL_nodup (s m : Nat) : (bitsL s m).Nodup := List.nodup_range.sublist List.filter_sublist

theorem bits_exist : ∀ (m : Nat) (p : Nat → Bool), ∃ s, s < 2 ^ m ∧ ∀ j, j < m → s.testBit j = p j
  | 0, _ => ⟨0, by omega, fun _ h => absurd h (by omega)⟩
  | m + 1, p => by
    obtain ⟨s, h1, h2⟩ := bits_exist m (fun j => p (j + 1))
    refine ⟨2 * s + (if p 0 then 1 else 0), by rw [Nat.pow_succ]; split <;> omega, fun j hj => ?_⟩
    cases j with
    | zero =>
      rw [Nat.testBit_zero]
      cases p 0 <;> simp <;> omega
    | succ j =>
      rw [Nat.testBit_succ]
      have : (2 * s + (if p 0 then 1 else 0)) / 2 = s := by split <;> omega
      rw [this]; exact h2 j (by omega)

theorem bitsL_congr {s m : Nat} {p : Nat → Bool} (h : ∀ j, j < m → s.testBit j = p j) : bitsL s m = (List.range m).filter p := by
  unfold bitsL
  exact List.filter_congr fun j hj => h j (List.mem_range.1 hj)

/-- The numbers of the edges whose bits are set. -/
def tookE (es : List E) (s i : Nat) : List Nat := (bitsL s i).map (fun j => (es[j]?.getD ⟨0, 0, 0⟩).id)

theorem tookE_len (es : List E) (s i : Nat) : (tookE es s i).length ≤ i := by unfold tookE; rw [List.length_map]; exact bitsL_len s i

theorem tookE_succ {es : List E} {s i : Nat} {e : E} (he : es[i]? = some e) : tookE es s (i + 1) = tookE es s i ++ if s.testBit i = true then [e.id] else [] := by
  unfold tookE
  rw [bitsL_succ, List.map_append]
  congr 1
  split
  · simp [he]
  · rfl

theorem filter_range_map {es : List E} (p : E → Bool) : ((List.range es.length).filter (fun j => p (es[j]?.getD ⟨0, 0, 0⟩))).map (fun j => (es[j]?.getD ⟨0, 0, 0⟩).id) = (es.filter p).map (·.id) := by
  have h1 : es = (List.range es.length).map (fun j => es[j]?.getD ⟨0, 0, 0⟩) := by
    apply List.ext_getElem?
    intro i
    by_cases hi : i < es.length
    · simp [hi]
    · simp [Nat.le_of_not_lt hi]
  conv => rhs; rw [h1]
  rw [List.filter_map, List.map_map]
  rfl

/-- The least card so far of those that are fine. -/
structure LeastInv (cond : Nat → Prop) (card : Nat → Nat) (top k least : Nat) : Prop where
  all : ∀ s, s < k → cond s → least ≤ card s
  at_ : least = top ∨ ∃ s, s < k ∧ cond s ∧ card s = least

theorem LeastInv.start (cond : Nat → Prop) (card : Nat → Nat) (top : Nat) : LeastInv cond card top 0 top := ⟨fun _ h => absurd h (by omega), .inl rfl⟩

theorem LeastInv.skip {cond : Nat → Prop} {card : Nat → Nat} {top k least : Nat} (h : LeastInv cond card top k least) (hk : ¬ cond k ∨ least ≤ card k) : LeastInv cond card top (k + 1) least := by
  refine ⟨fun s hs hc => ?_, ?_⟩
  · by_cases e : s < k
    · exact h.all s e hc
    · obtain rfl : s = k := by omega
      rcases hk with hk | hk
      · exact absurd hc hk
      · exact hk
  · rcases h.at_ with e | ⟨s, h1, h2, h3⟩
    · exact .inl e
    · exact .inr ⟨s, by omega, h2, h3⟩

theorem LeastInv.take {cond : Nat → Prop} {card : Nat → Nat} {top k least : Nat} (h : LeastInv cond card top k least) (hc : cond k) (hl : card k ≤ least) : LeastInv cond card top (k + 1) (card k) := by
  refine ⟨fun s hs hcs => ?_, .inr ⟨k, by omega, hc, rfl⟩⟩
  by_cases e : s < k
  · exact Nat.le_trans hl (h.all s e hcs)
  · obtain rfl : s = k := by omega
    exact Nat.le_refl _

theorem LeastInv.eq {cond : Nat → Prop} {card : Nat → Nat} {top k least x : Nat} (h : LeastInv cond card top k least) (hx : ∀ s, cond s → x ≤ card s) (htop : x ≤ top) (hs : ∃ s, s < k ∧ cond s ∧ card s ≤ x) : x = least := by
  obtain ⟨s, h1, h2, h3⟩ := hs
  have a := h.all s h1 h2
  rcases h.at_ with e | ⟨s', h4, h5, h6⟩
  · omega
  · have := hx s' h5; omega

theorem cutE_le (es : List E) (R : Nat → Bool) : cutE es R ≤ es.length := by
  unfold cutE; exact Int.ofNat_le.2 List.countP_le_length

/-- The least cut is not too great. -/
theorem MinCap.cut {es : List E} {a b x : Nat} (hab : a ≠ b) (hl : es.length < 120) (h : MinCap (cutE es) a b 120 x) : ∃ R : Nat → Bool, R a = true ∧ R b = false ∧ cutE es R = x := by
  rcases h.tight with e | h'
  · have := h.le (fun v => decide (v = a)) (by simp) (by simp; exact fun e => hab e.symm)
    have := cutE_le es (fun v => decide (v = a))
    omega
  · exact h'

theorem MinCap.len {es : List E} {a b x : Nat} (hab : a ≠ b) (hl : es.length < 120) (h : MinCap (cutE es) a b 120 x) : x ≤ es.length := by
  obtain ⟨R, _, _, h3⟩ := h.cut hab hl
  have := cutE_le es R
  omega

/-- AS MANY EDGES AS HOLD. -/
theorem holdE {es : List E} (hn : (es.map (·.id)).Nodup) {a b x least : Nat} (hab : a ≠ b) (hl : es.length < 120) (h : MinCap (cutE es) a b 120 x)
    (hL : LeastInv (fun s => ¬ Conn (ends (sans es (tookE es s es.length))) a b) (fun s => (tookE es s es.length).length) es.length (2 ^ es.length) least) : x = least := by
  refine hL.eq (fun s hs => ?_) (h.len hab hl) ?_
  · obtain ⟨R, h1, h2, h3⟩ := cut_of_took hn hs
    have := h.le R h1 h2
    omega
  · obtain ⟨R, h1, h2, h3⟩ := h.cut hab hl
    obtain ⟨s, hs1, hs2⟩ := bits_exist es.length (fun j => (fun e : E => R e.a != R e.b) (es[j]?.getD ⟨0, 0, 0⟩))
    have ht : tookE es s es.length = (es.filter (fun e => R e.a != R e.b)).map (·.id) := by
      unfold tookE
      rw [bitsL_congr hs2]
      exact filter_range_map (fun e : E => R e.a != R e.b)
    obtain ⟨c1, c2⟩ := took_of_cut (es := es) h1 h2
    refine ⟨s, hs1, by rw [ht]; exact c1, ?_⟩
    rw [ht]; omega

theorem length_filter_lt {n a : Nat} (ha : a < n) {S : Nat → Bool} (hS : S a = false) : ((List.range n).filter S).length < n := by
  have h1 : ((List.range n).filter S).length = cnt n S := by unfold cnt; rw [List.countP_eq_length_filter]
  have h2 : cnt n (fun x => S x || decide (x = a)) = cnt n S + 1 := cnt_remove ha (by simp) (fun z _ => by
    by_cases e : z = a
    · subst e; simp [hS]
    · simp [e])
  have h3 := cnt_le n (fun x => S x || decide (x = a))
  omega

/-- No more ways by nodes than by edges. -/
theorem nodes_le_edges {n a b x y : Nat} {es : List E} (hab : a ≠ b) (hl : es.length < 120) (h : MinCap (cutE es) a b 120 x) (h2 : MinCap (capL (arcsN n a b ++ arcsNE a b es)) (2 * a + 1) (2 * b) 120 y) : y ≤ x := by
  obtain ⟨R, h3, h4, h5⟩ := h.cut hab hl
  obtain ⟨R2, h6, h7, h8⟩ := cutN_of_cutE (n := n) (es := es) hab h3 h4
  have := h2.le R2 h6 h7
  omega

theorem MinCap.swap {es : List E} {a b : Nat} {m x : Int} (h : MinCap (cutE es) a b m x) : MinCap (cutE es) b a m x := by
  have e : ∀ R : Nat → Bool, cutE es (fun v => !R v) = cutE es R := fun R => by
    unfold cutE
    congr 1
    exact List.countP_congr fun e _ => by cases hp : R e.a <;> cases hq : R e.b <;> simp [hp, hq]
  refine ⟨fun R h1 h2 => ?_, h.nonneg, h.upto, ?_⟩
  · rw [← e R]; exact h.le _ (by simp [h2]) (by simp [h1])
  · rcases h.tight with h' | ⟨R, h1, h2, h3⟩
    · exact .inl h'
    · exact .inr ⟨fun v => !R v, by simp [h2], by simp [h1], by rw [e]; exact h3⟩

/-- AS MANY NODES AS HOLD. -/
theorem holdN {es : List E} {n a b x y least : Nat} (hab : a ≠ b) (ha : a < n) (hb : b < n) (hes : ∀ e, e ∈ es → e.a < n ∧ e.b < n) (hdir : ∀ e, e ∈ es → ¬ (e.a = a ∧ e.b = b) ∧ ¬ (e.a = b ∧ e.b = a)) (hl : es.length < 120)
    (h : MinCap (cutE es) a b 120 x) (h2 : MinCap (capL (arcsN n a b ++ arcsNE a b es)) (2 * a + 1) (2 * b) 120 y)
    (hL : LeastInv (fun s => s.testBit a = false ∧ s.testBit b = false ∧ ¬ Conn (ends (sansN es (bitsL s n))) a b) (fun s => (bitsL s n).length) n (2 ^ n) least) : y = least := by
  have hy := nodes_le_edges hab hl h h2
  have hx := h.len hab hl
  have hcut : ∃ R : Nat → Bool, R (2 * a + 1) = true ∧ R (2 * b) = false ∧ capL (arcsN n a b ++ arcsNE a b es) R = y := by
    rcases h2.tight with e | h'
    · omega
    · exact h'
  obtain ⟨R, r1, r2, r3⟩ := hcut
  obtain ⟨S, s1, s2, s3, s4⟩ := took_of_cutN hab hes hdir r1 r2
  obtain ⟨s, hs1, hs2⟩ := bits_exist n S
  have hbits : bitsL s n = (List.range n).filter S := bitsL_congr hs2
  have hcond : s.testBit a = false ∧ s.testBit b = false ∧ ¬ Conn (ends (sansN es (bitsL s n))) a b := ⟨by rw [hs2 a ha]; exact s1, by rw [hs2 b hb]; exact s2, by rw [hbits]; exact s4⟩
  have hlb : ∀ s, (s.testBit a = false ∧ s.testBit b = false ∧ ¬ Conn (ends (sansN es (bitsL s n))) a b) → y ≤ (bitsL s n).length := fun s hs => by
    obtain ⟨R', q1, q2, q3⟩ := cutN_of_took hab hes (bitsL_nodup s n) (fun hm => by have := (mem_bitsL.1 hm).2; rw [hs.1] at this; cases this) (fun hm => by have := (mem_bitsL.1 hm).2; rw [hs.2.1] at this; cases this) hs.2.2
    have := h2.le R' q1 q2
    omega
  refine hL.eq hlb ?_ ⟨s, hs1, hcond, by show (bitsL s n).length ≤ y; rw [hbits]; omega⟩
  have := hlb s hcond
  have := bitsL_len s n
  omega

theorem sorted_nodup {es : List E} (h : Sorted es) : (es.map (·.id)).Nodup := by
  unfold List.Nodup
  rw [List.pairwise_map]
  exact h.imp fun h e => by omega

/-- A bit, as the program asks for it. -/
theorem bit_int (s i : Nat) : ((s / 2 ^ i : Nat) : Int) % 2 = if s.testBit i = true then 1 else 0 := by
  have h : s.testBit i = decide (s / 2 ^ i % 2 = 1) := by
    rw [Nat.testBit_eq_decide_div_mod_eq]
  rw [h]
  obtain ⟨q, hq⟩ : ∃ q, s / 2 ^ i = q := ⟨_, rfl⟩
  rw [hq]
  by_cases e : q % 2 = 1
  · rw [decide_eq_true e, if_pos rfl]; omega
  · rw [decide_eq_false e, if_neg (by simp)]; omega

end Go.Proofs.YtkpoobnldgfapabGreatDoor.Pl
