/- What parts is what few ways join: the plain law of FlowParts. -/
import Derived.Test.YtkpoobnldgfapaaP2
import Derived.Test.YtkpoobnldgfapaaP4
set_option linter.unusedVariables false
set_option linter.unusedSimpArgs false
namespace Go.Proofs.Ytkpoobnldgfapaa.Pl

/-- So many ways just if fewer edges do not part. -/
theorem ways_iff {es : List E} (hn : (es.map (·.id)).Nodup) {a b m k : Nat} (h : MinCap (cutE es) a b m k) {j : Nat} (hj : j ≤ m) : j ≤ k ↔ ∀ ids : List Nat, ids.length < j → Conn (ends (sans es ids)) a b := by
  constructor
  · intro hjk ids hl
    apply Classical.byContradiction
    intro hc
    obtain ⟨R, h1, h2, h3⟩ := cut_of_took hn hc
    have := h.le R h1 h2
    omega
  · intro hall
    apply Classical.byContradiction
    intro hlt
    rcases h.tight with e | ⟨R, h1, h2, h3⟩
    · omega
    · obtain ⟨c1, c2⟩ := took_of_cut (es := es) h1 h2
      exact c1 (hall _ (by omega))

theorem conn_of_sans {es : List E} {ids : List Nat} {a b : Nat} (c : Conn (ends (sans es ids)) a b) : Conn (ends es) a b := c.of_sub fun e he => (mem_sansL.1 he).1

theorem sans_nil (es : List E) : sans es [] = es := by unfold sans; simp

theorem ways_one {es : List E} (hs : Sorted es) {a b k : Nat} (h : MinCap (cutE es) a b (3 : Nat) k) : 1 ≤ k ↔ Conn (ends es) a b := by
  rw [ways_iff (sorted_nodup hs) h (by omega)]
  constructor
  · intro hh; have := hh [] (by simp); rwa [sans_nil] at this
  · intro c ids hl
    have : ids = [] := List.eq_nil_of_length_eq_zero (by omega)
    subst this; rwa [sans_nil]

theorem ways_two {es : List E} (hs : Sorted es) {a b k : Nat} (h : MinCap (cutE es) a b (3 : Nat) k) : 2 ≤ k ↔ Conn (ends es) a b ∧ ∀ e, e ∈ es → Conn (ends (sans es [e.id])) a b := by
  rw [ways_iff (sorted_nodup hs) h (by omega)]
  constructor
  · intro hh
    refine ⟨?_, fun e _ => hh [e.id] (by simp)⟩
    have := hh [] (by simp); rwa [sans_nil] at this
  · rintro ⟨c, ce⟩ ids hl
    match ids, hl with
    | [], _ => rwa [sans_nil]
    | [i], _ =>
      by_cases hx : ∃ e, e ∈ es ∧ e.id = i
      · obtain ⟨e, he, rfl⟩ := hx; exact ce e he
      · exact c.of_sub fun f hf => mem_sans1.2 ⟨hf, fun e => hx ⟨f, hf, e⟩⟩

theorem ways_three {es : List E} (hs : Sorted es) {a b k : Nat} (h : MinCap (cutE es) a b (3 : Nat) k) : 3 ≤ k ↔ Thr es a b := by
  rw [ways_iff (sorted_nodup hs) h (by omega), thr_iff hs]
  constructor
  · intro hh i j; exact hh [i, j] (by simp)
  · intro hh ids hl
    match ids, hl with
    | [], _ => rw [sans_nil]; exact conn_of_sans (hh 0 0)
    | [i], _ =>
      refine (hh i i).of_sub fun e he => ?_
      obtain ⟨h1, h2⟩ := mem_sansL.1 he
      exact mem_sansL.2 ⟨h1, by simpa using h2⟩
    | [i, j], _ => exact hh i j

/-- One node alone parts just if there are no two ways without a node in common. -/
theorem apart_iff {es : List E} {n a b m : Nat} (hab : a ≠ b) (hes : ∀ e, e ∈ es → e.a < n ∧ e.b < n) (hdir : ∀ e, e ∈ es → ¬ (e.a = a ∧ e.b = b) ∧ ¬ (e.a = b ∧ e.b = a)) (c : Conn (ends es) a b)
    (h : MinCap (capL (arcsN n a b ++ arcsNE a b es)) (2 * a + 1) (2 * b) (2 : Nat) m) : 2 ≤ m ↔ ¬ ∃ z, z < n ∧ z ≠ a ∧ z ≠ b ∧ ¬ Conn (ends (sansN es [z])) a b := by
  constructor
  · rintro hm ⟨z, _, hza, hzb, hc⟩
    obtain ⟨R, h1, h2, h3⟩ := cutN_of_took (n := n) hab hes (nd := [z]) (by simp) (by simp; exact fun e => hza e.symm) (by simp; exact fun e => hzb e.symm) hc
    have := h.le R h1 h2
    simp at h3
    omega
  · intro hno
    apply Classical.byContradiction
    intro hlt
    rcases h.tight with e | ⟨R, h1, h2, h3⟩
    · omega
    · obtain ⟨S, s1, s2, s3, s4⟩ := took_of_cutN hab hes hdir h1 h2
      have hl : ((List.range n).filter S).length ≤ 1 := by omega
      match hf : (List.range n).filter S, hl with
      | [], _ =>
        rw [hf] at s4
        exact s4 (by have : sansN es [] = es := by unfold sansN; simp
                     rw [this]; exact c)
      | [z], _ =>
        have hz : z ∈ (List.range n).filter S := by rw [hf]; simp
        obtain ⟨hz1, hz2⟩ := List.mem_filter.1 hz
        rw [hf] at s4
        exact hno ⟨z, List.mem_range.1 hz1, (fun e => by rw [e, s1] at hz2; cases hz2), (fun e => by rw [e, s2] at hz2; cases hz2), s4⟩

/-- Two parts of one first member are one. -/
theorem parts_inj {n : Nat} {L : Nat → Nat} (C : Canon n L) {i j x : Nat} {l l' : List Nat} (hi : (parts n L)[i]? = some l) (hj : (parts n L)[j]? = some l') (hx : x ∈ l) (hx' : x ∈ l') : i = j := by
  rw [parts_eq] at hi hj
  rw [List.getElem?_map] at hi hj
  cases ri : ((List.range n).filter (isRoot L))[i]? with
  | none => rw [ri] at hi; cases hi
  | some r =>
    cases rj : ((List.range n).filter (isRoot L))[j]? with
    | none => rw [rj] at hj; cases hj
    | some r' =>
      rw [ri] at hi; rw [rj] at hj
      simp only [Option.map_some, Option.some.injEq] at hi hj
      subst hi; subst hj
      have h1 := (List.mem_filter.1 hx).2
      have h2 := (List.mem_filter.1 hx').2
      simp only [decide_eq_true_eq] at h1 h2
      have hnd : ((List.range n).filter (isRoot L)).Nodup := List.nodup_range.sublist List.filter_sublist
      have hlt := (List.getElem?_eq_some_iff.1 ri).1
      exact (List.getElem?_inj hlt hnd).1 (ri.trans (by rw [rj, ← h1, ← h2]))

/-- Each is in a part. -/
theorem parts_cover {n : Nat} {L : Nat → Nat} (C : Canon n L) {x : Nat} (hx : x < n) : ∃ (i : Nat) (l : List Nat), (parts n L)[i]? = some l ∧ x ∈ l := by
  have hr : isRoot L (L x) = true := by unfold isRoot; simp [C.idem x hx]
  refine ⟨cnt (L x) (isRoot L), (List.range n).filter (fun z => decide (L z = L x)), ?_, List.mem_filter.2 ⟨List.mem_range.2 hx, by simp⟩⟩
  rw [parts_eq, List.getElem?_map, roots_get (C.lt hx) hr]
  rfl

/-- Of each node the number of its part: what is written down so far. -/
def PartF (ll : List (List Nat)) (f : Nat → Nat) (i k : Nat) : Prop := ∀ i' k' l x, ll[i']? = some l → l[k']? = some x → (i' < i ∨ (i' = i ∧ k' < k)) → f x = i'

theorem PartF.start (ll : List (List Nat)) (f : Nat → Nat) : PartF ll f 0 0 := fun i' k' l x _ _ h => by omega

theorem PartF.store {n : Nat} {L : Nat → Nat} (C : Canon n L) {f : Nat → Nat} {i k x : Nat} {l : List Nat} (h : PartF (parts n L) f i k) (hl : (parts n L)[i]? = some l) (hx : l[k]? = some x) : PartF (parts n L) (upd f x i) i (k + 1) := by
  intro i' k' l' x' h1 h2 h3
  by_cases e : x' = x
  · subst e
    rw [upd_same]
    exact parts_inj C hl h1 (List.mem_of_getElem? hx) (List.mem_of_getElem? h2)
  · rw [upd_ne _ _ _ _ e]
    refine h i' k' l' x' h1 h2 ?_
    rcases h3 with h3 | ⟨rfl, h3⟩
    · exact .inl h3
    · rw [hl] at h1; cases h1
      by_cases e2 : k' = k
      · subst e2; rw [hx] at h2; cases h2; exact absurd rfl e
      · exact .inr ⟨rfl, by omega⟩

theorem PartF.row {ll : List (List Nat)} {f : Nat → Nat} {i : Nat} {l : List Nat} (h : PartF ll f i l.length) (hl : ll[i]? = some l) : PartF ll f (i + 1) 0 := by
  intro i' k' l' x' h1 h2 h3
  refine h i' k' l' x' h1 h2 ?_
  by_cases e : i' = i
  · subst e; rw [hl] at h1; cases h1
    exact .inr ⟨rfl, (List.getElem?_eq_some_iff.1 h2).1⟩
  · exact .inl (by omega)

theorem PartF.done {n : Nat} {L : Nat → Nat} (C : Canon n L) {f : Nat → Nat} (h : PartF (parts n L) f (parts n L).length 0) {x y : Nat} (hx : x < n) (hy : y < n) : f x = f y ↔ L x = L y := by
  have key : ∀ {x}, x < n → ∃ l, (parts n L)[f x]? = some l ∧ x ∈ l := fun {x} hx => by
    obtain ⟨i, l, h1, h2⟩ := parts_cover C hx
    obtain ⟨k, hk⟩ := List.mem_iff_getElem?.1 h2
    have := h i k l x h1 hk (.inl (List.getElem?_eq_some_iff.1 h1).1)
    exact ⟨l, by rw [this]; exact h1, h2⟩
  obtain ⟨l, h1, h2⟩ := key hx
  obtain ⟨l', h3, h4⟩ := key hy
  obtain ⟨r, _, _, hm, _⟩ := parts_part C h1
  obtain ⟨r', _, _, hm', _⟩ := parts_part C h3
  constructor
  · intro e
    rw [e, h3] at h1; cases h1
    rw [((hm x).1 h2).2, ((hm y).1 h4).2]
  · intro e
    have : y ∈ l := (hm y).2 ⟨hy, by rw [← e]; exact ((hm x).1 h2).2⟩
    exact parts_inj C h1 h3 this h4

theorem PartF.lt {n : Nat} {L : Nat → Nat} (C : Canon n L) {f : Nat → Nat} (h : PartF (parts n L) f (parts n L).length 0) {x : Nat} (hx : x < n) : f x < n := by
  obtain ⟨i, l, h1, h2⟩ := parts_cover C hx
  obtain ⟨k, hk⟩ := List.mem_iff_getElem?.1 h2
  have hi := (List.getElem?_eq_some_iff.1 h1).1
  have := h i k l x h1 hk (.inl hi)
  have h5 : (parts n L).length ≤ n := by rw [parts_length]; exact cnt_le _ _
  omega

end Go.Proofs.Ytkpoobnldgfapaa.Pl
