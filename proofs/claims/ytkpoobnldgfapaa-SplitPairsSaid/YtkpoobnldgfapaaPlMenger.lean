/- As many ways as hold: cuts of edges, and sets of edges that part. -/
import Derived.Test.YtkpoobnldgfapaaPlFlow
import Derived.Test.YtkpoobnldgfapaaPlGraph
namespace Go.Proofs.Ytkpoobnldgfapaa.Pl

def ends (es : List E) : List (Nat × Nat) := es.map fun e => (e.a, e.b)

/-- How many edges go over a cut. -/
def cutE (es : List E) (R : Nat → Bool) : Int := (es.countP (fun e => R e.a != R e.b) : Nat)

theorem cutE_nil (R : Nat → Bool) : cutE [] R = 0 := rfl
theorem cutE_snoc (es : List E) (e : E) (R : Nat → Bool) : cutE (es ++ [e]) R = cutE es R + ind (R e.a && !R e.b) + ind (R e.b && !R e.a) := by
  unfold cutE
  rw [List.countP_append]
  cases h1 : R e.a <;> cases h2 : R e.b <;> simp [h1, h2, ind]

/-- The arcs of a graph: both ways along each edge. -/
def efr (es : List E) (i : Nat) : Nat := match es[i / 2]? with | some e => if i % 2 = 0 then e.a else e.b | none => 0
def eto (es : List E) (i : Nat) : Nat := match es[i / 2]? with | some e => if i % 2 = 0 then e.b else e.a | none => 0

theorem cap_edges (es : List E) (R : Nat → Bool) : cap (2 * es.length) (efr es) (eto es) R = cutE es R := by
  induction es using list_snoc_ind with
  | nil => rfl
  | snoc es e ih =>
    rw [cutE_snoc, ← ih]
    have e0 : 2 * (es ++ [e]).length = 2 * es.length + 2 := by simp; omega
    rw [e0]
    unfold cap
    show bsum (2 * es.length) _ + _ + _ = _
    have h1 : (2 * es.length) / 2 = es.length := by omega
    have h2 : (2 * es.length + 1) / 2 = es.length := by omega
    have h3 : (2 * es.length) % 2 = 0 := by omega
    have h4 : (2 * es.length + 1) % 2 = 1 := by omega
    have a1 : efr (es ++ [e]) (2 * es.length) = e.a := by simp [efr, h1, h3]
    have a2 : eto (es ++ [e]) (2 * es.length) = e.b := by simp [eto, h1, h3]
    have a3 : efr (es ++ [e]) (2 * es.length + 1) = e.b := by simp [efr, h2, h4]
    have a4 : eto (es ++ [e]) (2 * es.length + 1) = e.a := by simp [eto, h2, h4]
    simp only [a1, a2, a3, a4]
    congr 2
    refine bsum_congr fun i hi => ?_
    have hi2 : i / 2 < es.length := by omega
    have b1 : efr (es ++ [e]) i = efr es i := by unfold efr; rw [List.getElem?_append_left hi2]
    have b2 : eto (es ++ [e]) i = eto es i := by unfold eto; rw [List.getElem?_append_left hi2]
    rw [b1, b2]

theorem efr_lt {es : List E} {n : Nat} (h : ∀ e, e ∈ es → e.a < n ∧ e.b < n) : ∀ i, i < 2 * es.length → efr es i < n ∧ eto es i < n := by
  intro i hi
  have hi2 : i / 2 < es.length := by omega
  have he := h _ (List.getElem_mem hi2)
  unfold efr eto
  rw [List.getElem?_eq_getElem hi2]
  simp only
  split <;> exact ⟨by omega, by omega⟩

/-- The graph without some of its edges. -/
def sans (es : List E) (took : List Nat) : List E := es.filter (fun e => !took.contains e.id)

theorem mem_sans {es : List E} {took : List Nat} {e : E} : e ∈ sans es took ↔ e ∈ es ∧ e.id ∉ took := by
  simp [sans]

theorem conn_closed {es : List (Nat × Nat)} {R : Nat → Bool} (h : ∀ e, e ∈ es → R e.1 = R e.2) {x y : Nat} (c : Conn es x y) : R x = R y :=
  c.ind (R := fun x y => R x = R y) (fun _ => rfl) (fun _ _ h => h.symm) (fun _ _ _ h g => h.trans g) h

theorem len_le_of_mem : ∀ {l k : List Nat}, l.Nodup → (∀ i, i ∈ l → i ∈ k) → l.length ≤ k.length
  | [], _, _, _ => Nat.zero_le _
  | a :: l, k, hn, h => by
    rw [List.nodup_cons] at hn
    have ha := h a (List.mem_cons_self ..)
    have := len_le_of_mem (l := l) (k := k.erase a) hn.2 (fun i hi => by
      have hne : i ≠ a := fun e => hn.1 (e ▸ hi)
      exact (List.mem_erase_of_ne hne).2 (h i (List.mem_cons_of_mem _ hi)))
    rw [List.length_erase_of_mem ha] at this
    have : 0 < k.length := List.length_pos_of_mem ha
    simp only [List.length_cons]
    omega

theorem countP_le_of_inj {es : List E} (hn : (es.map (·.id)).Nodup) {p : E → Bool} {took : List Nat} (h : ∀ e, e ∈ es → p e = true → e.id ∈ took) : es.countP p ≤ took.length := by
  rw [List.countP_eq_length_filter]
  have h1 : ((es.filter p).map (·.id)).Nodup := List.Sublist.nodup (List.Sublist.map _ List.filter_sublist) hn
  have h2 : ∀ i, i ∈ (es.filter p).map (·.id) → i ∈ took := by
    intro i hi
    obtain ⟨e, he, rfl⟩ := List.mem_map.1 hi
    rw [List.mem_filter] at he
    exact h e he.1 he.2
  have := len_le_of_mem h1 h2
  simpa using this

/-- Edges whose taking away parts two nodes are as many as some cut, or more. -/
theorem cut_of_took {es : List E} (hn : (es.map (·.id)).Nodup) {took : List Nat} {a b : Nat} (h : ¬ Conn (ends (sans es took)) a b) :
    ∃ R : Nat → Bool, R a = true ∧ R b = false ∧ cutE es R ≤ took.length := by
  refine ⟨fun v => decide (Conn (ends (sans es took)) a v), by simp [Conn.refl], by simpa using h, ?_⟩
  unfold cutE
  have := countP_le_of_inj hn (took := took) (p := fun e => (decide (Conn (ends (sans es took)) a e.a) != decide (Conn (ends (sans es took)) a e.b))) (fun e he hp => by
    apply Classical.byContradiction
    intro hni
    have hc : Conn (ends (sans es took)) e.a e.b := Conn.of_mem (List.mem_map.2 ⟨e, mem_sans.2 ⟨he, hni⟩, rfl⟩)
    have : decide (Conn (ends (sans es took)) a e.a) = decide (Conn (ends (sans es took)) a e.b) := by
      rw [decide_eq_decide]; exact ⟨fun h => h.trans hc, fun h => h.trans hc.symm⟩
    rw [this] at hp
    simp at hp)
  exact Int.ofNat_le.2 this

/-- The edges over a cut part what it parts. -/
theorem took_of_cut {es : List E} {R : Nat → Bool} {a b : Nat} (ha : R a = true) (hb : R b = false) :
    ¬ Conn (ends (sans es ((es.filter (fun e => R e.a != R e.b)).map (·.id)))) a b ∧ (((es.filter (fun e => R e.a != R e.b)).map (·.id)).length : Int) = cutE es R := by
  refine ⟨fun c => ?_, by rw [List.length_map, ← List.countP_eq_length_filter]; rfl⟩
  have := conn_closed (R := R) (fun e he => by
    obtain ⟨f, hf, rfl⟩ := List.mem_map.1 he
    rw [mem_sans] at hf
    apply Classical.byContradiction
    intro hne
    exact hf.2 (List.mem_map.2 ⟨f, List.mem_filter.2 ⟨hf.1, by simpa using hne⟩, rfl⟩)) c
  rw [ha, hb] at this
  cases this


theorem mem_ends' {es : List E} {e : E} (h : e ∈ es) : (e.a, e.b) ∈ ends es := List.mem_map.2 ⟨e, h, rfl⟩

end Go.Proofs.Ytkpoobnldgfapaa.Pl
