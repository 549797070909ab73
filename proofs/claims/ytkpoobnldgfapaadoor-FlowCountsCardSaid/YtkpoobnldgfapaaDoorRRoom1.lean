/- isthmusref: rooms in memory. -/
import Derived.Test.YtkpoobnldgfapaaDoorMake
import Derived.Test.YtkpoobnldgfapaaDoorPlRoom2
set_option linter.unusedVariables false
set_option linter.unusedSimpArgs false
namespace Go.Proofs.YtkpoobnldgfapaaDoor
open Go.RowKit Pl

/-- Whole numbers as values. -/
def zints (n : Nat) (f : Nat → Int) : List Value := (List.range n).map fun y => Value.int .i64 (f y)
theorem zints_length (n : Nat) (f : Nat → Int) : (zints n f).length = n := by simp [zints]
theorem zints_get {n i : Nat} (f : Nat → Int) (h : i < n) : (zints n f)[i]? = some (.int .i64 (f i)) := by simp [zints, h]
theorem zints_set (n : Nat) (f : Nat → Int) (i : Nat) (v : Int) : (zints n f).set i (.int .i64 v) = zints n (upd f i v) := by
  apply List.ext_getElem?
  intro k
  rw [List.getElem?_set]
  by_cases hk : k < n
  · rw [zints_get _ hk]
    by_cases e : i = k
    · subst e; rw [if_pos rfl, if_pos (by rw [zints_length]; exact hk), zints_get _ hk, upd_same]
    · have : k ≠ i := fun h => e h.symm
      rw [if_neg e, zints_get _ hk, upd_ne _ _ _ _ this]
  · have h1 : (zints n f)[k]? = none := List.getElem?_eq_none (by rw [zints_length]; omega)
    have h2 : (zints n (upd f i v))[k]? = none := List.getElem?_eq_none (by rw [zints_length]; omega)
    rw [h1, h2]
    split
    · split
      · rename_i h3 h4; rw [zints_length] at h4; omega
      · rfl
    · rfl
theorem zints_zero (n : Nat) : zints n (fun _ => 0) = List.replicate n (.int .i64 0) := by
  rw [List.eq_replicate_iff]
  refine ⟨zints_length _ _, fun v hv => ?_⟩
  obtain ⟨x, hx, rfl⟩ := List.mem_map.1 hv
  rfl

/-- Yes or no, as values. -/
def zbools (n : Nat) (f : Nat → Bool) : List Value := (List.range n).map fun y => Value.bool (f y)
theorem zbools_length (n : Nat) (f : Nat → Bool) : (zbools n f).length = n := by simp [zbools]
theorem zbools_get {n i : Nat} (f : Nat → Bool) (h : i < n) : (zbools n f)[i]? = some (.bool (f i)) := by simp [zbools, h]
theorem zbools_set (n : Nat) (f : Nat → Bool) (i : Nat) (v : Bool) : (zbools n f).set i (.bool v) = zbools n (upd f i v) := by
  apply List.ext_getElem?
  intro k
  rw [List.getElem?_set]
  by_cases hk : k < n
  · rw [zbools_get _ hk]
    by_cases e : i = k
    · subst e; rw [if_pos rfl, if_pos (by rw [zbools_length]; exact hk), zbools_get _ hk, upd_same]
    · have : k ≠ i := fun h => e h.symm
      rw [if_neg e, zbools_get _ hk, upd_ne _ _ _ _ this]
  · have h1 : (zbools n f)[k]? = none := List.getElem?_eq_none (by rw [zbools_length]; omega)
    have h2 : (zbools n (upd f i v))[k]? = none := List.getElem?_eq_none (by rw [zbools_length]; omega)
    rw [h1, h2]
    split
    · split
      · rename_i h3 h4; rw [zbools_length] at h4; omega
      · rfl
    · rfl
theorem zbools_no (n : Nat) : zbools n (fun _ => false) = List.replicate n (.bool false) := by
  rw [List.eq_replicate_iff]
  refine ⟨zbools_length _ _, fun v hv => ?_⟩
  obtain ⟨x, hx, rfl⟩ := List.mem_map.1 hv
  rfl

/-- The rooms' heads, of which the first i are made. -/
def rheads (N : Nat) (rb : Nat → Nat) (i : Nat) : List Value := (List.range N).map fun x => if x < i then .slice (some ⟨rb x, 0, none⟩) N N else .slice none 0 0
theorem rheads_length (N : Nat) (rb : Nat → Nat) (i : Nat) : (rheads N rb i).length = N := by simp [rheads]
theorem rheads_get {N x : Nat} {rb : Nat → Nat} {i : Nat} (h : x < N) (hi : x < i) : (rheads N rb i)[x]? = some (.slice (some ⟨rb x, 0, none⟩) N N) := by simp [rheads, h, hi]
theorem rheads_zero (N : Nat) (rb : Nat → Nat) : rheads N rb 0 = List.replicate N (.slice none 0 0) := by
  rw [List.eq_replicate_iff]
  refine ⟨rheads_length _ _ _, fun v hv => ?_⟩
  obtain ⟨x, hx, rfl⟩ := List.mem_map.1 hv
  rfl
theorem rheads_set {N : Nat} {rb : Nat → Nat} {i q : Nat} (hi : i < N) : (rheads N rb i).set i (.slice (some ⟨q, 0, none⟩) N N) = rheads N (upd rb i q) (i + 1) := by
  apply List.ext_getElem?
  intro k
  rw [List.getElem?_set]
  by_cases hk : k < N
  · by_cases e : i = k
    · subst e; rw [if_pos rfl, if_pos (by rw [rheads_length]; exact hk), rheads_get hk (by omega), upd_same]
    · rw [if_neg e]
      have e' : k ≠ i := fun h => e h.symm
      unfold rheads
      simp only [List.getElem?_map, List.getElem?_range hk, Option.map_some, upd_ne _ _ _ _ e']
      have : (k < i) = (k < i + 1) := by rw [eq_iff_iff]; omega
      simp only [this]
  · have h1 : (rheads N rb i)[k]? = none := List.getElem?_eq_none (by rw [rheads_length]; omega)
    have h2 : (rheads N (upd rb i q) (i + 1))[k]? = none := List.getElem?_eq_none (by rw [rheads_length]; omega)
    rw [h1, h2]
    split
    · split
      · rename_i h3 h4; rw [rheads_length] at h4; omega
      · rfl
    · rfl

/-- Rooms in memory, of which the first i are made. -/
structure RoomI (F : Nat → Prop) (w : World) (g N i : Nat) (rb : Nat → Nat) (r : Nat → Nat → Int) : Prop where
  head : Row w g 30 (rheads N rb i)
  row : ∀ x, x < i → Row w (rb x) 3 (zints N (r x))
  fg : F g
  fr : ∀ x, x < i → F (rb x)
  ne : ∀ x, x < i → rb x ≠ g
  inj : ∀ x y, x < i → y < i → rb x = rb y → x = y

theorem RoomI.keep {F G : Nat → Prop} {w w' : World} {g N i : Nat} {rb : Nat → Nat} {r : Nat → Nat → Int} (h : RoomI F w g N i rb r) (k : Keep G w w') (d : ∀ k, F k → ¬ G k) : RoomI F w' g N i rb r :=
  ⟨h.head.keep k (d _ h.fg), fun x hx => (h.row x hx).keep k (d _ (h.fr x hx)), h.fg, h.fr, h.ne, h.inj⟩
theorem RoomI.mono {F G : Nat → Prop} {w : World} {g N i : Nat} {rb : Nat → Nat} {r : Nat → Nat → Int} (h : RoomI F w g N i rb r) (d : ∀ k, F k → G k) : RoomI G w g N i rb r :=
  ⟨h.head, h.row, d _ h.fg, fun x hx => d _ (h.fr x hx), h.ne, h.inj⟩
theorem RoomI.tight {F : Nat → Prop} {w : World} {g N i : Nat} {rb : Nat → Nat} {r : Nat → Nat → Int} (h : RoomI F w g N i rb r) : RoomI (fun k => F k ∧ k < w.heap.size) w g N i rb r :=
  ⟨h.head, h.row, ⟨h.fg, h.head.lt⟩, fun x hx => ⟨h.fr x hx, (h.row x hx).lt⟩, h.ne, h.inj⟩

/-- One room more. -/
theorem RoomI.more {F : Nat → Prop} {w w' : World} {g N i q : Nat} {rb : Nat → Nat} (h : RoomI F w g N i rb (fun _ _ => 0)) (hi : i < N) (hk : Keep Nb w w') (hq : Row w' q 3 (zints N (fun _ => 0))) (hl : w.heap.size ≤ q) (hF : F q) :
    RoomI F (w'.setCell ⟨g, i, none⟩ (.slice (some ⟨q, 0, none⟩) N N)) g N (i + 1) (upd rb i q) (fun _ _ => 0) := by
  have hg := h.head.lt
  have lt : ∀ x, x < i → rb x < w.heap.size := fun x hx => (h.row x hx).lt
  refine ⟨?_, fun x hx => ?_, h.fg, fun x hx => ?_, fun x hx => ?_, fun x y hx hy e => ?_⟩
  · rw [← rheads_set hi]
    exact (h.head.keep hk (fun e => e)).set (by rw [rheads_length]; exact hi) _
  · by_cases e : x = i
    · subst e; rw [upd_same]; exact hq.set_other (p := ⟨g, x, none⟩) (by show g ≠ q; omega) _
    · rw [upd_ne _ _ _ _ e]
      exact ((h.row x (by omega)).keep hk (fun e => e)).set_other (p := ⟨g, i, none⟩) (fun e' => h.ne x (by omega) e'.symm) _
  · by_cases e : x = i
    · subst e; rw [upd_same]; exact hF
    · rw [upd_ne _ _ _ _ e]; exact h.fr x (by omega)
  · by_cases e : x = i
    · subst e; rw [upd_same]; omega
    · rw [upd_ne _ _ _ _ e]; exact h.ne x (by omega)
  · by_cases e1 : x = i <;> by_cases e2 : y = i
    · omega
    · subst e1; rw [upd_same, upd_ne _ _ _ _ e2] at e; have := lt y (by omega); omega
    · subst e2; rw [upd_same, upd_ne _ _ _ _ e1] at e; have := lt x (by omega); omega
    · rw [upd_ne _ _ _ _ e1, upd_ne _ _ _ _ e2] at e; exact h.inj x y (by omega) (by omega) e

/-- All rooms. -/
abbrev Room (F : Nat → Prop) (w : World) (g N : Nat) (rb : Nat → Nat) (r : Nat → Nat → Int) : Prop := RoomI F w g N N rb r

theorem RoomI.hcell {F : Nat → Prop} {w : World} {g N i : Nat} {rb : Nat → Nat} {r : Nat → Nat → Int} (h : RoomI F w g N i rb r) {x : Nat} (hx : x < N) (hi : x < i) : w.cell? ⟨g, x, none⟩ = some (.slice (some ⟨rb x, 0, none⟩) N N) := h.head.cell (rheads_get hx hi)
theorem RoomI.cell {F : Nat → Prop} {w : World} {g N i : Nat} {rb : Nat → Nat} {r : Nat → Nat → Int} (h : RoomI F w g N i rb r) {x y : Nat} (hx : x < i) (hy : y < N) : w.cell? ⟨rb x, y, none⟩ = some (.int .i64 (r x y)) := (h.row x hx).cell (zints_get _ hy)
theorem RoomI.frozen {F : Nat → Prop} {w : World} {g N i : Nat} {rb : Nat → Nat} {r : Nat → Nat → Int} (h : RoomI F w g N i rb r) {x : Nat} (hx : x < i) (y : Nat) : w.frozen? ⟨rb x, y, none⟩ = false := (h.row x hx).frozen y none

/-- One number set. -/
theorem RoomI.set {F : Nat → Prop} {w : World} {g N i : Nat} {rb : Nat → Nat} {r : Nat → Nat → Int} (h : RoomI F w g N i rb r) {x y : Nat} (hx : x < i) (hy : y < N) (v : Int) :
    RoomI F (w.setCell ⟨rb x, y, none⟩ (.int .i64 v)) g N i rb (upd2 r x y v) := by
  refine ⟨h.head.set_other (p := ⟨rb x, y, none⟩) (h.ne x hx) _, fun z hz => ?_, h.fg, h.fr, h.ne, h.inj⟩
  by_cases e : z = x
  · subst e
    have h1 := (h.row z hz).set (i := y) (by rw [zints_length]; exact hy) (.int .i64 v)
    rw [zints_set] at h1
    have e2 : upd2 r z y v z = upd (r z) y v := by funext a; unfold upd2 upd; simp
    rw [e2]
    exact h1
  · have h1 := (h.row z hz).set_other (p := ⟨rb x, y, none⟩) (fun e' => e (h.inj x z hx hz e').symm) (.int .i64 v)
    have e2 : upd2 r x y v z = r z := by funext a; unfold upd2; simp [e]
    rw [e2]
    exact h1

/-- The blocks of the rooms' numbers. -/
def Rb (rb : Nat → Nat) (N : Nat) : Nat → Prop := fun k => ∃ x, x < N ∧ k = rb x

end Go.Proofs.YtkpoobnldgfapaaDoor
