/- Slices of slices of numbers. Nothing of one program stands here. -/
import Derived.Test.YtkpoobnldgfapaaApp
namespace Go.Proofs.Ytkpoobnldgfapaa
open Go.RowKit

structure Rw where
  o : Option Addr
  n : Nat
  c : Nat

def Rw.val (r : Rw) : Value := .slice r.o r.n r.c

structure Mat (F : Nat → Prop) (w : World) (T e : TypeId) (o : Option Addr) (n c : Nat) (rows : List Rw) (ll : List (List Nat)) : Prop where
  out : Sl F w T 1 o n c (rows.map Rw.val)
  len : rows.length = ll.length
  row : ∀ (i : Nat) r l, rows[i]? = some r → ll[i]? = some l → Sl F w e 1 r.o r.n r.c (ints l)
  ne : ∀ (i : Nat) r a, rows[i]? = some r → r.o = some a → ¬ Bl o a.block
  nn : ∀ (i j : Nat) r s a b, i ≠ j → rows[i]? = some r → rows[j]? = some s → r.o = some a → s.o = some b → a.block ≠ b.block

namespace Mat
variable {F : Nat → Prop} {w : World} {T e : TypeId} {o : Option Addr} {n c : Nat} {rows : List Rw} {ll : List (List Nat)}

theorem nil (F : Nat → Prop) (w : World) (T e : TypeId) : Mat F w T e none 0 0 [] [] :=
  ⟨Sl.nil F w T 1, rfl, fun i r l h => by simp at h, fun i r a h => by simp at h, fun i j r s a b _ h => by simp at h⟩

theorem n_eq (h : Mat F w T e o n c rows ll) : n = ll.length := by
  have := h.out.len
  simp only [List.length_map, Nat.mul_one] at this
  rw [← this, h.len]

theorem of_heap {w' : World} (h : Mat F w T e o n c rows ll) (he : ∀ k, k < w.heap.size → F k → w'.heap[k]? = w.heap[k]?) : Mat F w' T e o n c rows ll :=
  ⟨h.out.of_heap he, h.len, fun i r l h1 h2 => (h.row i r l h1 h2).of_heap he, h.ne, h.nn⟩

theorem keep {G : Nat → Prop} {w' : World} (h : Mat F w T e o n c rows ll) (k : Keep G w w') (d : ∀ k, F k → ¬ G k) : Mat F w' T e o n c rows ll :=
  h.of_heap fun i hi hF => k.block i hi (d i hF)

theorem mono {G : Nat → Prop} (h : Mat F w T e o n c rows ll) (hG : ∀ k, F k → G k) : Mat G w T e o n c rows ll :=
  ⟨h.out.mono hG, h.len, fun i r l h1 h2 => (h.row i r l h1 h2).mono hG, h.ne, h.nn⟩

theorem alloc (h : Mat F w T e o n c rows ll) (ob : Obj) : Mat F (w.alloc ob) T e o n c rows ll := h.of_heap fun k hk _ => Below.heap_alloc w ob k hk
theorem drew (h : Mat F w T e o n c rows ll) : Mat F w.drew T e o n c rows ll := h.of_heap fun _ _ _ => rfl

theorem tight (h : Mat F w T e o n c rows ll) : Mat (fun k => F k ∧ k < w.heap.size) w T e o n c rows ll :=
  ⟨h.out.tight, h.len, fun i r l h1 h2 => (h.row i r l h1 h2).tight, h.ne, h.nn⟩

theorem rowLt (h : Mat F w T e o n c rows ll) {i : Nat} {r : Rw} {a : Addr} (h1 : rows[i]? = some r) (ha : r.o = some a) : a.block < w.heap.size := by
  have hi : i < ll.length := by rw [← h.len]; exact (List.getElem?_eq_some_iff.1 h1).1
  exact (h.row i r ll[i] h1 (by simp [hi])).lt ha

/-- One row more, an empty one. -/
theorem push {w' : World} {g c' : Nat} (h : Mat F w T e o n c rows ll) (hS : Sl F w' T 1 (some ⟨g, 0, none⟩) (n + 1) c' (rows.map Rw.val ++ [.slice none 0 0])) (hk : Keep (Bl o) w w')
    (hg : o = some ⟨g, 0, none⟩ ∨ g = w.heap.size + 1) : Mat F w' T e (some ⟨g, 0, none⟩) (n + 1) c' (rows ++ [⟨none, 0, 0⟩]) (ll ++ [[]]) := by
  refine ⟨by simpa [Rw.val] using hS, by simp [h.len], fun i r l h1 h2 => ?_, fun i r a h1 ha => ?_, fun i j r s a b hij h1 h2 ha hb => ?_⟩
  · by_cases hi : i < rows.length
    · rw [List.getElem?_append_left hi] at h1
      rw [List.getElem?_append_left (by rw [← h.len]; exact hi)] at h2
      refine (h.row i r l h1 h2).of_block fun a ha => hk.block _ (h.rowLt h1 ha) (h.ne i r a h1 ha)
    · have hi' : i = rows.length := by
        have := (List.getElem?_eq_some_iff.1 h1).1
        simp at this; omega
      subst hi'
      simp at h1
      subst h1
      rw [h.len] at h2
      simp at h2
      subst h2
      exact Sl.nil F w' e 1
  · by_cases hi : i < rows.length
    · rw [List.getElem?_append_left hi] at h1
      rintro ⟨a', ha', hb⟩
      simp at ha'
      subst ha'
      rcases hg with hg | hg
      · exact h.ne i r a h1 ha ⟨_, hg, hb⟩
      · have := h.rowLt h1 ha
        simp at hb; omega
    · have hi' : i = rows.length := by
        have := (List.getElem?_eq_some_iff.1 h1).1
        simp at this; omega
      subst hi'
      simp at h1
      subst h1
      cases ha
  · by_cases hi : i < rows.length
    · by_cases hj : j < rows.length
      · rw [List.getElem?_append_left hi] at h1
        rw [List.getElem?_append_left hj] at h2
        exact h.nn i j r s a b hij h1 h2 ha hb
      · have hj' : j = rows.length := by
          have := (List.getElem?_eq_some_iff.1 h2).1
          simp at this; omega
        subst hj'
        simp at h2
        subst h2
        cases hb
    · have hi' : i = rows.length := by
        have := (List.getElem?_eq_some_iff.1 h1).1
        simp at this; omega
      subst hi'
      simp at h1
      subst h1
      cases ha

/-- One number more in a row. -/
theorem setRow {w' : World} {go g c' i : Nat} {r : Rw} {l : List Nat} {x : Nat} (h : Mat F w T e (some ⟨go, 0, none⟩) n c rows ll) (hr : rows[i]? = some r) (hl : ll[i]? = some l)
    (hS : Sl F w' e 1 (some ⟨g, 0, none⟩) (r.n + 1) c' (ints l ++ [.int .i64 x])) (hk : Keep (Bl r.o) w w') (hg : r.o = some ⟨g, 0, none⟩ ∨ g = w.heap.size + 1) :
    Mat F (w'.setCell ⟨go, i, none⟩ (.slice (some ⟨g, 0, none⟩) (r.n + 1) c')) T e (some ⟨go, 0, none⟩) n c (rows.set i ⟨some ⟨g, 0, none⟩, r.n + 1, c'⟩) (ll.set i (l ++ [x])) := by
  have hin : i < rows.length := (List.getElem?_eq_some_iff.1 hr).1
  have hgo : go < w.heap.size := h.out.lt rfl
  have hn : i < n := by have := h.out.len; simp at this; omega
  have hggo : g ≠ go := by
    rcases hg with hg | hg
    · intro e1; exact h.ne i r _ hr hg ⟨_, rfl, e1.symm⟩
    · omega
  have hout' : Sl F w' T 1 (some ⟨go, 0, none⟩) n c (rows.map Rw.val) := h.out.of_block fun a ha => hk.block _ (h.out.lt ha) (fun hb => by
    obtain ⟨a', ha', hb'⟩ := hb
    simp at ha; subst ha
    exact h.ne i r a' hr ha' ⟨_, rfl, by simpa using hb'.symm⟩)
  refine ⟨?_, by simp [h.len], fun j s m h1 h2 => ?_, fun j s a h1 ha => ?_, fun j k s t a b hjk h1 h2 ha hb => ?_⟩
  · rw [List.map_set]
    exact hout'.set rfl hn _
  · by_cases hij : i = j
    · subst hij
      simp [hin] at h1
      rw [List.getElem?_set_self (by rw [← h.len]; exact hin)] at h2
      simp at h2
      subst h1; subst h2
      rw [ints_append]
      refine (Sl.set_ne hS (p := ⟨go, i, none⟩) (fun a ha => ?_) _)
      simp at ha; subst ha; exact hggo
    · rw [List.getElem?_set_ne hij] at h1 h2
      have h3 := h.row j s m h1 h2
      have h4 : Sl F w' e 1 s.o s.n s.c (ints m) := h3.of_block fun a ha => hk.block _ (h3.lt ha) (fun hb => by
        obtain ⟨a', ha', hb'⟩ := hb
        exact h.nn i j r s a' a hij hr h1 ha' ha hb')
      exact h4.set_ne (p := ⟨go, i, none⟩) (fun a ha e1 => h.ne j s a h1 ha ⟨_, rfl, e1.symm⟩) _
  · by_cases hij : i = j
    · subst hij
      simp [hin] at h1
      subst h1
      simp at ha; subst ha
      rintro ⟨a', ha', hb⟩
      simp at ha'; subst ha'
      exact hggo hb.symm
    · rw [List.getElem?_set_ne hij] at h1
      exact h.ne j s a h1 ha
  · by_cases hij : i = j
    · subst hij
      rw [List.getElem?_set_ne hjk] at h2
      simp [hin] at h1
      subst h1
      simp at ha; subst ha
      rcases hg with hg | hg
      · exact h.nn i k r t _ b hjk hr h2 hg hb
      · have := h.rowLt h2 hb
        show g ≠ b.block
        omega
    · rw [List.getElem?_set_ne hij] at h1
      by_cases hik : i = k
      · subst hik
        simp [hin] at h2
        subst h2
        simp at hb; subst hb
        rcases hg with hg | hg
        · exact h.nn j i s r a _ hjk h1 hr ha hg
        · have := h.rowLt h1 ha
          show a.block ≠ g
          omega
      · rw [List.getElem?_set_ne hik] at h2
        exact h.nn j k s t a b hjk h1 h2 ha hb
end Mat

end Go.Proofs.Ytkpoobnldgfapaa
