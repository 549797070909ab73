/- isthmusref: a Graph in memory; in; Add. -/
import Derived.Test.YtkpoobnldgfapabGreatDoorA5
import Derived.Test.YtkpoobnldgfapabGreatDoorGrT
set_option linter.unusedVariables false
set_option linter.unusedSimpArgs false
namespace Go.Proofs.YtkpoobnldgfapabGreatDoor
open Go.RowKit Pl

structure RGrMem (F : Nat → Prop) (w : World) (b n : Nat) (es : List E) (o : Option Addr) (c : Nat) : Prop where
  head : Row w b 56 [.int .i64 n, .slice o es.length c]
  hb : F b
  s : Sl F w 42 3 o es.length c (ecs es)
  d : ∀ a, o = some a → a.block ≠ b

namespace RGrMem
variable {F : Nat → Prop} {w : World} {b n : Nat} {es : List E} {o : Option Addr} {c : Nat}
theorem keep {G : Nat → Prop} {w' : World} (h : RGrMem F w b n es o c) (k : Keep G w w') (d : ∀ k, F k → ¬ G k) : RGrMem F w' b n es o c := ⟨h.head.keep k (d b h.hb), h.hb, h.s.keep k d, h.d⟩
theorem drew (h : RGrMem F w b n es o c) : RGrMem F w.drew b n es o c := ⟨h.head.drew, h.hb, h.s.drew, h.d⟩
theorem alloc (h : RGrMem F w b n es o c) (ob : Obj) : RGrMem F (w.alloc ob) b n es o c := ⟨h.head.alloc ob, h.hb, h.s.alloc ob, h.d⟩
theorem mono {G : Nat → Prop} (h : RGrMem F w b n es o c) (hG : ∀ k, F k → G k) : RGrMem G w b n es o c := ⟨h.head, hG _ h.hb, h.s.mono hG, h.d⟩
theorem tight (h : RGrMem F w b n es o c) : RGrMem (fun k => F k ∧ k < w.heap.size) w b n es o c := ⟨h.head, ⟨h.hb, h.head.lt⟩, h.s.tight, h.d⟩
end RGrMem

/-- A graph of the document's in memory. -/
def RGr (F : Nat → Prop) (w : World) (b n : Nat) (es : List E) : Prop := ∃ o c, RGrMem F w b n es o c

theorem RGr.keep {F G : Nat → Prop} {w w' : World} {b n : Nat} {es : List E} (h : RGr F w b n es) (k : Keep G w w') (d : ∀ k, F k → ¬ G k) : RGr F w' b n es := by
  obtain ⟨o, c, h⟩ := h; exact ⟨o, c, h.keep k d⟩
theorem RGr.drew {F : Nat → Prop} {w : World} {b n : Nat} {es : List E} (h : RGr F w b n es) : RGr F w.drew b n es := by
  obtain ⟨o, c, h⟩ := h; exact ⟨o, c, h.drew⟩
theorem RGr.alloc {F : Nat → Prop} {w : World} {b n : Nat} {es : List E} (h : RGr F w b n es) (ob : Obj) : RGr F (w.alloc ob) b n es := by
  obtain ⟨o, c, h⟩ := h; exact ⟨o, c, h.alloc ob⟩
theorem RGr.mono {F G : Nat → Prop} {w : World} {b n : Nat} {es : List E} (h : RGr F w b n es) (hG : ∀ k, F k → G k) : RGr G w b n es := by
  obtain ⟨o, c, h⟩ := h; exact ⟨o, c, h.mono hG⟩
theorem RGr.tight {F : Nat → Prop} {w : World} {b n : Nat} {es : List E} (h : RGr F w b n es) : RGr (fun k => F k ∧ k < w.heap.size) w b n es := by
  obtain ⟨o, c, h⟩ := h; exact ⟨o, c, h.tight⟩

theorem in_any (a lo hi : Int) (r : Bool) (hr : r = decide (lo ≤ a ∧ a ≤ hi)) (w : World) : Calls Tryz.prog 92 #[.int .i64 a, .int .i64 lo, .int .i64 hi] w fun e w' => e = .returned (.bool r) ∧ w = w' := by
  by_cases h1 : lo ≤ a
  · by_cases h2 : a ≤ hi
    · have hr2 : r = true := by rw [hr]; simp [h1, h2]
      clear hr; subst hr2
      go_enter Tryz.func92, Tryz.ntmps92
      go_wp2
      go_ret
      exact ⟨rfl, rfl⟩
    · have hr2 : r = false := by rw [hr]; simp; omega
      clear hr; subst hr2
      go_enter Tryz.func92, Tryz.ntmps92
      go_wp2
      go_ret
      exact ⟨rfl, rfl⟩
  · have hr2 : r = false := by rw [hr]; simp; omega
    clear hr; subst hr2
    go_enter Tryz.func92, Tryz.ntmps92
    go_wp2
    go_ret
    exact ⟨rfl, rfl⟩

/-- 'append([]T{}, xs...)': a copy in a block of its own. w: ahead of the empty row. -/
theorem run_app_copy {P : Program} {w : World} {F : Nat → Prop} (t ty e : TypeId) {z : Value} {size bytes : Nat} (ht : P.underlying t = some (.slice e)) (hE : ElemT P e z size bytes) (hzs : z.cells.size = size) (hsz : 0 < size)
    {o : Option Addr} {n c : Nat} {xs : List Value} (hS : Sl F w e size o n c xs) (h1 : ∀ u ∈ xs, u.oneCell' = true) (hn : n ≤ 1000000) (hb : bytes ≤ 1000000) :
    ∃ g c' w', (Builtin.append_ #[t, t] ty #[.slice (some ⟨w.heap.size, 0, none⟩) 0 0, .slice o n c]).run P (w.alloc (.cells #[] e)) = .ok (.slice (some ⟨g, 0, none⟩) n c') w' ∧
      Sl (fun k => w.heap.size ≤ k) w' e size (some ⟨g, 0, none⟩) n c' xs ∧ Keep Nb w w' := by
  have hS0 : Sl (fun k => w.heap.size ≤ k) (w.alloc (.cells #[] e)) e size (some ⟨w.heap.size, 0, none⟩) 0 0 [] :=
    ⟨⟨by simp, .inr ⟨w.heap.size, 0, _, rfl, Nat.zero_le _, heap_alloc_new w _, Nat.le_refl _, Nat.zero_le _, by simp, by simp⟩⟩, fun a ha => by simp at ha; rw [← ha]; exact Nat.le_refl _⟩
  by_cases h0 : n = 0
  · subst h0
    have hx : xs = [] := List.eq_nil_of_length_eq_zero (by simpa using hS.len)
    subst hx
    refine ⟨w.heap.size, 0, w.alloc (.cells #[] e), ?_, hS0, (Keep.refl Nb w).alloc _⟩
    obtain ⟨i, hi, hz, hs, hb⟩ := info_parts hE
    cases o <;> simp [Builtin.append_, run_underlying ht, sizeOf, typeInfo, hi, Builtin.lenOf, Builtin.firstCells, loadCells, loadCellsFrom, storeCells]
  · obtain ⟨g, rfl, _, hnc, hrow⟩ := hS.pos (by omega)
    have hby : (0 + n) * bytes ≤ 140737488355328 := by
      have := Nat.mul_le_mul hn hb
      rw [Nat.zero_add]; omega
    obtain ⟨q, c', w', r1, r2, r3, r4⟩ := run_app (P := P) (w := w.alloc (.cells #[] e)) t ty e ht hE hzs hsz hS0 ⟨g, 0, none⟩ n c xs hS.len
      (fun j u hj => by
        rw [show (⟨g, 0, none⟩ : Addr).add j = ⟨g, j, none⟩ from by unfold Addr.add; split <;> simp_all]
        exact (hrow.alloc _).cell hj) h1 (by simp only [maxLen]; omega) hby (by omega)
    simp only [Nat.zero_add, List.nil_append] at r1 r2
    refine ⟨q, c', w', r1, r2.mono (fun k hk => by rcases hk with h | h; exact h; simp at h; omega), ?_⟩
    exact ((Keep.refl Nb w).alloc _).trans' r3 (fun _ _ e => e) (fun k hk e => by
      obtain ⟨x, hx, hb⟩ := e
      simp at hx; subst hx
      simp at hb; omega)

end Go.Proofs.YtkpoobnldgfapabGreatDoor
