/- graph: New, Edges. -/
import Derived.Test.YtkpoobnldgfapaaGraph8
namespace Go.Proofs.Ytkpoobnldgfapaa
open Go.RowKit Go.Lib Pl

def GNewPost (w : World) (n : Nat) (e : Ending) (w' : World) : Prop :=
  e = .returned (.tuple #[.pointer (some ⟨w.heap.size, 0, none⟩), .nilIface]) ∧ Gr (fun k => k = w.heap.size) w' w.heap.size n [] ∧ Keep Nb w w' ∧ w'.heap.size = w.heap.size + 1

set_option maxRecDepth 100000 in
theorem gnew_any (w : World) (n : Nat) (hn : n ≤ 40) : Calls Try.prog 53 #[.int .i64 n] w (GNewPost w n) := by
  have h1 : ¬ (40 < (n : Int)) := by omega
  go_enter Try.func53, Try.ntmps53
  go_wp2
  go_ret2
  exact ⟨rfl, ⟨none, 0, Row.new w #[.int .i64 n, .slice none 0 0] 92, rfl, (Sl.nil _ w 54 3).alloc _, fun _ h => by cases h⟩, (Keep.refl Nb w).alloc _, by simp⟩

def EdgesPost (w : World) (es : List E) (e : Ending) (w' : World) : Prop :=
  ∃ o c, e = .returned (.slice o es.length c) ∧ Sl (fun k => w.heap.size ≤ k) w' 54 3 o es.length c (ecs es) ∧ Keep Nb w w'

theorem run_append_zero {P : Program} (w : World) (t ty e : TypeId) {z : Value} {size bytes : Nat} (ht : P.underlying t = some (.slice e)) (hE : ElemT P e z size bytes) (a b : Addr) (c c2 : Nat) :
    (Builtin.append_ #[t, t] ty #[.slice (some a) 0 c, .slice (some b) 0 c2]).run P w = .ok (.slice (some a) 0 c) w := by
  obtain ⟨i, hi, hz, hs, hb⟩ := info_parts hE
  simp [Builtin.append_, run_underlying ht, sizeOf, typeInfo, hi, Builtin.lenOf, Builtin.firstCells, loadCells, loadCellsFrom, storeCells]

set_option maxRecDepth 100000 in
theorem clone_any (F : Nat → Prop) (w : World) (o : Option Addr) (c : Nat) (es : List E) (hS : Sl F w 54 3 o es.length c (ecs es)) (hn : es.length ≤ 1000) :
    Calls Try.prog 65 #[.slice o es.length c] w (EdgesPost w es) := by
  have q22 : ∀ (w : World) (a : Option Addr) (n c n' c' : Nat), (binOp .eql (51) (.slice a n c) (.slice none n' c')).run Try.prog w = .ok (.bool a.isNone) w := fun w a n c n' c' => Lib.run_eql_slice_nil w _ _ a n c n' c' und_edges
  rcases hS.cases with ⟨rfl, h0, rfl, _⟩ | ⟨g, rfl, _, hnc, hcm, hrow, _⟩
  · obtain rfl := List.eq_nil_of_length_eq_zero h0
    have HP : Hid (EdgesPost w [] (.returned (.slice none 0 0)) w) := Lib.hid ⟨none, 0, rfl, Sl.nil _ w _ 3, Keep.refl Nb w⟩
    clear hS
    simp only [List.length_nil]
    go_enter Try.func65, Try.ntmps65
    go_wp2
    go_ret
    exact HP.out
  · have hS0 : Sl (fun k => k = w.heap.size) (w.alloc (.cells #[] 54)) 54 3 (some ⟨w.heap.size, 0, none⟩) 0 0 [] :=
      ⟨⟨rfl, .inr ⟨w.heap.size, 0, _, rfl, Nat.zero_le _, heap_alloc_new w _, Nat.le_refl _, Nat.zero_le _, rfl, rfl⟩⟩, fun a ha => by simp at ha; rw [← ha]⟩
    by_cases h0 : es = []
    · subst h0
      have HP : Hid (EdgesPost w [] (.returned (.slice (some ⟨w.heap.size, 0, none⟩) 0 0)) (w.alloc (.cells #[] 54))) :=
        Lib.hid ⟨_, 0, rfl, hS0.mono (fun k hk => by omega), (Keep.refl Nb w).alloc _⟩
      have H0 := Lib.hid (fun (ty : TypeId) (W : World) => run_append_zero (P := Try.prog) W 51 ty 54 und_edges elem_edge ⟨w.heap.size, 0, none⟩ ⟨g, 0, none⟩ 0 c)
      clear hS hrow hS0 hcm
      simp only [List.length_nil]
      go_enter Try.func65, Try.ntmps65
      go_wp2_with ((at_builtin; refine wpList_app rfl _ _ _ rfl rfl rfl (H0.out _ _) ?_))
      go_ret
      exact HP.out
    · have hpos : 0 < es.length := List.length_pos_iff.2 h0
      obtain ⟨q, c', w', h1, h2, h3, h4⟩ := run_app (P := Try.prog) (w := w.alloc (.cells #[] 54)) 51 51 54 und_edges elem_edge (by rfl) (by omega) hS0 ⟨g, 0, none⟩ es.length c (ecs es) (ecs_length es)
        (fun j u hj => by
          rw [show (⟨g, 0, none⟩ : Addr).add j = ⟨g, j, none⟩ from by unfold Addr.add; split <;> simp_all]
          exact (hrow.alloc _).cell hj) (ecs_one es) (by simp only [maxLen]; omega) (by omega) hpos
      simp only [Nat.zero_add, List.nil_append] at h1 h2
      have HP : Hid (EdgesPost w es (.returned (.slice (some ⟨q, 0, none⟩) es.length c')) w') :=
        Lib.hid ⟨_, c', rfl, h2.mono (fun k hk => by rcases hk with h | h; omega; simp at h; omega), ⟨h3.os, h3.tape, h3.output, by have := h3.size; simp at this; omega, fun k hk _ => by
          rw [h3.block k (by simp; omega) (by rintro ⟨a, ha, hb⟩; cases ha; simp at hb; omega)]
          exact Below.heap_alloc w _ k hk⟩⟩
      have H1 := Lib.hid h1
      clear h1 h2 h3 h4 hS hrow hS0 hcm
      go_enter Try.func65, Try.ntmps65
      go_wp2_with ((at_builtin; refine wpList_app rfl _ _ _ rfl rfl rfl H1.out ?_))
      go_ret
      exact HP.out

set_option maxRecDepth 100000 in
theorem edges_any (F : Nat → Prop) (w : World) (b n : Nat) (es : List E) (hG : Gr F w b n es) (hn : es.length ≤ 1000) :
    Calls Try.prog 27 #[.pointer (some ⟨b, 0, none⟩)] w (EdgesPost w es) := by
  obtain ⟨o, c, hM⟩ := hG
  have c1 := hM.head.cell (i := 1) rfl
  have HM := Lib.hid hM
  clear hM
  go_enter Try.func27, Try.ntmps27
  go_wp2_with fail
  refine (clone_any F w o c es HM.out.s hn).mono ?_
  rintro e1 w1 ⟨q, c', rfl, h1, h2⟩
  have H1 := Lib.hid h1
  have H2 := Lib.hid h2
  clear h1 h2
  go_wp2_with fail
  go_ret
  exact ⟨q, c', rfl, H1.out, H2.out⟩

end Go.Proofs.Ytkpoobnldgfapaa
