/- graph: memory of a Graph; find, Nodes, Edge, Other, New. -/
import Derived.Test.YtkpoobnldgfapaaGraph2
namespace Go.Proofs.Ytkpoobnldgfapaa
open Go.RowKit Pl

structure GrMem (F : Nat → Prop) (w : World) (b n : Nat) (es : List E) (o : Option Addr) (c : Nat) : Prop where
  head : Row w b 92 [.int .i64 n, .slice o es.length c]
  hb : F b
  s : Sl F w 54 3 o es.length c (ecs es)
  d : ∀ a, o = some a → a.block ≠ b

namespace GrMem
variable {F : Nat → Prop} {w : World} {b n : Nat} {es : List E} {o : Option Addr} {c : Nat}
theorem keep {G : Nat → Prop} {w' : World} (h : GrMem F w b n es o c) (k : Keep G w w') (d : ∀ k, F k → ¬ G k) : GrMem F w' b n es o c := ⟨h.head.keep k (d b h.hb), h.hb, h.s.keep k d, h.d⟩
theorem drew (h : GrMem F w b n es o c) : GrMem F w.drew b n es o c := ⟨h.head.drew, h.hb, h.s.drew, h.d⟩
theorem alloc (h : GrMem F w b n es o c) (ob : Obj) : GrMem F (w.alloc ob) b n es o c := ⟨h.head.alloc ob, h.hb, h.s.alloc ob, h.d⟩
theorem mono {G : Nat → Prop} (h : GrMem F w b n es o c) (hG : ∀ k, F k → G k) : GrMem G w b n es o c := ⟨h.head, hG _ h.hb, h.s.mono hG, h.d⟩
theorem tight (h : GrMem F w b n es o c) : GrMem (fun k => F k ∧ k < w.heap.size) w b n es o c := ⟨h.head, ⟨h.hb, h.head.lt⟩, h.s.tight, h.d⟩
end GrMem

/-- A graph in memory. -/
def Gr (F : Nat → Prop) (w : World) (b n : Nat) (es : List E) : Prop := ∃ o c, GrMem F w b n es o c

theorem Gr.keep {F G : Nat → Prop} {w w' : World} {b n : Nat} {es : List E} (h : Gr F w b n es) (k : Keep G w w') (d : ∀ k, F k → ¬ G k) : Gr F w' b n es := by
  obtain ⟨o, c, h⟩ := h; exact ⟨o, c, h.keep k d⟩
theorem Gr.drew {F : Nat → Prop} {w : World} {b n : Nat} {es : List E} (h : Gr F w b n es) : Gr F w.drew b n es := by
  obtain ⟨o, c, h⟩ := h; exact ⟨o, c, h.drew⟩
theorem Gr.alloc {F : Nat → Prop} {w : World} {b n : Nat} {es : List E} (h : Gr F w b n es) (ob : Obj) : Gr F (w.alloc ob) b n es := by
  obtain ⟨o, c, h⟩ := h; exact ⟨o, c, h.alloc ob⟩
theorem Gr.mono {F G : Nat → Prop} {w : World} {b n : Nat} {es : List E} (h : Gr F w b n es) (hG : ∀ k, F k → G k) : Gr G w b n es := by
  obtain ⟨o, c, h⟩ := h; exact ⟨o, c, h.mono hG⟩

set_option maxRecDepth 100000 in
theorem find_any (F : Nat → Prop) (w : World) (b n : Nat) (es : List E) (t : Int) (hG : Gr F w b n es) (hs : Sorted es) (hn : es.length ≤ 1000) :
    Calls Try.prog 79 #[.pointer (some ⟨b, 0, none⟩), .int .i64 t] w (BPost w es t) := by
  obtain ⟨o, c, hM⟩ := hG
  have c1 := hM.head.cell (i := 1) rfl
  have HM := Lib.hid hM
  have HO := Lib.hid hs
  clear hM hs
  go_enter Try.func79, Try.ntmps79
  go_wp2_with fail
  refine (bsf_any F w o es.length c es t HM.out.s HO.out hn).mono ?_
  rintro e1 w1 ⟨rfl, hk⟩
  have HK := Lib.hid hk
  clear hk
  go_wp2_with fail
  go_ret2
  exact ⟨rfl, HK.out⟩

set_option maxRecDepth 100000 in
theorem nodes_any (F : Nat → Prop) (w : World) (b n : Nat) (es : List E) (hG : Gr F w b n es) :
    Calls Try.prog 24 #[.pointer (some ⟨b, 0, none⟩)] w fun e w' => e = .returned (.int .i64 n) ∧ w' = w := by
  obtain ⟨o, c, hM⟩ := hG
  have c0 := hM.head.cell (i := 0) rfl
  clear hM
  go_enter Try.func24, Try.ntmps24
  go_wp2
  go_ret
  exact ⟨rfl, rfl⟩

end Go.Proofs.Ytkpoobnldgfapaa
