/- strings.Builder: WriteString, String. -/
import Derived.Test.YtkpoobnldgfapabGreatDoorStrKit
import Derived.Test.YtkpoobnldgfapabGreatDoorA1
import Derived.Shelf.Strings.BuilderK
import Derived.Lib.OthersKept
set_option linter.unusedVariables false
set_option linter.unusedSimpArgs false
namespace Go.Proofs.YtkpoobnldgfapabGreatDoor
open Go.RowKit Go.Shelf Go.Sort

/-- The builder in block b (made at B), holding these bytes. -/
def Bld (w : World) (B b : Nat) (l : List UInt8) : Prop := Lib.IsBuilderF 159 5 B b (Lib.byteCells l) w

/-- What a builder's call may turn: its block, and rows of bytes. -/
def WG (w : World) (B b : Nat) (k : Nat) : Prop := B ≤ k ∧ (k = b ∨ ∃ c fz, w.heap[k]? = some (.cells c 5 fz))

theorem bld_own_keep {w w' : World} {B : Nat} {e : TypeId} {v : Value} {n : Nat} {xs : List Value} (h : w.ownsRowF B e 1 v n xs) (k : Keep Nb w w') : w'.ownsRowF B e 1 v n xs := by
  refine ⟨h.1, ?_⟩
  rcases h.2 with hn | ⟨g, cap, cur, fz, rfl, hb, hg, rest⟩
  · exact .inl hn
  · exact .inr ⟨g, cap, cur, fz, rfl, hb, (k.block g (Array.getElem?_eq_some_iff.1 hg).1 (fun e => e)).trans hg, rest⟩

theorem Bld.keepN {w w' : World} {B b : Nat} {l : List UInt8} (h : Bld w B b l) (k : Keep Nb w w') : Bld w' B b l := by
  have one : ∀ p, Lib.BuilderAtF 159 5 B b p (Lib.byteCells l) w → Lib.BuilderAtF 159 5 B b p (Lib.byteCells l) w' := fun p ⟨hB, v, hb, ho, hne⟩ =>
    ⟨hB, v, (k.block b (Array.getElem?_eq_some_iff.1 hb).1 (fun e => e)).trans hb, bld_own_keep ho k, hne⟩
  exact Or.elim h (fun x => .inl (one _ x)) (fun x => .inr (one _ x))

theorem Bld.lt {w : World} {B b : Nat} {l : List UInt8} (h : Bld w B b l) : b < w.heap.size := by
  rcases h with ⟨_, v, hb, _⟩ | ⟨_, v, hb, _⟩
  · exact (Array.getElem?_eq_some_iff.1 hb).1
  · exact (Array.getElem?_eq_some_iff.1 hb).1

theorem Bld.made (w : World) : Bld (w.alloc (.cells #[.pointer none, .slice none 0 0] 159)) w.heap.size w.heap.size [] :=
  Lib.IsBuilderF.of (Lib.fresh_isBuilder _ _ w)

theorem keep_others {w w' : World} {B b : Nat} (hb : Below B w w') (ho : Lib.OthersKept 5 (some b) w w') : Keep (WG w B b) w w' := by
  refine ⟨hb.os, hb.tape, hb.output, hb.size, fun k hk hn => ?_⟩
  by_cases hkB : k < B
  · exact hb.block k hkB
  · have hg := Array.getElem?_eq_getElem hk
    rw [hg]
    refine ho k _ hg (fun e => hn ⟨by omega, .inl (by simpa using e)⟩) (fun c fz e => hn ⟨by omega, .inr ⟨c, fz, by rw [hg, e]⟩⟩)

/-- A row of another type is no row of bytes. -/
theorem Row.notWG {w : World} {g : Nat} {T : TypeId} {l : List Value} (h : Row w g T l) (hT : T ≠ 5) {B b : Nat} (hb : g ≠ b) : ¬ WG w B b g := by
  rintro ⟨_, e | ⟨c, fz, e⟩⟩
  · exact hb e
  · obtain ⟨cs, hc, _⟩ := h
    rw [hc] at e
    cases e
    exact hT rfl

theorem wstr_any (w : World) (B b : Nat) (l : List UInt8) (s : ByteArray) (h : Bld w B b l) (hl : l.length + s.size ≤ 100000000) (hB : B ≤ w.heap.size) :
    Calls Tryz.prog 113 #[.pointer (some ⟨b, 0, none⟩), .string s] w fun e w' => e = .returned (.tuple #[.int .i64 s.size, .nilIface]) ∧ Bld w' B b (l ++ s.data.toList) ∧ Keep (WG w B b) w w' := by
  refine Calls.mono (Any.Builder_WriteString_k { Tryz.lays156 with } Tryz.Builder_Extra_156 B b (Lib.byteCells l) s w h (by simp [Lib.byteCells]; omega) hB) ?_
  rintro e w' ⟨rfl, h1, h2, h3⟩
  refine ⟨rfl, ?_, keep_others h2 h3⟩
  have e1 : Lib.byteCells l ++ Lib.strCells s = Lib.byteCells (l ++ s.data.toList) := by simp [Lib.byteCells, Lib.strCells]
  rw [e1] at h1
  exact .inr h1

theorem bstring_any (w : World) (B b : Nat) (l : List UInt8) (h : Bld w B b l) (hB : B ≤ w.heap.size) :
    Calls Tryz.prog 115 #[.pointer (some ⟨b, 0, none⟩)] w fun e w' => e = .returned (.string (bstr l)) ∧ Keep (WG w B b) w w' := by
  refine Calls.mono (Any.Builder_String_any_k Tryz.lays169 Tryz.Builder_Extra_169 B b l w h hB) ?_
  rintro e w' ⟨rfl, h1, h2, h3⟩
  exact ⟨rfl, keep_others h2 h3⟩

end Go.Proofs.YtkpoobnldgfapabGreatDoor
