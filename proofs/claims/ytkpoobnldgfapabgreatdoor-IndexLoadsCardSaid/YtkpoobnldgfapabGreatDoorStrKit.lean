/- The library's contracts that index and desk meet: strconv.Itoa, FormatInt, Atoi, ParseInt, strings.Split, Join, strings.Builder. -/
import Derived.Test.YtkpoobnldgfapabGreatDoorShelfS
import Derived.Test.YtkpoobnldgfapabGreatDoorA1
import Derived.Test.YtkpoobnldgfapabGreatDoorAsErr
import Derived.Lib.AppendIntMem
set_option linter.unusedVariables false
set_option linter.unusedSimpArgs false
namespace Go.Proofs.YtkpoobnldgfapabGreatDoor
open Go.RowKit Go.Shelf Go.Sort

/-- A string of these bytes. -/
abbrev bstr (l : List UInt8) : ByteArray := ⟨l.toArray⟩
theorem bstr_data (s : ByteArray) : bstr s.data.toList = s := rfl
theorem bstr_list (l : List UInt8) : (bstr l).data.toList = l := rfl
theorem bstr_size (l : List UInt8) : (bstr l).size = l.length := by show (l.toArray).size = l.length; simp

theorem keep_grow (w : World) (k : Nat) (os : Array Obj) : Keep Nb w (grow (w.drewN k) os) :=
  ⟨rfl, rfl, rfl, by show w.heap.size ≤ (w.heap ++ os).size; rw [Array.size_append]; omega, fun j hj _ => by
    show (w.heap ++ os)[j]? = _
    rw [Array.getElem?_append_left hj]⟩

/-- What the walks read of the library's variables. -/
structure LibW (w : World) : Prop where
  pow : Lib.TabIs Tryz.prog w "internal/strconv.uint64pow10" .u64 Lib.pow10Tab
  syn : ∃ tp p, w.var? Tryz.prog "strconv.ErrSyntax" = some #[.iface tp p]
  rng : ∃ tp p, w.var? Tryz.prog "strconv.ErrRange" = some #[.iface tp p]
  maxl : ∃ m : Int, w.cell? ⟨Tryz.lays146_ren.g 1, 0, none⟩ = some (.int .i64 m)
  err : ErrT w

theorem var_keep {w w' : World} {name : String} {v : Array Value} (h : w.var? Tryz.prog name = some v) (k : Keep Nb w w') : w'.var? Tryz.prog name = some v := by
  unfold World.var? at *
  cases hg : (Tryz.prog).globalNamed name with
  | none => simp [hg] at h
  | some g =>
    simp only [hg, Option.bind_some] at h ⊢
    have hlt : g < w.heap.size := by
      rcases Nat.lt_or_ge g w.heap.size with h' | h'
      · exact h'
      · rw [Array.getElem?_eq_none h'] at h; simp at h
    rw [k.block g hlt (fun e => e)]
    exact h

theorem LibW.keep {w w' : World} (h : LibW w) (k : Keep Nb w w') : LibW w' := by
  refine ⟨Lib.tabBelow_of_tabIs h.pow _ (k.to_below (fun _ _ e => e)), ?_, ?_, ?_, h.err.keep k (fun e => e)⟩
  · obtain ⟨tp, p, e⟩ := h.syn; exact ⟨tp, p, var_keep e k⟩
  · obtain ⟨tp, p, e⟩ := h.rng; exact ⟨tp, p, var_keep e k⟩
  · obtain ⟨m, e⟩ := h.maxl; exact ⟨m, k.cell e (fun e => e)⟩

theorem itoa_any (w : World) (hL : LibW w) (n : Int) (h0 : -9223372036854775808 ≤ n) (h1 : n ≤ 9223372036854775807) :
    Calls Tryz.prog 114 #[.int .i64 n] w fun e w' => e = .returned (.string (bstr (Lib.itoa n))) ∧ Keep Nb w w' := by
  refine Calls.mono (Any.strconv_Itoa Tryz.laysM171 n h0 h1 w hL.pow) ?_
  rintro e w' ⟨rfl, k, os, rfl⟩
  exact ⟨rfl, keep_grow w k os⟩

theorem formatInt_any (w : World) (hL : LibW w) (n : Int) (h0 : -9223372036854775808 ≤ n) (h1 : n ≤ 9223372036854775807) :
    Calls Tryz.prog 158 #[.int .i64 n, .int .i64 10] w fun e w' => e = .returned (.string (bstr (Lib.itoa n))) ∧ Keep Nb w w' := by
  refine Calls.mono (Any.strconv_FormatInt_10 Tryz.laysM173 n h0 h1 w hL.pow) ?_
  rintro e w' ⟨rfl, k, os, rfl⟩
  exact ⟨rfl, keep_grow w k os⟩

/-- strconv.Atoi: the number, or an error. -/
theorem atoi_any (w : World) (hL : LibW w) (s : ByteArray) (hs : s.size ≤ 281474976710656) :
    Calls Tryz.prog 112 #[.string s] w fun e w' => (∃ v, Lib.atoiAll s.data.toList = .ok v ∧ e = .returned (.tuple #[.int .i64 v, .nilIface]) ∨ (∀ v, Lib.atoiAll s.data.toList ≠ .ok v) ∧ ∃ t p, e = .returned (.tuple #[.int .i64 v, .iface t p])) ∧ Keep Nb w w' := by
  cases h : Lib.atoiAll s.data.toList with
  | ok v =>
    refine Calls.mono (Any.strconv_Atoi_ok Tryz.laysC172 s (by omega) v h w) ?_
    rintro e w' ⟨rfl, hw⟩
    refine ⟨⟨v, .inl ⟨rfl, rfl⟩⟩, ?_⟩
    rcases hw with rfl | ⟨t, rfl⟩
    · exact Keep.refl _ _
    · exact Keep.below (Lib.bytesWorld_below _ _ _)
  | «syntax» =>
    obtain ⟨tp, p, hv⟩ := hL.syn
    refine Calls.mono (Any.strconv_Atoi_syntax_var Tryz.laysC172 s hs h tp p w hv) ?_
    rintro e w' ⟨M, rfl, _, _, hb⟩
    exact ⟨⟨_, .inr ⟨fun v e => (by cases e), _, _, rfl⟩⟩, Keep.below hb⟩
  | range =>
    obtain ⟨tp, p, hv⟩ := hL.rng
    refine Calls.mono (Any.strconv_Atoi_range_var Tryz.laysC172 s hs h tp p w hv) ?_
    rintro e w' ⟨M, rfl, _, _, hb⟩
    exact ⟨⟨_, .inr ⟨fun v e => (by cases e), _, _, rfl⟩⟩, Keep.below hb⟩

theorem parseInt_any (w : World) (hL : LibW w) (s : ByteArray) (hs : s.size ≤ 281474976710656) :
    Calls Tryz.prog 157 #[.string s, .int .i64 10, .int .i64 64] w fun e w' => (∃ v, Lib.parseIntB 64 s.data.toList = .ok v ∧ e = .returned (.tuple #[.int .i64 v, .nilIface]) ∨ (∀ v, Lib.parseIntB 64 s.data.toList ≠ .ok v) ∧ ∃ t p, e = .returned (.tuple #[.int .i64 v, .iface t p])) ∧ Keep Nb w w' := by
  cases h : Lib.parseIntB 64 s.data.toList with
  | ok v =>
    refine Calls.mono (Any.strconv_ParseInt_10_at64_ok Tryz.laysC174 s (by omega) v h w) ?_
    rintro e w' ⟨rfl, hw⟩
    refine ⟨⟨v, .inl ⟨rfl, rfl⟩⟩, ?_⟩
    rcases hw with rfl | ⟨t, rfl⟩
    · exact Keep.refl _ _
    · exact Keep.below (Lib.bytesWorld_below _ _ _)
  | «syntax» =>
    obtain ⟨tp, p, hv⟩ := hL.syn
    refine Calls.mono (Any.strconv_ParseInt_10_at64_syntax_var Tryz.laysC174 s hs h tp p w hv) ?_
    rintro e w' ⟨M, rfl, _, _, hb⟩
    exact ⟨⟨_, .inr ⟨fun v e => (by cases e), _, _, rfl⟩⟩, Keep.below hb⟩
  | range =>
    obtain ⟨tp, p, hv⟩ := hL.rng
    refine Calls.mono (Any.strconv_ParseInt_10_at64_range_var Tryz.laysC174 s hs h tp p w hv) ?_
    rintro e w' ⟨M, rfl, _, _, hb⟩
    exact ⟨⟨_, .inr ⟨fun v e => (by cases e), _, _, rfl⟩⟩, Keep.below hb⟩

/-- Cells of strings. -/
def strs (l : List ByteArray) : List Value := l.map Value.string

/-- strings.Split: the pieces. -/
theorem split_any (w : World) (hL : LibW w) (s sep : ByteArray) (hs : s.size < 4294967281) (h1 : 1 ≤ sep.size) :
    Calls Tryz.prog 109 #[.string s, .string sep] w fun e w' => ∃ n c, e = .returned (.slice (some ⟨w.heap.size, 0, none⟩) n c) ∧ Sl (fun k => k = w.heap.size) w' 9 1 (some ⟨w.heap.size, 0, none⟩) n c (strs (Lib.splitB sep 0 (Lib.countB s sep) s)) ∧
      (Lib.splitB sep 0 (Lib.countB s sep) s).length = n ∧ Keep Nb w w' := by
  obtain ⟨m, hm⟩ := hL.maxl
  have hlen := Lib.splitB_all sep h1 0 _ s rfl
  refine Calls.mono (Any.strings_Split Tryz.lays146 (by kernel_rfl) s sep m w hs hm h1) ?_
  rintro e w' ⟨rfl, rfl⟩
  have hle := Lib.countB_le sep h1 s.size s (Nat.le_refl _)
  refine ⟨_, _, rfl, ?_, hlen, (Keep.refl Nb w).alloc _⟩
  refine ⟨⟨by simp [strs, hlen], .inr ⟨w.heap.size, _, _, rfl, Nat.zero_le _, heap_alloc_new w _, Nat.le_refl _, by simp only [maxLen]; omega, by simp [hlen], by
    rw [List.toList_toArray, List.take_of_length_le (by simp [hlen])]; rfl⟩⟩, fun a ha => by cases ha; rfl⟩

theorem sjoin_any (F : Nat → Prop) (w : World) (o : Option Addr) (n c : Nat) (xs : List ByteArray) (sep : ByteArray) (hS : Sl F w 9 1 o n c (strs xs)) (hN : n ≤ 1000000) (hl : (Lib.join (xs.map (·.data.toList)) sep.data.toList).length ≤ 140737488355328) :
    Calls Tryz.prog 179 #[.slice o n c, .string sep] w fun e w' => e = .returned (.string (bstr (Lib.join (xs.map (·.data.toList)) sep.data.toList))) ∧ Keep Nb w w' := by
  have hn : xs.length = n := by have := hS.len; simpa [strs] using this
  rcases Nat.eq_zero_or_pos n with h0 | h0
  · subst h0
    have hx : xs = [] := List.length_eq_zero_iff.1 hn
    subst hx
    refine Calls.mono (Any.strings_Join_none Tryz.lays156 Tryz.Builder_Extra_156 o c sep w) ?_
    rintro e w' ⟨rfl, rfl⟩
    exact ⟨rfl, Keep.refl _ _⟩
  · obtain ⟨g, rfl, _, hc, hrow⟩ := hS.pos h0
    subst hn
    refine Calls.mono (Any.strings_Join Tryz.lays156 Tryz.Builder_Extra_156 g 0 c xs sep w (fun j x hx => by
      rw [Nat.zero_add]
      exact hrow.cell (by simp [strs, hx])) hrow.lt (by omega) hc hl) ?_
    rintro e w' ⟨rfl, hb⟩
    exact ⟨rfl, Keep.below hb⟩

end Go.Proofs.YtkpoobnldgfapabGreatDoor
