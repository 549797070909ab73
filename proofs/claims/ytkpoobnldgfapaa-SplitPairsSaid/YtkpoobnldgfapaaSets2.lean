/- sets: right. -/
import Derived.Test.YtkpoobnldgfapaaSets1
namespace Go.Proofs.Ytkpoobnldgfapaa
open Go.RowKit Pl

/-- Is the number none of the members? -/
def outB (n : Nat) (x : Int) : Bool := decide (x < 0) || decide ((n : Int) ≤ x)

theorem outB_true {n : Nat} {x : Int} : outB n x = true ↔ x < 0 ∨ (n : Int) ≤ x := by simp [outB]
theorem outB_false {n : Nat} {x : Int} : outB n x = false ↔ 0 ≤ x ∧ x < n := by
  have := @outB_true n x
  cases h : outB n x
  · simp only [h] at this; constructor
    · intro _; constructor <;> (false_or_by_contra; exact absurd (this.2 (by omega)) (by decide))
    · intro _; rfl
  · simp only [h] at this; constructor
    · intro e; cases e
    · intro h2; have := this.1 trivial; omega

theorem right1_any (w : World) (B b n cu : Nat) (ou : Option Addr) (x : Int) (hn : n ≤ 40) (hB : w.cell? ⟨B, 0, none⟩ = some (.pointer (some ⟨b, 0, none⟩))) (hc : w.cell? ⟨b, 0, none⟩ = some (.slice ou n cu)) :
    Calls Try.prog 81 #[.int .i64 x, .pointer (some ⟨B, 0, none⟩)] w fun e w' => e = .returned (.bool (outB n x)) ∧ w = w' := by
  by_cases h : x < 0
  · have e : outB n x = true := outB_true.2 (.inl h)
    have he := Lib.hid e
    clear e
    go_enter Try.func81, Try.ntmps81
    go_wp2
    go_ret
    exact ⟨by rw [he.out]; rfl, rfl⟩
  · by_cases h2 : (n : Int) ≤ x
    · have e : outB n x = true := outB_true.2 (.inr h2)
      have he := Lib.hid e
      clear e
      go_enter Try.func81, Try.ntmps81
      go_wp2
      go_ret
      exact ⟨by rw [he.out]; rfl, rfl⟩
    · have e : outB n x = false := outB_false.2 (by omega)
      have he := Lib.hid e
      clear e
      go_enter Try.func81, Try.ntmps81
      go_wp2
      go_ret
      exact ⟨by rw [he.out]; rfl, rfl⟩

/-- Where the first one stands that is no member; -1: there is none. -/
def firstOut (n : Nat) (l : List Int) : Int := match l.findIdx? (outB n) with | some k => k | none => -1

theorem firstOut_some {n : Nat} {l : List Int} {k : Nat} (h : l.findIdx? (outB n) = some k) : firstOut n l = k := by simp [firstOut, h]
theorem firstOut_none {n : Nat} {l : List Int} (h : l.findIdx? (outB n) = none) : firstOut n l = -1 := by simp [firstOut, h]

theorem indexFunc_right (w : World) (B b n cu : Nat) (ou : Option Addr) (g : Nat) (l : List Int) (c : Nat) (hl : l.length ≤ 2) (hn : n ≤ 40) (hB : w.cell? ⟨B, 0, none⟩ = some (.pointer (some ⟨b, 0, none⟩))) (hc : w.cell? ⟨b, 0, none⟩ = some (.slice ou n cu))
    (hx : ∀ i x, l[i]? = some x → w.cell? ⟨g, i, none⟩ = some (.int .i64 x)) :
    Calls Try.prog 95 #[.slice (some ⟨g, 0, none⟩) l.length c, .func (.func 81) #[] #[.pointer (some ⟨B, 0, none⟩)]] w
      fun e w' => e = .returned (.int .i64 (firstOut n l)) ∧ w = w' := by
  go_enter Try.func95, Try.ntmps95
  go_wp2
  go_loop [8] (fun i => ∃ k : Nat, k ≤ l.length ∧ i = .int .i64 k ∧ ∀ j x, j < k → l[j]? = some x → outB n x = false) (fun i => l.length - (intOf i).toNat)
  case atStart => exact ⟨0, Nat.zero_le _, rfl, fun _ _ h => by omega⟩
  case round =>
    obtain ⟨k, hk, rfl, hall⟩ := hrel
    have Hall := Lib.hid hall
    clear hall
    by_cases hlt : k < l.length
    · have hcx := hx k l[k] (by simp [hlt])
      have HX := Lib.hid hx
      clear hx
      cases ho : outB n l[k]
      · go_wp2_with (go_at_call 81; refine (right1_any _ B b n cu ou _ hn hB hc).mono ?_; rintro e w' ⟨rfl, rfl⟩)
        go_round
        case rel =>
          refine ⟨k + 1, by omega, by go_num, fun j x hj hx => ?_⟩
          by_cases e : j = k
          · subst e; simp [hlt] at hx; rw [← hx]; exact ho
          · exact Hall.out j x (by omega) hx
        case measure => simp [intOf]; omega
      · have hf : l.findIdx? (outB n) = some k := by
          rw [List.findIdx?_eq_some_iff_getElem]
          refine ⟨hlt, ho, fun j hj => ?_⟩
          rw [Hall.out j l[j] hj (by simp)]; decide
        have hff := Lib.hid (firstOut_some hf)
        clear hf
        go_wp2_with (go_at_call 81; refine (right1_any _ B b n cu ou _ hn hB hc).mono ?_; rintro e w' ⟨rfl, rfl⟩)
        go_ret
        exact ⟨by rw [hff.out]; rfl, rfl⟩
    · have hf : l.findIdx? (outB n) = none := by
        rw [List.findIdx?_eq_none_iff]
        intro x hx
        obtain ⟨j, hj⟩ := List.mem_iff_getElem?.1 hx
        have := (List.getElem?_eq_some_iff.1 hj).1
        exact Hall.out j x (by omega) hj
      have hff := Lib.hid (firstOut_none hf)
      clear hf
      go_wp2
      go_ret
      exact ⟨by rw [hff.out]; rfl, rfl⟩

theorem firstOut_neg {n : Nat} {l : List Int} (h : ∀ x ∈ l, outB n x = false) : firstOut n l = -1 := firstOut_none (List.findIdx?_eq_none_iff.2 h)
theorem firstOut_pos {n : Nat} {l : List Int} {x : Int} (hx : x ∈ l) (h : outB n x = true) : ∃ k : Nat, firstOut n l = k := by
  cases e : l.findIdx? (outB n) with
  | some k => exact ⟨k, firstOut_some e⟩
  | none => rw [List.findIdx?_eq_none_iff] at e; rw [e x hx] at h; cases h

/-- right: there are such members: true. -/
theorem right_yes (w : World) (b n cu : Nat) (ou : Option Addr) (g : Nat) (l : List Int) (m c : Nat) (hm : l.length = m) (hl : m ≤ 2) (hn : n ≤ 40) (hc : w.cell? ⟨b, 0, none⟩ = some (.slice ou n cu))
    (hx : ∀ i x, l[i]? = some x → w.cell? ⟨g, i, none⟩ = some (.int .i64 x)) (hin : ∀ x ∈ l, outB n x = false) :
    Calls Try.prog 51 #[.pointer (some ⟨b, 0, none⟩), .slice (some ⟨g, 0, none⟩) m c] w fun e w' => e = .returned (.bool true) ∧ Keep Nb w w' := by
  have hmf : ∀ (fn : Fn) (first cap : Array Value) (w : World), (Instr.makeFunc fn first cap).run Try.prog w = .ok (.func fn first cap) w := fun _ _ _ _ => rfl
  subst hm
  have hf := Lib.hid (firstOut_neg hin)
  have hb := World.block_lt_of_cell? w _ hc
  have hB : (w.alloc (.cells #[.pointer (some ⟨b, 0, none⟩)] 25)).cell? ⟨w.heap.size, 0, none⟩ = some (.pointer (some ⟨b, 0, none⟩)) := by
    rw [World.cell?_alloc_at _ _ _ _ rfl]; rfl
  have hc' : (w.alloc (.cells #[.pointer (some ⟨b, 0, none⟩)] 25)).cell? ⟨b, 0, none⟩ = some (.slice ou n cu) := by
    rw [World.cell?_alloc_past _ _ _ hb]; exact hc
  have hx' : ∀ i x, l[i]? = some x → (w.alloc (.cells #[.pointer (some ⟨b, 0, none⟩)] 25)).cell? ⟨g, i, none⟩ = some (.int .i64 x) := fun i x hi => by
    have h := hx i x hi
    rw [World.cell?_alloc_past _ _ _ (World.block_lt_of_cell? w _ h)]; exact h
  clear hx hin
  have HX := Lib.hid hx'
  clear hx'
  go_enter Try.func51, Try.ntmps51
  go_wp2_with (first | (go_at_call 95; refine (indexFunc_right _ w.heap.size b n cu ou g l c hl hn hB hc' HX.out).mono ?_; rintro e w' ⟨rfl, rfl⟩; rw [hf.out]) | go_in)
  go_ret
  exact ⟨rfl, (Keep.refl Nb w).alloc _⟩

/-- right: there is one that is none of them: false. -/
theorem right_no (w : World) (b n cu : Nat) (ou : Option Addr) (g : Nat) (l : List Int) (m c : Nat) (hm : l.length = m) (hl : m ≤ 2) (hn : n ≤ 40) (hc : w.cell? ⟨b, 0, none⟩ = some (.slice ou n cu))
    (hx : ∀ i x, l[i]? = some x → w.cell? ⟨g, i, none⟩ = some (.int .i64 x)) (x : Int) (hxl : x ∈ l) (hout : outB n x = true) :
    Calls Try.prog 51 #[.pointer (some ⟨b, 0, none⟩), .slice (some ⟨g, 0, none⟩) m c] w fun e w' => e = .returned (.bool false) ∧ Keep Nb w w' := by
  have hmf : ∀ (fn : Fn) (first cap : Array Value) (w : World), (Instr.makeFunc fn first cap).run Try.prog w = .ok (.func fn first cap) w := fun _ _ _ _ => rfl
  subst hm
  obtain ⟨k, hk⟩ := firstOut_pos hxl hout
  have hf := Lib.hid hk
  have hb := World.block_lt_of_cell? w _ hc
  have hB : (w.alloc (.cells #[.pointer (some ⟨b, 0, none⟩)] 25)).cell? ⟨w.heap.size, 0, none⟩ = some (.pointer (some ⟨b, 0, none⟩)) := by
    rw [World.cell?_alloc_at _ _ _ _ rfl]; rfl
  have hc' : (w.alloc (.cells #[.pointer (some ⟨b, 0, none⟩)] 25)).cell? ⟨b, 0, none⟩ = some (.slice ou n cu) := by
    rw [World.cell?_alloc_past _ _ _ hb]; exact hc
  have hx' : ∀ i x, l[i]? = some x → (w.alloc (.cells #[.pointer (some ⟨b, 0, none⟩)] 25)).cell? ⟨g, i, none⟩ = some (.int .i64 x) := fun i x hi => by
    have h := hx i x hi
    rw [World.cell?_alloc_past _ _ _ (World.block_lt_of_cell? w _ h)]; exact h
  clear hx hk hout hxl
  have HX := Lib.hid hx'
  clear hx'
  go_enter Try.func51, Try.ntmps51
  go_wp2_with (first | (go_at_call 95; refine (indexFunc_right _ w.heap.size b n cu ou g l c hl hn hB hc' HX.out).mono ?_; rintro e w' ⟨rfl, rfl⟩; rw [hf.out]) | go_in)
  go_ret
  exact ⟨rfl, (Keep.refl Nb w).alloc _⟩

end Go.Proofs.Ytkpoobnldgfapaa
