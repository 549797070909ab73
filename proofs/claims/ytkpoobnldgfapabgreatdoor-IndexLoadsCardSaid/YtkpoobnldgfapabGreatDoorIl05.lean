/- Part 5 of the proof: PlPcs. -/
import Derived.Lib.Split
import Derived.Lib.IndexLaws
import Derived.Lib.IndexBytes
set_option linter.unusedVariables false
set_option linter.unusedSimpArgs false
namespace Go.Proofs.YtkpoobnldgfapabGreatDoor
def pcz (c : UInt8) : List UInt8 → List (List UInt8)
  | [] => [[]]
  | x :: l => if x = c then [] :: pcz c l else (x :: (pcz c l).headD []) :: (pcz c l).tail
theorem pcz_ne (c : UInt8) (l : List UInt8) : pcz c l ≠ [] := by
  cases l with
  | nil => simp [pcz]
  | cons x l => unfold pcz; split <;> simp
theorem pcz_free {c : UInt8} : ∀ {l : List UInt8}, (∀ k : Nat, l[k]? ≠ some c) → pcz c l = [l]
  | [], _ => rfl
  | x :: l, h => by
    have h0 : x ≠ c := fun e => h 0 (by simp [e])
    have ih : pcz c l = [l] := pcz_free (fun k => by have := h (k + 1); simpa using this)
    unfold pcz
    rw [if_neg h0, ih]
    rfl
theorem pcz_at {c : UInt8} : ∀ {l : List UInt8} {o : Nat}, l[o]? = some c → (∀ k : Nat, k < o → l[k]? ≠ some c) → pcz c l = l.take o :: pcz c (l.drop (o + 1))
  | [], o, h, _ => by simp at h
  | x :: l, 0, h, _ => by
    simp at h
    subst h
    simp [pcz]
  | x :: l, o + 1, h, hk => by
    have h0 : x ≠ c := fun e => hk 0 (by omega) (by simp [e])
    have ih := pcz_at (c := c) (l := l) (o := o) (by simpa using h) (fun k hk' => by have := hk (k + 1) (by omega); simpa using this)
    conv => lhs; unfold pcz
    rw [if_neg h0, ih]
    simp
theorem pcz_miss {c : UInt8} {l : List UInt8} (h : Lib.indexByte l c = -1) : pcz c l = [l] := pcz_free (Lib.indexByte_none h)
theorem pcz_hit {c : UInt8} {l : List UInt8} {o : Nat} (h : Lib.indexByte l c = o) : pcz c l = l.take o :: pcz c (l.drop (o + 1)) := by
  obtain ⟨h1, h2⟩ := Lib.indexByte_some h
  exact pcz_at h1 h2
theorem pcz_split (c : UInt8) : ∀ (n : Nat) (l : List UInt8), l.length ≤ n → Lib.splitK [c] 0 (Lib.count l [c]) l = pcz c l := by
  intro n
  induction n with
  | zero =>
    intro l hl
    obtain rfl : l = [] := List.length_eq_zero_iff.1 (by omega)
    have hm : Lib.index [] [c] = -1 := by rw [Lib.index_one]; rfl
    rw [Lib.count_miss hm]; rfl
  | succ n ih =>
    intro l hl
    have hge := Lib.indexByte_ge l c
    by_cases hm : Lib.indexByte l c = -1
    · rw [Lib.count_miss (by rw [Lib.index_one]; exact hm), pcz_miss hm]; rfl
    · obtain ⟨o, ho⟩ : ∃ o : Nat, Lib.indexByte l c = o := ⟨(Lib.indexByte l c).toNat, by omega⟩
      have hi : Lib.index l [c] = o := by rw [Lib.index_one]; exact ho
      obtain ⟨h1, _⟩ := Lib.indexByte_some ho
      have hlt := (List.getElem?_eq_some_iff.1 h1).1
      rw [Lib.count_hit (by simp) hi, pcz_hit ho, Nat.add_comm 1]
      unfold Lib.splitK
      rw [hi, if_neg (by simp)]
      simp only [Int.toNat_natCast, Nat.add_zero, List.length_singleton]
      rw [ih (l.drop (o + 1)) (by rw [List.length_drop]; omega)]
theorem pcz_app {c : UInt8} {a b : List UInt8} (h : ∀ k : Nat, a[k]? ≠ some c) : pcz c (a ++ c :: b) = a :: pcz c b := by
  have := pcz_at (c := c) (l := a ++ c :: b) (o := a.length) (by simp) (fun k hk => by rw [List.getElem?_append_left hk]; exact h k)
  simpa using this
theorem pcz_len (c : UInt8) : ∀ l : List UInt8, (pcz c l).length ≤ l.length + 1
  | [] => by simp [pcz]
  | x :: l => by
    have ih := pcz_len c l
    unfold pcz
    split
    · simp only [List.length_cons]; omega
    · simp only [List.length_cons, List.length_tail]; omega
theorem pcz_mem (c : UInt8) : ∀ (l x : List UInt8), x ∈ pcz c l → x.length ≤ l.length
  | [], x, h => by simp [pcz] at h; subst h; simp
  | y :: l, x, h => by
    have ih := pcz_mem c l
    unfold pcz at h
    split at h
    · rcases List.mem_cons.1 h with rfl | h
      · simp
      · have := ih x h; simp only [List.length_cons]; omega
    · rcases List.mem_cons.1 h with rfl | h
      · cases hp : pcz c l with
        | nil => simp
        | cons z zs => have := ih z (by rw [hp]; simp); simp only [List.headD_cons, List.length_cons]; omega
      · have := ih x (List.mem_of_mem_tail h); simp only [List.length_cons]; omega
end Go.Proofs.YtkpoobnldgfapabGreatDoor

