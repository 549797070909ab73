/- Part 39 of the proof: PlNumT PlLoad. -/
import Derived.Test.YtkpoobnldgfapabGreatDoorIb03
import Derived.Test.YtkpoobnldgfapabGreatDoorIb16
import Derived.Test.YtkpoobnldgfapabGreatDoorIb18
import Derived.Test.YtkpoobnldgfapabGreatDoorIb35
import Derived.Test.YtkpoobnldgfapabGreatDoorIb37
import Derived.Test.YtkpoobnldgfapabGreatDoorIb38
import Derived.Lib.ItoaMem
import Derived.Lib.ItoaLen
import Derived.Lib.AtoiAllCases
import Derived.Lib.ParseIntB
set_option linter.unusedVariables false
set_option linter.unusedSimpArgs false
namespace Go.Proofs.YtkpoobnldgfapabGreatDoor
open Go
theorem dig_toNat {x : Nat} (h : x < 10) : (UInt8.ofNat (48 + x)).toNat = 48 + x := by
  rw [UInt8.toNat_ofNat']; omega
theorem dec_dig (u : Nat) : ∀ c ∈ Lib.decDigits u, 48 ≤ c.toNat ∧ c.toNat ≤ 57 := by
  induction u using Nat.strongRecOn with
  | _ u ih =>
    intro c hc
    rw [Lib.decDigits] at hc
    split at hc
    · rename_i h
      simp only [List.mem_singleton] at hc
      subst hc
      rw [dig_toNat h]; omega
    · rename_i h
      rcases List.mem_append.1 hc with hc | hc
      · exact ih _ (by omega) c hc
      · simp only [List.mem_singleton] at hc
        subst hc
        rw [dig_toNat (by omega)]; omega
theorem dec_ne (u : Nat) : Lib.decDigits u ≠ [] := by
  rw [Lib.decDigits]
  split <;> simp
theorem itoa_nat (u : Nat) : Lib.itoa (u : Int) = Lib.decDigits u := Lib.itoa_nonneg u
theorem itoa_free (u : Nat) {c : UInt8} (hc : c.toNat < 48) (k : Nat) : (Lib.itoa (u : Int))[k]? ≠ some c := by
  intro h
  rw [itoa_nat] at h
  have := dec_dig u c (List.mem_of_getElem? h)
  omega
theorem pu_app {acc : Nat} {l : List UInt8} {u x : Nat} (h : Lib.parseUint10 acc l = .ok u) (hx : x < 10) (hu : u * 10 + x < 18446744073709551616) : Lib.parseUint10 acc (l ++ [UInt8.ofNat (48 + x)]) = .ok (u * 10 + x) := by
  induction l generalizing acc with
  | nil =>
    simp only [Lib.parseUint10] at h
    cases h
    rw [List.nil_append]
    unfold Lib.parseUint10
    rw [dig_toNat hx, if_pos (by omega), if_neg (by omega), if_neg (by omega)]
    unfold Lib.parseUint10
    congr 1; omega
  | cons c r ih =>
    rw [List.cons_append]
    unfold Lib.parseUint10 at h ⊢
    split at h
    · rename_i h1
      rw [if_pos h1]
      split at h
      · cases h
      · rename_i h2
        rw [if_neg h2]
        split at h
        · cases h
        · rename_i h3
          rw [if_neg h3]
          exact ih h
    · cases h
theorem pu_dec (u : Nat) (hu : u < 18446744073709551616) : Lib.parseUint10 0 (Lib.decDigits u) = .ok u := by
  induction u using Nat.strongRecOn with
  | _ u ih =>
    rw [Lib.decDigits]
    split
    · rename_i h
      have := pu_app (acc := 0) (l := []) (u := 0) (x := u) rfl h (by omega)
      simpa using this
    · rename_i h
      have := pu_app (ih (u / 10) (by omega) (by omega)) (x := u % 10) (by omega) (by omega)
      rw [this]
      congr 1; omega
theorem atoi_itoa (u : Nat) (hu : u < 9223372036854775808) : Lib.atoiAll (Lib.itoa (u : Int)) = .ok (u : Int) := by
  rw [itoa_nat]
  have h1 := dec_ne u
  have h2 := dec_dig u
  have h3 := pu_dec u (by omega)
  cases hd : Lib.decDigits u with
  | nil => exact absurd hd h1
  | cons c r =>
    rw [hd] at h2 h3
    have hc := h2 c List.mem_cons_self
    rw [Lib.atoiAll_plain c r (by omega) (by omega)]
    unfold Lib.parseMag
    rw [if_neg (by simp), h3]
    simp only [Lib.signless]
    rw [if_neg (by omega)]
end Go.Proofs.YtkpoobnldgfapabGreatDoor

namespace Go.Proofs.YtkpoobnldgfapabGreatDoor
open Go Pl Go.RowKit
theorem splitB_pcz (s : List UInt8) (c : UInt8) : Lib.splitB ⟨#[c]⟩ 0 (Lib.countB (bstr s) ⟨#[c]⟩) (bstr s) = (pcz c s).map bstr := by
  have h := Lib.splitB_data ⟨#[c]⟩ 0 (Lib.countB (bstr s) ⟨#[c]⟩) (bstr s)
  have h2 : Lib.countB (bstr s) ⟨#[c]⟩ = Lib.count s [c] := by simp [Lib.countB]
  rw [h2] at h ⊢
  have h3 := pcz_split c s.length s (Nat.le_refl _)
  have h4 : (⟨#[c]⟩ : ByteArray).data.toList = [c] := rfl
  rw [h4, bstr_list, h3] at h
  rw [← h, List.map_map]
  have h5 : (fun x : ByteArray => x) = bstr ∘ (fun x : ByteArray => x.data.toList) := by funext x; rfl
  rw [← h5, List.map_id']
def numsT : List (List UInt8) → List Int
  | [] => []
  | x :: xs => match Lib.atoiAll x with
    | .ok v => v :: numsT xs
    | _ => []
def lineN (l : List UInt8) : List Int := numsT (pcz 32 l)
def ldGo (n : Nat) : List E → List (List UInt8) → Option (Nat × List E)
  | es, [] => some (n, es)
  | es, l :: r => match lineN l with
    | [i, a, b] => if addErr n es i a b = 0 then ldGo n (addEs n es i a b) r else none
    | _ => if l = [] then ldGo n es r else none
def ldI : List (List UInt8) → Option (Nat × List E)
  | [] => none
  | l :: r => match lineN l with
    | [v] => if 0 ≤ v ∧ v ≤ 40 then ldGo v.toNat [] r else none
    | _ => none
theorem ldI_one {l : List UInt8} {r : List (List UInt8)} {v : Int} (h : lineN l = [v]) : ldI (l :: r) = if 0 ≤ v ∧ v ≤ 40 then ldGo v.toNat [] r else none := by
  simp only [ldI, h]
theorem ldI_else {l : List UInt8} {r : List (List UInt8)} (h : (lineN l).length ≠ 1) : ldI (l :: r) = none := by
  unfold ldI
  dsimp only
  split
  · rename_i h2; rw [h2] at h; exact absurd rfl h
  · rfl
theorem ldGo_add {n : Nat} {es : List E} {l : List UInt8} {r : List (List UInt8)} {i a b : Int} (h : lineN l = [i, a, b]) : ldGo n es (l :: r) = if addErr n es i a b = 0 then ldGo n (addEs n es i a b) r else none := by
  simp only [ldGo, h]
theorem ldGo_else {n : Nat} {es : List E} {l : List UInt8} {r : List (List UInt8)} (h : (lineN l).length ≠ 3) : ldGo n es (l :: r) = if l = [] then ldGo n es r else none := by
  conv => lhs; unfold ldGo
  split
  · rename_i h2; rw [h2] at h; exact absurd rfl h
  · rfl
structure LOk (n : Nat) (es : List E) : Prop where
  ord : ∀ e, e ∈ es → e.a < e.b ∧ e.b < n ∧ e.id ≤ 1099511627776
  le : es.length ≤ 120
theorem LOk.nil (n : Nat) : LOk n [] := ⟨fun _ h => (by cases h), by simp⟩
theorem mkE_ord {n : Nat} {id a b : Int} (h : ¬ addBad n id a b) (hab : a ≠ b) : (mkE id a b).a < (mkE id a b).b ∧ (mkE id a b).b < n ∧ (mkE id a b).id ≤ 1099511627776 := by
  unfold addBad at h
  unfold mkE
  simp only
  omega
theorem LOk.add {n : Nat} {es : List E} (h : LOk n es) (id a b : Int) : LOk n (addEs n es id a b) := by
  unfold addEs
  by_cases hb : addBad n id a b ∨ a = b ∨ hasId es id = true ∨ 120 ≤ es.length
  · rw [if_pos hb]; exact h
  · rw [if_neg hb]
    refine ⟨fun e he => ?_, by have := h.le; simp only [ins, List.length_append, List.length_take, List.length_cons, List.length_drop]; omega⟩
    unfold ins at he
    rcases List.mem_append.1 he with he | he
    · exact h.ord e (List.mem_of_mem_take he)
    · rcases List.mem_cons.1 he with rfl | he
      · exact mkE_ord (fun h => hb (.inl h)) (fun h => hb (.inr (.inl h)))
      · exact h.ord e (List.mem_of_mem_drop he)
theorem add_next {n : Nat} {pre post : List E} {e : E} (hs : Sorted (pre ++ e :: post)) (ho : LOk n (pre ++ e :: post)) :
    addErr n pre e.id e.a e.b = 0 ∧ addEs n pre e.id e.a e.b = pre ++ [e] ∧ raddEs n pre e.id e.a e.b = pre ++ [e] := by
  obtain ⟨h1, h2, h3⟩ := ho.ord e (by simp)
  have hb : ¬ addBad n e.id e.a e.b := by unfold addBad; omega
  have hab : ¬ (e.a : Int) = e.b := by omega
  have hlen : ¬ 120 ≤ pre.length := by have := ho.le; simp at this; omega
  have hlt : ∀ f, f ∈ pre → f.id < e.id := fun f hf => (List.pairwise_append.1 hs).2.2 f hf e (by simp)
  have hid : hasId pre e.id = false := by
    simp only [hasId, List.any_eq_false, decide_eq_true_eq]
    intro f hf
    have := hlt f hf
    omega
  have hpos : posOf pre e.id = pre.length := posOf_eq (Nat.le_refl _) (fun k f hk hf => by have := hlt f (List.mem_of_getElem? hf); omega) (fun k f hk hf => by have := (List.getElem?_eq_some_iff.1 hf).1; omega)
  have hmk : mkE e.id e.a e.b = e := by
    cases e
    unfold mkE
    simp only at *
    rw [E.mk.injEq]
    omega
  have hno : ¬ (addBad n e.id e.a e.b ∨ (e.a : Int) = e.b ∨ hasId pre e.id = true ∨ 120 ≤ pre.length) := by
    rintro (h | h | h | h)
    · exact hb h
    · exact hab h
    · rw [hid] at h; cases h
    · exact hlen h
  refine ⟨?_, ?_, ?_⟩
  · unfold addErr
    rw [if_neg hb, if_neg hab, hid, if_neg (by simp), if_neg hlen]
  · unfold addEs
    rw [if_neg hno, hpos, hmk]
    simp [ins]
  · unfold raddEs
    rw [if_neg hno, hmk]
def lineB (e : E) : List UInt8 := Lib.itoa (e.id : Int) ++ 32 :: (Lib.itoa (e.a : Int) ++ 32 :: Lib.itoa (e.b : Int))
theorem lineT_B (e : E) (l : List UInt8) : lineT e ++ l = lineB e ++ 10 :: l := by simp [lineT, lineB]
theorem free_app {c : UInt8} {a b : List UInt8} {x : UInt8} (h1 : ∀ k : Nat, a[k]? ≠ some c) (hx : x ≠ c) (h2 : ∀ k : Nat, b[k]? ≠ some c) : ∀ k : Nat, (a ++ x :: b)[k]? ≠ some c := by
  intro k h
  have := List.mem_of_getElem? h
  rcases List.mem_append.1 this with h | h
  · obtain ⟨j, hj⟩ := List.mem_iff_getElem?.1 h; exact h1 j hj
  · rcases List.mem_cons.1 h with h | h
    · exact hx h.symm
    · obtain ⟨j, hj⟩ := List.mem_iff_getElem?.1 h; exact h2 j hj
theorem lineB_free (e : E) : ∀ k : Nat, (lineB e)[k]? ≠ some 10 :=
  free_app (fun k => itoa_free _ (by decide) k) (by decide) (free_app (fun k => itoa_free _ (by decide) k) (by decide) (fun k => itoa_free _ (by decide) k))
theorem lineB_pcz (e : E) : pcz 32 (lineB e) = [Lib.itoa (e.id : Int), Lib.itoa (e.a : Int), Lib.itoa (e.b : Int)] := by
  unfold lineB
  rw [pcz_app (fun k => itoa_free _ (by decide) k), pcz_app (fun k => itoa_free _ (by decide) k), pcz_free (fun k => itoa_free _ (by decide) k)]
theorem itoa_pcz (x : Nat) : pcz 32 (Lib.itoa (x : Int)) = [Lib.itoa (x : Int)] := pcz_free (fun k => itoa_free _ (by decide) k)
theorem lines_pcz : ∀ es : List E, pcz 10 (es.map lineT).flatten = es.map lineB ++ [[]]
  | [] => rfl
  | e :: es => by
    rw [List.map_cons, List.flatten_cons, lineT_B, pcz_app (lineB_free e), lines_pcz es]
    rfl
theorem saved_pcz (n : Nat) (es : List E) : pcz 10 (savedT n es) = Lib.itoa (n : Int) :: (es.map lineB ++ [[]]) := by
  unfold savedT
  rw [List.append_assoc, List.singleton_append, pcz_app (fun k => itoa_free _ (by decide) k), lines_pcz]
theorem lineN_B {e : E} (h1 : e.id < 9223372036854775808) (h2 : e.a < 9223372036854775808) (h3 : e.b < 9223372036854775808) : lineN (lineB e) = [(e.id : Int), e.a, e.b] := by
  unfold lineN
  rw [lineB_pcz]
  simp only [numsT, atoi_itoa _ h1, atoi_itoa _ h2, atoi_itoa _ h3]
theorem lineN_nil : lineN [] = [] := rfl
theorem ldGo_saved {n : Nat} (hn : n ≤ 40) : ∀ {post pre : List E}, Sorted (pre ++ post) → LOk n (pre ++ post) → ldGo n pre (post.map lineB ++ [[]]) = some (n, pre ++ post)
  | [], pre, _, _ => by
    simp only [List.map_nil, List.nil_append, List.append_nil]
    rw [ldGo_else (by rw [lineN_nil]; simp), if_pos rfl]
    rfl
  | e :: post, pre, hs, ho => by
    obtain ⟨h1, h2, h3⟩ := ho.ord e (by simp)
    obtain ⟨a1, a2, _⟩ := add_next hs ho
    rw [List.map_cons, List.cons_append, ldGo_add (lineN_B (by omega) (by omega) (by omega)), if_pos a1, a2, ldGo_saved hn (by simpa using hs) (by simpa using ho)]
    simp
theorem ldI_saved {n : Nat} {es : List E} (hn : n ≤ 40) (hs : Sorted es) (ho : LOk n es) : ldI (pcz 10 (savedT n es)) = some (n, es) := by
  rw [saved_pcz, ldI_one (v := (n : Int)) (by unfold lineN; rw [itoa_pcz]; simp only [numsT, atoi_itoa n (by omega)]), if_pos (by omega)]
  have := ldGo_saved hn (pre := []) (post := es) hs ho
  simpa using this
theorem add_first {n : Nat} {post : List E} {e : E} (hs : Sorted (e :: post)) (ho : LOk n (e :: post)) :
    addErr n post e.id e.b e.a = 0 ∧ addEs n post e.id e.b e.a = e :: post := by
  obtain ⟨h1, h2, h3⟩ := ho.ord e (by simp)
  have hb : ¬ addBad n e.id e.b e.a := by unfold addBad; omega
  have hab : ¬ (e.b : Int) = e.a := by omega
  have hlen : ¬ 120 ≤ post.length := by have := ho.le; simp at this; omega
  have hlt : ∀ f, f ∈ post → e.id < f.id := fun f hf => (List.pairwise_cons.1 hs).1 f hf
  have hid : hasId post e.id = false := by
    simp only [hasId, List.any_eq_false, decide_eq_true_eq]
    intro f hf
    have := hlt f hf
    omega
  have hpos : posOf post e.id = 0 := posOf_eq (Nat.zero_le _) (fun k f hk hf => by omega) (fun k f hk hf => by have := hlt f (List.mem_of_getElem? hf); omega)
  have hmk : mkE e.id e.b e.a = e := by
    cases e
    unfold mkE
    simp only at *
    rw [E.mk.injEq]
    omega
  have hno : ¬ (addBad n e.id e.b e.a ∨ (e.b : Int) = e.a ∨ hasId post e.id = true ∨ 120 ≤ post.length) := by
    rintro (h | h | h | h)
    · exact hb h
    · exact hab h
    · rw [hid] at h; cases h
    · exact hlen h
  refine ⟨?_, ?_⟩
  · unfold addErr
    rw [if_neg hb, if_neg hab, hid, if_neg (by simp), if_neg hlen]
  · unfold addEs
    rw [if_neg hno, hpos, hmk]
    simp [ins]
theorem LOk.sub {n : Nat} {es fs : List E} (h : LOk n es) (hs : fs.Sublist es) : LOk n fs := ⟨fun e he => h.ord e (hs.subset he), Nat.le_trans hs.length_le h.le⟩
end Go.Proofs.YtkpoobnldgfapabGreatDoor

