/- Part 26 of the proof: PlLoad. -/
import Derived.Test.YtkpoobnldgfapabGreatDoorIl05
import Derived.Test.YtkpoobnldgfapabGreatDoorIl19
import Derived.Test.YtkpoobnldgfapabGreatDoorIl23
import Derived.Test.YtkpoobnldgfapabGreatDoorIl24
import Derived.Test.YtkpoobnldgfapabGreatDoorIl25
set_option linter.unusedVariables false
set_option linter.unusedSimpArgs false
namespace Go.Proofs.YtkpoobnldgfapabGreatDoor
open Go Pl Go.RowKit
theorem splitB_pcz (s : List UInt8) (c : UInt8) : Lib.splitB ⟨#[c]⟩ 0 (Lib.countB (bstr s) ⟨#[c]⟩) (bstr s) = (pcz c s).map bstr := by
  have h := Lib.splitB_data ⟨#[c]⟩ 0 (Lib.countB (bstr s) ⟨#[c]⟩) (bstr s)
  have h2 : Lib.countB (bstr s) ⟨#[c]⟩ = Lib.count s [c] := by simp [Lib.countB]
  rw [h2] at h ⊢
  have h3 := pcz_split c s.length s (Nat.le_refl _)
  have h4 : (⟨#[c]⟩ : ByteArray).data.toList = [c] := rfl
  rw [h4, bstr_list, h3] at h
  rw [← h, List.map_map]
  have h5 : (fun x : ByteArray => x) = bstr ∘ (fun x : ByteArray => x.data.toList) := by funext x; rfl
  rw [← h5, List.map_id']
def numsT : List (List UInt8) → List Int
  | [] => []
  | x :: xs => match Lib.atoiAll x with
    | .ok v => v :: numsT xs
    | _ => []
def lineN (l : List UInt8) : List Int := numsT (pcz 32 l)
def ldGo (n : Nat) : List E → List (List UInt8) → Option (Nat × List E)
  | es, [] => some (n, es)
  | es, l :: r => match lineN l with
    | [i, a, b] => if addErr n es i a b = 0 then ldGo n (addEs n es i a b) r else none
    | _ => if l = [] then ldGo n es r else none
def ldI : List (List UInt8) → Option (Nat × List E)
  | [] => none
  | l :: r => match lineN l with
    | [v] => if 0 ≤ v ∧ v ≤ 40 then ldGo v.toNat [] r else none
    | _ => none
theorem ldI_one {l : List UInt8} {r : List (List UInt8)} {v : Int} (h : lineN l = [v]) : ldI (l :: r) = if 0 ≤ v ∧ v ≤ 40 then ldGo v.toNat [] r else none := by
  simp only [ldI, h]
theorem ldI_else {l : List UInt8} {r : List (List UInt8)} (h : (lineN l).length ≠ 1) : ldI (l :: r) = none := by
  unfold ldI
  dsimp only
  split
  · rename_i h2; rw [h2] at h; exact absurd rfl h
  · rfl
theorem ldGo_add {n : Nat} {es : List E} {l : List UInt8} {r : List (List UInt8)} {i a b : Int} (h : lineN l = [i, a, b]) : ldGo n es (l :: r) = if addErr n es i a b = 0 then ldGo n (addEs n es i a b) r else none := by
  simp only [ldGo, h]
theorem ldGo_else {n : Nat} {es : List E} {l : List UInt8} {r : List (List UInt8)} (h : (lineN l).length ≠ 3) : ldGo n es (l :: r) = if l = [] then ldGo n es r else none := by
  conv => lhs; unfold ldGo
  split
  · rename_i h2; rw [h2] at h; exact absurd rfl h
  · rfl
def kAt (l : List UInt8) (i : Nat) : Int := (((pcz 32 l)[i]?).bind numT).getD 0
def rldGo (n : Nat) : List E → List (List UInt8) → List E
  | fs, [] => fs
  | fs, l :: r => rldGo n (raddEs n fs (kAt l 0) (kAt l 1) (kAt l 2)) r
def rldI : List (List UInt8) → Option (Nat × List E)
  | [] => none
  | l :: r => match numT l with
    | some v => if 0 ≤ v ∧ v ≤ 40 then some (v.toNat, rldGo v.toNat [] r) else none
    | none => none
structure LOk (n : Nat) (es : List E) : Prop where
  ord : ∀ e, e ∈ es → e.a < e.b ∧ e.b < n ∧ e.id ≤ 1099511627776
  le : es.length ≤ 120
theorem LOk.nil (n : Nat) : LOk n [] := ⟨fun _ h => (by cases h), by simp⟩
theorem mkE_ord {n : Nat} {id a b : Int} (h : ¬ addBad n id a b) (hab : a ≠ b) : (mkE id a b).a < (mkE id a b).b ∧ (mkE id a b).b < n ∧ (mkE id a b).id ≤ 1099511627776 := by
  unfold addBad at h
  unfold mkE
  simp only
  omega
theorem LOk.add {n : Nat} {es : List E} (h : LOk n es) (id a b : Int) : LOk n (addEs n es id a b) := by
  unfold addEs
  by_cases hb : addBad n id a b ∨ a = b ∨ hasId es id = true ∨ 120 ≤ es.length
  · rw [if_pos hb]; exact h
  · rw [if_neg hb]
    refine ⟨fun e he => ?_, by have := h.le; simp only [ins, List.length_append, List.length_take, List.length_cons, List.length_drop]; omega⟩
    unfold ins at he
    rcases List.mem_append.1 he with he | he
    · exact h.ord e (List.mem_of_mem_take he)
    · rcases List.mem_cons.1 he with rfl | he
      · exact mkE_ord (fun h => hb (.inl h)) (fun h => hb (.inr (.inl h)))
      · exact h.ord e (List.mem_of_mem_drop he)
theorem LOk.radd {n : Nat} {es : List E} (h : LOk n es) (id a b : Int) : LOk n (raddEs n es id a b) := by
  unfold raddEs
  by_cases hb : addBad n id a b ∨ a = b ∨ hasId es id = true ∨ 120 ≤ es.length
  · rw [if_pos hb]; exact h
  · rw [if_neg hb]
    refine ⟨fun e he => ?_, by simp; omega⟩
    rcases List.mem_append.1 he with he | he
    · exact h.ord e he
    · simp at he
      subst he
      exact mkE_ord (fun h => hb (.inl h)) (fun h => hb (.inr (.inl h)))
theorem ldGo_lok {n : Nat} : ∀ {r : List (List UInt8)} {es : List E} {m : Nat} {fs : List E}, LOk n es → ldGo n es r = some (m, fs) → m = n ∧ LOk n fs
  | [], es, m, fs, h, e => by simp only [ldGo, Option.some.injEq, Prod.mk.injEq] at e; obtain ⟨rfl, rfl⟩ := e; exact ⟨rfl, h⟩
  | l :: r, es, m, fs, h, e => by
    unfold ldGo at e
    split at e
    · split at e
      · exact ldGo_lok (h.add _ _ _) e
      · cases e
    · split at e
      · exact ldGo_lok h e
      · cases e
theorem ldI_lok {L : List (List UInt8)} {n : Nat} {es : List E} (h : ldI L = some (n, es)) : LOk n es := by
  unfold ldI at h
  split at h
  · cases h
  · split at h
    · split at h
      · obtain ⟨rfl, h2⟩ := ldGo_lok (LOk.nil _) h; exact h2
      · cases h
    · cases h
theorem rldGo_lok {n : Nat} : ∀ {r : List (List UInt8)} {fs : List E}, LOk n fs → LOk n (rldGo n fs r)
  | [], _, h => h
  | l :: r, fs, h => by unfold rldGo; exact rldGo_lok (h.radd _ _ _)
def Ids (fs : List E) : Prop := fs.Pairwise (fun e f => e.id ≠ f.id)
theorem Ids.radd {n : Nat} {fs : List E} (h : Ids fs) (id a b : Int) : Ids (raddEs n fs id a b) := by
  unfold raddEs
  by_cases hb : addBad n id a b ∨ a = b ∨ hasId fs id = true ∨ 120 ≤ fs.length
  · rw [if_pos hb]; exact h
  · rw [if_neg hb]
    refine List.pairwise_append.2 ⟨h, List.pairwise_singleton _ _, fun e he f hf => ?_⟩
    simp at hf
    subst hf
    intro heq
    apply hb
    refine .inr (.inr (.inl ?_))
    have h0 : 0 ≤ id := by
      have : ¬ addBad n id a b := fun h => hb (.inl h)
      unfold addBad at this
      omega
    simp only [hasId, List.any_eq_true, decide_eq_true_eq]
    exact ⟨e, he, by unfold mkE at heq; simp only at heq; omega⟩
theorem rldGo_ids {n : Nat} : ∀ {r : List (List UInt8)} {fs : List E}, Ids fs → Ids (rldGo n fs r)
  | [], _, h => h
  | l :: r, fs, h => by unfold rldGo; exact rldGo_ids (h.radd _ _ _)
theorem add_next {n : Nat} {pre post : List E} {e : E} (hs : Sorted (pre ++ e :: post)) (ho : LOk n (pre ++ e :: post)) :
    addErr n pre e.id e.a e.b = 0 ∧ addEs n pre e.id e.a e.b = pre ++ [e] ∧ raddEs n pre e.id e.a e.b = pre ++ [e] := by
  obtain ⟨h1, h2, h3⟩ := ho.ord e (by simp)
  have hb : ¬ addBad n e.id e.a e.b := by unfold addBad; omega
  have hab : ¬ (e.a : Int) = e.b := by omega
  have hlen : ¬ 120 ≤ pre.length := by have := ho.le; simp at this; omega
  have hlt : ∀ f, f ∈ pre → f.id < e.id := fun f hf => (List.pairwise_append.1 hs).2.2 f hf e (by simp)
  have hid : hasId pre e.id = false := by
    simp only [hasId, List.any_eq_false, decide_eq_true_eq]
    intro f hf
    have := hlt f hf
    omega
  have hpos : posOf pre e.id = pre.length := posOf_eq (Nat.le_refl _) (fun k f hk hf => by have := hlt f (List.mem_of_getElem? hf); omega) (fun k f hk hf => by have := (List.getElem?_eq_some_iff.1 hf).1; omega)
  have hmk : mkE e.id e.a e.b = e := by
    cases e
    unfold mkE
    simp only at *
    rw [E.mk.injEq]
    omega
  have hno : ¬ (addBad n e.id e.a e.b ∨ (e.a : Int) = e.b ∨ hasId pre e.id = true ∨ 120 ≤ pre.length) := by
    rintro (h | h | h | h)
    · exact hb h
    · exact hab h
    · rw [hid] at h; cases h
    · exact hlen h
  refine ⟨?_, ?_, ?_⟩
  · unfold addErr
    rw [if_neg hb, if_neg hab, hid, if_neg (by simp), if_neg hlen]
  · unfold addEs
    rw [if_neg hno, hpos, hmk]
    simp [ins]
  · unfold raddEs
    rw [if_neg hno, hmk]
def lineB (e : E) : List UInt8 := Lib.itoa (e.id : Int) ++ 32 :: (Lib.itoa (e.a : Int) ++ 32 :: Lib.itoa (e.b : Int))
theorem lineT_B (e : E) (l : List UInt8) : lineT e ++ l = lineB e ++ 10 :: l := by simp [lineT, lineB]
theorem free_app {c : UInt8} {a b : List UInt8} {x : UInt8} (h1 : ∀ k : Nat, a[k]? ≠ some c) (hx : x ≠ c) (h2 : ∀ k : Nat, b[k]? ≠ some c) : ∀ k : Nat, (a ++ x :: b)[k]? ≠ some c := by
  intro k h
  have := List.mem_of_getElem? h
  rcases List.mem_append.1 this with h | h
  · obtain ⟨j, hj⟩ := List.mem_iff_getElem?.1 h; exact h1 j hj
  · rcases List.mem_cons.1 h with h | h
    · exact hx h.symm
    · obtain ⟨j, hj⟩ := List.mem_iff_getElem?.1 h; exact h2 j hj
theorem lineB_free (e : E) : ∀ k : Nat, (lineB e)[k]? ≠ some 10 :=
  free_app (fun k => itoa_free _ (by decide) k) (by decide) (free_app (fun k => itoa_free _ (by decide) k) (by decide) (fun k => itoa_free _ (by decide) k))
theorem lineB_pcz (e : E) : pcz 32 (lineB e) = [Lib.itoa (e.id : Int), Lib.itoa (e.a : Int), Lib.itoa (e.b : Int)] := by
  unfold lineB
  rw [pcz_app (fun k => itoa_free _ (by decide) k), pcz_app (fun k => itoa_free _ (by decide) k), pcz_free (fun k => itoa_free _ (by decide) k)]
theorem itoa_pcz (x : Nat) : pcz 32 (Lib.itoa (x : Int)) = [Lib.itoa (x : Int)] := pcz_free (fun k => itoa_free _ (by decide) k)
theorem lines_pcz : ∀ es : List E, pcz 10 (es.map lineT).flatten = es.map lineB ++ [[]]
  | [] => rfl
  | e :: es => by
    rw [List.map_cons, List.flatten_cons, lineT_B, pcz_app (lineB_free e), lines_pcz es]
    rfl
theorem saved_pcz (n : Nat) (es : List E) : pcz 10 (savedT n es) = Lib.itoa (n : Int) :: (es.map lineB ++ [[]]) := by
  unfold savedT
  rw [List.append_assoc, List.singleton_append, pcz_app (fun k => itoa_free _ (by decide) k), lines_pcz]
theorem numT_itoa (u : Nat) (hu : u < 9223372036854775808) : numT (Lib.itoa (u : Int)) = some (u : Int) := by
  unfold numT
  rw [parse_itoa u hu]
  simp
theorem lineN_B {e : E} (h1 : e.id < 9223372036854775808) (h2 : e.a < 9223372036854775808) (h3 : e.b < 9223372036854775808) : lineN (lineB e) = [(e.id : Int), e.a, e.b] := by
  unfold lineN
  rw [lineB_pcz]
  simp only [numsT, atoi_itoa _ h1, atoi_itoa _ h2, atoi_itoa _ h3]
theorem kAt_B {e : E} (h1 : e.id < 9223372036854775808) (h2 : e.a < 9223372036854775808) (h3 : e.b < 9223372036854775808) : kAt (lineB e) 0 = e.id ∧ kAt (lineB e) 1 = e.a ∧ kAt (lineB e) 2 = e.b := by
  unfold kAt
  rw [lineB_pcz]
  simp [numT_itoa _ h1, numT_itoa _ h2, numT_itoa _ h3]
theorem lineN_nil : lineN [] = [] := rfl
theorem kAt_nil (i : Nat) : kAt [] i = 0 := by
  unfold kAt
  cases i with
  | zero => rfl
  | succ i => rfl
theorem ldGo_saved {n : Nat} (hn : n ≤ 40) : ∀ {post pre : List E}, Sorted (pre ++ post) → LOk n (pre ++ post) → ldGo n pre (post.map lineB ++ [[]]) = some (n, pre ++ post)
  | [], pre, _, _ => by
    simp only [List.map_nil, List.nil_append, List.append_nil]
    rw [ldGo_else (by rw [lineN_nil]; simp), if_pos rfl]
    rfl
  | e :: post, pre, hs, ho => by
    obtain ⟨h1, h2, h3⟩ := ho.ord e (by simp)
    obtain ⟨a1, a2, _⟩ := add_next hs ho
    rw [List.map_cons, List.cons_append, ldGo_add (lineN_B (by omega) (by omega) (by omega)), if_pos a1, a2, ldGo_saved hn (by simpa using hs) (by simpa using ho)]
    simp
theorem rldGo_saved {n : Nat} (hn : n ≤ 40) : ∀ {post pre : List E}, Sorted (pre ++ post) → LOk n (pre ++ post) → rldGo n pre (post.map lineB ++ [[]]) = pre ++ post
  | [], pre, _, _ => by
    simp only [List.map_nil, List.nil_append, List.append_nil]
    unfold rldGo rldGo
    rw [kAt_nil, kAt_nil, kAt_nil]
    unfold raddEs
    rw [if_pos (.inr (.inl rfl))]
  | e :: post, pre, hs, ho => by
    obtain ⟨h1, h2, h3⟩ := ho.ord e (by simp)
    obtain ⟨_, _, a2⟩ := add_next hs ho
    obtain ⟨b1, b2, b3⟩ := kAt_B (e := e) (by omega) (by omega) (by omega)
    rw [List.map_cons, List.cons_append]
    unfold rldGo
    rw [b1, b2, b3, a2, rldGo_saved hn (by simpa using hs) (by simpa using ho)]
    simp
theorem ldI_saved {n : Nat} {es : List E} (hn : n ≤ 40) (hs : Sorted es) (ho : LOk n es) : ldI (pcz 10 (savedT n es)) = some (n, es) := by
  rw [saved_pcz, ldI_one (v := (n : Int)) (by unfold lineN; rw [itoa_pcz]; simp only [numsT, atoi_itoa n (by omega)]), if_pos (by omega)]
  have := ldGo_saved hn (pre := []) (post := es) hs ho
  simpa using this
theorem rldI_saved {n : Nat} {es : List E} (hn : n ≤ 40) (hs : Sorted es) (ho : LOk n es) : rldI (pcz 10 (savedT n es)) = some (n, es) := by
  rw [saved_pcz]
  simp only [rldI, numT_itoa n (by omega)]
  rw [if_pos (by omega)]
  have := rldGo_saved hn (pre := []) (post := es) hs ho
  simpa using this
theorem LOk.perm {n : Nat} {es fs : List E} (h : LOk n fs) (hp : es.Perm fs) : LOk n es := ⟨fun e he => h.ord e (hp.mem_iff.1 he), by rw [hp.length_eq]; exact h.le⟩
theorem load_i {s : List UInt8} {n : Nat} {es : List E} (hn : n ≤ 40) (h : ldI (pcz 10 s) = some (n, es)) (hs : savedT n es = s) (hso : Sorted es) : rldI (pcz 10 s) = some (n, es) := by
  subst hs
  exact rldI_saved hn hso (ldI_lok h)
theorem rldI_lok {L : List (List UInt8)} {n : Nat} {fs : List E} (h : rldI L = some (n, fs)) : n ≤ 40 ∧ LOk n fs ∧ Ids fs := by
  unfold rldI at h
  split at h
  · cases h
  · split at h
    · split at h
      · simp only [Option.some.injEq, Prod.mk.injEq] at h
        obtain ⟨rfl, rfl⟩ := h
        exact ⟨by omega, rldGo_lok (LOk.nil _), rldGo_ids List.Pairwise.nil⟩
      · cases h
    · cases h
theorem load_r {s : List UInt8} {n : Nat} {es fs : List E} (h : rldI (pcz 10 s) = some (n, fs)) (hp : es.Perm fs) (hso : Sorted es) (hs : savedT n es = s) : ldI (pcz 10 s) = some (n, es) := by
  subst hs
  obtain ⟨h1, h2, _⟩ := rldI_lok h
  exact ldI_saved h1 hso (h2.perm hp)
theorem sorted_ex : ∀ {fs : List E}, Ids fs → ∃ es, es.Perm fs ∧ Sorted es
  | [], _ => ⟨[], List.Perm.refl _, List.Pairwise.nil⟩
  | e :: fs, h => by
    obtain ⟨h1, h2⟩ := List.pairwise_cons.1 h
    obtain ⟨es, hp, hs⟩ := sorted_ex h2
    have hid : hasId es e.id = false := by
      simp only [hasId, List.any_eq_false, decide_eq_true_eq]
      intro f hf
      have := h1 f (hp.mem_iff.1 hf)
      omega
    refine ⟨_, ?_, sorted_ins hs e hid⟩
    refine List.perm_middle.trans (List.Perm.cons e ?_)
    rw [List.take_append_drop]
    exact hp
theorem both_load {s : List UInt8} {n n' : Nat} {es fs es' : List E} (hn : n ≤ 40) (hso : Sorted es) (h : ldI (pcz 10 s) = some (n, es)) (hs : savedT n es = s) (h' : rldI (pcz 10 s) = some (n', fs)) (hp : es'.Perm fs) (hso' : Sorted es') : n' = n ∧ es' = es := by
  rw [load_i hn h hs hso] at h'
  simp only [Option.some.injEq, Prod.mk.injEq] at h'
  obtain ⟨rfl, rfl⟩ := h'
  exact ⟨rfl, sorted_ext hso' hso (fun e => hp.mem_iff)⟩
end Go.Proofs.YtkpoobnldgfapabGreatDoor

