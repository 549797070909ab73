/- Part 38 of the proof: PlLoad DkM DkCmd1 DkCmd2. -/
import Derived.Test.YtfglkgkihafcpaaGreatDoorDp03
import Derived.Test.YtfglkgkihafcpaaGreatDoorDp16
import Derived.Test.YtfglkgkihafcpaaGreatDoorDp18
import Derived.Test.YtfglkgkihafcpaaGreatDoorDp34
import Derived.Test.YtfglkgkihafcpaaGreatDoorDp35
import Derived.Test.YtfglkgkihafcpaaGreatDoorDp36
import Derived.Test.YtfglkgkihafcpaaGreatDoorDp37
set_option linter.unusedVariables false
set_option linter.unusedSimpArgs false
namespace Go.Proofs.YtfglkgkihafcpaaGreatDoor
open Go Pl Go.RowKit
theorem splitB_pcz (s : List UInt8) (c : UInt8) : Lib.splitB ⟨#[c]⟩ 0 (Lib.countB (bstr s) ⟨#[c]⟩) (bstr s) = (pcz c s).map bstr := by
 have h := Lib.splitB_data ⟨#[c]⟩ 0 (Lib.countB (bstr s) ⟨#[c]⟩) (bstr s)
 have h2 : Lib.countB (bstr s) ⟨#[c]⟩ = Lib.count s [c] := by simp [Lib.countB]
 rw [h2] at h ⊢
 have h3 := pcz_split c s.length s (Nat.le_refl _)
 have h4 : (⟨#[c]⟩ : ByteArray).data.toList = [c] := rfl
 rw [h4, bstr_list, h3] at h
 rw [← h, List.map_map]
 have h5 : (fun x : ByteArray => x) = bstr ∘ (fun x : ByteArray => x.data.toList) := by funext x; rfl
 rw [← h5, List.map_id']
def numsT : List (List UInt8) → List Int
 | [] => []
 | x :: xs => match Lib.atoiAll x with
  | .ok v => v :: numsT xs
  | _ => []
def lineN (l : List UInt8) : List Int := numsT (pcz 32 l)
def ldGo (n : Nat) : List E → List (List UInt8) → Option (Nat × List E)
 | es, [] => some (n, es)
 | es, l :: r => match lineN l with
  | [i, a, b] => if addErr n es i a b = 0 then ldGo n (addEs n es i a b) r else none
  | _ => if l = [] then ldGo n es r else none
def ldI : List (List UInt8) → Option (Nat × List E)
 | [] => none
 | l :: r => match lineN l with
  | [v] => if 0 ≤ v ∧ v ≤ 40 then ldGo v.toNat [] r else none
  | _ => none
theorem ldI_one {l : List UInt8} {r : List (List UInt8)} {v : Int} (h : lineN l = [v]) : ldI (l :: r) = if 0 ≤ v ∧ v ≤ 40 then ldGo v.toNat [] r else none := by
 simp only [ldI, h]
theorem ldI_else {l : List UInt8} {r : List (List UInt8)} (h : (lineN l).length ≠ 1) : ldI (l :: r) = none := by
 unfold ldI
 dsimp only
 split
 ·rename_i h2; rw [h2] at h; exact absurd rfl h
 ·rfl
theorem ldGo_add {n : Nat} {es : List E} {l : List UInt8} {r : List (List UInt8)} {i a b : Int} (h : lineN l = [i, a, b]) : ldGo n es (l :: r) = if addErr n es i a b = 0 then ldGo n (addEs n es i a b) r else none := by
 simp only [ldGo, h]
theorem ldGo_else {n : Nat} {es : List E} {l : List UInt8} {r : List (List UInt8)} (h : (lineN l).length ≠ 3) : ldGo n es (l :: r) = if l = [] then ldGo n es r else none := by
 conv => lhs; unfold ldGo
 split
 ·rename_i h2; rw [h2] at h; exact absurd rfl h
 ·rfl
structure LOk (n : Nat) (es : List E) : Prop where
 ord : ∀ e, e ∈ es → e.a < e.b ∧ e.b < n ∧ e.id ≤ 1099511627776
 le : es.length ≤ 120
theorem LOk.nil (n : Nat) : LOk n [] := ⟨fun _ h => (by cases h), by simp⟩
theorem mkE_ord {n : Nat} {id a b : Int} (h : ¬ addBad n id a b) (hab : a ≠ b) : (mkE id a b).a < (mkE id a b).b ∧ (mkE id a b).b < n ∧ (mkE id a b).id ≤ 1099511627776 := by
 unfold addBad at h
 unfold mkE
 simp only
 omega
theorem LOk.add {n : Nat} {es : List E} (h : LOk n es) (id a b : Int) : LOk n (addEs n es id a b) := by
 unfold addEs
 by_cases hb : addBad n id a b ∨ a = b ∨ hasId es id = true ∨ 120 ≤ es.length
 ·rw [if_pos hb]; exact h
 ·rw [if_neg hb]
  refine ⟨fun e he => ?_, by have := h.le; simp only [ins, List.length_append, List.length_take, List.length_cons, List.length_drop]; omega⟩
  unfold ins at he
  rcases List.mem_append.1 he with he | he
  ·exact h.ord e (List.mem_of_mem_take he)
  ·rcases List.mem_cons.1 he with rfl | he
   ·exact mkE_ord (fun h => hb (.inl h)) (fun h => hb (.inr (.inl h)))
   ·exact h.ord e (List.mem_of_mem_drop he)
theorem add_next {n : Nat} {pre post : List E} {e : E} (hs : Sorted (pre ++ e :: post)) (ho : LOk n (pre ++ e :: post)) :
  addErr n pre e.id e.a e.b = 0 ∧ addEs n pre e.id e.a e.b = pre ++ [e] ∧ raddEs n pre e.id e.a e.b = pre ++ [e] := by
 obtain ⟨h1, h2, h3⟩ := ho.ord e (by simp)
 have hb : ¬ addBad n e.id e.a e.b := by unfold addBad; omega
 have hab : ¬ (e.a : Int) = e.b := by omega
 have hlen : ¬ 120 ≤ pre.length := by have := ho.le; simp at this; omega
 have hlt : ∀ f, f ∈ pre → f.id < e.id := fun f hf => (List.pairwise_append.1 hs).2.2 f hf e (by simp)
 have hid : hasId pre e.id = false := by
  simp only [hasId, List.any_eq_false, decide_eq_true_eq]
  intro f hf
  have := hlt f hf
  omega
 have hpos : posOf pre e.id = pre.length := posOf_eq (Nat.le_refl _) (fun k f hk hf => by have := hlt f (List.mem_of_getElem? hf); omega) (fun k f hk hf => by have := (List.getElem?_eq_some_iff.1 hf).1; omega)
 have hmk : mkE e.id e.a e.b = e := by
  cases e
  unfold mkE
  simp only at *
  rw [E.mk.injEq]
  omega
 have hno : ¬ (addBad n e.id e.a e.b ∨ (e.a : Int) = e.b ∨ hasId pre e.id = true ∨ 120 ≤ pre.length) := by
  rintro (h | h | h | h)
  ·exact hb h
  ·exact hab h
  ·rw [hid] at h; cases h
  ·exact hlen h
 refine ⟨?_, ?_, ?_⟩
 ·unfold addErr
  rw [if_neg hb, if_neg hab, hid, if_neg (by simp), if_neg hlen]
 ·unfold addEs
  rw [if_neg hno, hpos, hmk]
  simp [ins]
 ·unfold raddEs
  rw [if_neg hno, hmk]
def lineB (e : E) : List UInt8 := Lib.itoa (e.id : Int) ++ 32 :: (Lib.itoa (e.a : Int) ++ 32 :: Lib.itoa (e.b : Int))
theorem lineT_B (e : E) (l : List UInt8) : lineT e ++ l = lineB e ++ 10 :: l := by simp [lineT, lineB]
theorem free_app {c : UInt8} {a b : List UInt8} {x : UInt8} (h1 : ∀ k : Nat, a[k]? ≠ some c) (hx : x ≠ c) (h2 : ∀ k : Nat, b[k]? ≠ some c) : ∀ k : Nat, (a ++ x :: b)[k]? ≠ some c := by
 intro k h
 have := List.mem_of_getElem? h
 rcases List.mem_append.1 this with h | h
 ·obtain ⟨j, hj⟩ := List.mem_iff_getElem?.1 h; exact h1 j hj
 ·rcases List.mem_cons.1 h with h | h
  ·exact hx h.symm
  ·obtain ⟨j, hj⟩ := List.mem_iff_getElem?.1 h; exact h2 j hj
theorem lineB_free (e : E) : ∀ k : Nat, (lineB e)[k]? ≠ some 10 :=
 free_app (fun k => itoa_free _ (by decide) k) (by decide) (free_app (fun k => itoa_free _ (by decide) k) (by decide) (fun k => itoa_free _ (by decide) k))
theorem lineB_pcz (e : E) : pcz 32 (lineB e) = [Lib.itoa (e.id : Int), Lib.itoa (e.a : Int), Lib.itoa (e.b : Int)] := by
 unfold lineB
 rw [pcz_app (fun k => itoa_free _ (by decide) k), pcz_app (fun k => itoa_free _ (by decide) k), pcz_free (fun k => itoa_free _ (by decide) k)]
theorem itoa_pcz (x : Nat) : pcz 32 (Lib.itoa (x : Int)) = [Lib.itoa (x : Int)] := pcz_free (fun k => itoa_free _ (by decide) k)
theorem lines_pcz : ∀ es : List E, pcz 10 (es.map lineT).flatten = es.map lineB ++ [[]]
 | [] => rfl
 | e :: es => by
  rw [List.map_cons, List.flatten_cons, lineT_B, pcz_app (lineB_free e), lines_pcz es]
  rfl
theorem saved_pcz (n : Nat) (es : List E) : pcz 10 (savedT n es) = Lib.itoa (n : Int) :: (es.map lineB ++ [[]]) := by
 unfold savedT
 rw [List.append_assoc, List.singleton_append, pcz_app (fun k => itoa_free _ (by decide) k), lines_pcz]
theorem lineN_B {e : E} (h1 : e.id < 9223372036854775808) (h2 : e.a < 9223372036854775808) (h3 : e.b < 9223372036854775808) : lineN (lineB e) = [(e.id : Int), e.a, e.b] := by
 unfold lineN
 rw [lineB_pcz]
 simp only [numsT, atoi_itoa _ h1, atoi_itoa _ h2, atoi_itoa _ h3]
theorem lineN_nil : lineN [] = [] := rfl
theorem ldGo_saved {n : Nat} (hn : n ≤ 40) : ∀ {post pre : List E}, Sorted (pre ++ post) → LOk n (pre ++ post) → ldGo n pre (post.map lineB ++ [[]]) = some (n, pre ++ post)
 | [], pre, _, _ => by
  simp only [List.map_nil, List.nil_append, List.append_nil]
  rw [ldGo_else (by rw [lineN_nil]; simp), if_pos rfl]
  rfl
 | e :: post, pre, hs, ho => by
  obtain ⟨h1, h2, h3⟩ := ho.ord e (by simp)
  obtain ⟨a1, a2, _⟩ := add_next hs ho
  rw [List.map_cons, List.cons_append, ldGo_add (lineN_B (by omega) (by omega) (by omega)), if_pos a1, a2, ldGo_saved hn (by simpa using hs) (by simpa using ho)]
  simp
theorem ldI_saved {n : Nat} {es : List E} (hn : n ≤ 40) (hs : Sorted es) (ho : LOk n es) : ldI (pcz 10 (savedT n es)) = some (n, es) := by
 rw [saved_pcz, ldI_one (v := (n : Int)) (by unfold lineN; rw [itoa_pcz]; simp only [numsT, atoi_itoa n (by omega)]), if_pos (by omega)]
 have := ldGo_saved hn (pre := []) (post := es) hs ho
 simpa using this
theorem LOk.sub {n : Nat} {es fs : List E} (h : LOk n es) (hs : fs.Sublist es) : LOk n fs := ⟨fun e he => h.ord e (hs.subset he), Nat.le_trans hs.length_le h.le⟩
end Go.Proofs.YtfglkgkihafcpaaGreatDoor

namespace Go.Proofs.YtfglkgkihafcpaaGreatDoor
open Go.RowKit Pl Go.Maps
def LibZ (Z : Nat) (w : World) : Prop := ∃ w0 : World, w0.heap.size = Z ∧ LibW w0 ∧ ErrT w0 ∧ Keep Nb w0 w
theorem LibZ.lib {Z : Nat} {w : World} (h : LibZ Z w) : LibW w := by obtain ⟨w0, _, h1, _, k⟩ := h; exact h1.keep k
theorem LibZ.err {Z : Nat} {w : World} (h : LibZ Z w) : ErrT w := by obtain ⟨w0, _, _, h1, k⟩ := h; exact h1.keep k (fun e => e)
theorem LibZ.keep {Z : Nat} {G : Nat → Prop} {w w' : World} (h : LibZ Z w) (k : Keep G w w') (hG : ∀ j, G j → Z ≤ j) : LibZ Z w' := by
 obtain ⟨w0, hz, h1, h2, k0⟩ := h
 exact ⟨w0, hz, h1, h2, k0.trans' k (fun _ _ e => e) (fun j hj e => by show False; have := hG j e; omega)⟩
theorem LibZ.start {w : World} (h1 : LibW w) (h2 : ErrT w) : LibZ w.heap.size w := ⟨w, rfl, h1, h2, Keep.refl _ _⟩
structure DkM (Z : Nat) (F : Nat → Prop) (w : World) (db xb n : Nat) (es : List E) : Prop where
 row : Row w db 34 [.pointer (some ⟨xb, 0, none⟩)]
 ix : IxK F w xb n es
 nd : ¬ F db
 lt : ∀ k, F k → k < w.heap.size
 ok : IOk n es
 lok : LOk n es
 lo : ∀ k, F k → Z ≤ k
 ldb : Z ≤ db
 lib : LibZ Z w
theorem DkM.still {Z : Nat} {F : Nat → Prop} {w w' : World} {db xb n : Nat} {es : List E} (h : DkM Z F w db xb n es) (k : Keep Nb w w') : DkM Z F w' db xb n es :=
 ⟨h.row.keep k (fun e => e), h.ix.keep k (fun _ _ e => e), h.nd, fun j hj => by have := h.lt j hj; have := k.size; omega, h.ok, h.lok, h.lo, h.ldb, h.lib.keep k (fun _ e => e.elim)⟩
structure Ans where
 out : Except Int (List UInt8)
 n : Nat
 es : List E
def DkPost (Z : Nat) (F : Nat → Prop) (w : World) (db : Nat) (r : Ans) (e : Ending) (w' : World) : Prop :=
 (∃ F' xb', DkM Z F' w' db xb' r.n r.es ∧ ∀ k, F' k → F k ∨ w.heap.size ≤ k) ∧ Keep (fun k => F k ∨ k = db) w w' ∧ e = (match r.out with | .ok t => .returned (.string (bstr t)) | .error k => thrown k)
theorem DkM.stay {Z : Nat} {F : Nat → Prop} {w w1 w2 w3 : World} {db xb n : Nat} {es : List E} (h : DkM Z F w db xb n es) (k1 : Keep Nb w w1) (hs : IStay F w1 xb n es w2) (k2 : Keep Nb w2 w3) :
  (∃ F' xb', DkM Z F' w3 db xb' n es ∧ ∀ k, F' k → F k ∨ w.heap.size ≤ k) ∧ Keep (fun k => F k ∨ k = db) w w3 := by
 have z1 := k1.size
 have z2 := hs.2.size
 have z3 := k2.size
 have hdb := h.row.lt
 refine ⟨⟨fun k => (F k ∨ w1.heap.size ≤ k) ∧ k < w2.heap.size, xb, ⟨((h.row.keep k1 (fun e => e)).keep hs.2 h.nd).keep k2 (fun e => e), (hs.1.tight).keep k2 (fun _ _ e => e), fun e => ?_, fun k hk => by omega, h.ok, h.lok, fun k hk => ?_, h.ldb, (((h.lib.keep k1 (fun _ e => e.elim)).keep hs.2 h.lo).keep k2 (fun _ e => e.elim))⟩, fun k hk => ?_⟩, ((k1.of_nb (F := fun k => F k ∨ k = db)).trans' hs.2 (fun _ _ e => e) (fun _ _ e => .inl e)).trans' k2 (fun _ _ e => e) (fun _ _ e => e.elim)⟩
 ·rcases e.1 with e | e
  ·exact h.nd e
  ·omega
 ·have := h.ldb
  rcases hk.1 with hk | hk
  ·exact h.lo k hk
  ·omega
 ·rcases hk.1 with hk | hk
  ·exact .inl hk
  ·exact .inr (by omega)
theorem DkM.same {Z : Nat} {F : Nat → Prop} {w w1 : World} {db xb n : Nat} {es : List E} (h : DkM Z F w db xb n es) (k1 : Keep Nb w w1) : (∃ F' xb', DkM Z F' w1 db xb' n es ∧ ∀ k, F' k → F k ∨ w.heap.size ≤ k) ∧ Keep (fun k => F k ∨ k = db) w w1 :=
 ⟨⟨F, xb, h.still k1, fun _ hk => .inl hk⟩, k1.of_nb⟩
def noNums (l : List (List UInt8)) (n : Nat) (es : List E) (r : Ans) : Ans := if l.length = 0 then r else ⟨.error 3, n, es⟩
structure Wds (w : World) (o : Option Addr) (m c : Nat) (l : List (List UInt8)) : Prop where
 s : SlR w o m (strs (l.map bstr))
 len : l.length = m
 le : m ≤ 100000
 each : ∀ x, x ∈ l → x.length ≤ 100000
theorem wds_nums {w : World} (hL : LibW w) (hE : ErrT w) {o : Option Addr} {m c : Nat} {l : List (List UInt8)} (h : Wds w o m c l) (n : Nat) (hn : n ≤ 100) :
  Calls Tryz.prog 19 #[.slice o m c, .int .i64 n] w (NumsPost w l n) := by
 exact numbers_any w hL hE o m c l h.s h.len h.le h.each n hn
noncomputable def pickL {α : Type} (p : α → Prop) (d : α) : α := @dite _ (∃ x, p x) (Classical.propDecidable _) (fun h => Classical.choose h) (fun _ => d)
theorem pickL_at {α : Type} {p : α → Prop} {x : α} (d : α) (h : p x) : p (pickL p d) := by
 unfold pickL
 rw [dif_pos ⟨x, h⟩]
 exact Classical.choose_spec (⟨x, h⟩ : ∃ x, p x)
theorem pickL_or {α : Type} (p : α → Prop) (d : α) : p (pickL p d) ∨ pickL p d = d := by
 by_cases h : ∃ x, p x
 ·obtain ⟨x, hx⟩ := h
  exact .inl (pickL_at d hx)
 ·unfold pickL
  rw [dif_neg h]
  exact .inr rfl
def SmW (l : List Nat) : Prop := (wordsT l).length ≤ 2200200000
def SmT (l : List (List Nat)) : Prop := (listsT l).length ≤ 2200200000
noncomputable def theBr (es : List E) : List Nat := pickL (fun l => BridgeIds es l ∧ SmW l) []
theorem theBr_eq {es : List E} {l : List Nat} (h : BridgeIds es l) (hs : SmW l) : l = theBr es :=
 have g : BridgeIds es (theBr es) := (pickL_at (p := fun l => BridgeIds es l ∧ SmW l) [] ⟨h, hs⟩).1
 rising_ext h.sorted g.sorted (fun x => (h.mem x).trans (g.mem x).symm)
theorem SmW.nil : SmW [] := by unfold SmW wordsT; simp [Lib.join]
theorem SmT.nil : SmT [] := by unfold SmT listsT; simp [Lib.join]
theorem theBr_sm (es : List E) : SmW (theBr es) := by
 rcases pickL_or (fun l => BridgeIds es l ∧ SmW l) [] with h | h
 ·exact h.2
 ·unfold theBr; rw [h]; exact SmW.nil
noncomputable def theCuts (n : Nat) (es : List E) : List Nat := pickL (fun cs => ((∀ x, x ∈ cs ↔ x < n ∧ Sep es x) ∧ cs.Pairwise (· < ·)) ∧ SmW cs) []
theorem theCuts_eq {n : Nat} {es : List E} {l : List Nat} (h : (∀ x, x ∈ l ↔ x < n ∧ Sep es x)) (h2 : l.Pairwise (· < ·)) (hs : SmW l) : l = theCuts n es :=
 have g := (pickL_at (p := fun cs : List Nat => ((∀ x, x ∈ cs ↔ x < n ∧ Sep es x) ∧ cs.Pairwise (· < ·)) ∧ SmW cs) [] ⟨⟨h, h2⟩, hs⟩).1
 rising_ext h2 g.2 (fun x => (h x).trans (g.1 x).symm)
theorem theCuts_sm (n : Nat) (es : List E) : SmW (theCuts n es) := by
 rcases pickL_or (fun cs => ((∀ x, x ∈ cs ↔ x < n ∧ Sep es x) ∧ cs.Pairwise (· < ·)) ∧ SmW cs) [] with h | h
 ·exact h.2
 ·unfold theCuts; rw [h]; exact SmW.nil
noncomputable def theBlk (es : List E) : List (List Nat) := pickL (fun l => BlkList es l ∧ SmT l) []
theorem theBlk_eq {es : List E} {l : List (List Nat)} (h : BlkList es l) (hs : SmT l) : l = theBlk es := h.unique (pickL_at (p := fun l => BlkList es l ∧ SmT l) [] ⟨h, hs⟩).1
theorem theBlk_sm (es : List E) : SmT (theBlk es) := by
 rcases pickL_or (fun l => BlkList es l ∧ SmT l) [] with h | h
 ·exact h.2
 ·unfold theBlk; rw [h]; exact SmT.nil
def ThrP (n : Nat) (es : List E) (ll : List (List Nat)) : Prop := ∃ L, Canon n L ∧ (∀ x y, x < n → y < n → (L x = L y ↔ Thr es x y)) ∧ ll = parts n L
noncomputable def theThr (n : Nat) (es : List E) : List (List Nat) := pickL (fun l => ThrP n es l ∧ SmT l) []
theorem theThr_eq {n : Nat} {es : List E} {ll : List (List Nat)} (h : ThrP n es ll) (hs : SmT ll) : ll = theThr n es := by
 have hg := (pickL_at (p := fun l => ThrP n es l ∧ SmT l) [] ⟨h, hs⟩).1
 obtain ⟨L, h1, h2, h3⟩ := h
 obtain ⟨L', g1, g2, g3⟩ := hg
 rw [h3]
 refine Eq.trans ?_ g3.symm
 exact parts_congr (canon_unique h1 g1 (fun x y hx hy => (h2 x y hx hy).trans (g2 x y hx hy).symm))
theorem theThr_sm (n : Nat) (es : List E) : SmT (theThr n es) := by
 rcases pickL_or (fun l => ThrP n es l ∧ SmT l) [] with h | h
 ·exact h.2
 ·unfold theThr; rw [h]; exact SmT.nil
def tBridges : List UInt8 := [98, 114, 105, 100, 103, 101, 115, 32]
def tCuts : List UInt8 := [99, 117, 116, 115, 32]
def tBlocks : List UInt8 := [98, 108, 111, 99, 107, 115, 32]
def tThrice : List UInt8 := [116, 104, 114, 105, 99, 101, 32]
def tPairs : List UInt8 := [112, 97, 105, 114, 115, 32]
def tSplits : List UInt8 := [115, 112, 108, 105, 116, 115, 32]
def tEdges : List UInt8 := [101, 100, 103, 101, 115, 32]
noncomputable def aBridges (l : List (List UInt8)) (n : Nat) (es : List E) : Ans := noNums l n es ⟨.ok (tBridges ++ wordsT (theBr es)), n, es⟩
noncomputable def aCuts (l : List (List UInt8)) (n : Nat) (es : List E) : Ans := noNums l n es ⟨.ok (tCuts ++ wordsT (theCuts n es)), n, es⟩
noncomputable def aBlocks (l : List (List UInt8)) (n : Nat) (es : List E) : Ans := noNums l n es ⟨.ok (tBlocks ++ listsT (theBlk es)), n, es⟩
noncomputable def aThrice (l : List (List UInt8)) (n : Nat) (es : List E) : Ans := noNums l n es ⟨.ok (tThrice ++ listsT (theThr n es)), n, es⟩
noncomputable def aPairs (l : List (List UInt8)) (n : Nat) (es : List E) : Ans := noNums l n es ⟨.ok (tPairs ++ listsT (twoL (alikes (mk es) es))), n, es⟩
noncomputable def aSplits (l : List (List UInt8)) (n : Nat) (es : List E) : Ans := noNums l n es ⟨.ok (tSplits ++ listsT (twoL (allS (splitsB n es) n n))), n, es⟩
theorem bs_cat (a b : List UInt8) : bstr a ++ bstr b = bstr (a ++ b) := by
 apply ByteArray.ext
 rw [ByteArray.data_append]
 simp
end Go.Proofs.YtfglkgkihafcpaaGreatDoor

namespace Go.Proofs.YtfglkgkihafcpaaGreatDoor
open Go.RowKit Pl Go.Maps
theorem noNums_bad {l : List (List UInt8)} {n : Nat} {es : List E} {r : Ans} (h : l.length ≠ 0 ∨ numsD l = none) : noNums l n es r = ⟨.error 3, n, es⟩ := by
 unfold noNums
 rw [if_neg]
 intro h0
 rcases h with h | h
 ·exact h h0
 ·rw [List.eq_nil_of_length_eq_zero h0] at h; cases h
theorem noNums_ok {l : List (List UInt8)} {n : Nat} {es : List E} {r : Ans} (h : l.length = 0) : noNums l n es r = r := if_pos h
theorem dk_bad {Z : Nat} {F : Nat → Prop} {w w1 : World} {db xb n : Nat} {es : List E} {r : Ans} {k : Int} (h : DkM Z F w db xb n es) (k1 : Keep Nb w w1) (hr : r = ⟨.error k, n, es⟩) : DkPost Z F w db r (thrown k) w1 := by
 subst hr
 exact ⟨(h.same k1).1, (h.same k1).2, rfl⟩
theorem dk_ok {Z : Nat} {F : Nat → Prop} {w w' : World} {db n : Nat} {es : List E} {r : Ans} {t : List UInt8} {v : Value} (h : (∃ F' xb', DkM Z F' w' db xb' n es ∧ ∀ k, F' k → F k ∨ w.heap.size ≤ k) ∧ Keep (fun k => F k ∨ k = db) w w') (hr : r = ⟨.ok t, n, es⟩) (hv : v = .string (bstr t)) : DkPost Z F w db r (.returned v) w' := by
 subst hr hv
 exact ⟨h.1, h.2, rfl⟩
set_option maxRecDepth 100000 in
theorem dbridges_any (Z : Nat) (F : Nat → Prop) (w : World) (db xb n : Nat) (es : List E) (hD : DkM Z F w db xb n es) (o : Option Addr) (m c : Nat) (l : List (List UInt8)) (hW : Wds w o m c l) :
  Calls Tryz.prog 59 #[.pointer (some ⟨db, 0, none⟩), .slice o m c] w (DkPost Z F w db (aBridges l n es)) := by
 have HN := Lib.hid (wds_nums hD.lib.lib hD.lib.err hW 0 (by omega))
 have HD := Lib.hid hD
 clear hW hD
 unfold aBridges
 go_enter Tryz.func59, Tryz.ntmps59
 go_wp2_with fail
 refine HN.out.mono ?_
 rintro e w1 ⟨hk1, ⟨vs, o', c', h0, -, -, rfl, -⟩ | ⟨hbad, rfl⟩⟩
 ·have HK1 := Lib.hid hk1
  have hD1 := HD.out.still hk1
  have d0 := hD1.row.cell (i := 0) rfl
  have HI := Lib.hid (ibridgesK_any F w1 xb n es hD1.ix (by have := hD1.ok.le; omega))
  have H0 := Lib.hid h0
  clear hk1 h0 hD1 HN
  go_wp2_with fail
  refine HI.out.mono ?_
  rintro e w2 ⟨bl, ob, cb, rfl, hS, hB, hk2, hl2⟩
  have hid : ∀ x, x ∈ bl → x < 9223372036854775808 := fun x hx => by
   obtain ⟨e, he, rfl, _⟩ := (hB.mem x).1 hx
   have := HD.out.ok.ok.small e he
   omega
  have hle := HD.out.ok.le
  obtain rfl := theBr_eq hB (Nat.le_trans (wordsT_len bl (by omega) hid) (by decide))
  have HJ := Lib.hid (djoin_any _ w2 (HD.out.lib.lib.keep (HK1.out.trans hk2)) ob _ cb (theBr es) hS (by omega) hid)
  have htl := wordsT_len (theBr es) (by omega) hid
  obtain ⟨tx, htx⟩ : ∃ tx, wordsT (theBr es) = tx := ⟨_, rfl⟩
  rw [htx] at HJ htl
  have HT := Lib.hid htx
  have HCAT : Hid ((⟨#[98, 114, 105, 100, 103, 101, 115, 32]⟩ : ByteArray) ++ bstr tx = bstr (tBridges ++ tx)) := Lib.hid (bs_cat tBridges tx)
  have HK2 := Lib.hid (HK1.out.trans hk2)
  clear hS hB hk2 hl2 hid hle htx HI d0
  go_wp2_with fail
  refine HJ.out.mono ?_
  rintro e w3 ⟨rfl, hk3⟩
  have HK3 := Lib.hid (HK2.out.trans hk3)
  have p1 : ¬ 9223372036854775807 < 8 + tx.length := by omega
  clear hk3 HJ
  go_wp2_with fail
  go_ret
  exact dk_ok (HD.out.same HK3.out) (by rw [noNums_ok H0.out, HT.out]) (congrArg Value.string HCAT.out)
 ·exact ⟨rfl, dk_bad HD.out hk1 (noNums_bad hbad)⟩
end Go.Proofs.YtfglkgkihafcpaaGreatDoor

namespace Go.Proofs.YtfglkgkihafcpaaGreatDoor
open Go.RowKit Pl Go.Maps
theorem listsT_len (ll : List (List Nat)) (hn : ll.length ≤ 100000) (hl : ∀ l, l ∈ ll → l.length ≤ 1000) (hb : ∀ l, l ∈ ll → ∀ x, x ∈ l → x < 9223372036854775808) : (listsT ll).length ≤ 2200200000 := by
 have h2 := join_len2 [44, 32] (ll.map wordsT) 22000 (fun y hy => by
  obtain ⟨x, hx, rfl⟩ := List.mem_map.1 hy
  exact wordsT_len x (hl x hx) (hb x hx))
 rw [List.length_map] at h2
 have h3 : (22000 + [44, 32].length) * ll.length ≤ 22002 * 100000 := Nat.mul_le_mul (by simp) hn
 unfold listsT
 omega
theorem alikeTo_bd (M : Nat → Nat) (x : Nat) (es : List E) : (alikeTo M x es).length ≤ es.length ∧ ∀ p, p ∈ alikeTo M x es → p.1 = x ∧ ∃ e, e ∈ es ∧ e.id = p.2 := by
 induction es with
 | nil => exact ⟨Nat.le_refl _, fun p hp => by cases hp⟩
 | cons f l ih =>
  rw [alikeTo_cons]
  split
  ·refine ⟨by simp only [List.length_append, List.length_cons, List.length_nil]; omega, fun p hp => ?_⟩
   rcases List.mem_append.1 hp with hp | hp
   ·rw [List.mem_singleton.1 hp]; exact ⟨rfl, f, by simp, rfl⟩
   ·obtain ⟨h1, e, he, h2⟩ := ih.2 p hp; exact ⟨h1, e, List.mem_cons_of_mem _ he, h2⟩
  ·refine ⟨by simp only [List.nil_append, List.length_cons]; omega, fun p hp => ?_⟩
   obtain ⟨h1, e, he, h2⟩ := ih.2 p (by simpa using hp); exact ⟨h1, e, List.mem_cons_of_mem _ he, h2⟩
theorem alikes_all (M : Nat → Nat) : ∀ es : List E, (alikes M es).length ≤ es.length * es.length ∧ ∀ p, p ∈ alikes M es → (∃ e, e ∈ es ∧ e.id = p.1) ∧ ∃ e, e ∈ es ∧ e.id = p.2
 | [] => ⟨Nat.le_refl _, fun p hp => by cases hp⟩
 | e :: l => by
  obtain ⟨h1, h2⟩ := alikes_all M l
  obtain ⟨g1, g2⟩ := alikeTo_bd M e.id l
  unfold alikes
  refine ⟨?_, fun p hp => ?_⟩
  ·simp only [List.length_append, List.length_cons]
   have : (l.length + 1) * (l.length + 1) = l.length * l.length + l.length + l.length + 1 := by rw [Nat.mul_add, Nat.add_mul]; omega
   omega
  ·rcases List.mem_append.1 hp with hp | hp
   ·obtain ⟨k1, f, hf, k2⟩ := g2 p hp
    exact ⟨⟨e, by simp, k1.symm⟩, f, List.mem_cons_of_mem _ hf, k2⟩
   ·obtain ⟨⟨f, hf, k1⟩, f', hf', k2⟩ := h2 p hp
    exact ⟨⟨f, List.mem_cons_of_mem _ hf, k1⟩, f', List.mem_cons_of_mem _ hf', k2⟩
theorem alikes_bd {n : Nat} {es : List E} (h : IOk n es) : (alikes (mk es) es).length ≤ 100000 ∧ ∀ p, p ∈ alikes (mk es) es → p.1 < 9223372036854775808 ∧ p.2 < 9223372036854775808 := by
 obtain ⟨h1, h2⟩ := alikes_all (mk es) es
 refine ⟨Nat.le_trans h1 (Nat.le_trans (Nat.mul_le_mul h.le h.le) (by decide)), fun p hp => ?_⟩
 obtain ⟨⟨e, he, k1⟩, f, hf, k2⟩ := h2 p hp
 have := h.ok.small e he
 have := h.ok.small f hf
 omega
theorem twos_len (L : List (Nat × Nat)) (hn : L.length ≤ 100000) (hb : ∀ p, p ∈ L → p.1 < 9223372036854775808 ∧ p.2 < 9223372036854775808) : (listsT (twoL L)).length ≤ 2200200000 := by
 refine listsT_len (twoL L) (by unfold twoL; rw [List.length_map]; exact hn) (fun l hl => ?_) (fun l hl x hx => ?_)
 ·obtain ⟨p, _, rfl⟩ := List.mem_map.1 hl; simp
 ·obtain ⟨p, hp, rfl⟩ := List.mem_map.1 hl
  have := hb p hp
  simp at hx
  rcases hx with rfl | rfl
  ·exact this.1
  ·exact this.2
theorem allS_bd (f : Nat → Nat → Bool) {n : Nat} (hn : n ≤ 40) : (allS f n n).length ≤ 100000 ∧ ∀ p, p ∈ allS f n n → p.1 < 9223372036854775808 ∧ p.2 < 9223372036854775808 := by
 refine ⟨allS_len f n hn, fun p hp => ?_⟩
 unfold allS at hp
 obtain ⟨x, hx, hp⟩ := List.mem_flatMap.1 hp
 unfold rowS at hp
 obtain ⟨y, hy, rfl⟩ := List.mem_map.1 hp
 have h1 := List.mem_range.1 hx
 have h2 := List.mem_range.1 (List.mem_filter.1 hy).1
 dsimp only
 omega
set_option maxRecDepth 100000 in
theorem dcuts_any (Z : Nat) (F : Nat → Prop) (w : World) (db xb n : Nat) (es : List E) (hD : DkM Z F w db xb n es) (o : Option Addr) (m c : Nat) (l : List (List UInt8)) (hW : Wds w o m c l) :
  Calls Tryz.prog 60 #[.pointer (some ⟨db, 0, none⟩), .slice o m c] w (DkPost Z F w db (aCuts l n es)) := by
 have HN := Lib.hid (wds_nums hD.lib.lib hD.lib.err hW 0 (by omega))
 have HD := Lib.hid hD
 clear hW hD
 unfold aCuts
 go_enter Tryz.func60, Tryz.ntmps60
 go_wp2_with fail
 refine HN.out.mono ?_
 rintro e w1 ⟨hk1, ⟨vs, o', c', h0, -, -, rfl, -⟩ | ⟨hbad, rfl⟩⟩
 ·have HK1 := Lib.hid hk1
  have hD1 := HD.out.still hk1
  have d0 := hD1.row.cell (i := 0) rfl
  have HI := Lib.hid (iCuts_any F w1 xb n es hD1.ix hD1.ok)
  have H0 := Lib.hid h0
  clear hk1 h0 hD1 HN
  go_wp2_with fail
  refine HI.out.mono ?_
  rintro e w2 ⟨cs, ob, cb, q1, q2, rfl, hS, hl2, hst⟩
  have hid : ∀ x, x ∈ cs → x < 9223372036854775808 := fun x hx => by
   have := (q1 x).1 hx
   have := HD.out.ok.n40
   omega
  obtain rfl := theCuts_eq q1 q2 (Nat.le_trans (wordsT_len cs (by omega) hid) (by decide))
  have HJ := Lib.hid (djoin_any _ w2 (((HD.out.lib.keep HK1.out (fun _ e => e.elim)).keep hst.2 HD.out.lo).lib) ob _ cb (theCuts n es) hS (by omega) hid)
  have htl := wordsT_len (theCuts n es) (by omega) hid
  obtain ⟨tx, htx⟩ : ∃ tx, wordsT (theCuts n es) = tx := ⟨_, rfl⟩
  rw [htx] at HJ htl
  have HT := Lib.hid htx
  have HCAT : Hid ((⟨#[99, 117, 116, 115, 32]⟩ : ByteArray) ++ bstr tx = bstr (tCuts ++ tx)) := Lib.hid (bs_cat tCuts tx)
  have HST := Lib.hid hst
  clear hS q1 q2 hst hl2 hid htx HI d0
  go_wp2_with fail
  refine HJ.out.mono ?_
  rintro e w3 ⟨rfl, hk3⟩
  have HK3 := Lib.hid (HD.out.stay HK1.out HST.out hk3)
  have p1 : ¬ 9223372036854775807 < 5 + tx.length := by omega
  clear hk3 HJ
  go_wp2_with fail
  go_ret
  exact dk_ok HK3.out (by rw [noNums_ok H0.out, HT.out]) (congrArg Value.string HCAT.out)
 ·exact ⟨rfl, dk_bad HD.out hk1 (noNums_bad hbad)⟩
set_option maxRecDepth 100000 in
theorem dblocks_any (Z : Nat) (F : Nat → Prop) (w : World) (db xb n : Nat) (es : List E) (hD : DkM Z F w db xb n es) (o : Option Addr) (m c : Nat) (l : List (List UInt8)) (hW : Wds w o m c l) :
  Calls Tryz.prog 58 #[.pointer (some ⟨db, 0, none⟩), .slice o m c] w (DkPost Z F w db (aBlocks l n es)) := by
 have HN := Lib.hid (wds_nums hD.lib.lib hD.lib.err hW 0 (by omega))
 have HD := Lib.hid hD
 clear hW hD
 unfold aBlocks
 go_enter Tryz.func58, Tryz.ntmps58
 go_wp2_with fail
 refine HN.out.mono ?_
 rintro e w1 ⟨hk1, ⟨vs, o', c', h0, -, -, rfl, -⟩ | ⟨hbad, rfl⟩⟩
 ·have HK1 := Lib.hid hk1
  have hD1 := HD.out.still hk1
  have d0 := hD1.row.cell (i := 0) rfl
  have HI := Lib.hid (iBlocks_any F w1 xb n es hD1.ix hD1.ok)
  have H0 := Lib.hid h0
  clear hk1 h0 hD1 HN
  go_wp2_with fail
  refine HI.out.mono ?_
  rintro e w2 ⟨ps, ob, cb, rows, q1, rfl, hS, hst⟩
  have hbd := blk_lens HD.out.ok q1
  have hid : ∀ l, l ∈ ps → ∀ x, x ∈ l → x < 9223372036854775808 := fun l hl x hx => by
   obtain ⟨e, he, rfl⟩ := (q1.ids x).1 (List.mem_flatten.2 ⟨l, hl, hx⟩)
   have := HD.out.ok.ok.small e he
   omega
  obtain rfl := theBlk_eq q1 (listsT_len ps (by omega) (fun l hl => by have := hbd.2 l hl; omega) hid)
  have HJ := Lib.hid (dlists_any _ w2 (((HD.out.lib.keep HK1.out (fun _ e => e.elim)).keep hst.2 HD.out.lo).lib) ob _ cb rows (theBlk es) hS (by omega) (fun l hl => by have := hbd.2 l hl; omega) hid)
  have htl := listsT_len (theBlk es) (by omega) (fun l hl => by have := hbd.2 l hl; omega) hid
  obtain ⟨tx, htx⟩ : ∃ tx, listsT (theBlk es) = tx := ⟨_, rfl⟩
  rw [htx] at HJ htl
  have HT := Lib.hid htx
  have HCAT : Hid ((⟨#[98, 108, 111, 99, 107, 115, 32]⟩ : ByteArray) ++ bstr tx = bstr (tBlocks ++ tx)) := Lib.hid (bs_cat tBlocks tx)
  have HST := Lib.hid hst
  clear hS q1 hst hbd hid htx HI d0
  go_wp2_with fail
  refine HJ.out.mono ?_
  rintro e w3 ⟨rfl, hk3⟩
  have HK3 := Lib.hid (HD.out.stay HK1.out HST.out hk3)
  have p1 : ¬ 9223372036854775807 < 7 + tx.length := by omega
  clear hk3 HJ
  go_wp2_with fail
  go_ret
  exact dk_ok HK3.out (by rw [noNums_ok H0.out, HT.out]) (congrArg Value.string HCAT.out)
 ·exact ⟨rfl, dk_bad HD.out hk1 (noNums_bad hbad)⟩
set_option maxRecDepth 100000 in
theorem dthrice_any (Z : Nat) (F : Nat → Prop) (w : World) (db xb n : Nat) (es : List E) (hD : DkM Z F w db xb n es) (o : Option Addr) (m c : Nat) (l : List (List UInt8)) (hW : Wds w o m c l) :
  Calls Tryz.prog 67 #[.pointer (some ⟨db, 0, none⟩), .slice o m c] w (DkPost Z F w db (aThrice l n es)) := by
 have HN := Lib.hid (wds_nums hD.lib.lib hD.lib.err hW 0 (by omega))
 have HD := Lib.hid hD
 clear hW hD
 unfold aThrice
 go_enter Tryz.func67, Tryz.ntmps67
 go_wp2_with fail
 refine HN.out.mono ?_
 rintro e w1 ⟨hk1, ⟨vs, o', c', h0, -, -, rfl, -⟩ | ⟨hbad, rfl⟩⟩
 ·have HK1 := Lib.hid hk1
  have hD1 := HD.out.still hk1
  have d0 := hD1.row.cell (i := 0) rfl
  have HI := Lib.hid (iThrice_any F w1 xb n es hD1.ix hD1.ok)
  have H0 := Lib.hid h0
  clear hk1 h0 hD1 HN
  go_wp2_with fail
  refine HI.out.mono ?_
  rintro e w2 ⟨T, ob, mb, cb, rows, q1, q2, rfl, hS, hst⟩
  have hbd : (parts n T).length ≤ 1000 ∧ ∀ l, l ∈ parts n T → l.length ≤ 1000 := by
   have := HD.out.ok.n40
   refine ⟨Nat.le_trans (parts_len_le n T) (by omega), fun l hl => ?_⟩
   rw [parts_eq] at hl
   obtain ⟨r, _, rfl⟩ := List.mem_map.1 hl
   exact Nat.le_trans (List.length_filter_le _ _) (by simp; omega)
  have hid : ∀ l, l ∈ parts n T → ∀ x, x ∈ l → x < 9223372036854775808 := fun l hl x hx => by
   rw [parts_eq] at hl
   obtain ⟨r, _, rfl⟩ := List.mem_map.1 hl
   have := List.mem_range.1 (List.mem_filter.1 hx).1
   have := HD.out.ok.n40
   omega
  have hmb := hS.n_eq
  have hth : parts n T = theThr n es := theThr_eq ⟨T, q1, q2, rfl⟩ (listsT_len _ (by omega) (fun l hl => by have := hbd.2 l hl; omega) hid)
  rw [hth] at hS hbd hid hmb
  have HJ := Lib.hid (dlists_any _ w2 (((HD.out.lib.keep HK1.out (fun _ e => e.elim)).keep hst.2 HD.out.lo).lib) ob mb cb rows (theThr n es) hS (by omega) (fun l hl => by have := hbd.2 l hl; omega) hid)
  have htl := listsT_len (theThr n es) (by omega) (fun l hl => by have := hbd.2 l hl; omega) hid
  obtain ⟨tx, htx⟩ : ∃ tx, listsT (theThr n es) = tx := ⟨_, rfl⟩
  rw [htx] at HJ htl
  have HT := Lib.hid htx
  have HCAT : Hid ((⟨#[116, 104, 114, 105, 99, 101, 32]⟩ : ByteArray) ++ bstr tx = bstr (tThrice ++ tx)) := Lib.hid (bs_cat tThrice tx)
  have HST := Lib.hid hst
  clear hS q1 q2 hst hbd hid htx HI d0 hth hmb
  go_wp2_with fail
  refine HJ.out.mono ?_
  rintro e w3 ⟨rfl, hk3⟩
  have HK3 := Lib.hid (HD.out.stay HK1.out HST.out hk3)
  have p1 : ¬ 9223372036854775807 < 7 + tx.length := by omega
  clear hk3 HJ
  go_wp2_with fail
  go_ret
  exact dk_ok HK3.out (by rw [noNums_ok H0.out, HT.out]) (congrArg Value.string HCAT.out)
 ·exact ⟨rfl, dk_bad HD.out hk1 (noNums_bad hbad)⟩
set_option maxRecDepth 100000 in
theorem dpairs_any (Z : Nat) (F : Nat → Prop) (w : World) (db xb n : Nat) (es : List E) (hD : DkM Z F w db xb n es) (o : Option Addr) (m c : Nat) (l : List (List UInt8)) (hW : Wds w o m c l) :
  Calls Tryz.prog 64 #[.pointer (some ⟨db, 0, none⟩), .slice o m c] w (DkPost Z F w db (aPairs l n es)) := by
 have HN := Lib.hid (wds_nums hD.lib.lib hD.lib.err hW 0 (by omega))
 have HD := Lib.hid hD
 clear hW hD
 unfold aPairs
 go_enter Tryz.func64, Tryz.ntmps64
 go_wp2_with fail
 refine HN.out.mono ?_
 rintro e w1 ⟨hk1, ⟨vs, o', c', h0, -, -, rfl, -⟩ | ⟨hbad, rfl⟩⟩
 ·have HK1 := Lib.hid hk1
  have hD1 := HD.out.still hk1
  have d0 := hD1.row.cell (i := 0) rfl
  have HI := Lib.hid (iPairs_any F w1 xb n es hD1.ix hD1.ok)
  have H0 := Lib.hid h0
  obtain ⟨L, hL⟩ : ∃ L, alikes (mk es) es = L := ⟨_, rfl⟩
  have hpl : L.length ≤ 100000 ∧ ∀ p, p ∈ L → p.1 < 9223372036854775808 ∧ p.2 < 9223372036854775808 := by rw [← hL]; exact alikes_bd HD.out.ok
  rw [hL] at HI
  have HLL := Lib.hid hL
  clear hk1 h0 hD1 HN hL
  go_wp2_with fail
  refine HI.out.mono ?_
  rintro e w2 ⟨ob, cb, rfl, hS, hst⟩
  have HJ := Lib.hid (dtwos_any _ w2 (((HD.out.lib.keep HK1.out (fun _ e => e.elim)).keep hst.2 HD.out.lo).lib) ob _ cb L hS rfl hpl.1 hpl.2)
  have htl := twos_len L hpl.1 hpl.2
  obtain ⟨tx, htx⟩ : ∃ tx, listsT (twoL L) = tx := ⟨_, rfl⟩
  rw [htx] at HJ htl
  have HT := Lib.hid htx
  have HCAT : Hid ((⟨#[112, 97, 105, 114, 115, 32]⟩ : ByteArray) ++ bstr tx = bstr (tPairs ++ tx)) := Lib.hid (bs_cat tPairs tx)
  have HST := Lib.hid hst
  clear hS hst hpl htx HI d0
  go_wp2_with fail
  refine HJ.out.mono ?_
  rintro e w3 ⟨rfl, hk3⟩
  have HK3 := Lib.hid (HD.out.stay HK1.out HST.out hk3)
  have p1 : ¬ 9223372036854775807 < 6 + tx.length := by omega
  clear hk3 HJ
  go_wp2_with fail
  go_ret
  exact dk_ok HK3.out (by rw [noNums_ok H0.out, HLL.out, HT.out]) (congrArg Value.string HCAT.out)
 ·exact ⟨rfl, dk_bad HD.out hk1 (noNums_bad hbad)⟩
set_option maxRecDepth 100000 in
theorem dsplits_any (Z : Nat) (F : Nat → Prop) (w : World) (db xb n : Nat) (es : List E) (hD : DkM Z F w db xb n es) (o : Option Addr) (m c : Nat) (l : List (List UInt8)) (hW : Wds w o m c l) :
  Calls Tryz.prog 66 #[.pointer (some ⟨db, 0, none⟩), .slice o m c] w (DkPost Z F w db (aSplits l n es)) := by
 have HN := Lib.hid (wds_nums hD.lib.lib hD.lib.err hW 0 (by omega))
 have HD := Lib.hid hD
 clear hW hD
 unfold aSplits
 go_enter Tryz.func66, Tryz.ntmps66
 go_wp2_with fail
 refine HN.out.mono ?_
 rintro e w1 ⟨hk1, ⟨vs, o', c', h0, -, -, rfl, -⟩ | ⟨hbad, rfl⟩⟩
 ·have HK1 := Lib.hid hk1
  have hD1 := HD.out.still hk1
  have d0 := hD1.row.cell (i := 0) rfl
  have HI := Lib.hid (iSplits_any F w1 xb n es hD1.ix hD1.ok)
  unfold ISplitsPost at HI
  have H0 := Lib.hid h0
  obtain ⟨L, hL⟩ : ∃ L, allS (splitsB n es) n n = L := ⟨_, rfl⟩
  have hpl : L.length ≤ 100000 ∧ ∀ p, p ∈ L → p.1 < 9223372036854775808 ∧ p.2 < 9223372036854775808 := by rw [← hL]; exact allS_bd (splitsB n es) HD.out.ok.n40
  rw [hL] at HI
  have HLL := Lib.hid hL
  clear hk1 h0 hD1 HN hL
  go_wp2_with fail
  refine HI.out.mono ?_
  rintro e w2 ⟨ob, cb, rfl, hS, hst⟩
  have HJ := Lib.hid (dtwos_any _ w2 (((HD.out.lib.keep HK1.out (fun _ e => e.elim)).keep hst.2 HD.out.lo).lib) ob _ cb L hS rfl hpl.1 hpl.2)
  have htl := twos_len L hpl.1 hpl.2
  obtain ⟨tx, htx⟩ : ∃ tx, listsT (twoL L) = tx := ⟨_, rfl⟩
  rw [htx] at HJ htl
  have HT := Lib.hid htx
  have HCAT : Hid ((⟨#[115, 112, 108, 105, 116, 115, 32]⟩ : ByteArray) ++ bstr tx = bstr (tSplits ++ tx)) := Lib.hid (bs_cat tSplits tx)
  have HST := Lib.hid hst
  clear hS hst hpl htx HI d0
  go_wp2_with fail
  refine HJ.out.mono ?_
  rintro e w3 ⟨rfl, hk3⟩
  have HK3 := Lib.hid (HD.out.stay HK1.out HST.out hk3)
  have p1 : ¬ 9223372036854775807 < 7 + tx.length := by omega
  clear hk3 HJ
  go_wp2_with fail
  go_ret
  exact dk_ok HK3.out (by rw [noNums_ok H0.out, HLL.out, HT.out]) (congrArg Value.string HCAT.out)
 ·exact ⟨rfl, dk_bad HD.out hk1 (noNums_bad hbad)⟩
end Go.Proofs.YtfglkgkihafcpaaGreatDoor

