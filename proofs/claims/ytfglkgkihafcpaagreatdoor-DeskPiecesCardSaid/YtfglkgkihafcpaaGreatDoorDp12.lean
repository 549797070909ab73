/- Part 12 of the proof: P3. -/
import Derived.Test.YtfglkgkihafcpaaGreatDoorDp04
import Derived.Test.YtfglkgkihafcpaaGreatDoorDp11
set_option linter.unusedVariables false
set_option linter.unusedSimpArgs false
namespace Go.Proofs.YtfglkgkihafcpaaGreatDoor.Pl
def Inj (es : List E) : Prop := ∀ e f, e ∈ es → f ∈ es → e.id = f.id → e = f
theorem Conn.of_sub {es fs : List E} (h : ∀ e, e ∈ es → e ∈ fs) {x y : Nat} (c : Conn (ends es) x y) : Conn (ends fs) x y := c.mono (ends_sub h)
theorem Conn.of_edge {es : List E} {e : E} (h : e ∈ es) : Conn (ends es) e.a e.b := Conn.of_mem (mem_ends h)
theorem Conn.via {es fs : List E} (h : ∀ e, e ∈ es → Conn (ends fs) e.a e.b) {x y : Nat} (c : Conn (ends es) x y) : Conn (ends fs) x y :=
 c.ind (Conn.refl _) (fun _ _ h => h.symm) (fun _ _ _ h g => h.trans g) fun e he => by
  obtain ⟨f, hf, rfl⟩ := List.mem_map.1 he
  exact h f hf
structure Spans (es tr : List E) : Prop where
 inj : Inj es
 sub : ∀ e, e ∈ tr → e ∈ es
 conn : ∀ e, e ∈ es → Conn (ends tr) e.a e.b
 free : ∀ f, f ∈ tr → ¬ Conn (ends (sans tr [f.id])) f.a f.b
def OnR (tr : List E) (e : E) (id : Nat) : Prop := id = e.id ∨ ¬ Conn (ends (sans tr [id])) e.a e.b
instance (tr : List E) (e : E) (id : Nat) : Decidable (OnR tr e id) := inferInstanceAs (Decidable (_ ∨ _))
theorem Spans.nil : Spans [] [] := ⟨fun _ _ h => (by cases h), fun _ h => h, fun _ h => (by cases h), fun _ h => (by cases h)⟩
theorem Spans.tree {es tr : List E} (h : Spans es tr) {e : E} (hid : ∀ f, f ∈ es → f.id ≠ e.id) (hn : ¬ Conn (ends tr) e.a e.b) : Spans (es ++ [e]) (tr ++ [e]) := by
 have inj : Inj (es ++ [e]) := fun f g hf hg hfg => by
  rcases List.mem_append.1 hf with hf | hf <;> rcases List.mem_append.1 hg with hg | hg
  ·exact h.inj f g hf hg hfg
  ·rw [List.mem_singleton] at hg; rw [hg] at hfg; exact absurd hfg (hid f hf)
  ·rw [List.mem_singleton] at hf; rw [hf] at hfg; exact absurd hfg.symm (hid g hg)
  ·rw [List.mem_singleton] at hf hg; rw [hf, hg]
 refine ⟨inj, fun f hf => ?_, fun f hf => ?_, fun f hf => ?_⟩
 ·rcases List.mem_append.1 hf with hf | hf
  ·exact List.mem_append_left _ (h.sub f hf)
  ·exact List.mem_append_right _ hf
 ·rcases List.mem_append.1 hf with hf | hf
  ·exact (h.conn f hf).of_sub fun g hg => List.mem_append_left _ hg
  ·exact Conn.of_edge (List.mem_append_right _ hf)
 ·rcases List.mem_append.1 hf with hf | hf
  ·intro c
   have c2 : Conn (ends (sans tr [f.id] ++ [e])) f.a f.b := c.of_sub fun g hg => by
    obtain ⟨h1, h2⟩ := mem_sans1.1 hg
    rcases List.mem_append.1 h1 with h1 | h1
    ·exact List.mem_append_left _ (mem_sans1.2 ⟨h1, h2⟩)
    ·exact List.mem_append_right _ h1
   have up : ∀ {x y : Nat}, Conn (ends (sans tr [f.id])) x y → Conn (ends tr) x y := fun c => c.of_sub sans_sub
   have ff := Conn.of_edge hf
   rw [ends_snoc, Conn.snoc_iff] at c2
   rcases c2 with c2 | ⟨c3 | c3, c4 | c4⟩
   ·exact h.free f hf c2
   ·exact h.free f hf (c3.trans c4.symm)
   ·exact hn (((up c3).symm.trans ff).trans (up c4))
   ·exact hn (((up c4).symm.trans ff.symm).trans (up c3))
   ·exact h.free f hf (c3.trans c4.symm)
  ·rw [List.mem_singleton] at hf
   subst hf
   intro c
   exact hn (c.of_sub fun g hg => by
    obtain ⟨h1, h2⟩ := mem_sans1.1 hg
    rcases List.mem_append.1 h1 with h1 | h1
    ·exact h1
    ·rw [List.mem_singleton] at h1; rw [h1] at h2; exact absurd rfl h2)
theorem Spans.rest {es tr : List E} (h : Spans es tr) {e : E} (hid : ∀ f, f ∈ es → f.id ≠ e.id) (hc : Conn (ends tr) e.a e.b) : Spans (es ++ [e]) tr := by
 have inj : Inj (es ++ [e]) := fun f g hf hg hfg => by
  rcases List.mem_append.1 hf with hf | hf <;> rcases List.mem_append.1 hg with hg | hg
  ·exact h.inj f g hf hg hfg
  ·rw [List.mem_singleton] at hg; rw [hg] at hfg; exact absurd hfg (hid f hf)
  ·rw [List.mem_singleton] at hf; rw [hf] at hfg; exact absurd hfg.symm (hid g hg)
  ·rw [List.mem_singleton] at hf hg; rw [hf, hg]
 refine ⟨inj, fun f hf => List.mem_append_left _ (h.sub f hf), fun f hf => ?_, h.free⟩
 rcases List.mem_append.1 hf with hf | hf
 ·exact h.conn f hf
 ·rw [List.mem_singleton] at hf; subst hf; exact hc
namespace Spans
variable {es tr : List E}
theorem injT (h : Spans es tr) : Inj tr := fun e f he hf => h.inj e f (h.sub e he) (h.sub f hf)
theorem whole (h : Spans es tr) {x y : Nat} : Conn (ends es) x y ↔ Conn (ends tr) x y := ⟨Conn.via h.conn, Conn.of_sub h.sub⟩
theorem sans_none {id : Nat} (hn : ∀ f, f ∈ tr → f.id ≠ id) {x y : Nat} : Conn (ends (sans tr [id])) x y ↔ Conn (ends tr) x y :=
 ⟨Conn.of_sub sans_sub, Conn.of_sub fun f hf => mem_sans1.2 ⟨hf, hn f hf⟩⟩
theorem rest_id (h : Spans es tr) {e : E} (he : e ∈ es) (hr : e ∉ tr) : ∀ f, f ∈ tr → f.id ≠ e.id := fun f hf hh => hr ((h.inj f e (h.sub f hf) he hh) ▸ hf)
end Spans
end Go.Proofs.YtfglkgkihafcpaaGreatDoor.Pl
namespace Go.Proofs.YtfglkgkihafcpaaGreatDoor.Pl
namespace BInv
variable {n : Nat} {es : List E} {T : Nat → Nat} {up : Nat → Option (Nat × Nat)}
theorem ids_iff (h : BInv n es T up) {id : Nat} : Ids up id ↔ ∃ e, e ∈ es ∧ e.id = id ∧ ¬ Conn (ends (sans es [e.id])) e.a e.b := by
 constructor
 ·rintro ⟨p, s, hp, rfl⟩
  obtain ⟨e, he, hid, _⟩ := h.edge p s hp
  exact ⟨e, he, hid, (h.bridge_iff he).2 ⟨p, s, hp, hid.symm⟩⟩
 ·rintro ⟨e, he, rfl, hc⟩
  exact (h.bridge_iff he).1 hc
end BInv
end Go.Proofs.YtfglkgkihafcpaaGreatDoor.Pl
namespace Go.Proofs.YtfglkgkihafcpaaGreatDoor.Pl
theorem pos_split {es : List E} (hs : Sorted es) (t : Int) : (∀ k e, k < posOf es t → es[k]? = some e → (e.id : Int) < t) ∧ (∀ k e, posOf es t ≤ k → es[k]? = some e → t ≤ (e.id : Int)) := by
 induction es with
 | nil => exact ⟨fun k e _ h => by simp at h, fun k e _ h => by simp at h⟩
 | cons f es ih =>
  have hs' : Sorted es := (List.pairwise_cons.1 hs).2
  have hf := (List.pairwise_cons.1 hs).1
  obtain ⟨h1, h2⟩ := ih hs'
  rw [posOf_cons]
  by_cases hft : (f.id : Int) < t
  ·rw [if_pos hft]
   refine ⟨fun k e hk he => ?_, fun k e hk he => ?_⟩
   ·cases k with
    | zero => simp at he; subst he; exact hft
    | succ k => exact h1 k e (by omega) (by simpa using he)
   ·cases k with
    | zero => omega
    | succ k => exact h2 k e (by omega) (by simpa using he)
  ·rw [if_neg hft]
   have h0 : posOf es t = 0 := by
    unfold posOf
    rw [List.countP_eq_zero]
    intro e he
    have := hf e he
    simp; omega
   rw [h0]
   refine ⟨fun k e hk _ => by omega, fun k e _ he => ?_⟩
   cases k with
   | zero => simp at he; subst he; omega
   | succ k => have := hf e (List.mem_of_getElem? (by simpa using he)); omega
theorem mem_take_get {α : Type} {l : List α} {i : Nat} {x : α} (h : x ∈ l.take i) : ∃ k, k < i ∧ l[k]? = some x := by
 obtain ⟨k, hk⟩ := List.mem_iff_getElem?.1 h
 rw [List.getElem?_take] at hk
 split at hk
 ·exact ⟨k, by assumption, hk⟩
 ·cases hk
theorem mem_drop_get {α : Type} {l : List α} {i : Nat} {x : α} (h : x ∈ l.drop i) : ∃ k, i ≤ k ∧ l[k]? = some x := by
 obtain ⟨k, hk⟩ := List.mem_iff_getElem?.1 h
 rw [List.getElem?_drop] at hk
 exact ⟨i + k, by omega, hk⟩
theorem sorted_ins {es : List E} (hs : Sorted es) (e : E) (hh : hasId es e.id = false) : Sorted (es.take (posOf es e.id) ++ e :: es.drop (posOf es e.id)) := by
 obtain ⟨h1, h2⟩ := pos_split hs (e.id : Int)
 have hne : ∀ f, f ∈ es → f.id ≠ e.id := by
  intro f hf h
  simp only [hasId, List.any_eq_false, decide_eq_true_eq] at hh
  exact hh f hf (by omega)
 unfold Sorted
 rw [List.pairwise_append]
 refine ⟨hs.sublist (List.take_sublist _ _), ?_, ?_⟩
 ·rw [List.pairwise_cons]
  refine ⟨fun f hf => ?_, hs.sublist (List.drop_sublist _ _)⟩
  obtain ⟨k, hk, hfk⟩ := mem_drop_get hf
  have a := h2 k f hk hfk
  have b := hne f (List.mem_of_getElem? hfk)
  omega
 ·intro f hf g hg
  obtain ⟨k, hk, hfk⟩ := mem_take_get hf
  have a := h1 k f hk hfk
  rcases List.mem_cons.1 hg with rfl | hg
  ·omega
  ·obtain ⟨j, hj, hgj⟩ := mem_drop_get hg
   have b := h2 j g hj hgj
   omega
end Go.Proofs.YtfglkgkihafcpaaGreatDoor.Pl
namespace Go.Proofs.YtfglkgkihafcpaaGreatDoor.Pl
def told (l : Nat → Nat) (a b : Nat) : Nat → Nat := upd (upd l a (min (l a) (l b))) b (min (l a) (l b))
end Go.Proofs.YtfglkgkihafcpaaGreatDoor.Pl
namespace Go.Proofs.YtfglkgkihafcpaaGreatDoor.Pl
theorem hasId_iff {es : List E} {t : Int} : hasId es t = true ↔ ∃ e, e ∈ es ∧ (e.id : Int) = t := by
 simp [hasId]
theorem sorted_inj {es : List E} (h : Sorted es) : ∀ e f, e ∈ es → f ∈ es → e.id = f.id → e = f := by
 intro e f he hf hid
 obtain ⟨i, hi⟩ := List.mem_iff_getElem?.1 he
 obtain ⟨j, hj⟩ := List.mem_iff_getElem?.1 hf
 rcases Nat.lt_trichotomy i j with g | g | g
 ·have := h.lt hi hj g; omega
 ·subst g; rw [hi] at hj; exact Option.some.inj hj
 ·have := h.lt hj hi g; omega
end Go.Proofs.YtfglkgkihafcpaaGreatDoor.Pl
namespace Go.Proofs.YtfglkgkihafcpaaGreatDoor.Pl
def PartsP (n a b : Nat) (X Y B : Nat → Nat) : Prop :=
 ∃ k l, k < n ∧ l < n ∧ k ≠ a ∧ k ≠ b ∧ l ≠ a ∧ l ≠ b ∧ X k = X l ∧ Y k = Y l ∧ B k ≠ B l
def PInv (i a b : Nat) (X Y B : Nat → Nat) (get : Nat × Nat → Option Nat) : Prop :=
 (∀ k, k < i → k ≠ a → k ≠ b → get (X k, Y k) = some (B k)) ∧
 (∀ p v, get p = some v → ∃ k, k < i ∧ k ≠ a ∧ k ≠ b ∧ (X k, Y k) = p ∧ v = B k)
theorem PInv.none {i a b : Nat} {X Y B : Nat → Nat} {get : Nat × Nat → Option Nat} (h : PInv i a b X Y B get) : ¬ PartsP i a b X Y B := by
 rintro ⟨k, l, hk, hl, ka, kb, la, lb, hX, hY, hB⟩
 have h1 := h.1 k hk ka kb
 have h2 := h.1 l hl la lb
 rw [hX, hY, h2] at h1
 exact hB (Option.some.inj h1).symm
theorem PInv.skip {i a b : Nat} {X Y B : Nat → Nat} {get : Nat × Nat → Option Nat} (h : PInv i a b X Y B get) (hi : i = a ∨ i = b) : PInv (i + 1) a b X Y B get := by
 refine ⟨fun k hk ka kb => h.1 k (by rcases hi with e | e <;> omega) ka kb, fun p v hv => ?_⟩
 obtain ⟨k, hk, r⟩ := h.2 p v hv
 exact ⟨k, by omega, r⟩
theorem PInv.same {i a b : Nat} {X Y B : Nat → Nat} {get : Nat × Nat → Option Nat} (h : PInv i a b X Y B get) (hg : get (X i, Y i) = some (B i)) : PInv (i + 1) a b X Y B get := by
 refine ⟨fun k hk ka kb => ?_, fun p v hv => ?_⟩
 ·by_cases e : k = i
  ·subst e; exact hg
  ·exact h.1 k (by omega) ka kb
 ·obtain ⟨k, hk, r⟩ := h.2 p v hv
  exact ⟨k, by omega, r⟩
theorem PInv.new {i a b : Nat} {X Y B : Nat → Nat} {get get' : Nat × Nat → Option Nat} (h : PInv i a b X Y B get) (ia : i ≠ a) (ib : i ≠ b) (hg : get (X i, Y i) = Option.none)
  (hs : ∀ p, get' p = if p = (X i, Y i) then some (B i) else get p) : PInv (i + 1) a b X Y B get' := by
 refine ⟨fun k hk ka kb => ?_, fun p v hv => ?_⟩
 ·rw [hs]
  by_cases e : (X k, Y k) = (X i, Y i)
  ·rw [if_pos e]
   by_cases e2 : k = i
   ·rw [e2]
   ·have := h.1 k (by omega) ka kb
    rw [e, hg] at this; cases this
  ·rw [if_neg e]
   exact h.1 k (by rcases Nat.lt_or_ge k i with h | h; exact h; exact absurd (by rw [show k = i by omega]) e) ka kb
 ·rw [hs] at hv
  by_cases e : p = (X i, Y i)
  ·rw [if_pos e] at hv
   exact ⟨i, by omega, ia, ib, e.symm, (Option.some.inj hv).symm⟩
  ·rw [if_neg e] at hv
   obtain ⟨k, hk, r⟩ := h.2 p v hv
   exact ⟨k, by omega, r⟩
theorem PInv.found {i n a b v : Nat} {X Y B : Nat → Nat} {get : Nat × Nat → Option Nat} (h : PInv i a b X Y B get) (hi : i < n) (ia : i ≠ a) (ib : i ≠ b) (hg : get (X i, Y i) = some v) (hv : v ≠ B i) : PartsP n a b X Y B := by
 obtain ⟨k, hk, ka, kb, e, ev⟩ := h.2 _ _ hg
 rw [Prod.mk.injEq] at e
 exact ⟨k, i, by omega, hi, ka, kb, ia, ib, e.1, e.2, fun h => hv (ev.trans h)⟩
end Go.Proofs.YtfglkgkihafcpaaGreatDoor.Pl
namespace Go.Proofs.YtfglkgkihafcpaaGreatDoor.Pl
def partsB (n a b : Nat) (X Y B : Nat → Nat) : Bool :=
 (List.range n).any fun k => (List.range n).any fun l => decide (k ≠ a ∧ k ≠ b ∧ l ≠ a ∧ l ≠ b ∧ X k = X l ∧ Y k = Y l ∧ B k ≠ B l)
theorem partsB_iff {n a b : Nat} {X Y B : Nat → Nat} : partsB n a b X Y B = true ↔ PartsP n a b X Y B := by
 unfold partsB PartsP
 simp only [List.any_eq_true, List.mem_range, decide_eq_true_eq]
 constructor
 ·rintro ⟨k, hk, l, hl, r⟩; exact ⟨k, l, hk, hl, r⟩
 ·rintro ⟨k, l, hk, hl, r⟩; exact ⟨k, hk, l, hl, r⟩
def rowS (P : Nat → Nat → Bool) (a b : Nat) : List (Nat × Nat) := ((List.range b).filter (fun x => decide (a < x) && P a x)).map fun x => (a, x)
def allS (P : Nat → Nat → Bool) (n a : Nat) : List (Nat × Nat) := (List.range a).flatMap fun x => rowS P x n
theorem rowS_start (P : Nat → Nat → Bool) (a : Nat) : rowS P a (a + 1) = [] := by
 unfold rowS
 rw [List.map_eq_nil_iff, List.filter_eq_nil_iff]
 intro x hx
 have := List.mem_range.1 hx
 simp; omega
theorem rowS_succ (P : Nat → Nat → Bool) {a b : Nat} (h : a < b) : rowS P a (b + 1) = rowS P a b ++ (if P a b then [(a, b)] else []) := by
 unfold rowS
 rw [List.range_succ, List.filter_append, List.map_append]
 congr 1
 by_cases hp : P a b = true <;> simp [h, hp]
theorem allS_succ (P : Nat → Nat → Bool) (n a : Nat) : allS P n (a + 1) = allS P n a ++ rowS P a n := by
 unfold allS; rw [List.range_succ, List.flatMap_append]; simp
theorem rowS_end (P : Nat → Nat → Bool) {a b n : Nat} (hb : a + 1 ≤ b) (h : n ≤ b) (hb2 : b ≤ n ∨ b = a + 1) : rowS P a b = rowS P a n := by
 rcases hb2 with h2 | h2
 ·rw [show b = n by omega]
 ·subst h2
  rw [rowS_start]
  unfold rowS
  symm
  rw [List.map_eq_nil_iff, List.filter_eq_nil_iff]
  intro x hx
  have := List.mem_range.1 hx
  simp; omega
theorem rowS_len (P : Nat → Nat → Bool) (a b : Nat) : (rowS P a b).length ≤ b := by
 unfold rowS
 rw [List.length_map]
 exact Nat.le_trans (List.length_filter_le _ _) (by simp)
theorem allS_len (P : Nat → Nat → Bool) (n a : Nat) : (allS P n a).length ≤ a * n := by
 induction a with
 | zero => simp [allS]
 | succ a ih =>
  rw [allS_succ, List.length_append, Nat.add_mul]
  have := rowS_len P a n
  omega
end Go.Proofs.YtfglkgkihafcpaaGreatDoor.Pl
namespace Go.Proofs.YtfglkgkihafcpaaGreatDoor.Pl
end Go.Proofs.YtfglkgkihafcpaaGreatDoor.Pl
namespace Go.Proofs.YtfglkgkihafcpaaGreatDoor.Pl
end Go.Proofs.YtfglkgkihafcpaaGreatDoor.Pl
namespace Go.Proofs.YtfglkgkihafcpaaGreatDoor.Pl
def treeStep (s : List E × List E) (e : E) : List E × List E := if Conn (ends s.1) e.a e.b then (s.1, s.2 ++ [e]) else (s.1 ++ [e], s.2)
def treesOf (es : List E) : List E × List E := es.foldl treeStep ([], [])
def trE (es : List E) : List E := (treesOf es).1
def rsE (es : List E) : List E := (treesOf es).2
theorem treesOf_snoc (es : List E) (e : E) : treesOf (es ++ [e]) = treeStep (treesOf es) e := by unfold treesOf; rw [List.foldl_append]; rfl
structure Trees (es tr rs : List E) : Prop where
 sp : Spans es tr
 mem : ∀ e, e ∈ rs ↔ e ∈ es ∧ e ∉ tr
 len : tr.length + rs.length = es.length
 subT : tr.Sublist es
 subR : rs.Sublist es
theorem Trees.nil : Trees [] [] [] := ⟨Spans.nil, fun e => by simp, rfl, List.Sublist.refl _, List.Sublist.refl _⟩
theorem Trees.step {es tr rs : List E} (h : Trees es tr rs) {e : E} (hid : ∀ f, f ∈ es → f.id ≠ e.id) : Trees (es ++ [e]) (treeStep (tr, rs) e).1 (treeStep (tr, rs) e).2 := by
 have hne : e ∉ es := fun hh => hid e hh rfl
 unfold treeStep
 by_cases c : Conn (ends tr) e.a e.b
 ·rw [if_pos c]
  refine ⟨h.sp.rest hid c, fun f => ?_, by simp; have := h.len; omega, h.subT.trans (List.sublist_append_left _ _), h.subR.append (List.Sublist.refl _)⟩
  rw [List.mem_append, List.mem_append, List.mem_singleton, h.mem]
  constructor
  ·rintro (⟨h1, h2⟩ | rfl)
   ·exact ⟨.inl h1, h2⟩
   ·exact ⟨.inr rfl, fun ht => hne (h.sp.sub _ ht)⟩
  ·rintro ⟨h1 | h1, h2⟩
   ·exact .inl ⟨h1, h2⟩
   ·exact .inr h1
 ·rw [if_neg c]
  refine ⟨h.sp.tree hid c, fun f => ?_, by simp; have := h.len; omega, h.subT.append (List.Sublist.refl _), h.subR.trans (List.sublist_append_left _ _)⟩
  rw [List.mem_append, List.mem_append, List.mem_singleton, h.mem]
  constructor
  ·rintro ⟨h1, h2⟩
   refine ⟨.inl h1, fun hh => ?_⟩
   rcases hh with hh | rfl
   ·exact h2 hh
   ·exact hne h1
  ·rintro ⟨h1 | h1, h2⟩
   ·exact ⟨h1, fun hh => h2 (.inl hh)⟩
   ·exact absurd (.inr h1) h2
theorem Sorted.fresh {es : List E} {e : E} (h : Sorted (es ++ [e])) : ∀ f, f ∈ es → f.id ≠ e.id := fun f hf => by
 have := (List.pairwise_append.1 h).2.2 f hf e (by simp)
 omega
theorem trees (es : List E) : Sorted es → Trees es (trE es) (rsE es) := by
 refine list_snoc_ind (P := fun es => Sorted es → Trees es (trE es) (rsE es)) (fun _ => Trees.nil) (fun l x ih hs => ?_) es
 unfold trE rsE
 rw [treesOf_snoc]
 exact (ih (hs.sublist (List.sublist_append_left _ _))).step hs.fresh
def othE (e : E) (x : Nat) : Nat := if e.a = x then e.b else e.a
def touch (e : E) (x : Nat) : Prop := e.a = x ∨ e.b = x
instance (e : E) (x : Nat) : Decidable (touch e x) := inferInstanceAs (Decidable (_ ∨ _))
theorem oth_touch {e : E} {x : Nat} (h : touch e x) : touch e (othE e x) := by
 unfold othE touch at *; split <;> simp
theorem oth_oth {e : E} {x : Nat} (h : touch e x) : othE e (othE e x) = x := by
 unfold othE touch at *
 by_cases h1 : e.a = x
 ·rw [if_pos h1]
  by_cases h2 : e.a = e.b
  ·rw [if_pos h2, ← h2]; exact h1
  ·rw [if_neg h2]; exact h1
 ·rw [if_neg h1, if_pos rfl]
  rcases h with h | h
  ·exact absurd h h1
  ·exact h
theorem conn_touch {es : List E} {e : E} (he : e ∈ es) {x : Nat} (h : touch e x) : Conn (ends es) x (othE e x) := by
 have c := Conn.of_edge he
 unfold othE touch at *
 by_cases h1 : e.a = x
 ·rw [if_pos h1, ← h1]; exact c
 ·rw [if_neg h1]
  rcases h with h | h
  ·exact absurd h h1
  ·rw [← h]; exact c.symm
structure Tv (tr : List E) (a : Nat) (line : List Nat) (fr : Nat → Option E) : Prop where
 head : line[0]? = some a
 nodup : line.Nodup
 keys : ∀ v, (fr v).isSome = true ↔ v ∈ line ∧ v ≠ a
 edge : ∀ j v, 0 < j → line[j]? = some v → ∃ e, e ∈ tr ∧ fr v = some e ∧ touch e v ∧ ∃ j', j' < j ∧ line[j']? = some (othE e v)
def TSeen (tr : List E) (line : List Nat) (i : Nat) : Prop := ∀ i' v e, i' < i → line[i']? = some v → e ∈ tr → touch e v → othE e v ∈ line
theorem Tv.start (tr : List E) (a : Nat) : Tv tr a [a] (fun _ => none) := by
 refine ⟨rfl, by simp, fun v => by simp, fun j v h0 hj => ?_⟩
 cases j with
 | zero => omega
 | succ j => simp at hj
theorem Tv.meet {tr : List E} {a : Nat} {line : List Nat} {fr : Nat → Option E} (h : Tv tr a line fr) {i x : Nat} (hi : line[i]? = some x) {e : E} (he : e ∈ tr) (ht : touch e x) (hn : fr (othE e x) = none) (hna : othE e x ≠ a) :
  Tv tr a (line ++ [othE e x]) (upd fr (othE e x) (some e)) := by
 have hnm : othE e x ∉ line := fun hm => by
  have := (h.keys _).2 ⟨hm, hna⟩
  rw [hn] at this; cases this
 have hl := (List.getElem?_eq_some_iff.1 h.head).1
 have hil := (List.getElem?_eq_some_iff.1 hi).1
 refine ⟨by rw [List.getElem?_append_left hl]; exact h.head, ?_, fun v => ?_, fun j v h0 hj => ?_⟩
 ·rw [List.nodup_append]
  exact ⟨h.nodup, by simp, fun a ha b hb e1 => by simp at hb; subst hb; subst e1; exact hnm ha⟩
 ·by_cases e1 : v = othE e x
  ·subst e1; rw [upd_same]; simp [hna]
  ·rw [upd_ne _ _ _ _ e1, h.keys]; simp [e1]
 ·by_cases hjl : j < line.length
  ·rw [List.getElem?_append_left hjl] at hj
   obtain ⟨f, h1, h2, h3, j', h5, h6⟩ := h.edge j v h0 hj
   have hv : v ≠ othE e x := fun e1 => hnm (e1 ▸ List.mem_of_getElem? hj)
   exact ⟨f, h1, by rw [upd_ne _ _ _ _ hv]; exact h2, h3, j', h5, by rw [List.getElem?_append_left (by omega)]; exact h6⟩
  ·rw [List.getElem?_append_right (by omega)] at hj
   have hj0 : j - line.length = 0 := by
    have := (List.getElem?_eq_some_iff.1 hj).1
    simp at this; omega
   rw [hj0] at hj
   simp at hj
   subst hj
   exact ⟨e, he, by rw [upd_same], oth_touch ht, i, by omega, by rw [oth_oth ht, List.getElem?_append_left hil]; exact hi⟩
theorem TSeen.grow {tr : List E} {line : List Nat} {i : Nat} (h : TSeen tr line i) (hi : i ≤ line.length) (x : Nat) : TSeen tr (line ++ [x]) i := by
 intro i' v e h1 h2 h3 h4
 rw [List.getElem?_append_left (by omega)] at h2
 exact List.mem_append_left _ (h i' v e h1 h2 h3 h4)
theorem TSeen.next {tr : List E} {line : List Nat} {i x : Nat} (h : TSeen tr line i) (hx : line[i]? = some x) (ha : ∀ e, e ∈ tr → touch e x → othE e x ∈ line) : TSeen tr line (i + 1) := by
 intro i' v e h1 h2 h3 h4
 by_cases hh : i' < i
 ·exact h i' v e hh h2 h3 h4
 ·obtain rfl : i' = i := by omega
  rw [hx] at h2; cases h2
  exact ha e h3 h4
theorem Tv.all {tr : List E} {a b : Nat} {line : List Nat} {fr : Nat → Option E} (h : Tv tr a line fr) (hs : TSeen tr line line.length) (c : Conn (ends tr) a b) : b ∈ line := by
 have step : ∀ e, e ∈ tr → ∀ x, touch e x → x ∈ line → othE e x ∈ line := fun e he x hx hm => by
  obtain ⟨j, hj⟩ := List.mem_iff_getElem?.1 hm
  exact hs j x e (List.getElem?_eq_some_iff.1 hj).1 hj he hx
 have := c.ind (R := fun x y => (x ∈ line ↔ y ∈ line)) (fun _ => Iff.rfl) (fun _ _ h => h.symm) (fun _ _ _ h g => h.trans g) (fun p hp => by
  obtain ⟨e, he, rfl⟩ := List.mem_map.1 hp
  constructor
  ·intro hm
   have := step e he e.a (.inl rfl) hm
   unfold othE at this; rwa [if_pos rfl] at this
  ·intro hm
   have := step e he e.b (.inr rfl) hm
   unfold othE at this
   split at this
   ·rename_i h1; rw [h1]; exact hm
   ·exact this)
 exact this.1 (List.mem_of_getElem? h.head)
theorem Tv.inj {tr : List E} {a : Nat} {line : List Nat} {fr : Nat → Option E} (h : Tv tr a line fr) {p q u v : Nat} (hp : line[p]? = some u) (hq : line[q]? = some v) (hlt : q < p) {e : E} (hu : fr u = some e) (hv : fr v = some e) : False := by
 have hne : u ≠ v := fun e1 => by
  subst e1
  have := (List.getElem?_inj (List.getElem?_eq_some_iff.1 hp).1 h.nodup).1 (hp.trans hq.symm)
  omega
 have hv0 : 0 < q := Nat.pos_of_ne_zero fun e1 => by
  subst e1; rw [h.head] at hq; cases hq
  exact ((h.keys _).1 (by rw [hv]; rfl)).2 rfl
 obtain ⟨e1, _, f1, t1, i1, g1, k1⟩ := h.edge p u (by omega) hp
 obtain ⟨e2, _, f2, t2, i2, g2, k2⟩ := h.edge q v hv0 hq
 rw [hu] at f1; cases f1
 rw [hv] at f2; cases f2
 have huv : othE e v = u := by
  unfold othE touch at *
  by_cases c1 : e.a = v
  ·rw [if_pos c1]
   rcases t1 with t1 | t1
   ·exact absurd (t1.symm.trans c1) hne
   ·exact t1
  ·rw [if_neg c1]
   rcases t2 with t2 | t2
   ·exact absurd t2 c1
   ·rcases t1 with t1 | t1
    ·exact t1
    ·exact absurd (t1.symm.trans t2) hne
 rw [huv] at k2
 have := (List.getElem?_inj (List.getElem?_eq_some_iff.1 hp).1 h.nodup).1 (hp.trans k2.symm)
 omega
structure Bk (tr : List E) (b : Nat) (line : List Nat) (fr : Nat → Option E) (out : List Nat) (j v : Nat) : Prop where
 at_ : line[j]? = some v
 len : out.length + j < line.length
 from_ : ∀ id, id ∈ out → ∃ p u g, j < p ∧ line[p]? = some u ∧ fr u = some g ∧ g ∈ tr ∧ g.id = id
 nodup : out.Nodup
 cut : ∀ f, f ∈ tr → (f.id ∈ out ↔ ¬ Conn (ends (sans tr [f.id])) b v)
theorem Bk.start {tr : List E} {a b : Nat} {line : List Nat} {fr : Nat → Option E} (h : Tv tr a line fr) (hb : b ∈ line) : ∃ j, Bk tr b line fr [] j b := by
 obtain ⟨j, hj⟩ := List.mem_iff_getElem?.1 hb
 exact ⟨j, hj, by have := (List.getElem?_eq_some_iff.1 hj).1; simpa using this, fun _ hh => (by cases hh), List.nodup_nil, fun f _ => by simp [Conn.refl]⟩
theorem Bk.next {es tr : List E} {a b : Nat} {line : List Nat} {fr : Nat → Option E} (S : Spans es tr) (h : Tv tr a line fr) {out : List Nat} {j v : Nat} (B : Bk tr b line fr out j v) (hva : v ≠ a) :
  ∃ e j', e ∈ tr ∧ fr v = some e ∧ j' < j ∧ Bk tr b line fr (out ++ [e.id]) j' (othE e v) := by
 have hj0 : 0 < j := Nat.pos_of_ne_zero fun e1 => by
  subst e1; have := B.at_; rw [h.head] at this; cases this; exact hva rfl
 obtain ⟨e, he, hf, ht, j', hj', h6⟩ := h.edge j v hj0 B.at_
 have hne : e.id ∉ out := fun hh => by
  obtain ⟨p, u, g, h1, h2, h3, h4, h5⟩ := B.from_ _ hh
  have : g = e := S.injT g e h4 he h5
  subst this
  exact h.inj h2 B.at_ h1 h3 hf
 refine ⟨e, j', he, hf, hj', h6, by have := B.len; simp; omega, fun id hid => ?_, ?_, fun f hff => ?_⟩
 ·rcases List.mem_append.1 hid with hid | hid
  ·obtain ⟨p, u, g, h1, h2⟩ := B.from_ _ hid
   exact ⟨p, u, g, by omega, h2⟩
  ·rw [List.mem_singleton] at hid
   exact ⟨j, v, e, hj', B.at_, hf, he, hid.symm⟩
 ·rw [List.nodup_append]
  exact ⟨B.nodup, by simp, fun a ha b hb e1 => by simp at hb; subst hb; subst e1; exact hne ha⟩
 ·rw [List.mem_append, List.mem_singleton]
  by_cases hfe : f.id = e.id
  ·have : f = e := S.injT f e hff he hfe
   subst this
   have c1 : Conn (ends (sans tr [f.id])) b v := Classical.byContradiction fun hh => hne ((B.cut f hff).2 hh)
   simp only [or_true, true_iff]
   intro c2
   have c3 := c1.symm.trans c2
   refine S.free f hff ?_
   unfold othE touch at *
   by_cases c4 : f.a = v
   ·rw [if_pos c4] at c3; rw [c4]; exact c3
   ·rw [if_neg c4] at c3
    rcases ht with ht | ht
    ·exact absurd ht c4
    ·rw [ht]; exact c3.symm
  ·have c : Conn (ends (sans tr [f.id])) v (othE e v) := conn_touch (mem_sans1.2 ⟨he, fun hh => hfe hh.symm⟩) ht
   rw [B.cut f hff]
   have hfe2 : ¬ f.id = e.id := hfe
   simp only [hfe2, or_false]
   exact ⟨fun hh c2 => hh (c2.trans c.symm), fun hh c2 => hh (c2.trans c)⟩
structure WayIs (tr : List E) (a b : Nat) (l : List Nat) : Prop where
 nodup : l.Nodup
 mem : ∀ id, id ∈ l ↔ ∃ f, f ∈ tr ∧ f.id = id ∧ ¬ Conn (ends (sans tr [f.id])) a b
theorem Bk.done {tr : List E} {a b : Nat} {line : List Nat} {fr : Nat → Option E} {out : List Nat} {j : Nat} (B : Bk tr b line fr out j a) : WayIs tr a b out := by
 refine ⟨B.nodup, fun id => ⟨fun hid => ?_, ?_⟩⟩
 ·obtain ⟨_, _, g, _, _, _, h4, h5⟩ := B.from_ _ hid
  refine ⟨g, h4, h5, fun c => ?_⟩
  rw [← h5] at hid
  exact (B.cut g h4).1 hid c.symm
 ·rintro ⟨f, hf, rfl, hc⟩
  exact (B.cut f hf).2 fun c => hc c.symm
theorem WayIs.ring {es tr : List E} (S : Spans es tr) {e : E} (he : e ∈ es) (hr : e ∉ tr) {l : List Nat} (h : WayIs tr e.a e.b l) : (l ++ [e.id]).Nodup ∧ ∀ id, id ∈ l ++ [e.id] ↔ OnR tr e id := by
 have hn := S.rest_id he hr
 refine ⟨?_, fun id => ?_⟩
 ·rw [List.nodup_append]
  refine ⟨h.nodup, by simp, fun a ha b hb e1 => ?_⟩
  rw [List.mem_singleton] at hb
  subst hb; subst e1
  obtain ⟨f, hf, hid, _⟩ := (h.mem _).1 ha
  exact hn f hf hid
 ·rw [List.mem_append, List.mem_singleton, h.mem]
  unfold OnR
  constructor
  ·rintro (⟨f, hf, rfl, hc⟩ | rfl)
   ·exact .inr hc
   ·exact .inl rfl
  ·rintro (rfl | hc)
   ·exact .inr rfl
   ·by_cases hx : ∃ f, f ∈ tr ∧ f.id = id
    ·obtain ⟨f, hf, rfl⟩ := hx
     exact .inl ⟨f, hf, rfl, hc⟩
    ·exact absurd ((Spans.sans_none (fun g hg hh => hx ⟨g, hg, hh⟩)).2 (S.conn e he)) hc
def mskK (tr rs : List E) (id : Nat) : Nat → Nat
 | 0 => 0
 | k + 1 => if (rs[k]?).any (fun r => decide (OnR tr r id)) then mskK tr rs id k ^^^ 2 ^ k else mskK tr rs id k
def msk (tr rs : List E) (id : Nat) : Nat := mskK tr rs id rs.length
theorem mskK_lt (tr rs : List E) (id k : Nat) : mskK tr rs id k < 2 ^ k := by
 induction k with
 | zero => simp [mskK]
 | succ k ih =>
  unfold mskK
  have h2 : (2 : Nat) ^ k < 2 ^ (k + 1) := Nat.pow_lt_pow_right (by omega) (by omega)
  split
  ·exact Nat.xor_lt_two_pow (Nat.lt_trans ih h2) h2
  ·exact Nat.lt_trans ih h2
end Go.Proofs.YtfglkgkihafcpaaGreatDoor.Pl

