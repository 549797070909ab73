/- Part 16 of the proof: GrT Idx. -/
import Derived.Test.YtfglkgkihafcpaaGreatDoorDp02
import Derived.Test.YtfglkgkihafcpaaGreatDoorDp07
import Derived.Test.YtfglkgkihafcpaaGreatDoorDp12
import Derived.Test.YtfglkgkihafcpaaGreatDoorDp14
import Derived.Test.YtfglkgkihafcpaaGreatDoorDp15
import Derived.Deep.RegionHeld3
set_option linter.unusedVariables false
set_option linter.unusedSimpArgs false
namespace Go.Proofs.YtfglkgkihafcpaaGreatDoor
open Go.RowKit Pl
theorem Gr.tightT {F : Nat → Prop} {w : World} {b n : Nat} {es : List E} (h : Gr F w b n es) : Gr (fun k => F k ∧ k < w.heap.size) w b n es := by
 obtain ⟨o, c, h⟩ := h; exact ⟨o, c, GrMem.tight h⟩
end Go.Proofs.YtfglkgkihafcpaaGreatDoor

namespace Go.Proofs.YtfglkgkihafcpaaGreatDoor
open Go.RowKit Pl Go.Maps
structure IOk (n : Nat) (es : List E) : Prop where
 n40 : n ≤ 40
 ok : EOk n es
 le : es.length ≤ 120
theorem IOk.nil {n : Nat} (h : n ≤ 40) : IOk n [] := ⟨h, ⟨fun _ h => (by cases h), fun _ h => (by cases h), fun _ h => (by cases h), List.Pairwise.nil⟩, by simp⟩
theorem mem_insI {es : List E} {i : Nat} {e f : E} : f ∈ ins es i e ↔ f = e ∨ f ∈ es := by
 unfold ins
 have : f ∈ es ↔ f ∈ es.take i ∨ f ∈ es.drop i := by rw [← List.mem_append, List.take_append_drop]
 rw [this]
 simp only [List.mem_append, List.mem_cons]
 constructor
 ·rintro (h | h | h) <;> simp [h]
 ·rintro (h | h | h) <;> simp [h]
theorem IOk.add {n : Nat} {es : List E} (h : IOk n es) (id a b : Int) : IOk n (addEs n es id a b) := by
 unfold addEs
 by_cases hb : addBad n id a b ∨ a = b ∨ hasId es id = true ∨ 120 ≤ es.length
 ·rw [if_pos hb]; exact h
 rw [if_neg hb]
 have h1 : ¬ addBad n id a b := fun h => hb (.inl h)
 have h0 : a ≠ b := fun h => hb (.inr (.inl h))
 have h2 : hasId es id = false := by
  cases h : hasId es id with
  | false => rfl
  | true => exact absurd (.inr (.inr (.inl h))) hb
 have h3 : es.length < 120 := Nat.lt_of_not_le fun h => hb (.inr (.inr (.inr h)))
 unfold addBad at h1
 have e1 : ((mkE id a b).id : Int) = id := by unfold mkE; simp only; omega
 have hin : ∀ f, f ∈ ins es (posOf es id) (mkE id a b) → f = mkE id a b ∨ f ∈ es := fun f hf => mem_insI.1 hf
 refine ⟨h.n40, ⟨fun f hf => ?_, fun f hf => ?_, fun f hf => ?_, ?_⟩, ?_⟩
 ·rcases hin f hf with rfl | hf
  ·unfold mkE; constructor <;> (simp only; omega)
  ·exact h.ok.over f hf
 ·rcases hin f hf with rfl | hf
  ·unfold mkE; simp only; omega
  ·exact h.ok.ne f hf
 ·rcases hin f hf with rfl | hf
  ·unfold mkE; simp only; omega
  ·exact h.ok.small f hf
 ·have := sorted_ins h.ok.sorted (mkE id a b) (by rw [e1]; exact h2)
  rw [e1] at this
  exact this
 ·have := posOf_le es id
  unfold ins
  simp only [List.length_append, List.length_take, List.length_cons, List.length_drop]
  omega
def IxAt (F : Nat → Prop) (w : World) (xb n : Nat) (es : List E) (r2 r3 r4 : Value) : Prop :=
 ∃ gb bb Fg Fb fs, Row w xb 100 [.pointer (some ⟨gb, 0, none⟩), .pointer (some ⟨bb, 0, none⟩), r2, r3, r4] ∧ Gr Fg w gb n es ∧ Brs Fb w bb n fs ∧ (∀ e, e ∈ es ↔ e ∈ fs.map norm) ∧ fs.length = es.length ∧ F xb ∧
  (∀ k, Fg k → F k ∧ k ≠ xb ∧ ¬ Fb k ∧ k < w.heap.size) ∧ (∀ k, Fb k → F k ∧ k ≠ xb ∧ k < w.heap.size)
theorem IxAt.keep {F G : Nat → Prop} {w w' : World} {xb n : Nat} {es : List E} {r2 r3 r4 : Value} (h : IxAt F w xb n es r2 r3 r4) (k : Keep G w w') (d : ∀ k, F k → ¬ G k) : IxAt F w' xb n es r2 r3 r4 := by
 obtain ⟨gb, bb, Fg, Fb, fs, h1, h2, h3, h4, hl, h5, h6, h7⟩ := h
 have z := k.size
 exact ⟨gb, bb, Fg, Fb, fs, h1.keep k (d _ h5), h2.keep k (fun j hj => d j (h6 j hj).1), h3.keep k (fun j hj => d j (h7 j hj).1), h4, hl, h5, fun j hj => ⟨(h6 j hj).1, (h6 j hj).2.1, (h6 j hj).2.2.1, by have := (h6 j hj).2.2.2; omega⟩, fun j hj => ⟨(h7 j hj).1, (h7 j hj).2.1, by have := (h7 j hj).2.2; omega⟩⟩
theorem IxAt.mono {F G : Nat → Prop} {w : World} {xb n : Nat} {es : List E} {r2 r3 r4 : Value} (h : IxAt F w xb n es r2 r3 r4) (hG : ∀ k, F k → k < w.heap.size → G k) : IxAt G w xb n es r2 r3 r4 := by
 obtain ⟨gb, bb, Fg, Fb, fs, h1, h2, h3, h4, hl, h5, h6, h7⟩ := h
 exact ⟨gb, bb, Fg, Fb, fs, h1, h2, h3, h4, hl, hG _ h5 h1.lt, fun j hj => ⟨hG _ (h6 j hj).1 (h6 j hj).2.2.2, (h6 j hj).2⟩, fun j hj => ⟨hG _ (h7 j hj).1 (h7 j hj).2.2, (h7 j hj).2⟩⟩
theorem gnew_errI (n : Int) (h : n < 0 ∨ 40 < n) (w : World) :
  Calls Tryz.prog 47 #[.int .i64 n] w fun e w' => e = .returned (.tuple #[.pointer none, errV 2]) ∧ w = w' := by
 by_cases h0 : n < 0
 ·go_enter Tryz.func47, Tryz.ntmps47
  go_wp2_with fail
  go_ret2
  exact ⟨rfl, rfl⟩
 ·have h1 : 40 < n := by omega
  go_enter Tryz.func47, Tryz.ntmps47
  go_wp2_with fail
  go_ret2
  exact ⟨rfl, rfl⟩
def INewPost (w : World) (n : Nat) (e : Ending) (w' : World) : Prop :=
 ∃ xb, e = .returned (.tuple #[.pointer (some ⟨xb, 0, none⟩), .nilIface]) ∧ IxAt (fun k => w.heap.size ≤ k) w' xb n [] (.pointer none) (.pointer none) (.pointer none) ∧ Keep Nb w w'
set_option maxRecDepth 100000 in
theorem inew_err (n : Int) (h : n < 0 ∨ 40 < n) (w : World) :
  Calls Tryz.prog 18 #[.int .i64 n] w fun e w' => e = .returned (.tuple #[.pointer none, errV 2]) ∧ w = w' := by
 go_enter Tryz.func18, Tryz.ntmps18
 go_wp2_with fail
 refine (gnew_errI n h _).mono ?_
 rintro e w1 ⟨rfl, rfl⟩
 have hE : errV 2 = .iface 47 (.int .i64 2) := rfl
 rw [hE]
 go_wp2_with fail
 go_ret2
 exact ⟨rfl, rfl⟩
set_option maxRecDepth 100000 in
theorem inew_any (n : Nat) (hn : n ≤ 40) (w : World) : Calls Tryz.prog 18 #[.int .i64 n] w (INewPost w n) := by
 go_enter Tryz.func18, Tryz.ntmps18
 go_wp2_with fail
 refine (gnew_any _ n hn).mono ?_
 rintro e w1 ⟨rfl, hG, hk, hz⟩
 have HG := Lib.hid hG
 have HK := Lib.hid hk
 have HZ := Lib.hid hz
 clear hG hk hz
 go_wp2_with fail
 refine (bofZ_any _ w1 _ n [] HG.out hn (by simp) (IOk.nil hn).ok).mono ?_
 rintro e w2 ⟨bb, rfl, hB, hk2⟩
 have HB := Lib.hid hB
 have HK2 := Lib.hid hk2
 clear hB hk2
 go_wp2_with fail
 go_ret2
 have z := HK.out.size
 have z2 := HK2.out.size
 have hG2 := (HG.out.keep HK2.out (fun _ _ e => e)).alloc (.cells #[.pointer (some ⟨w.heap.size, 0, none⟩), .pointer (some ⟨bb, 0, none⟩), .pointer none, .pointer none, .pointer none] 100)
 have hB2 := HB.out.keep ((Keep.refl Nb w2).alloc (.cells #[.pointer (some ⟨w.heap.size, 0, none⟩), .pointer (some ⟨bb, 0, none⟩), .pointer none, .pointer none, .pointer none] 100)) (fun _ _ e => e)
 have hz := HZ.out
 refine ⟨w2.heap.size, rfl, ⟨w.heap.size, bb, _, _, [], Row.new w2 _ _, hG2, hB2, fun e => by simp, rfl, by omega, fun k hk => ?_, fun k hk => ?_⟩, (HK.out.trans HK2.out).alloc _⟩
 ·simp only [World.size_alloc]; subst hk; omega
 ·simp only [World.size_alloc]; omega
set_option maxRecDepth 100000 in
theorem iforget_any (w : World) (xb : Nat) (r0 r1 r2 r3 r4 : Value) (hX : Row w xb 100 [r0, r1, r2, r3, r4]) :
  Calls Tryz.prog 132 #[.pointer (some ⟨xb, 0, none⟩)] w fun e w' => e = .returned (.tuple #[]) ∧ Row w' xb 100 [r0, r1, .pointer none, .pointer none, .pointer none] ∧ Keep (fun k => k = xb) w w' := by
 have HX := Lib.hid hX
 have z0 := hX.frozen 2 none
 have z1 := hX.frozen 3 none
 have z2 := hX.frozen 4 none
 have c2 := hX.cell (i := 2) rfl
 have c3 := hX.cell (i := 3) rfl
 have c4 := hX.cell (i := 4) rfl
 clear hX
 go_enter Tryz.func132, Tryz.ntmps132
 go_wp2_with fail
 go_end0
 refine ⟨rfl, ((HX.out.set (i := 2) (by simp) _).set (i := 3) (by simp) _).set (i := 4) (by simp) _, (((Keep.refl (fun k => k = xb) w).setCell (.inl rfl) _).setCell (.inl rfl) _).setCell (.inl rfl) _⟩
def IAddPost (F : Nat → Prop) (w : World) (xb n : Nat) (es : List E) (id a b : Int) (r2 r3 r4 : Value) (e : Ending) (w' : World) : Prop :=
 if addErr n es id a b = 0 then
  e = .returned (.tuple #[.bool (!decide (Conn (ends es) a.toNat b.toNat)), .nilIface]) ∧ IxAt (fun k => F k ∨ w.heap.size ≤ k) w' xb n (addEs n es id a b) (.pointer none) (.pointer none) (.pointer none) ∧ Keep F w w'
 else
  e = .returned (.tuple #[.bool false, errVal (addErr n es id a b)]) ∧ IxAt (fun k => F k ∨ w.heap.size ≤ k) w' xb n es r2 r3 r4 ∧ Keep F w w'
set_option maxRecDepth 100000 in
theorem iadd_any (F : Nat → Prop) (w : World) (xb n : Nat) (es : List E) (id a b : Int) (r2 r3 r4 : Value) (hX : IxAt F w xb n es r2 r3 r4) (hI : IOk n es) :
  Calls Tryz.prog 86 #[.pointer (some ⟨xb, 0, none⟩), .int .i64 id, .int .i64 a, .int .i64 b] w (IAddPost F w xb n es id a b r2 r3 r4) := by
 obtain ⟨gb, bb, Fg, Fb, fs, h1, h2, h3, h4, hl, h5, h6, h7⟩ := hX
 have c0 := h1.cell (i := 0) rfl
 have H := Lib.hid (And.intro h1 (And.intro h2 (And.intro h3 (And.intro h4 (And.intro hl (And.intro h5 (And.intro h6 h7)))))))
 have HI := Lib.hid hI
 clear h1 h2 h3 h4 h5 h6 h7 hI hl
 go_enter Tryz.func86, Tryz.ntmps86
 go_wp2_with fail
 refine (add_any Fg _ gb n es id a b H.out.2.1 (fun k h => (H.out.2.2.2.2.2.2.1 k h).2.2.2) HI.out.ok.sorted HI.out.n40 HI.out.le).mono ?_
 rintro e w1 ⟨he, hG, hK⟩
 subst he
 have HG := Lib.hid hG
 have HK := Lib.hid hK
 clear hG hK
 by_cases h0 : addErr n es id a b = 0
 ·rw [if_pos h0]
  go_wp2_with fail
  refine (iforget_any w1 xb _ _ _ _ _ (H.out.1.keep HK.out (fun h => (H.out.2.2.2.2.2.2.1 _ h).2.1 rfl))).mono ?_
  rintro e w2 ⟨rfl, hX2, hk2⟩
  have c1 := hX2.cell (i := 1) rfl
  have HX2 := Lib.hid hX2
  have HK2 := Lib.hid hk2
  clear hX2 hk2
  have H0 := Lib.hid h0
  unfold addErr at h0
  have hb : ¬ addBad n id a b := fun h => by rw [if_pos h] at h0; cases h0
  rw [if_neg hb] at h0
  have hab : a ≠ b := fun h => by rw [if_pos h] at h0; cases h0
  rw [if_neg hab] at h0
  have hid : hasId es id = false := by
   cases h : hasId es id with
   | false => rfl
   | true => rw [h, if_pos rfl] at h0; cases h0
  have hle : ¬ 120 ≤ es.length := fun h => by rw [if_neg (by rw [hid]; simp), if_pos h] at h0; cases h0
  clear h0
  have hA : addEs n es id a b = ins es (posOf es id) (mkE id a b) := by
   unfold addEs; rw [if_neg (by rintro (h | h | h | h); exact hb h; exact hab h; rw [hid] at h; cases h; exact hle h)]
  have HA := Lib.hid hA
  clear hA
  unfold addBad at hb
  obtain ⟨id, rfl⟩ : ∃ k : Nat, id = k := ⟨id.toNat, by omega⟩
  obtain ⟨a, rfl⟩ : ∃ k : Nat, a = k := ⟨a.toNat, by omega⟩
  obtain ⟨b, rfl⟩ : ∃ k : Nat, b = k := ⟨b.toNat, by omega⟩
  have hB2 : Brs Fb w2 bb n fs := (H.out.2.2.1.keep HK.out (fun k h1 h2 => (H.out.2.2.2.2.2.2.1 k h2).2.2.1 h1)).keep HK2.out (fun k h1 h2 => (H.out.2.2.2.2.2.2.2 k h1).2.1 h2)
  have HB2 := Lib.hid hB2
  have z1 := HK.out.size
  have z2 := HK2.out.size
  clear hB2
  have hfid : ∀ f, f ∈ fs → f.id ≠ id := fun f hf he => by
   have h1 : norm f ∈ es := (H.out.2.2.2.1 _).2 (List.mem_map.2 ⟨f, hf, rfl⟩)
   have h2 : hasId es (id : Nat) = true := hasId_iff.2 ⟨norm f, h1, by show ((f.id : Nat) : Int) = id; rw [he]⟩
   rw [hid] at h2; cases h2
  have HF := Lib.hid hfid
  clear hfid
  go_wp2_with fail
  refine (badd_any Fb w2 bb n fs id a b (by omega) (by omega) (by omega) HF.out (by omega) HB2.out (fun k h => by have := (H.out.2.2.2.2.2.2.2 k h).2.2; omega)).mono ?_
  rintro e w3 ⟨rfl, hB3, hk3⟩
  have HB3 := Lib.hid hB3
  have HK3 := Lib.hid hk3
  clear hB3 hk3
  go_wp2_with fail
  go_ret2
  have hcon : Conn (ends fs) a b ↔ Conn (ends es) a b := by
   rw [← conn_norm (es := fs)]
   exact ⟨Conn.of_sub fun e he => (H.out.2.2.2.1 e).2 he, Conn.of_sub fun e he => (H.out.2.2.2.1 e).1 he⟩
  have z3 := HK3.out.size
  obtain ⟨q1, q2, q3, q4, q5, q6, q7, q8⟩ := H.out
  unfold IAddPost
  rw [if_pos H0.out]
  refine ⟨by simp only [decide_eq_decide.2 hcon, Int.toNat_natCast]; rfl, ⟨gb, bb, fun k => (Fg k ∨ w.heap.size ≤ k) ∧ k < w1.heap.size, Fb, fs ++ [⟨id, a, b⟩], HX2.out.keep HK3.out (fun h => (q8 _ h).2.1 rfl), ((HG.out.tightT.keep HK2.out (fun k h1 h2 => ?_)).keep HK3.out (fun k h1 h2 => ?_)), HB3.out, fun e => ?_, ?_, .inl q6, fun k h1 => ?_, fun k h1 => ?_⟩, ?_⟩
  ·obtain ⟨h | h, h'⟩ := h1
   ·exact (q7 k h).2.1 h2
   ·have := q1.lt; omega
  ·obtain ⟨h | h, h'⟩ := h1
   ·exact (q7 k h).2.2.1 h2
   ·have := (q8 k h2).2.2; omega
  ·rw [HA.out, mem_insI, List.map_append, List.mem_append, ← q4 e, List.map_singleton, List.mem_singleton]
   have hn : norm ⟨id, a, b⟩ = mkE id a b := by unfold norm mkE; simp only [E.mk.injEq]; omega
   rw [hn]; exact or_comm
  ·rw [HA.out, List.length_append, q5]
   have := posOf_le es id
   unfold ins
   simp only [List.length_append, List.length_take, List.length_cons, List.length_drop, List.length_nil]
   omega
  ·obtain ⟨h | h, h'⟩ := h1
   ·exact ⟨.inl (q7 k h).1, (q7 k h).2.1, (q7 k h).2.2.1, by omega⟩
   ·refine ⟨.inr h, fun e => ?_, fun hb => ?_, by omega⟩
    ·have := q1.lt; omega
    ·have := (q8 k hb).2.2; omega
  ·exact ⟨.inl (q8 k h1).1, (q8 k h1).2.1, by have := (q8 k h1).2.2; omega⟩
  ·exact ((HK.out.mono (fun k _ h => (q7 k h).1)).trans' (HK2.out) (fun _ _ h => h) (fun k _ h => by rw [h]; exact q6)).trans' HK3.out (fun _ _ h => h) (fun k _ h => (q8 k h).1)
 ·rw [if_neg h0]
  have hE : addEs n es id a b = es := by
   unfold addEs
   rw [if_pos]
   unfold addErr at h0
   refine Classical.byContradiction fun h => h0 ?_
   rw [if_neg (fun k => h (.inl k)), if_neg (fun k => h (.inr (.inl k))), if_neg (fun k => h (.inr (.inr (.inl k)))), if_neg (fun k => h (.inr (.inr (.inr k))))]
  have HE := Lib.hid hE
  have H0 := Lib.hid h0
  clear hE
  obtain ⟨rr, hrr⟩ : ∃ rr, addErr n es id a b = rr := ⟨_, rfl⟩
  have HRR := Lib.hid hrr
  rw [hrr]
  clear hrr h0
  unfold errVal
  go_wp2_with fail
  go_ret2
  obtain ⟨q1, q2, q3, q4, q5, q6, q7, q8⟩ := H.out
  unfold IAddPost
  rw [if_neg H0.out, HRR.out]
  have z1 := HK.out.size
  have hG := HG.out
  rw [HE.out] at hG
  refine ⟨rfl, ⟨gb, bb, fun k => (Fg k ∨ w.heap.size ≤ k) ∧ k < w1.heap.size, Fb, fs, q1.keep HK.out (fun h => (q7 _ h).2.1 rfl), hG.tightT, q3.keep HK.out (fun k h1 h2 => (q7 _ h2).2.2.1 h1), q4, q5, .inl q6, fun k h1 => ?_, fun k h1 => ?_⟩, HK.out.mono (fun k _ h => (q7 k h).1)⟩
  ·obtain ⟨h | h, h'⟩ := h1
   ·exact ⟨.inl (q7 k h).1, (q7 k h).2.1, (q7 k h).2.2.1, by omega⟩
   ·refine ⟨.inr h, fun e => ?_, fun hb => ?_, by omega⟩
    ·have := q1.lt; omega
    ·have := (q8 k hb).2.2; omega
  ·exact ⟨.inl (q8 k h1).1, (q8 k h1).2.1, by have := (q8 k h1).2.2; omega⟩
set_option maxRecDepth 100000 in
theorem iedges_any (F : Nat → Prop) (w : World) (xb n : Nat) (es : List E) (r2 r3 r4 : Value) (hX : IxAt F w xb n es r2 r3 r4) (hl : es.length ≤ 1000) :
  Calls Tryz.prog 94 #[.pointer (some ⟨xb, 0, none⟩)] w (EdgesPost w es) := by
 obtain ⟨gb, bb, Fg, Fb, fs, h1, h2, -⟩ := hX
 have c0 := h1.cell (i := 0) rfl
 have HG := Lib.hid h2
 clear h1 h2
 go_enter Tryz.func94, Tryz.ntmps94
 go_wp2_with fail
 refine (edges_any Fg w gb n es HG.out hl).mono ?_
 rintro e w1 ⟨o, c, rfl, hS, hk⟩
 have HP : Hid (EdgesPost w es (.returned (.slice o es.length c)) w1) := Lib.hid ⟨o, c, rfl, hS, hk⟩
 clear hS hk
 go_wp2_with fail
 go_ret
 exact HP.out
end Go.Proofs.YtfglkgkihafcpaaGreatDoor

