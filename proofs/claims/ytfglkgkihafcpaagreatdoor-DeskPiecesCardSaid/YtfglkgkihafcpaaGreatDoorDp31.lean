/- Part 31 of the proof: IKn2. -/
import Derived.Test.YtfglkgkihafcpaaGreatDoorDp30
set_option linter.unusedVariables false
set_option linter.unusedSimpArgs false
namespace Go.Proofs.YtfglkgkihafcpaaGreatDoor
open Go.RowKit Pl Go.Maps
theorem IxM.at {Fg Fb Fc : Nat → Prop} {w : World} {xb gb bb n : Nat} {es fs : List E} {r2 r3 r4 : Value} (h : IxM Fg Fb Fc w xb gb bb n es fs r2 r3 r4) :
  IxAt (fun k => k = xb ∨ Fg k ∨ Fb k) w xb n es r2 r3 r4 :=
 ⟨gb, bb, Fg, Fb, fs, h.row, h.gr, h.brs, h.mem, h.len, .inl rfl, fun k hk => ⟨.inr (.inl hk), (h.g k hk).1, (h.g k hk).2.1, (h.g k hk).2.2.2⟩, fun k hk => ⟨.inr (.inr hk), (h.br k hk).1, (h.br k hk).2.2⟩⟩
theorem addEs_err {n : Nat} {es : List E} {id a b : Int} (h0 : addErr n es id a b ≠ 0) : addEs n es id a b = es := by
 unfold addEs
 rw [if_pos]
 unfold addErr at h0
 refine Classical.byContradiction fun h => h0 ?_
 rw [if_neg (fun k => h (.inl k)), if_neg (fun k => h (.inr (.inl k))), if_neg (fun k => h (.inr (.inr (.inl k)))), if_neg (fun k => h (.inr (.inr (.inr k))))]
def IAddK (F : Nat → Prop) (w : World) (xb n : Nat) (es : List E) (id a b : Int) (e : Ending) (w' : World) : Prop :=
 e = .returned (if addErr n es id a b = 0 then .tuple #[.bool (!decide (Conn (ends es) a.toNat b.toNat)), .nilIface] else .tuple #[.bool false, errVal (addErr n es id a b)]) ∧ IxK (fun k => F k ∨ w.heap.size ≤ k) w' xb n (addEs n es id a b) ∧ Keep F w w'
set_option maxRecDepth 100000 in
theorem iaddK_any (F : Nat → Prop) (w : World) (xb n : Nat) (es : List E) (id a b : Int) (hX : IxK F w xb n es) (hI : IOk n es) :
  Calls Tryz.prog 86 #[.pointer (some ⟨xb, 0, none⟩), .int .i64 id, .int .i64 a, .int .i64 b] w (IAddK F w xb n es id a b) := by
 obtain ⟨Fg, Fb, Fc, gb, bb, fs, r2, r3, r4, hM, hx, hg, hb, hc⟩ := hX
 by_cases h0 : addErr n es id a b = 0
 ·refine (iadd_any _ w xb n es id a b r2 r3 r4 hM.at hI).mono ?_
  intro e w' h
  unfold IAddPost at h
  rw [if_pos h0] at h
  obtain ⟨h1, h2, h3⟩ := h
  unfold IAddK
  rw [if_pos h0]
  have hF : ∀ k, k = xb ∨ Fg k ∨ Fb k → F k := by
   rintro k (rfl | h | h)
   ·exact hx
   ·exact hg k h
   ·exact hb k h
  refine ⟨h1, (h2.mono (fun k hk _ => ?_)).known, h3.mono (fun k _ hk => hF k hk)⟩
  rcases hk with hk | hk
  ·exact .inl (hF k hk)
  ·exact .inr hk
 ·have hE := addEs_err h0
  have c0 := hM.row.cell (i := 0) rfl
  have HM := Lib.hid hM
  have H0 := Lib.hid h0
  have HF := Lib.hid (And.intro hx (And.intro hg (And.intro hb hc)))
  have HC := Lib.hid (add_any Fg w gb n es id a b hM.gr (fun k h => (hM.g k h).2.2.2) hI.ok.sorted hI.n40 hI.le)
  have HE := Lib.hid hE
  clear hM hx hg hb hc hE hI
  obtain ⟨rr, hrr⟩ : ∃ rr, addErr n es id a b = rr := ⟨_, rfl⟩
  have HRR := Lib.hid hrr
  unfold IAddK
  rw [if_neg h0, hrr]
  clear h0 hrr
  go_enter Tryz.func86, Tryz.ntmps86
  go_wp2_with fail
  refine HC.out.mono ?_
  rintro e w1 ⟨he, hG, hK⟩
  rw [if_neg H0.out, HRR.out] at he
  rw [HE.out] at hG
  subst he
  have HG := Lib.hid hG
  have HK := Lib.hid hK
  clear hG hK HC
  unfold errVal
  go_wp2_with fail
  go_ret2
  obtain ⟨hx, hg, hb, hc⟩ := HF.out
  have hM := HM.out
  have z1 := HK.out.size
  rw [HE.out]
  refine ⟨rfl, ⟨fun k => (Fg k ∨ w.heap.size ≤ k) ∧ k < w1.heap.size, Fb, Fc, gb, bb, fs, r2, r3, r4, ⟨hM.row.keep HK.out (fun h => (hM.g _ h).1 rfl), HG.out.tightT, hM.brs.keep HK.out (fun k h1 h2 => (hM.g _ h2).2.1 h1), hM.mem, hM.len, hM.kn.keep HK.out (fun k h1 h2 => (hM.g _ h2).2.2.1 h1), fun k hk => ?_, fun k hk => ?_, fun k hk => ?_⟩, .inl hx, fun k hk => ?_, fun k hk => .inl (hb k hk), fun k hk => .inl (hc k hk)⟩, HK.out.mono (fun k _ h => hg k h)⟩
  ·obtain ⟨h | h, h'⟩ := hk
   ·exact ⟨(hM.g k h).1, (hM.g k h).2.1, (hM.g k h).2.2.1, h'⟩
   ·refine ⟨fun e => ?_, fun hb => ?_, fun hb => ?_, h'⟩
    ·have := hM.row.lt; omega
    ·have := (hM.br k hb).2.2; omega
    ·have := (hM.k k hb).2; omega
  ·exact ⟨(hM.br k hk).1, (hM.br k hk).2.1, by have := (hM.br k hk).2.2; omega⟩
  ·exact ⟨(hM.k k hk).1, by have := (hM.k k hk).2; omega⟩
  ·obtain ⟨h | h, h'⟩ := hk
   ·exact .inl (hg k h)
   ·exact .inr h
def cutEs (es : List E) (t : Int) : List E := if hasId es t = true then delAt es (posOf es t) else es
theorem IOk.cut {n : Nat} {es : List E} (h : IOk n es) (t : Int) : IOk n (cutEs es t) := by
 unfold cutEs
 split
 ·have hs := delAt_sublist es (posOf es t)
  exact ⟨h.n40, ⟨fun e he => h.ok.over e (hs.subset he), fun e he => h.ok.ne e (hs.subset he), fun e he => h.ok.small e (hs.subset he), h.ok.sorted.sublist hs⟩, Nat.le_trans hs.length_le h.le⟩
 ·exact h
theorem norm_self {es fs : List E} (h : ∀ e, e ∈ es ↔ e ∈ fs.map norm) {e : E} (he : e ∈ es) : norm e = e := by
 obtain ⟨f, _, rfl⟩ := List.mem_map.1 ((h e).1 he)
 unfold norm
 dsimp only
 rw [E.mk.injEq]
 exact ⟨rfl, by omega, by omega⟩
def IDropK (F : Nat → Prop) (w : World) (xb n : Nat) (es : List E) (t : Int) (e : Ending) (w' : World) : Prop :=
 e = .returned (if hasId es t = true then .nilIface else errVal 7) ∧ IxK (fun k => F k ∨ w.heap.size ≤ k) w' xb n (cutEs es t) ∧ Keep F w w'
set_option maxRecDepth 100000 in
set_option maxHeartbeats 1000000 in
theorem idropK_any (F : Nat → Prop) (w : World) (xb n : Nat) (es : List E) (t : Int) (hX : IxK F w xb n es) (hI : IOk n es) :
  Calls Tryz.prog 93 #[.pointer (some ⟨xb, 0, none⟩), .int .i64 t] w (IDropK F w xb n es t) := by
 obtain ⟨Fg, Fb, Fc, gb, bb, fs, r2, r3, r4, hM, hx, hg, hb, hc⟩ := hX
 have c0 := hM.row.cell (i := 0) rfl
 have HC := Lib.hid (drop_any Fg w gb n es t hM.gr hI.ok.sorted (by have := hI.le; omega))
 have HM := Lib.hid hM
 have HF := Lib.hid (And.intro hx (And.intro hg (And.intro hb hc)))
 have HI := Lib.hid hI
 have HIC := Lib.hid (hI.cut t)
 clear hM hx hg hb hc hI
 by_cases h0 : hasId es t = true
 ·have H0 := Lib.hid h0
  unfold IDropK
  rw [if_pos h0]
  clear h0
  go_enter Tryz.func93, Tryz.ntmps93
  go_wp2_with fail
  refine HC.out.mono ?_
  rintro e w1 ⟨he, hG, hK⟩
  rw [if_pos H0.out] at he
  have hG : Gr Fg w1 gb n (cutEs es t) := hG
  subst he
  have HG := Lib.hid hG
  have HK := Lib.hid hK
  clear hG hK HC
  go_wp2_with fail
  refine (iforget_any w1 xb _ _ _ _ _ (HM.out.row.keep HK.out (fun h => (HM.out.g _ h).1 rfl))).mono ?_
  rintro e w2 ⟨rfl, hX2, hk2⟩
  have d0 := hX2.cell (i := 0) rfl
  have HX2 := Lib.hid hX2
  have HK2 := Lib.hid hk2
  clear hX2 hk2
  have HG2 : Hid (Gr Fg w2 gb n (cutEs es t)) := Lib.hid (HG.out.keep HK2.out (fun k h1 h2 => (HM.out.g k h1).1 h2))
  go_wp2_with fail
  refine (bofZ_any Fg w2 gb n (cutEs es t) HG2.out HIC.out.n40 (by have := HIC.out.le; omega) HIC.out.ok).mono ?_
  rintro e w3 ⟨b3, rfl, hB, hk3⟩
  have hX3 := HX2.out.keep hk3 (fun e => e)
  have e1 := hX3.cell (i := 1) rfl
  have f1 := hX3.frozen 1 none
  have HX3 := Lib.hid hX3
  have HB := Lib.hid hB
  have HK3 := Lib.hid hk3
  clear hX3 hB hk3
  go_wp2_with fail
  go_ret
  obtain ⟨hx, hg, hb, hc⟩ := HF.out
  have hM := HM.out
  have z1 := HK.out.size
  have z2 := HK2.out.size
  have z3 := HK3.out.size
  have hxl := hM.row.lt
  have ks : Keep (fun j => j = xb) w3 (w3.setCell ⟨xb, 1, none⟩ (.pointer (some ⟨b3, 0, none⟩))) := (Keep.refl (fun j => j = xb) w3).setCell (.inl rfl) _
  have zs := ks.size
  refine ⟨rfl, ⟨Fg, fun k => w2.heap.size ≤ k ∧ k < w3.heap.size, Nb, gb, b3, cutEs es t, _, _, _, ⟨HX3.out.set (i := 1) (by simp) _, (HG2.out.keep HK3.out (fun _ _ e => e)).keep ks (fun k h1 h2 => (hM.g k h1).1 h2), HB.out.keep ks (fun k h1 h2 => by omega), fun e => ?_, rfl, KnB.none _ _ _ _ _, fun k hk => ?_, fun k hk => ?_, fun k hk => hk.elim⟩, .inl hx, fun k hk => .inl (hg k hk), fun k hk => .inr (by omega), fun k hk => hk.elim⟩, ?_⟩
  ·have hsub : ∀ f, f ∈ cutEs es t → f ∈ es := fun f hf => by
    unfold cutEs at hf
    rw [if_pos H0.out] at hf
    exact (delAt_sublist _ _).subset hf
   constructor
   ·intro he
    exact List.mem_map.2 ⟨e, he, norm_self hM.mem (hsub e he)⟩
   ·intro he
    obtain ⟨f, hf, rfl⟩ := List.mem_map.1 he
    rw [norm_self hM.mem (hsub f hf)]
    exact hf
  ·have := hM.g k hk
   exact ⟨this.1, fun h => by omega, fun h => h, by omega⟩
  ·exact ⟨by omega, fun h => h, by omega⟩
  ·exact (((HK.out.mono (fun k _ h => hg k h)).trans' HK2.out (fun _ _ e => e) (fun k _ h => by rw [h]; exact hx)).trans' HK3.out (fun _ _ e => e) (fun _ _ e => e.elim)).trans' ks (fun _ _ e => e) (fun k _ h => by rw [h]; exact hx)
 ·have h1 : hasId es t = false := by simpa using h0
  have H1 := Lib.hid h1
  unfold IDropK
  rw [if_neg h0]
  clear h0 h1
  go_enter Tryz.func93, Tryz.ntmps93
  go_wp2_with fail
  refine HC.out.mono ?_
  rintro e w1 ⟨he, hG, hK⟩
  rw [H1.out, if_neg (by simp)] at he hG
  subst he
  have HG := Lib.hid hG
  have HK := Lib.hid hK
  clear hG hK HC
  unfold errVal
  go_wp2_with fail
  go_ret
  obtain ⟨hx, hg, hb, hc⟩ := HF.out
  have hM := HM.out
  have z1 := HK.out.size
  have hcut : cutEs es t = es := by unfold cutEs; rw [H1.out, if_neg (by simp)]
  rw [hcut]
  refine ⟨rfl, ⟨Fg, Fb, Fc, gb, bb, fs, r2, r3, r4, ⟨hM.row.keep HK.out (fun h => (hM.g _ h).1 rfl), HG.out, hM.brs.keep HK.out (fun k h1 h2 => (hM.g _ h2).2.1 h1), hM.mem, hM.len, hM.kn.keep HK.out (fun k h1 h2 => (hM.g _ h2).2.2.1 h1), fun k hk => ?_, fun k hk => ?_, fun k hk => ?_⟩, .inl hx, fun k hk => .inl (hg k hk), fun k hk => .inl (hb k hk), fun k hk => .inl (hc k hk)⟩, HK.out.mono (fun k _ h => hg k h)⟩
  ·have := hM.g k hk; exact ⟨this.1, this.2.1, this.2.2.1, by omega⟩
  ·have := hM.br k hk; exact ⟨this.1, this.2.1, by omega⟩
  ·have := hM.k k hk; exact ⟨this.1, by omega⟩
set_option maxRecDepth 100000 in
theorem iedgesK_any (F : Nat → Prop) (w : World) (xb n : Nat) (es : List E) (hX : IxK F w xb n es) (hl : es.length ≤ 1000) :
  Calls Tryz.prog 94 #[.pointer (some ⟨xb, 0, none⟩)] w (EdgesPost w es) := by
 obtain ⟨Fg, Fb, Fc, gb, bb, fs, r2, r3, r4, hM, -⟩ := hX
 exact iedges_any _ w xb n es r2 r3 r4 hM.at hl
theorem brE_ids {n : Nat} {es fs : List E} (hM : ∀ e, e ∈ es ↔ e ∈ fs.map norm) {l : List Nat} (h : BridgeIds fs l) : BridgeIds es l := by
 refine ⟨h.sorted, fun id => ?_⟩
 rw [h.mem id, ← ids_norm]
 have hsub : ∀ (e : E) (l : List Nat), e ∈ Pl.sans es l ↔ e ∈ Pl.sans (fs.map norm) l := fun e l => by
  unfold Pl.sans
  rw [List.mem_filter, List.mem_filter, hM e]
 have hc : ∀ (l : List Nat) x y, Conn (ends (Pl.sans es l)) x y ↔ Conn (ends (Pl.sans (fs.map norm) l)) x y := fun l x y =>
  ⟨Conn.of_sub fun e he => (hsub e l).1 he, Conn.of_sub fun e he => (hsub e l).2 he⟩
 constructor
 ·rintro ⟨f, h1, h2, h3⟩
  exact ⟨f, (hM f).2 h1, h2, fun h => h3 ((hc _ _ _).1 h)⟩
 ·rintro ⟨f, h1, h2, h3⟩
  exact ⟨f, (hM f).1 h1, h2, fun h => h3 ((hc _ _ _).2 h)⟩
def IBridgesPost (w : World) (es : List E) (e : Ending) (w' : World) : Prop :=
 ∃ (l : List Nat) (o : Option Addr) (c : Nat), e = .returned (.slice o l.length c) ∧ Sl (fun k => w.heap.size ≤ k) w' 3 1 o l.length c (ints l) ∧ BridgeIds es l ∧ Keep Nb w w' ∧ l.length ≤ es.length
set_option maxRecDepth 100000 in
theorem ibridgesK_any (F : Nat → Prop) (w : World) (xb n : Nat) (es : List E) (hX : IxK F w xb n es) (hl : es.length ≤ 1000) :
  Calls Tryz.prog 91 #[.pointer (some ⟨xb, 0, none⟩)] w (IBridgesPost w es) := by
 obtain ⟨Fg, Fb, Fc, gb, bb, fs, r2, r3, r4, hM, -⟩ := hX
 have c1 := hM.row.cell (i := 1) rfl
 have HM := Lib.hid hM
 clear hM
 go_enter Tryz.func91, Tryz.ntmps91
 go_wp2_with fail
 refine (ids_any Fb w bb n fs HM.out.brs (by rw [HM.out.len]; exact hl)).mono ?_
 rintro e w1 ⟨l, o, c, rfl, h1, h2, h3, h4, h5⟩
 have HP : Hid (IBridgesPost w es (.returned (.slice o l.length c)) w1) := Lib.hid ⟨l, o, c, rfl, h1, brE_ids (n := n) HM.out.mem h2, h4, by rw [← HM.out.len]; exact h5⟩
 clear h1 h2 h3 h4 h5
 go_wp2_with fail
 go_ret
 exact HP.out
def IAskPost (F : Nat → Prop) (w : World) (xb n : Nat) (es : List E) (v : Bool) (e : Ending) (w' : World) : Prop :=
 e = .returned (.tuple #[.bool v, .nilIface]) ∧ IxK F w' xb n es ∧ Keep F w w'
theorem IxM.asked {F Fg Fb Fc : Nat → Prop} {w w' : World} {xb gb bb n : Nat} {es fs : List E} {r2 r3 r4 : Value} (h : IxM Fg Fb Fc w xb gb bb n es fs r2 r3 r4) (hF : F xb ∧ (∀ k, Fg k → F k) ∧ (∀ k, Fb k → F k) ∧ (∀ k, Fc k → F k)) (hB : Brs Fb w' bb n fs) (k : Keep Fb w w') : IxK F w' xb n es ∧ Keep F w w' := by
 have z := k.size
 exact ⟨⟨Fg, Fb, Fc, gb, bb, fs, r2, r3, r4, ⟨h.row.keep k (fun e => (h.br _ e).1 rfl), h.gr.keep k (fun j h1 h2 => (h.g j h1).2.1 h2), hB, h.mem, h.len, h.kn.keep k (fun j h1 h2 => (h.br j h2).2.1 h1), fun j hj => by have := h.g j hj; exact ⟨this.1, this.2.1, this.2.2.1, by omega⟩, fun j hj => by have := h.br j hj; exact ⟨this.1, this.2.1, by omega⟩, fun j hj => by have := h.k j hj; exact ⟨this.1, by omega⟩⟩, hF.1, hF.2.1, hF.2.2.1, hF.2.2.2⟩, k.mono (fun j _ hj => hF.2.2.1 j hj)⟩
theorem conn_same {es fs : List E} (hM : ∀ e, e ∈ es ↔ e ∈ fs.map norm) (x y : Nat) : Conn (ends fs) x y ↔ Conn (ends es) x y := by
 rw [← conn_norm (es := fs)]
 exact ⟨Conn.of_sub fun e he => (hM e).2 he, Conn.of_sub fun e he => (hM e).1 he⟩
set_option maxRecDepth 100000 in
theorem iwholeK_any (F : Nat → Prop) (w : World) (xb n : Nat) (es : List E) (x y : Nat) (hx : x < n) (hy : y < n) (hX : IxK F w xb n es) :
  Calls Tryz.prog 104 #[.pointer (some ⟨xb, 0, none⟩), .int .i64 x, .int .i64 y] w (IAskPost F w xb n es (decide (Conn (ends es) x y))) := by
 obtain ⟨Fg, Fb, Fc, gb, bb, fs, r2, r3, r4, hM, hF⟩ := hX
 have c1 := hM.row.cell (i := 1) rfl
 have HM := Lib.hid hM
 have HF := Lib.hid hF
 obtain ⟨v, hv⟩ : ∃ v, decide (Conn (ends es) x y) = v := ⟨_, rfl⟩
 have hv2 : decide (Conn (ends fs) x y) = v := by rw [← hv]; exact decide_eq_decide.2 (conn_same hM.mem x y)
 have HV := Lib.hid hv2
 rw [hv]
 clear hM hF hv hv2
 go_enter Tryz.func104, Tryz.ntmps104
 go_wp2_with fail
 refine (bwhole_any Fb w bb n fs x y hx hy HM.out.brs).mono ?_
 rintro e w1 ⟨he, hB, hk⟩
 rw [HV.out] at he
 subst he
 have HP := Lib.hid (HM.out.asked HF.out hB hk)
 clear hB hk
 go_wp2_with fail
 go_ret2
 exact ⟨rfl, HP.out⟩
def twiceB (es : List E) (x y : Nat) : Prop := Conn (ends es) x y ∧ ∀ e, e ∈ es → Conn (ends (sans es [e.id])) x y
theorem twice_same {es fs : List E} (hM : ∀ e, e ∈ es ↔ e ∈ fs.map norm) (x y : Nat) : twiceB fs x y ↔ twiceB es x y := by
 unfold twiceB
 rw [conn_same hM]
 have hsub : ∀ (e : E) (l : List Nat), e ∈ Pl.sans es l ↔ e ∈ Pl.sans (fs.map norm) l := fun e l => by
  unfold Pl.sans
  rw [List.mem_filter, List.mem_filter, hM e]
 have hc : ∀ (l : List Nat) x y, Conn (ends (Pl.sans es l)) x y ↔ Conn (ends (Pl.sans fs l)) x y := fun l x y => by
  rw [← conn_norm (es := Pl.sans fs l), ← sans_norm]
  exact ⟨Conn.of_sub fun e he => (hsub e l).1 he, Conn.of_sub fun e he => (hsub e l).2 he⟩
 refine and_congr_right fun _ => ⟨fun h e he => ?_, fun h f hf => ?_⟩
 ·obtain ⟨f, hf, rfl⟩ := List.mem_map.1 ((hM e).1 he)
  exact (hc _ _ _).2 (h f hf)
 ·exact (hc _ _ _).1 (h (norm f) ((hM _).2 (List.mem_map.2 ⟨f, hf, rfl⟩)))
set_option maxRecDepth 100000 in
theorem itwiceK_any (F : Nat → Prop) (w : World) (xb n : Nat) (es : List E) (x y : Nat) (hx : x < n) (hy : y < n) (hX : IxK F w xb n es) :
  Calls Tryz.prog 101 #[.pointer (some ⟨xb, 0, none⟩), .int .i64 x, .int .i64 y] w fun e w' => ∃ r : Bool, (r = true ↔ twiceB es x y) ∧ IAskPost F w xb n es r e w' := by
 obtain ⟨Fg, Fb, Fc, gb, bb, fs, r2, r3, r4, hM, hF⟩ := hX
 have c1 := hM.row.cell (i := 1) rfl
 have HM := Lib.hid hM
 have HF := Lib.hid hF
 clear hM hF
 go_enter Tryz.func101, Tryz.ntmps101
 go_wp2_with fail
 refine (btwice_any Fb w bb n fs x y hx hy HM.out.brs).mono ?_
 rintro e w1 ⟨r, hr, rfl, hB, hk⟩
 have HP := Lib.hid (HM.out.asked HF.out hB hk)
 have HR : Hid (r = true ↔ twiceB es x y) := Lib.hid (hr.trans (twice_same HM.out.mem x y))
 clear hB hk hr
 go_wp2_with fail
 go_ret2
 exact ⟨r, HR.out, rfl, HP.out⟩
end Go.Proofs.YtfglkgkihafcpaaGreatDoor

