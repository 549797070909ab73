/- Part 28 of the proof: C1. -/
import Derived.Test.YtfglkgkihafcpaaGreatDoorDp05
import Derived.Test.YtfglkgkihafcpaaGreatDoorDp07
import Derived.Test.YtfglkgkihafcpaaGreatDoorDp09
import Derived.Test.YtfglkgkihafcpaaGreatDoorDp10
import Derived.Test.YtfglkgkihafcpaaGreatDoorDp12
import Derived.Test.YtfglkgkihafcpaaGreatDoorDp13
import Derived.Deep.RegionHeld3
import Derived.Deep.QuietTactic
import Derived.BigRegion
import Derived.BigQuiet
import Derived.Deep.DeepCutAuto
set_option linter.unusedVariables false
set_option linter.unusedSimpArgs false
namespace Go.Proofs.YtfglkgkihafcpaaGreatDoor
open Go.RowKit Pl Go.Maps
def edgeV (e : E) : Value := .agg #[.int .i64 e.id, .int .i64 e.a, .int .i64 e.b]
def edge0 : Value := .agg #[.int .i64 0, .int .i64 0, .int .i64 0]
theorem zero_edge (w : World) : (zeroValue 125).run Tryz.prog w = .ok edge0 w := by kernel_rfl
def FMap (wr : World) (bm : Nat) (fr : Nat → Option E) : Prop := ∃ mB, MapAt encN DN wr bm mB ∧ ∀ v, mget mB v = (fr v).map edgeV
theorem FMap.keep {G : Nat → Prop} {w w' : World} {bm : Nat} {fr : Nat → Option E} (h : FMap w bm fr) (k : Keep G w w') (hn : ¬ G bm) : FMap w' bm fr := by
 obtain ⟨mB, h1, h2⟩ := h; exact ⟨mB, h1.keep k hn, h2⟩
theorem FMap.look {wr : World} {bm : Nat} {fr : Nat → Option E} (h : FMap wr bm fr) {p : Nat} (hp : DN p) :
  (Instr.lookup 291 (.map (some bm)) (.int .i64 p) true).run Tryz.prog wr = .ok (.tuple #[((fr p).map edgeV).getD edge0, .bool (fr p).isSome]) wr ∧
   (Instr.lookup 291 (.map (some bm)) (.int .i64 p) false).run Tryz.prog wr = .ok (((fr p).map edgeV).getD edge0) wr := by
 obtain ⟨mB, h1, h2⟩ := h
 constructor
 ·have hl := h1.look (encN_enc Tryz.underlying3) Tryz.underlying291 (zero_edge wr) hp true
  rw [if_pos rfl, h2 p, Option.isSome_map] at hl
  exact hl
 ·have hl := h1.look (encN_enc Tryz.underlying3) Tryz.underlying291 (zero_edge wr) hp false
  rw [if_neg (by simp), h2 p] at hl
  exact hl
structure TvRel (w0 wr : World) (tr : List E) (a : Nat) (line : List Nat) (fr : Nat → Option E) (bm : Nat) (ol : Option Addr) (cl : Nat) : Prop where
 mem : FMap wr bm fr
 row : Sl (fun k => w0.heap.size ≤ k ∧ k ≠ bm) wr 3 1 ol line.length cl (ints line)
 tv : Tv tr a line fr
 keep : Keep Nb w0 wr
 new : w0.heap.size ≤ bm
 lt : ∀ v, v ∈ line → v < 1000
theorem nodup_lt_len2 {l : List Nat} {n : Nat} (h : l.Nodup) (hl : ∀ x, x ∈ l → x < n) : l.length ≤ n := by
 have := len_le_of_mem h (k := List.range n) (fun i hi => List.mem_range.2 (hl i hi))
 simpa using this
section
variable {w0 wr : World} {tr : List E} {a : Nat} {line : List Nat} {fr : Nat → Option E} {bm : Nat} {ol : Option Addr} {cl : Nat}
theorem TvRel.len (h : TvRel w0 wr tr a line fr bm ol cl) : line.length ≤ 1000 := nodup_lt_len2 h.tv.nodup h.lt
theorem TvRel.go {w' : World} (h : TvRel w0 wr tr a line fr bm ol cl) (k : Keep Nb wr w') : TvRel w0 w' tr a line fr bm ol cl :=
 ⟨h.mem.keep k (fun e => e), h.row.keep k (fun _ _ e => e), h.tv, h.keep.trans k, h.new, h.lt⟩
theorem TvRel.meet (h : TvRel w0 wr tr a line fr bm ol cl) {i x p : Nat} (hi : line[i]? = some x) {e : E} (he : e ∈ tr) (ht : touch e x) (hp : othE e x = p) (hn : fr p = none) (hna : p ≠ a) (hlt : p < 1000) :
  ∃ go c' w1 w2, (Instr.mapUpdate 291 (.map (some bm)) (.int .i64 p) (edgeV e)).run Tryz.prog wr = .ok () w1 ∧ Keep (fun j => j = bm) wr w1 ∧
   (Builtin.append_ #[63, 63] 63 #[.slice ol line.length cl, .slice (some ⟨w1.heap.size, 0, none⟩) 1 1]).run Tryz.prog (w1.alloc (.cells #[.int .i64 p] 3)) = .ok (.slice (some ⟨go, 0, none⟩) (line.length + 1) c') w2 ∧
   TvRel w0 w2 tr a (line ++ [p]) (upd fr p (some e)) bm (some ⟨go, 0, none⟩) c' := by
 have hlen := h.len
 obtain ⟨mB, h1, h2⟩ := h.mem
 obtain ⟨w1, q1, q2, q3⟩ := h1.store (encN_enc Tryz.underlying3) Tryz.underlying291 (a := p) (by unfold DN; omega) (edgeV e)
 have hrow := h.row.keep q3 (fun j hj e => hj.2 e)
 obtain ⟨go, c', w2, r1, r2, r3, r4⟩ := run_app1 (P := Tryz.prog) 63 63 3 Tryz.underlying63 elem_int rfl hrow (.int .i64 p) rfl (by omega) (by omega)
 have hbm := h1.lt
 have hz1 := q3.size
 have hz0 := h.keep.size
 have hbl : ∀ j, Bl ol j → w0.heap.size ≤ j ∧ j ≠ bm := by rintro j ⟨a, ha, rfl⟩; exact h.row.foot a ha
 refine ⟨go, c', w1, w2, q1, q3, r1, ⟨⟨mset mB p (edgeV e), q2.keep r3 (fun hb => (hbl _ hb).2 rfl), fun v => ?_⟩, ?_, ?_, ?_, h.new, ?_⟩⟩
 ·rw [mget_mset]
  by_cases e1 : v = p
  ·subst e1; rw [if_pos rfl, upd_same]; rfl
  ·rw [if_neg e1, upd_ne _ _ _ _ e1, h2]
 ·rw [ints_append, List.length_append]
  exact r2.mono (fun j hj => by
   rcases hj with hj | hj
   ·exact hj
   ·exact ⟨by omega, by omega⟩)
 ·subst hp; exact h.tv.meet hi he ht hn hna
 ·exact (h.keep.trans' q3 (H := Nb) (fun _ _ e => e) (fun j hj e => by show False; have := h.new; omega)).trans' r3 (fun _ _ e => e) (fun j hj e => by show False; have := (hbl j e).1; omega)
 ·intro v hv
  rcases List.mem_append.1 hv with hv | hv
  ·exact h.lt v hv
  ·rw [List.mem_singleton] at hv; omega
end
def TIn (w wr : World) (tr : List E) (a i x j : Nat) (line : List Nat) (fr : Nat → Option E) (bm : Nat) (ol : Option Addr) (cl : Nat) : Prop :=
 TvRel w wr tr a line fr bm ol cl ∧ line[i]? = some x ∧ TSeen tr line i ∧ ∀ j' e, j' < j → tr[j']? = some e → touch e x → othE e x ∈ line
section
variable {w wr w' : World} {tr : List E} {a i x j : Nat} {line : List Nat} {fr : Nat → Option E} {bm : Nat} {ol : Option Addr} {cl : Nat}
theorem TIn.go (h : TIn w wr tr a i x j line fr bm ol cl) (kp : Keep Nb wr w') : TIn w w' tr a i x j line fr bm ol cl := ⟨h.1.go kp, h.2⟩
theorem TIn.skip {e : E} (h : TIn w wr tr a i x j line fr bm ol cl) (hk : tr[j]? = some e) (hs : touch e x → (fr (othE e x)).isSome = true ∨ othE e x = a) (kp : Keep Nb wr w') : TIn w w' tr a i x (j + 1) line fr bm ol cl := by
 obtain ⟨h1, h2, h3, h4⟩ := h
 refine ⟨h1.go kp, h2, h3, fun j' e' hj hk' ht => ?_⟩
 by_cases e1 : j' < j
 ·exact h4 j' e' e1 hk' ht
 ·obtain rfl : j' = j := by omega
  rw [hk] at hk'; cases hk'
  rcases hs ht with hs | hs
  ·exact ((h1.tv.keys _).1 hs).1
  ·rw [hs]; exact List.mem_of_getElem? h1.tv.head
theorem TIn.more {p : Nat} {e : E} {fr2 : Nat → Option E} {ol2 : Option Addr} {cl2 : Nat} (h : TIn w wr tr a i x j line fr bm ol cl) (hk : tr[j]? = some e) (hp : othE e x = p) (h2 : TvRel w w' tr a (line ++ [p]) fr2 bm ol2 cl2) : TIn w w' tr a i x (j + 1) (line ++ [p]) fr2 bm ol2 cl2 := by
 obtain ⟨h1, hv, h3, h4⟩ := h
 have hi := (List.getElem?_eq_some_iff.1 hv).1
 refine ⟨h2, by rw [List.getElem?_append_left hi]; exact hv, h3.grow (by omega) p, fun j' e' hj hk' ht => ?_⟩
 by_cases e1 : j' < j
 ·exact List.mem_append_left _ (h4 j' e' e1 hk' ht)
 ·obtain rfl : j' = j := by omega
  rw [hk] at hk'; cases hk'
  rw [hp]; simp
theorem TIn.end_ (h : TIn w wr tr a i x tr.length line fr bm ol cl) : TvRel w wr tr a line fr bm ol cl ∧ TSeen tr line (i + 1) := by
 obtain ⟨h1, h2, h3, h4⟩ := h
 refine ⟨h1, h3.next h2 fun e he ht => ?_⟩
 obtain ⟨j, hj⟩ := List.mem_iff_getElem?.1 he
 exact h4 j e (List.getElem?_eq_some_iff.1 hj).1 hj ht
end
def PathPost (tr : List E) (w : World) (a b : Nat) (e : Ending) (w' : World) : Prop :=
 ∃ (l : List Nat) (o : Option Addr) (c : Nat), e = .returned (.slice o l.length c) ∧ Sl (fun k => w.heap.size ≤ k) w' 3 1 o l.length c (ints l) ∧ WayIs tr a b l ∧ Keep Nb w w' ∧ l.length ≤ 1000
set_option maxRecDepth 100000 in
set_option maxHeartbeats 2000000 in
theorem path_any (F : Nat → Prop) (w : World) (es tr : List E) (ot : Option Addr) (ct a b : Nat) (hS : Sl F w 125 3 ot tr.length ct (ecs tr)) (hl : tr.length ≤ 1000) (hsp : Spans es tr) (ho : ∀ e, e ∈ tr → e.a < 1000 ∧ e.b < 1000) (ha : a < 1000) (hc : Conn (ends tr) a b) :
  Calls Tryz.prog 205 #[.slice ot tr.length ct, .int .i64 a, .int .i64 b] w (PathPost tr w a b) := by
 have hmm := @run_makeMap Tryz.prog
 have H0 : Hid (TvRel w ((w.alloc (.map #[] 0)).alloc (.cells #[.int .i64 a] 3)) tr a [a] (fun _ => none) w.heap.size (some ⟨w.heap.size + 1, 0, none⟩) 1 ∧ TSeen tr [a] 0) :=
  Lib.hid ⟨⟨⟨[], (MapAt.made encN DN w).alloc _, fun v => rfl⟩, by
   have := (Sl.built (w.alloc (.map #[] 0)) 3 1 1 [.int .i64 a] rfl (by simp only [maxLen]; omega)).mono (G := fun k => w.heap.size ≤ k ∧ k ≠ w.heap.size) (fun k hk => by simp only [World.size_alloc] at hk; omega)
   rwa [World.size_alloc] at this, Tv.start tr a, ((Keep.refl Nb w).alloc _).alloc _, Nat.le_refl _, fun v hv => by rw [List.mem_singleton] at hv; omega⟩, fun i' _ _ h => by omega⟩
 have HS := Lib.hid hS
 have HSP := Lib.hid hsp
 have HO := Lib.hid ho
 have HC := Lib.hid hc
 clear hS hsp ho hc
 go_enter Tryz.func205, Tryz.ntmps205
 go_wp2_with fail
 go_loopg [8, 9] 1000 (fun kx s8 s9 wr => ∃ (i : Nat) (line : List Nat) (fr : Nat → Option E) (ol : Option Addr) (cl : Nat), s8 = .slice ol line.length cl ∧ s9 = .int .i64 i ∧ i ≤ line.length ∧ 1000 - i ≤ kx ∧ Hid (TvRel w wr tr a line fr w.heap.size ol cl ∧ TSeen tr line i))
 case atStart => exact ⟨0, [a], _, _, 1, rfl, rfl, Nat.zero_le _, by omega, H0⟩
 case round =>
  clear H0
  obtain ⟨i, line, fr, ol, cl, rfl, rfl, hi, hg, HR⟩ := hrel
  have hlen := HR.out.1.len
  by_cases hlt : i < line.length
  ·obtain ⟨x, hv⟩ : ∃ x, line[i]? = some x := ⟨_, List.getElem?_eq_getElem hlt⟩
   obtain ⟨gl, rfl, _, hcl, hrow⟩ := HR.out.1.row.pos (by omega)
   have d1 := hrow.cell (ints_get hv)
   have hxl := HR.out.1.lt x (List.mem_of_getElem? hv)
   have HI : Hid (TIn w wr tr a i x 0 line fr w.heap.size (some ⟨gl, 0, none⟩) cl) := Lib.hid ⟨HR.out.1, hv, HR.out.2, fun j' _ h => by omega⟩
   clear hv hrow HR
   go_wp2_with fail
   go_loopg [8, 33] tr.length (fun ky s8 s33 wr2 => ∃ (j : Nat) (line : List Nat) (fr : Nat → Option E) (ol : Option Addr) (cl : Nat), s8 = .slice ol line.length cl ∧ s33 = .int .i64 j ∧ j ≤ tr.length ∧ tr.length - j ≤ ky ∧ Hid (TIn w wr2 tr a i x j line fr w.heap.size ol cl))
   case atStart => exact ⟨0, line, fr, _, cl, rfl, rfl, Nat.zero_le _, by omega, HI⟩
   case round =>
    clear HI
    obtain ⟨j, line2, fr2, ol2, cl2, rfl, rfl, hj, hgj, HI2⟩ := hrel
    by_cases hjl : j < tr.length
    ·obtain ⟨e, hk⟩ : ∃ e, tr[j]? = some e := ⟨_, List.getElem?_eq_getElem hjl⟩
     obtain ⟨gt, rfl, _, hct, hrt⟩ := HS.out.pos (by omega)
     have hE := hrt.edges.keep HI2.out.1.keep (fun e => e)
     have d2 := hE.id _ _ hk
     have d3 := hE.a _ _ hk
     have d4 := hE.b _ _ hk
     have hem := List.mem_of_getElem? hk
     have HK := Lib.hid hk
     have HOE := Lib.hid (HO.out e hem)
     have HEM := Lib.hid hem
     clear hrt hE hk hem
     obtain ⟨eid, heid⟩ : ∃ eid, e.id = eid := ⟨_, rfl⟩
     obtain ⟨ea, hea⟩ : ∃ ea, e.a = ea := ⟨_, rfl⟩
     obtain ⟨eb, heb⟩ : ∃ eb, e.b = eb := ⟨_, rfl⟩
     rw [heid] at d2
     rw [hea] at d3
     rw [heb] at d4
     have HE := Lib.hid (And.intro heid (And.intro hea heb))
     clear heid hea heb
     go_wp2_with fail
     refine (other_any _ eid ea eb x).mono ?_
     rintro e1 wo ⟨rfl, hko⟩
     obtain ⟨p, hp⟩ : ∃ p, (if ea = x then eb else ea) = p := ⟨_, rfl⟩
     rw [hp]
     have hp1000 : p < 1000 := by
      obtain ⟨_, h2, h3⟩ := HE.out
      have := HOE.out
      rw [← hp]; split <;> omega
     have HPP : Hid (othE e x = p) := Lib.hid (by obtain ⟨_, h2, h3⟩ := HE.out; unfold othE; rw [h2, h3]; exact hp)
     have kwo : Keep Nb wr wo := ((Keep.refl Nb wr).alloc _).trans hko
     have HKO := Lib.hid kwo
     have f0 := hko.cell (p := ⟨wr.heap.size, 0, none⟩) (v := .int .i64 eid) (by rw [World.cell?_alloc_at _ _ _ _ rfl]; rfl) (fun e => e)
     have f1 := hko.cell (p := ⟨wr.heap.size, 1, none⟩) (v := .int .i64 ea) (by rw [World.cell?_alloc_at _ _ _ _ rfl]; rfl) (fun e => e)
     have f2 := hko.cell (p := ⟨wr.heap.size, 2, none⟩) (v := .int .i64 eb) (by rw [World.cell?_alloc_at _ _ _ _ rfl]; rfl) (fun e => e)
     have lb := World.block_lt_of_cell? _ _ f1
     obtain ⟨q, hq⟩ : ∃ q, wr.heap.size = q := ⟨_, rfl⟩
     rw [hq] at f0 f1 f2 lb ⊢
     have hlook := ((HI2.out.go kwo).1.mem.look (p := p) (by unfold DN; omega)).1
     have ht3 : (touch e x ∧ ((ea : Int) == (x : Int)) = true) ∨ (touch e x ∧ ((ea : Int) == (x : Int)) = false ∧ ((eb : Int) == (x : Int)) = true) ∨ (¬ touch e x ∧ ((ea : Int) == (x : Int)) = false ∧ ((eb : Int) == (x : Int)) = false) := by
      obtain ⟨_, h2, h3⟩ := HE.out
      unfold touch
      rw [h2, h3]
      by_cases c1 : ea = x
      ·exact .inl ⟨.inl c1, by simp; omega⟩
      ·by_cases c2 : eb = x
       ·exact .inr (.inl ⟨.inr c2, by simp; omega, by simp; omega⟩)
       ·exact .inr (.inr ⟨by omega, by simp; omega, by simp; omega⟩)
     clear hko kwo hp d2 d3 d4 hq
     cases hbp : fr2 p with
     | some g =>
      rw [hbp] at hlook
      simp only [Option.map_some, Option.getD_some, Option.isSome_some, edgeV] at hlook
      have HN : Hid (TIn w (wo.alloc (.cells #[.int .i64 g.id, .int .i64 g.a, .int .i64 g.b] 125)) tr a i x (j + 1) line2 fr2 w.heap.size ol2 cl2) := Lib.hid (HI2.out.skip HK.out (fun _ => .inl (by rw [HPP.out, hbp]; rfl)) (HKO.out.alloc _))
      clear hbp HI2
      rcases ht3 with ⟨_, b1⟩ | ⟨_, b1, b2⟩ | ⟨_, b1, b2⟩
      all_goals
       go_wp2_with fail
       go_roundg (tr.length - (j + 1))
       case measure => omega
       case rel => exact ⟨j + 1, line2, fr2, ol2, cl2, rfl, rfl, by omega, Nat.le_refl _, HN⟩
     | none =>
      rw [hbp] at hlook
      simp only [Option.map_none, Option.getD_none, Option.isSome_none, edge0] at hlook
      by_cases hsk : touch e x → p = a
      ·have HN : Hid (TIn w (wo.alloc (.cells #[.int .i64 0, .int .i64 0, .int .i64 0] 125)) tr a i x (j + 1) line2 fr2 w.heap.size ol2 cl2) := Lib.hid (HI2.out.skip HK.out (fun h => .inr (by rw [HPP.out]; exact hsk h)) (HKO.out.alloc _))
       clear hbp HI2
       rcases ht3 with ⟨t0, b1⟩ | ⟨t0, b1, b2⟩ | ⟨t0, b1, b2⟩
       ·have b3 : ((p : Int) != (a : Int)) = false := by have := hsk t0; simp; omega
        clear hsk
        go_wp2_with fail
        go_roundg (tr.length - (j + 1))
        case measure => omega
        case rel => exact ⟨j + 1, line2, fr2, ol2, cl2, rfl, rfl, by omega, Nat.le_refl _, HN⟩
       ·have b3 : ((p : Int) != (a : Int)) = false := by have := hsk t0; simp; omega
        clear hsk
        go_wp2_with fail
        go_roundg (tr.length - (j + 1))
        case measure => omega
        case rel => exact ⟨j + 1, line2, fr2, ol2, cl2, rfl, rfl, by omega, Nat.le_refl _, HN⟩
       ·clear hsk
        go_wp2_with fail
        go_roundg (tr.length - (j + 1))
        case measure => omega
        case rel => exact ⟨j + 1, line2, fr2, ol2, cl2, rfl, rfl, by omega, Nat.le_refl _, HN⟩
      ·have hts : touch e x := Classical.byContradiction fun hh => hsk (fun h => absurd h hh)
       have hpa : p ≠ a := fun hh => hsk (fun _ => hh)
       have b3 : ((p : Int) != (a : Int)) = true := by rw [bne_iff_ne]; omega
       have hI3 := HI2.out.go (HKO.out.alloc (.cells #[.int .i64 0, .int .i64 0, .int .i64 0] 125))
       obtain ⟨gn, cn, w4, w5, r1, r2, r3, r4⟩ := hI3.1.meet hI3.2.1 HEM.out hts HPP.out hbp hpa hp1000
       obtain ⟨hE1, hE2, hE3⟩ := HE.out
       unfold edgeV at r1
       rw [hE1, hE2, hE3] at r1
       have R1 := Lib.hid r1
       have R3 := Lib.hid r3
       have HN := Lib.hid (hI3.more HK.out HPP.out r4)
       clear r1 r2 r3 r4 hI3 hsk hE1 hE2 hE3 hbp HI2 HKO
       have ht2 : ((ea : Int) == (x : Int)) = true ∨ (((ea : Int) == (x : Int)) = false ∧ ((eb : Int) == (x : Int)) = true) := by
        rcases ht3 with ⟨_, h⟩ | ⟨_, h⟩ | ⟨h, _⟩
        ·exact .inl h
        ·exact .inr h
        ·exact absurd hts h
       clear ht3 hts
       rcases ht2 with b1 | ⟨b1, b2⟩
       all_goals
        go_wp2_with (first | (at_builtin; refine wpList_app rfl _ _ _ rfl rfl rfl R3.out ?_) | (at_mapUpdate; refine wpList_mapset rfl _ _ _ _ rfl rfl rfl rfl R1.out ?_))
        go_roundg (tr.length - (j + 1))
        case measure => omega
        case rel => exact ⟨j + 1, line2 ++ [p], _, _, _, by simp, rfl, by omega, Nat.le_refl _, HN⟩
    ·obtain rfl : j = tr.length := by omega
     have HO2 := Lib.hid HI2.out.end_
     have hi2 := (List.getElem?_eq_some_iff.1 HI2.out.2.1).1
     clear HI2
     go_wp2_with fail
     go_roundg (1000 - (i + 1))
     case measure => omega
     case rel => exact ⟨i + 1, line2, fr2, ol2, cl2, rfl, rfl, by omega, Nat.le_refl _, HO2⟩
  ·obtain rfl : i = line.length := by omega
   have hbl := HR.out.1.tv.all HR.out.2 HC.out
   obtain ⟨j0, hj0⟩ := Bk.start HR.out.1.tv hbl
   have HB0 := Lib.hid hj0
   obtain ⟨wl, rfl⟩ : ∃ wl : World, wl = wr := ⟨_, rfl⟩
   clear hj0 hbl
   go_wp2_with fail
   go_loopg [2, 16] (j0 + 1) (fun kx s2 s16 wr2 => ∃ (j v : Nat) (out : List Nat) (oo : Option Addr) (co : Nat), s2 = .int .i64 v ∧ s16 = .slice oo out.length co ∧ j + 1 ≤ kx ∧ Hid (Bk tr b line fr out j v ∧ Sl (fun k => wl.heap.size ≤ k) wr2 3 1 oo out.length co (ints out) ∧ Keep Nb wl wr2))
   case atStart => exact ⟨j0, b, [], none, 0, rfl, rfl, Nat.le_refl _, Lib.hid ⟨HB0.out, Sl.nil _ _ _ _, Keep.refl _ _⟩⟩
   case round =>
    clear HB0
    obtain ⟨j, v, out, oo, co, rfl, rfl, hj, HR2⟩ := hrel
    have hol := HR2.out.1.len
    by_cases hva : v = a
    ·have b1 : ((v : Int) != (a : Int)) = false := by simp; omega
     have HP : Hid (PathPost tr w a b (.returned (.slice oo out.length co)) wr) := Lib.hid (by
      refine ⟨out, oo, co, rfl, HR2.out.2.1.mono (fun k hk => Nat.le_trans HR.out.1.keep.size hk), ?_, HR.out.1.keep.trans HR2.out.2.2, by omega⟩
      have := HR2.out.1
      rw [hva] at this
      exact this.done)
     clear HR HR2 hva
     go_wp2_with fail
     go_ret
     exact HP.out
    ·have b1 : ((v : Int) != (a : Int)) = true := by rw [bne_iff_ne]; omega
     obtain ⟨e, j', hem, hfe, hjj, hnx⟩ := HR2.out.1.next HSP.out HR.out.1.tv hva
     have hv1000 : v < 1000 := HR.out.1.lt v (List.mem_of_getElem? HR2.out.1.at_)
     have hlook := ((HR.out.1.go HR2.out.2.2).mem.look (p := v) (by unfold DN; omega)).2
     rw [hfe] at hlook
     simp only [Option.map_some, Option.getD_some, edgeV] at hlook
     obtain ⟨p, hp⟩ : ∃ p, othE e v = p := ⟨_, rfl⟩
     have hpp : (if e.a = v then e.b else e.a) = p := hp
     rw [hp] at hnx
     have HNX := Lib.hid hnx
     have HPP := Lib.hid hpp
     obtain ⟨eid, heid⟩ : ∃ eid, e.id = eid := ⟨_, rfl⟩
     obtain ⟨ea, hea⟩ : ∃ ea, e.a = ea := ⟨_, rfl⟩
     obtain ⟨eb, heb⟩ : ∃ eb, e.b = eb := ⟨_, rfl⟩
     rw [heid, hea, heb] at hlook
     rw [heid] at HNX
     rw [hea, heb] at HPP
     obtain ⟨wq, hwq⟩ : ∃ wq, wr.alloc (.cells #[.int .i64 eid, .int .i64 ea, .int .i64 eb] 125) = wq := ⟨_, rfl⟩
     have kq : Keep Nb wr wq := by rw [← hwq]; exact (Keep.refl Nb wr).alloc _
     have hSq := HR2.out.2.1.keep kq (fun _ _ e => e)
     have zq : wr.heap.size < wq.heap.size := by rw [← hwq]; simp
     have hltq : ∀ x, Bl oo x → x < wr.heap.size := by rintro x ⟨q, hq, rfl⟩; exact HR2.out.2.1.lt hq
     have hgeq : ∀ x, Bl oo x → wl.heap.size ≤ x := by rintro x ⟨q, hq, rfl⟩; exact HR2.out.2.1.foot q hq
     obtain ⟨g3, c3, w3, r1, r2, r3, r4⟩ := run_app1 (P := Tryz.prog) 63 63 3 Tryz.underlying63 elem_int rfl hSq (.int .i64 eid) rfl (by have := HR.out.1.len; omega) (by omega)
     have f0 : wq.cell? ⟨wr.heap.size, 0, none⟩ = some (.int .i64 eid) := by rw [← hwq, World.cell?_alloc_at _ _ _ _ rfl]; rfl
     have f1 : wq.cell? ⟨wr.heap.size, 1, none⟩ = some (.int .i64 ea) := by rw [← hwq, World.cell?_alloc_at _ _ _ _ rfl]; rfl
     have f2 : wq.cell? ⟨wr.heap.size, 2, none⟩ = some (.int .i64 eb) := by rw [← hwq, World.cell?_alloc_at _ _ _ _ rfl]; rfl
     have g0 := r3.cell f0 (fun e => Nat.lt_irrefl _ (hltq _ e))
     have g1 := r3.cell f1 (fun e => Nat.lt_irrefl _ (hltq _ e))
     have g2 := r3.cell f2 (fun e => Nat.lt_irrefl _ (hltq _ e))
     have HN : Hid (Sl (fun k => wl.heap.size ≤ k) w3 3 1 (some ⟨g3, 0, none⟩) (out.length + 1) c3 (ints (out ++ [eid])) ∧ Keep Nb wl w3) := Lib.hid ⟨by
      rw [ints_append]
      exact r2.mono (fun k hk => by
       have := HR2.out.2.2.size
       rcases hk with hk | hk
       ·exact hk
       ·show wl.heap.size ≤ k; omega), (HR2.out.2.2.trans kq).trans' r3 (fun _ _ e => e) (fun x hx e => by have := hgeq _ e; show False; omega)⟩
     have R1 := Lib.hid r1
     subst hwq
     simp only [World.size_alloc] at R1
     clear hnx hpp hp heid hea heb hfe hem HR2 kq hSq hltq hgeq r1 r2 r3 r4
     go_wp2_with (first | (at_builtin; refine wpList_app rfl _ _ _ rfl rfl rfl R1.out ?_))
     refine (other_any _ eid ea eb v).mono ?_
     rintro e1 wo ⟨rfl, hko⟩
     rw [HPP.out]
     have HN2 : Hid (Bk tr b line fr (out ++ [eid]) j' p ∧ Sl (fun k => wl.heap.size ≤ k) wo 3 1 (some ⟨g3, 0, none⟩) (out ++ [eid]).length c3 (ints (out ++ [eid])) ∧ Keep Nb wl wo) := Lib.hid ⟨HNX.out, by
      rw [List.length_append]; exact HN.out.1.keep hko (fun _ _ e => e), HN.out.2.trans hko⟩
     clear hko HN
     go_wp2_with fail
     go_roundg (j' + 1)
     case measure => omega
     case rel => exact ⟨j', p, out ++ [eid], _, _, rfl, by simp, Nat.le_refl _, HN2⟩
end Go.Proofs.YtfglkgkihafcpaaGreatDoor
namespace Go.Proofs.YtfglkgkihafcpaaGreatDoor
open Go.RowKit Pl Go.Maps
def encM (m : Nat) : Value := .agg #[.int .u64 (m % 18446744073709551616 : Nat), .int .u64 (m / 18446744073709551616 : Nat)]
theorem zero_mask (w : World) : (zeroValue 244).run Tryz.prog w = .ok (encM 0) w := by kernel_rfl
def MMap (wr : World) (bm : Nat) (M : Nat → Nat) : Prop := ∃ mB, MapAt encN DN wr bm mB ∧ ∀ id, (mget mB id).getD (encM 0) = encM (M id)
theorem MMap.keep {G : Nat → Prop} {w w' : World} {bm : Nat} {M : Nat → Nat} (h : MMap w bm M) (k : Keep G w w') (hn : ¬ G bm) : MMap w' bm M := by
 obtain ⟨mB, h1, h2⟩ := h; exact ⟨mB, h1.keep k hn, h2⟩
theorem MMap.lt {w : World} {bm : Nat} {M : Nat → Nat} (h : MMap w bm M) : bm < w.heap.size := by obtain ⟨mB, h1, h2⟩ := h; exact h1.lt
theorem MMap.look {wr : World} {bm : Nat} {M : Nat → Nat} (h : MMap wr bm M) {p : Nat} (hp : DN p) :
  (Instr.lookup 240 (.map (some bm)) (.int .i64 p) false).run Tryz.prog wr = .ok (encM (M p)) wr := by
 obtain ⟨mB, h1, h2⟩ := h
 have hl := h1.look (encN_enc Tryz.underlying3) Tryz.underlying240 (zero_mask wr) hp false
 rw [if_neg (by simp), h2 p] at hl
 exact hl
theorem MMap.store {wr : World} {bm : Nat} {M : Nat → Nat} (h : MMap wr bm M) {p : Nat} (hp : DN p) (v : Nat) :
  ∃ w', (Instr.mapUpdate 240 (.map (some bm)) (.int .i64 p) (encM v)).run Tryz.prog wr = .ok () w' ∧ MMap w' bm (upd M p v) ∧ Keep (fun j => j = bm) wr w' := by
 obtain ⟨mB, h1, h2⟩ := h
 obtain ⟨w', q1, q2, q3⟩ := h1.store (encN_enc Tryz.underlying3) Tryz.underlying240 (a := p) hp (encM v)
 refine ⟨w', q1, ⟨_, q2, fun id => ?_⟩, q3⟩
 rw [mget_mset]
 by_cases e : id = p
 ·subst e; rw [if_pos rfl, upd_same]; rfl
 ·rw [if_neg e, upd_ne _ _ _ _ e]; exact h2 id
structure CovMem (w : World) (c gb bm rest : Nat) (M : Nat → Nat) : Prop where
 head : Row w c 242 [.pointer (some ⟨gb, 0, none⟩), .map (some bm), .int .i64 rest]
 mm : MMap w bm M
 ne : c ≠ bm
theorem CovMem.keep {G : Nat → Prop} {w w' : World} {c gb bm rest : Nat} {M : Nat → Nat} (h : CovMem w c gb bm rest M) (k : Keep G w w') (hc : ¬ G c) (hb : ¬ G bm) : CovMem w' c gb bm rest M :=
 ⟨h.head.keep k hc, h.mm.keep k hb, h.ne⟩
def Cov (F : Nat → Prop) (w : World) (c gb : Nat) (es : List E) : Prop :=
 ∃ bm, CovMem w c gb bm (rsE es).length (msk (trE es) (rsE es)) ∧ F c ∧ F bm
theorem Cov.keep {F G : Nat → Prop} {w w' : World} {c gb : Nat} {es : List E} (h : Cov F w c gb es) (k : Keep G w w') (d : ∀ k, F k → ¬ G k) : Cov F w' c gb es := by
 obtain ⟨bm, h1, h2, h3⟩ := h; exact ⟨bm, h1.keep k (d _ h2) (d _ h3), h2, h3⟩
theorem Cov.mono {F G : Nat → Prop} {w : World} {c gb : Nat} {es : List E} (h : Cov F w c gb es) (hG : ∀ k, F k → G k) : Cov G w c gb es := by
 obtain ⟨bm, h1, h2, h3⟩ := h; exact ⟨bm, h1, hG _ h2, hG _ h3⟩
def CPartsPost (w : World) (n : Nat) (es : List E) (e : Ending) (w' : World) : Prop :=
 ∃ s, e = .returned (.pointer (some ⟨s, 0, none⟩)) ∧ Sets (fun k => w.heap.size ≤ k ∧ k < w'.heap.size) w' s n (labs (ends es)) ∧ Keep Nb w w'
set_option maxRecDepth 100000 in
set_option maxHeartbeats 1000000 in
theorem cparts_any (F : Nat → Prop) (w : World) (b n : Nat) (es : List E) (hG : Gr F w b n es) (hn : n ≤ 40) (hl : es.length ≤ 1000) (ho : ∀ e, e ∈ es → e.a < n ∧ e.b < n) :
  Calls Tryz.prog 180 #[.pointer (some ⟨b, 0, none⟩)] w (CPartsPost w n es) := by
 have HG := Lib.hid hG
 have HO := Lib.hid ho
 clear hG ho
 go_enter Tryz.func180, Tryz.ntmps180
 go_wp2_with fail
 refine (nodes_any F w b n es HG.out).mono ?_
 rintro e1 w0 ⟨rfl, rfl⟩
 go_wp2_with fail
 refine (new_any n hn _).mono ?_
 rintro e1 w1 ⟨s, rfl, hS1, hk1⟩
 have HS1 := Lib.hid (hS1.monoF (G := fun k => w0.heap.size ≤ k ∧ k < w1.heap.size) (fun _ e => e))
 have HK1 := Lib.hid hk1
 clear hS1 hk1
 go_wp2_with fail
 refine (edges_any F w1 b n es (HG.out.keep HK1.out (fun _ _ h => h)) hl).mono ?_
 rintro e1 w2 ⟨o2, c2, rfl, hS2, hk2⟩
 have HS2 := Lib.hid hS2
 have HK2 := Lib.hid hk2
 clear hS2 hk2
 go_wp2_with fail
 go_loopg [16] es.length (fun kx s16 wr => ∃ i : Nat, s16 = .int .i64 i ∧ i ≤ es.length ∧ es.length - i ≤ kx ∧ Hid (Sets (fun k => w0.heap.size ≤ k ∧ k < w1.heap.size) wr s n (labs (ends (es.take i))) ∧ Keep (fun k => w0.heap.size ≤ k ∧ k < w1.heap.size) w2 wr))
 case atStart => exact ⟨0, rfl, Nat.zero_le _, by omega, Lib.hid ⟨HS1.out.keepG HK2.out (fun _ _ h => h), Keep.refl _ w2⟩⟩
 case round =>
  obtain ⟨i, rfl, hi, hg, HR⟩ := hrel
  have hz1 := HK1.out.size
  have hz2 := HK2.out.size
  by_cases hlt : i < es.length
  ·obtain ⟨g, rfl, hFg, hnc, hrow⟩ := HS2.out.pos (by omega)
   have hy := List.getElem?_eq_getElem hlt
   generalize es[i]'hlt = e at hy
   have hEr := hrow.edges.keep HR.out.2 (fun h => by have := h.2; omega)
   have d1 := hEr.id _ _ hy
   have d2 := hEr.a _ _ hy
   have d3 := hEr.b _ _ hy
   have HY := Lib.hid hy
   have hem := List.mem_of_getElem? hy
   have HOe := Lib.hid (HO.out e hem)
   have hwz := HR.out.2.size
   clear hy hrow hEr hem
   go_wp2_with fail
   refine (join_any (fun k => w0.heap.size ≤ k ∧ k < w1.heap.size) _ s n _ e.a e.b HOe.out.1 HOe.out.2 (HR.out.1.keepG ((Keep.refl Nb wr).alloc _) (fun _ _ h => h))).mono ?_
   rintro e1 w3 ⟨rfl, hj, hk3⟩
   have HN : Hid (Sets (fun k => w0.heap.size ≤ k ∧ k < w1.heap.size) w3 s n (labs (ends (es.take (i + 1)))) ∧ Keep (fun k => w0.heap.size ≤ k ∧ k < w1.heap.size) w2 w3) := Lib.hid ⟨by
    rw [take_snoc' HY.out, ends_snoc, labs_snoc]; exact hj, (HR.out.2.alloc _).trans hk3⟩
   obtain ⟨r, hr⟩ : ∃ r, decide (labs (ends (es.take i)) e.a ≠ labs (ends (es.take i)) e.b) = r := ⟨_, rfl⟩
   rw [hr]
   clear hj hk3 hr
   go_wp2_with fail
   go_roundg (es.length - (i + 1))
   case measure => omega
   case rel => exact ⟨i + 1, rfl, by omega, Nat.le_refl _, HN⟩
  ·obtain rfl : i = es.length := by omega
   have HP : Hid (CPartsPost w0 n es (.returned (.pointer (some ⟨s, 0, none⟩))) wr) := Lib.hid (by
    obtain ⟨h1, h2⟩ := HR.out
    rw [List.take_length] at h1
    have := h2.size
    exact ⟨s, rfl, h1.monoF (fun k hk => by omega), (HK1.out.trans HK2.out).trans' h2 (fun _ _ h => h) (fun k hk h => by show False; omega)⟩)
   clear HR
   go_wp2_with fail
   go_ret
   exact HP.out
end Go.Proofs.YtfglkgkihafcpaaGreatDoor
namespace Go.Proofs.YtfglkgkihafcpaaGreatDoor
open Go.RowKit Pl Go.Maps
structure TwoE (F : Nat → Prop) (w : World) (tr rs : List E) (ot oo : Option Addr) (ct co : Nat) : Prop where
 t : Sl F w 125 3 ot tr.length ct (ecs tr)
 r : Sl F w 125 3 oo rs.length co (ecs rs)
 d : ∀ k, Bl ot k → ¬ Bl oo k
theorem TwoE.keep {F G : Nat → Prop} {w w' : World} {tr rs : List E} {ot oo : Option Addr} {ct co : Nat} (h : TwoE F w tr rs ot oo ct co) (k : Keep G w w') (d : ∀ k, F k → ¬ G k) : TwoE F w' tr rs ot oo ct co :=
 ⟨h.t.keep k d, h.r.keep k d, h.d⟩
theorem TwoE.swap {F : Nat → Prop} {w : World} {tr rs : List E} {ot oo : Option Addr} {ct co : Nat} (h : TwoE F w tr rs ot oo ct co) : TwoE F w rs tr oo ot co ct :=
 ⟨h.r, h.t, fun k h1 h2 => h.d k h2 h1⟩
theorem ecs_snoc' (es : List E) (e : E) : ecs (es ++ [e]) = ecs es ++ ecells e := by simp [ecs]
theorem TwoE.push {z : Nat} {w : World} {tr rs : List E} {ot oo : Option Addr} {ct co : Nat} (h : TwoE (fun k => z ≤ k) w tr rs ot oo ct co) (hz : z ≤ w.heap.size) (hl : tr.length < 1000) (e : E) :
  ∃ g c' w', (Builtin.append_ #[117, 117] 117 #[.slice ot tr.length ct, .slice (some ⟨w.heap.size, 0, none⟩) 1 1]).run Tryz.prog (w.alloc (.cells #[.int .i64 e.id, .int .i64 e.a, .int .i64 e.b] 125)) = .ok (.slice (some ⟨g, 0, none⟩) (tr.length + 1) c') w' ∧
   TwoE (fun k => z ≤ k) w' (tr ++ [e]) rs (some ⟨g, 0, none⟩) oo c' co ∧ Keep (fun k => z ≤ k) w w' := by
 obtain ⟨g, c', w', r1, r2, r3, r4⟩ := run_appN (P := Tryz.prog) 117 117 125 und_edges elem_edge (by rfl) (by omega) h.t (ecells e) 1 (by intro u hu; simp [ecells] at hu; rcases hu with rfl | rfl | rfl <;> rfl) rfl (by omega) (by omega) (by omega)
 have hbl : ∀ k, Bl ot k → z ≤ k := by rintro k ⟨a, ha, rfl⟩; exact h.t.foot a ha
 refine ⟨g, c', w', r1, ⟨?_, ?_, ?_⟩, r3.mono (fun k _ hk => hbl k hk)⟩
 ·rw [List.length_append, ecs_snoc']
  exact r2.mono (fun k hk => by
   rcases hk with hk | hk
   ·exact hk
   ·show z ≤ k; omega)
 ·exact h.r.of_block fun a ha => r3.block _ (h.r.lt ha) (fun hb => h.d _ hb ⟨a, ha, rfl⟩)
 ·rintro k ⟨a, ha, rfl⟩ hk
  cases ha
  rcases r4 with r4 | r4
  ·exact h.d _ ⟨_, r4, rfl⟩ hk
  ·obtain ⟨b, hb, hbk⟩ := hk
   have := h.r.lt hb
   have hbk' : b.block = g := hbk
   omega
def COfPost (w : World) (gb : Nat) (es : List E) (e : Ending) (w' : World) : Prop :=
 ∃ c, e = .returned (.pointer (some ⟨c, 0, none⟩)) ∧ Cov (fun k => w.heap.size ≤ k ∧ k < w'.heap.size) w' c gb es ∧ Keep Nb w w'
theorem treesOf_take {es : List E} {i : Nat} {e : E} (h : es[i]? = some e) : treesOf (es.take (i + 1)) = treeStep (treesOf (es.take i)) e := by rw [take_snoc' h, treesOf_snoc]
theorem trees_take {es : List E} (hs : Sorted es) (i : Nat) : Trees (es.take i) (treesOf (es.take i)).1 (treesOf (es.take i)).2 := trees _ (hs.sublist (List.take_sublist i es))
structure OfRel (w1 w2 wr : World) (lo hi s n : Nat) (es : List E) (i : Nat) (ot oo : Option Addr) (ct co : Nat) : Prop where
 sets : Sets (fun k => lo ≤ k ∧ k < hi) wr s n (labs (ends (es.take i)))
 two : TwoE (fun k => w2.heap.size ≤ k) wr (treesOf (es.take i)).1 (treesOf (es.take i)).2 ot oo ct co
 keep : Keep (fun k => (lo ≤ k ∧ k < hi) ∨ w2.heap.size ≤ k) w2 wr
theorem mask_halves (k kd km P : Nat) (hk : k = 64 * kd + km) (hkm : km < 64) (hP : 2 ^ km = P) (hd : kd < 2) :
  ∃ m0 m1 : Nat, ([Value.int .u64 0, Value.int .u64 0].set kd (.int .u64 P)) = [.int .u64 m0, .int .u64 m1] ∧ m0 < 18446744073709551616 ∧ m1 < 18446744073709551616 ∧
   ∀ x : Nat, (x ^^^ 2 ^ k) % 18446744073709551616 = (x % 18446744073709551616) ^^^ m0 ∧ (x ^^^ 2 ^ k) / 18446744073709551616 = (x / 18446744073709551616) ^^^ m1 := by
 have e : (18446744073709551616 : Nat) = 2 ^ 64 := by decide
 have hP64 : P < 18446744073709551616 := by rw [← hP, e]; exact Nat.pow_lt_pow_right (by omega) hkm
 have xm : ∀ x y : Nat, (x ^^^ y) % 2 ^ 64 = (x % 2 ^ 64) ^^^ (y % 2 ^ 64) := fun x y => by
  apply Nat.eq_of_testBit_eq; intro i
  rw [Nat.testBit_mod_two_pow, Nat.testBit_xor, Nat.testBit_xor, Nat.testBit_mod_two_pow, Nat.testBit_mod_two_pow]
  by_cases h : i < 64 <;> simp [h]
 have xd : ∀ x y : Nat, (x ^^^ y) / 2 ^ 64 = (x / 2 ^ 64) ^^^ (y / 2 ^ 64) := fun x y => by
  apply Nat.eq_of_testBit_eq; intro i
  rw [Nat.testBit_div_two_pow, Nat.testBit_xor, Nat.testBit_xor, Nat.testBit_div_two_pow, Nat.testBit_div_two_pow]
 have hd2 : kd = 0 ∨ kd = 1 := by omega
 rcases hd2 with rfl | rfl
 ·have hk2 : 2 ^ k = P := by rw [hk, ← hP]; simp
  refine ⟨P, 0, by simp, hP64, by omega, fun x => ?_⟩
  rw [hk2]
  refine ⟨?_, ?_⟩
  ·rw [e, xm, Nat.mod_eq_of_lt (a := P) (by omega)]
  ·rw [e, xd, Nat.div_eq_of_lt (a := P) (by omega)]
 ·have hk2 : 2 ^ k = P * 2 ^ 64 := by rw [hk, ← hP, ← Nat.pow_add]; congr 1; omega
  refine ⟨0, P, by simp, by omega, hP64, fun x => ?_⟩
  rw [hk2]
  refine ⟨?_, ?_⟩
  ·rw [e, xm, Nat.mul_mod_left]
  ·rw [e, xd, Nat.mul_div_cancel _ (by decide)]
theorem wrap_u64 (km P : Nat) (hP : 2 ^ km = P) (h : km < 64) : IntKind.u64.wrap ((2 : Int) ^ km) = (P : Int) := by
 have e : (2 : Int) ^ km = (P : Int) := by rw [← hP]; simp
 have hlt : P < 2 ^ 64 := by rw [← hP]; exact Nat.pow_lt_pow_right (by omega) h
 rw [e]
 show ((P : Int)) % 18446744073709551616 = _
 omega
theorem xor_u64 (a b : Nat) (ha : a < 18446744073709551616) (hb : b < 18446744073709551616) : bits BinOp.xor IntKind.u64 (a : Int) (b : Int) = ((a ^^^ b : Nat) : Int) := by
 unfold bits
 show IntKind.u64.wrap (((BitVec.ofInt 64 (a : Int)) ^^^ (BitVec.ofInt 64 (b : Int))).toNat : Int) = _
 rw [BitVec.ofInt_natCast, BitVec.ofInt_natCast, BitVec.toNat_xor, BitVec.toNat_ofNat, BitVec.toNat_ofNat, Nat.mod_eq_of_lt (by omega), Nat.mod_eq_of_lt (by omega)]
 have h : a ^^^ b < 2 ^ 64 := Nat.xor_lt_two_pow (by omega) (by omega)
 generalize a ^^^ b = c at h
 show ((c : Nat) : Int) % 18446744073709551616 = _
 omega
def mskJ (tr rs : List E) (k : Nat) (ll : List Nat) (j : Nat) : Nat → Nat := fun id => if id ∈ ll.take j then mskK tr rs id k ^^^ 2 ^ k else mskK tr rs id k
theorem mskJ_zero (tr rs : List E) (k : Nat) (ll : List Nat) : mskJ tr rs k ll 0 = fun id => mskK tr rs id k := by funext id; simp [mskJ]
theorem mskJ_at {tr rs : List E} {k : Nat} {ll : List Nat} (hn : ll.Nodup) {j id : Nat} (h : ll[j]? = some id) : mskJ tr rs k ll j id = mskK tr rs id k := by
 unfold mskJ
 rw [if_neg]
 intro hm
 obtain ⟨i, hi⟩ := List.mem_iff_getElem?.1 hm
 have hlt := (List.getElem?_eq_some_iff.1 hi).1
 rw [List.length_take] at hlt
 rw [List.getElem?_take, if_pos (by omega)] at hi
 have := (List.getElem?_inj (by omega : i < ll.length) hn).1 (hi.trans h.symm)
 omega
theorem mskJ_next {tr rs : List E} {k : Nat} {ll : List Nat} {j id : Nat} (h : ll[j]? = some id) : upd (mskJ tr rs k ll j) id (mskK tr rs id k ^^^ 2 ^ k) = mskJ tr rs k ll (j + 1) := by
 funext z
 unfold mskJ
 rw [take_snoc' h]
 by_cases e : z = id
 ·subst e; rw [upd_same]; simp
 ·rw [upd_ne _ _ _ _ e]; simp [e]
theorem mskJ_all {tr rs : List E} {k : Nat} {ll : List Nat} {e : E} (he : rs[k]? = some e) (hm : ∀ id, id ∈ ll ↔ OnR tr e id) : mskJ tr rs k ll ll.length = fun id => mskK tr rs id (k + 1) := by
 funext id
 unfold mskJ
 rw [List.take_length]
 show _ = if (rs[k]?).any (fun r => decide (OnR tr r id)) then mskK tr rs id k ^^^ 2 ^ k else mskK tr rs id k
 rw [he]
 by_cases h : OnR tr e id
 ·rw [if_pos ((hm id).2 h), if_pos (by simp [h])]
 ·rw [if_neg (fun hh => h ((hm id).1 hh)), if_neg (by simp [h])]
structure RingRow (wM wc : World) (tr : List E) (e : E) (ll : List Nat) (ol : Option Addr) (cl : Nat) : Prop where
 row : Sl (fun k => wM.heap.size ≤ k) wc 3 1 ol ll.length cl (ints ll)
 nodup : ll.Nodup
 mem : ∀ id, id ∈ ll ↔ OnR tr e id
 keep : Keep Nb wM wc
 len : ll.length ≤ 1001
theorem RingRow.mk' {wM wP wB w9 : World} {es tr : List E} {e : E} {l : List Nat} {oP : Option Addr} {cP g9 c9 : Nat} {H : Nat → Prop} (S : Spans es tr) (he : e ∈ es) (hr : e ∉ tr) (hw : WayIs tr e.a e.b l) (hl : l.length ≤ 1000)
  (kP : Keep Nb wM wP) (hS : Sl (fun k => wM.heap.size ≤ k) wP 3 1 oP l.length cP (ints l)) (r2 : Sl H w9 3 1 (some ⟨g9, 0, none⟩) (l.length + 1) c9 (ints l ++ [.int .i64 e.id])) (hH : ∀ k, H k → wM.heap.size ≤ k) (kB : Keep Nb wP wB) (r3 : Keep (Bl oP) wB w9) :
  RingRow wM w9 tr e (l ++ [e.id]) (some ⟨g9, 0, none⟩) c9 := by
 obtain ⟨h1, h2⟩ := hw.ring S he hr
 refine ⟨?_, h1, h2, (kP.trans kB).trans' r3 (fun _ _ e => e) ?_, by simp; omega⟩
 ·rw [ints_append, List.length_append]
  exact r2.mono hH
 ·rintro k hk ⟨a, ha, rfl⟩
  have := hS.foot a ha
  show False; omega
set_option maxRecDepth 100000 in
set_option maxHeartbeats 4000000 in
theorem cof_any (F : Nat → Prop) (w : World) (b n : Nat) (es : List E) (hG : Gr F w b n es) (hF : ∀ k, F k → k < w.heap.size) (hn : n ≤ 40) (hl : es.length ≤ 120) (ho : EOk n es) :
  Calls Tryz.prog 174 #[.pointer (some ⟨b, 0, none⟩)] w (COfPost w b es) := by
 have hmm := @run_makeMap Tryz.prog
 have HG := Lib.hid hG
 have HO := Lib.hid ho
 have HTL : Hid (∀ i, (treesOf (es.take i)).1.length + (treesOf (es.take i)).2.length = (es.take i).length) := Lib.hid fun i => (trees_take ho.sorted i).len
 clear hG ho
 obtain ⟨wA, hwA⟩ : ∃ wA, (w.alloc (.map #[] 0)).alloc (.cells #[.pointer (some ⟨b, 0, none⟩), .map (some w.heap.size), .int .i64 0] 242) = wA := ⟨_, rfl⟩
 have HA : Hid (CovMem wA (w.heap.size + 1) b w.heap.size 0 (fun _ => 0) ∧ Keep Nb w wA ∧ wA.heap.size = w.heap.size + 2) := Lib.hid (by
  rw [← hwA]
  refine ⟨⟨?_, ⟨[], (MapAt.made encN DN w).alloc _, fun id => rfl⟩, by omega⟩, ((Keep.refl Nb w).alloc _).alloc _, by simp⟩
  have := Row.new (w.alloc (.map #[] 0)) #[.pointer (some ⟨b, 0, none⟩), .map (some w.heap.size), .int .i64 0] 242
  rw [World.size_alloc] at this
  exact this)
 go_enter Tryz.func174, Tryz.ntmps174
 go_wp2_with fail
 clear hwA
 refine (nodes_any F wA b n es (HG.out.keep HA.out.2.1 (fun _ _ h => h))).mono ?_
 rintro e1 w0 ⟨rfl, rfl⟩
 go_wp2_with fail
 refine (new_any n hn _).mono ?_
 rintro e1 w1 ⟨s, rfl, hS1, hk1⟩
 have HS1 := Lib.hid (hS1.monoF (G := fun k => w0.heap.size ≤ k ∧ k < w1.heap.size) (fun _ e => e))
 have HK1 := Lib.hid hk1
 clear hS1 hk1
 go_wp2_with fail
 refine (edges_any F w1 b n es (HG.out.keep (HA.out.2.1.trans HK1.out) (fun _ _ h => h)) (by omega)).mono ?_
 rintro e1 w2 ⟨o2, c2, rfl, hS2, hk2⟩
 have HS2 := Lib.hid hS2.tight
 have HK2 := Lib.hid hk2
 clear hS2 hk2
 go_wp2_with fail
 go_loopg [6, 7, 32] es.length (fun kx s6 s7 s32 wr => ∃ (i : Nat) (ot oo : Option Addr) (ct co : Nat), s32 = .int .i64 i ∧ s6 = .slice ot (treesOf (es.take i)).1.length ct ∧ s7 = .slice oo (treesOf (es.take i)).2.length co ∧ i ≤ es.length ∧ es.length - i ≤ kx ∧ Hid (OfRel w1 w2 wr w0.heap.size w1.heap.size s n es i ot oo ct co))
 case atStart => exact ⟨0, none, none, 0, 0, rfl, rfl, rfl, Nat.zero_le _, by omega, Lib.hid ⟨HS1.out.keepG HK2.out (fun _ _ h => h), ⟨Sl.nil _ _ _ _, Sl.nil _ _ _ _, fun k h => absurd h (Bl_none k)⟩, Keep.refl _ _⟩⟩
 case round =>
  obtain ⟨i, ot, oo, ct, co, rfl, rfl, rfl, hi, hg, HR⟩ := hrel
  have hz1 := HK1.out.size
  have hz2 := HK2.out.size
  have hwz := HR.out.keep.size
  have htl := HTL.out i
  rw [List.length_take] at htl
  by_cases hlt : i < es.length
  ·obtain ⟨g, rfl, hFg, hnc, hrow⟩ := HS2.out.pos (by omega)
   have hy := List.getElem?_eq_getElem hlt
   generalize es[i]'hlt = e at hy
   have hEr := hrow.edges.keep HR.out.keep (fun h => by have h1 := hFg.1; have h2 := hFg.2; omega)
   have d1 := hEr.id _ _ hy
   have d2 := hEr.a _ _ hy
   have d3 := hEr.b _ _ hy
   have HY := Lib.hid hy
   have hem := List.mem_of_getElem? hy
   have HOe := Lib.hid (HO.out.over e hem)
   clear hy hrow hEr hem
   go_wp2_with fail
   refine (join_any (fun k => w0.heap.size ≤ k ∧ k < w1.heap.size) _ s n _ e.a e.b HOe.out.1 HOe.out.2 (HR.out.sets.keepG ((Keep.refl Nb wr).alloc _) (fun _ _ h => h))).mono ?_
   rintro e1 w3 ⟨rfl, hj, hk3⟩
   have hk3' : Keep (fun k => w0.heap.size ≤ k ∧ k < w1.heap.size) wr w3 := ((Keep.refl _ wr).alloc _).trans hk3
   have f0 := hk3.cell (p := ⟨wr.heap.size, 0, none⟩) (v := .int .i64 e.id) (by rw [World.cell?_alloc_at _ _ _ _ rfl]; rfl) (fun h => by have h2 : wr.heap.size < w1.heap.size := h.2; omega)
   have f1 := hk3.cell (p := ⟨wr.heap.size, 1, none⟩) (v := .int .i64 e.a) (by rw [World.cell?_alloc_at _ _ _ _ rfl]; rfl) (fun h => by have h2 : wr.heap.size < w1.heap.size := h.2; omega)
   have f2 := hk3.cell (p := ⟨wr.heap.size, 2, none⟩) (v := .int .i64 e.b) (by rw [World.cell?_alloc_at _ _ _ _ rfl]; rfl) (fun h => by have h2 : wr.heap.size < w1.heap.size := h.2; omega)
   have HJ := Lib.hid hj
   have HK3 := Lib.hid hk3'
   have hz3 := hk3'.size
   have HC : Hid (Conn (ends (treesOf (es.take i)).1) e.a e.b ↔ labs (ends (es.take i)) e.a = labs (ends (es.take i)) e.b) := Lib.hid (trees_take HO.out.sorted i).sp.whole.symm
   have h2 := HR.out.two.keep hk3' (fun k h h' => by have := h'.2; omega)
   have HT := Lib.hid (treesOf_take HY.out)
   clear hj hk3 hk3'
   by_cases hc : labs (ends (es.take i)) e.a = labs (ends (es.take i)) e.b
   ·have hb : decide (labs (ends (es.take i)) e.a ≠ labs (ends (es.take i)) e.b) = false := by simp [hc]
    rw [hb]
    obtain ⟨g9, c9, w9, r1, r2, r3⟩ := h2.swap.push (by omega) (by omega) e
    have HN : Hid (OfRel w1 w2 w9 w0.heap.size w1.heap.size s n es (i + 1) ot (some ⟨g9, 0, none⟩) ct c9 ∧ (treesOf (es.take (i + 1))).1.length = (treesOf (es.take i)).1.length ∧ (treesOf (es.take (i + 1))).2.length = (treesOf (es.take i)).2.length + 1) := Lib.hid (by
     have ht := HT.out
     unfold treeStep at ht
     rw [if_pos (HC.out.2 hc)] at ht
     refine ⟨⟨?_, ?_, ?_⟩, by rw [ht], by rw [ht]; simp⟩
     ·rw [take_snoc' HY.out, ends_snoc, labs_snoc]
      exact HJ.out.keepG r3 (fun k h h' => by have := h.2; omega)
     ·rw [ht]; exact r2.swap
     ·exact (HR.out.keep.trans' HK3.out (fun _ _ e => e) (fun _ _ e => .inl e)).trans' r3 (fun _ _ e => e) (fun _ _ e => .inr e))
    have R1 := Lib.hid r1
    clear hb hc r1 r2 r3 h2
    go_wp2_with (first | (at_builtin; refine wpList_app rfl _ _ _ rfl rfl rfl R1.out ?_))
    go_roundg (es.length - (i + 1))
    case measure => omega
    case rel => exact ⟨i + 1, ot, some ⟨g9, 0, none⟩, ct, c9, rfl, by rw [HN.out.2.1], by rw [HN.out.2.2], by omega, Nat.le_refl _, Lib.hid HN.out.1⟩
   ·have hb : decide (labs (ends (es.take i)) e.a ≠ labs (ends (es.take i)) e.b) = true := by simp [hc]
    rw [hb]
    obtain ⟨g9, c9, w9, r1, r2, r3⟩ := h2.push (by omega) (by omega) e
    have HN : Hid (OfRel w1 w2 w9 w0.heap.size w1.heap.size s n es (i + 1) (some ⟨g9, 0, none⟩) oo c9 co ∧ (treesOf (es.take (i + 1))).1.length = (treesOf (es.take i)).1.length + 1 ∧ (treesOf (es.take (i + 1))).2.length = (treesOf (es.take i)).2.length) := Lib.hid (by
     have ht := HT.out
     unfold treeStep at ht
     rw [if_neg (fun h => hc (HC.out.1 h))] at ht
     refine ⟨⟨?_, ?_, ?_⟩, by rw [ht]; simp, by rw [ht]⟩
     ·rw [take_snoc' HY.out, ends_snoc, labs_snoc]
      exact HJ.out.keepG r3 (fun k h h' => by have := h.2; omega)
     ·rw [ht]; exact r2
     ·exact (HR.out.keep.trans' HK3.out (fun _ _ e => e) (fun _ _ e => .inl e)).trans' r3 (fun _ _ e => e) (fun _ _ e => .inr e))
    have R1 := Lib.hid r1
    clear hb hc r1 r2 r3 h2
    go_wp2_with (first | (at_builtin; refine wpList_app rfl _ _ _ rfl rfl rfl R1.out ?_))
    go_roundg (es.length - (i + 1))
    case measure => omega
    case rel => exact ⟨i + 1, some ⟨g9, 0, none⟩, oo, c9, co, rfl, by rw [HN.out.2.1], by rw [HN.out.2.2], by omega, Nat.le_refl _, Lib.hid HN.out.1⟩
  ·obtain rfl : i = es.length := by omega
   have hbm1 : w.heap.size < w0.heap.size := by have := HA.out.2.2; omega
   have hbm2 : w.heap.size + 1 < w0.heap.size := by have := HA.out.2.2; omega
   have HCM : Hid (CovMem wr (w.heap.size + 1) b w.heap.size 0 (fun _ => 0) ∧ Keep Nb w wr) := Lib.hid (by
    have k2 := HK1.out.trans HK2.out
    have h1 := (HA.out.1.keep k2 (fun e => e) (fun e => e)).keep HR.out.keep (fun h => by omega) (fun h => by omega)
    exact ⟨h1, (HA.out.2.1.trans k2).trans' HR.out.keep (fun _ _ e => e) (fun k hk h => by show False; omega)⟩)
   have HTW := HR.out.two
   rw [List.take_length] at HTW htl ⊢
   have htt := trees es HO.out.sorted
   change Trees es (treesOf es).1 (treesOf es).2 at htt
   obtain ⟨tr, htr⟩ : ∃ tr, (treesOf es).1 = tr := ⟨_, rfl⟩
   obtain ⟨rs, hrs⟩ : ∃ rs, (treesOf es).2 = rs := ⟨_, rfl⟩
   rw [htr, hrs] at htt
   rw [htr] at HTW htl ⊢
   rw [hrs] at HTW htl ⊢
   have HTT := Lib.hid htt
   have HTW2 := Lib.hid HTW
   have HTR := Lib.hid htr
   have HRS := Lib.hid hrs
   have g0 := HCM.out.1.head.cell (i := 2) rfl
   have g1 := HCM.out.1.head.frozen 2 none
   have HC2 : Hid (CovMem (wr.setCell ⟨w.heap.size + 1, 2, none⟩ (.int .i64 rs.length)) (w.heap.size + 1) b w.heap.size rs.length (fun id => mskK tr rs id 0) ∧ Keep Nb w (wr.setCell ⟨w.heap.size + 1, 2, none⟩ (.int .i64 rs.length)) ∧ TwoE (fun k => w2.heap.size ≤ k) (wr.setCell ⟨w.heap.size + 1, 2, none⟩ (.int .i64 rs.length)) tr rs ot oo ct co) := Lib.hid (by
    have kk : Keep (fun j => j = w.heap.size + 1) wr (wr.setCell ⟨w.heap.size + 1, 2, none⟩ (.int .i64 rs.length)) := (Keep.refl (fun j => j = w.heap.size + 1) wr).setCell (p := ⟨w.heap.size + 1, 2, none⟩) (.inl rfl) _
    refine ⟨⟨HCM.out.1.head.set (i := 2) (by simp) _, HCM.out.1.mm.keep kk (fun h => by omega), by omega⟩, HCM.out.2.setCell (.inr (by show w.heap.size ≤ w.heap.size + 1; omega)) _, HTW2.out.keep kk (fun k h e => by omega)⟩)
   clear htr hrs htt HR HCM HTL HS1
   go_wp2_with fail
   obtain ⟨wS, hwS⟩ : ∃ wS, wr.setCell ⟨w.heap.size + 1, 2, none⟩ (.int .i64 rs.length) = wS := ⟨_, rfl⟩
   rw [hwS] at HC2 ⊢
   clear hwS g0 g1 HTW HTW2
   go_loopg [62] rs.length (fun kx s62 wr => ∃ (k : Nat), s62 = .int .i64 k ∧ k ≤ rs.length ∧ rs.length - k ≤ kx ∧ Hid (CovMem wr (w.heap.size + 1) b w.heap.size rs.length (fun id => mskK tr rs id k) ∧ Keep (fun j => j = w.heap.size) wS wr))
   case atStart => exact ⟨0, rfl, Nat.zero_le _, by omega, Lib.hid ⟨HC2.out.1, Keep.refl _ _⟩⟩
   case round =>
    obtain ⟨k, rfl, hk, hgk, HR⟩ := hrel
    by_cases hkl : k < rs.length
    ·obtain ⟨e, he⟩ : ∃ e, rs[k]? = some e := ⟨_, List.getElem?_eq_getElem hkl⟩
     have hT := HC2.out.2.2.keep HR.out.2 (fun j h e => by omega)
     obtain ⟨go, rfl, _, hco, hrow⟩ := hT.r.pos (by omega)
     have d1 := hrow.edges.id _ _ he
     have d2 := hrow.edges.a _ _ he
     have d3 := hrow.edges.b _ _ he
     have HE := Lib.hid he
     have HT := Lib.hid hT
     obtain ⟨kd, hkd⟩ : ∃ kd, k / 64 = kd := ⟨_, rfl⟩
     obtain ⟨km, hkm⟩ : ∃ km, k % 64 = km := ⟨_, rfl⟩
     have q1 : (k : Int).tdiv 64 = (kd : Int) := by rw [← hkd]; exact (Int.ofNat_tdiv k 64).symm
     have q2 : (k : Int).tmod 64 = (km : Int) := by rw [← hkm]; exact (Int.ofNat_tmod k 64).symm
     have q3 : kd < 2 := by omega
     have q4 : km < 64 := by omega
     have HQ5 : Hid (k = 64 * kd + km) := Lib.hid (by omega)
     have q6 : k ≤ 120 := by have := HTT.out.len; omega
     clear hrow hT he hkd hkm
     obtain ⟨P, hP⟩ : ∃ P : Nat, 2 ^ km = P := ⟨_, rfl⟩
     obtain ⟨m0, m1, hset, hm0, hm1, hmx⟩ := mask_halves k kd km P HQ5.out q4 hP q3
     have HMX := Lib.hid hmx
     obtain ⟨wM, hwM⟩ : ∃ wM, (wr.alloc (.cells #[.int .i64 e.id, .int .i64 e.a, .int .i64 e.b] 125)).alloc (.cells ([Value.int .u64 0, Value.int .u64 0].set kd (.int .u64 P)).toArray 244) = wM := ⟨_, rfl⟩
     have HM : Hid (Keep Nb wr wM ∧ wM.heap.size = wr.heap.size + 2 ∧ wM.cell? ⟨wr.heap.size, 0, none⟩ = some (.int .i64 e.id) ∧ wM.cell? ⟨wr.heap.size, 1, none⟩ = some (.int .i64 e.a) ∧ wM.cell? ⟨wr.heap.size, 2, none⟩ = some (.int .i64 e.b) ∧
       wM.cell? ⟨wr.heap.size + 1, 0, none⟩ = some (.int .u64 m0) ∧ wM.cell? ⟨wr.heap.size + 1, 1, none⟩ = some (.int .u64 m1)) := Lib.hid (by
      rw [← hwM, hset]
      refine ⟨((Keep.refl Nb wr).alloc _).alloc _, by simp, ?_, ?_, ?_, ?_, ?_⟩
      ·rw [World.cell?_alloc_past _ _ _ (by simp), World.cell?_alloc_at _ _ _ _ rfl]; rfl
      ·rw [World.cell?_alloc_past _ _ _ (by simp), World.cell?_alloc_at _ _ _ _ rfl]; rfl
      ·rw [World.cell?_alloc_past _ _ _ (by simp), World.cell?_alloc_at _ _ _ _ rfl]; rfl
      ·rw [World.cell?_alloc_at _ _ _ _ (by simp)]; rfl
      ·rw [World.cell?_alloc_at _ _ _ _ (by simp)]; rfl)
     have hwrap := wrap_u64 km P hP q4
     clear hset hP hmx
     go_wp2_with fail
     clear hwM hwrap
     obtain ⟨_, _, f0, f1, f2, _, _⟩ := HM.out
     have HEM : Hid (e ∈ es ∧ e ∉ tr) := Lib.hid ((HTT.out.mem e).1 (List.mem_of_getElem? HE.out))
     have HOT : Hid (∀ f, f ∈ tr → f.a < 1000 ∧ f.b < 1000) := Lib.hid fun f hf => by
      have := HO.out.over f (HTT.out.sp.sub f hf)
      omega
     have hea : e.a < 1000 := by have := HO.out.over e HEM.out.1; omega
     have HCE : Hid (Conn (ends tr) e.a e.b) := Lib.hid (HTT.out.sp.conn e HEM.out.1)
     have HTM : Hid (Sl (fun k => w2.heap.size ≤ k) wM 125 3 ot tr.length ct (ecs tr)) := Lib.hid (HT.out.t.keep HM.out.1 (fun _ _ e => e))
     have htl2 : tr.length ≤ 1000 := by have := HTT.out.len; omega
     have HQM : Hid (wr.heap.size < wM.heap.size) := Lib.hid (by have := HM.out.2.1; omega)
     have HME : Hid (wM.cell? ⟨wr.heap.size + 1, 0, none⟩ = some (.int .u64 m0) ∧ wM.cell? ⟨wr.heap.size + 1, 1, none⟩ = some (.int .u64 m1) ∧ w.heap.size < wr.heap.size) := Lib.hid ⟨HM.out.2.2.2.2.2.1, HM.out.2.2.2.2.2.2, HR.out.1.mm.lt⟩
     obtain ⟨q, hq⟩ : ∃ q, wr.heap.size = q := ⟨_, rfl⟩
     rw [hq] at f0 f1 f2 HQM HME ⊢
     go_cut [82, 83, 84] (fun v n z wc => ∃ (ll : List Nat) (ol : Option Addr) (cl : Nat), v = .slice ol ll.length cl ∧ n = .int .i64 ll.length ∧ z = .int .i64 0 ∧ Hid (RingRow wM wc tr e ll ol cl))
     case first =>
      go_region_held3 (fun w' => w'.cell? ⟨q, 0, none⟩ = some (.int .i64 e.id) ∧ w'.cell? ⟨q, 1, none⟩ = some (.int .i64 e.a) ∧ w'.cell? ⟨q, 2, none⟩ = some (.int .i64 e.b)) (go_keep) ((first | (go_at_call 205; refine (path_any (fun k => w2.heap.size ≤ k) _ es tr ot ct e.a e.b (HTM.out.keep (show Keep Nb wM _ from (by (repeat (first | exact Keep.refl _ _ | refine Keep.alloc ?_ _ | refine Keep.drew ?_)))) (fun _ _ e => e)) htl2 HTT.out.sp HOT.out hea HCE.out).mono ?_; rintro e9 wP ⟨l, oP, cP, rfl, hSl, hWay, hkP, hlP⟩; have f3 := hkP.cell (p := ⟨q, 0, none⟩) (v := .int .i64 e.id) (by first | assumption | go_keep) (fun e => e); have f4 := hkP.cell (p := ⟨q, 1, none⟩) (v := .int .i64 e.a) (by first | assumption | go_keep) (fun e => e); have f5 := hkP.cell (p := ⟨q, 2, none⟩) (v := .int .i64 e.b) (by first | assumption | go_keep) (fun e => e); have hS2 := Lib.hid (hSl.mono (G := fun k => wM.heap.size ≤ k) (fun k hk => by simp only [World.size_alloc, World.size_drew] at hk; omega)); have kP2 : Hid (Keep Nb wM wP) := Lib.hid (Keep.trans (show Keep Nb wM _ from (by (repeat (first | exact Keep.refl _ _ | refine Keep.alloc ?_ _ | refine Keep.drew ?_)))) hkP); have HKP := Lib.hid hkP; have HWay := Lib.hid hWay; clear hSl hkP hWay) | (obtain ⟨g9, c9, w9, r1, r2, r3, r4⟩ := run_app1 (P := Tryz.prog) 63 63 3 Tryz.underlying63 elem_int rfl hS2.out (.int .i64 e.id) rfl (by omega) (by omega); refine step_app_run rfl _ _ 63 63 rfl (.slice oP l.length cP) (.slice (some ⟨wP.heap.size, 0, none⟩) 1 1) (by simp [Act.eval, Act.put]) (by simp [Act.eval, Act.put]) r1 ?_; have HRR := Lib.hid (RingRow.mk' HTT.out.sp HEM.out.1 HEM.out.2 HWay.out hlP kP2.out hS2.out r2 (fun k hk => by have := kP2.out.size; rcases hk with hk | hk <;> omega) (Keep.refl Nb wP) r3); have f6 := r3.cell f3 (fun hb => by obtain ⟨a, ha, hb⟩ := hb; have h1 := hS2.out.foot a ha; have h2 := HQM.out; have h3 : a.block = q := hb; omega); have f7 := r3.cell f4 (fun hb => by obtain ⟨a, ha, hb⟩ := hb; have h1 := hS2.out.foot a ha; have h2 := HQM.out; have h3 : a.block = q := hb; omega); have f8 := r3.cell f5 (fun hb => by obtain ⟨a, ha, hb⟩ := hb; have h1 := hS2.out.foot a ha; have h2 := HQM.out; have h3 : a.block = q := hb; omega); clear r1 r2 r3 r4) | (obtain ⟨g9, c9, w9, r1, r2, r3, r4⟩ := run_app (P := Tryz.prog) 63 63 3 Tryz.underlying63 elem_int rfl (by omega) hS2.out ⟨wM.heap.size, 0, none⟩ 1 1 [.int .i64 e.id] rfl (fun j u hj => by have hj0 : j = 0 := (by have := (List.getElem?_eq_some_iff.1 hj).1; simp at this; exact this); subst hj0; simp at hj; subst hj; exact HKP.out.cell (p := ⟨wM.heap.size, 0, none⟩) (by first | (rw [World.cell?_alloc_at _ _ _ _ rfl]; rfl) | (show (World.alloc _ _).cell? _ = _; rw [World.cell?_alloc_at _ _ _ _ (by first | rfl | simp)]; rfl)) (fun e => e)) (by intro u hu; simp at hu; rw [hu]; rfl) (by simp only [maxLen]; omega) (by omega) (by omega); refine step_app_run rfl _ _ 63 63 rfl (.slice oP l.length cP) (.slice (some ⟨wM.heap.size, 0, none⟩) 1 1) (by simp [Act.eval, Act.put]) (by simp [Act.eval, Act.put]) r1 ?_; have HRR := Lib.hid (RingRow.mk' HTT.out.sp HEM.out.1 HEM.out.2 HWay.out hlP kP2.out hS2.out r2 (fun k hk => by have := kP2.out.size; rcases hk with hk | hk <;> omega) (Keep.refl Nb wP) r3); have f6 := r3.cell f3 (fun hb => by obtain ⟨a, ha, hb⟩ := hb; have h1 := hS2.out.foot a ha; have h2 := HQM.out; have h3 : a.block = q := hb; omega); have f7 := r3.cell f4 (fun hb => by obtain ⟨a, ha, hb⟩ := hb; have h1 := hS2.out.foot a ha; have h2 := HQM.out; have h3 : a.block = q := hb; omega); have f8 := r3.cell f5 (fun hb => by obtain ⟨a, ha, hb⟩ := hb; have h1 := hS2.out.foot a ha; have h2 := HQM.out; have h3 : a.block = q := hb; omega); clear r1 r2 r3 r4) | (fail "none")))
      all_goals
       go_wp2_with fail
       go_meet
       exact ⟨l ++ [e.id], _, _, by rw [List.length_append]; rfl, by rw [List.length_append]; rfl, rfl, HRR⟩
     case rest =>
      obtain ⟨ll, ol, cl, rfl, rfl, rfl, HRR⟩ := hcut
      obtain ⟨wd, rfl⟩ : ∃ wd : World, wd = wc := ⟨_, rfl⟩
      have hll := HRR.out.len
      have HC0 : Hid (CovMem wd (w.heap.size + 1) b w.heap.size rs.length (mskJ tr rs k ll 0) ∧ Keep (fun j => j = w.heap.size) wS wd) := Lib.hid (by
       rw [mskJ_zero]
       have kk := HM.out.1.trans HRR.out.keep
       exact ⟨HR.out.1.keep kk (fun e => e) (fun e => e), HR.out.2.trans kk.of_nb⟩)
      have HBM : Hid (w.heap.size + 1 < wM.heap.size) := Lib.hid (by
       have h1 := HC2.out.2.1.size
       have h2 := HC2.out.1.head.lt
       have h3 := HR.out.2.size
       have h4 := HM.out.1.size
       omega)
      clear f0 f1 f2 HR HCE hea
      go_wp2_with fail
      go_loopg [84] ll.length (fun ky s84 wr2 => ∃ (j : Nat), s84 = .int .i64 j ∧ j ≤ ll.length ∧ ll.length - j ≤ ky ∧ Hid (CovMem wr2 (w.heap.size + 1) b w.heap.size rs.length (mskJ tr rs k ll j) ∧ Keep (fun x => x = w.heap.size) wd wr2 ∧ Keep (fun x => x = w.heap.size) wS wr2))
      case atStart => exact ⟨0, rfl, Nat.zero_le _, by omega, Lib.hid ⟨HC0.out.1, Keep.refl _ _, HC0.out.2⟩⟩
      case round =>
       clear HC0
       obtain ⟨j, rfl, hj, hgj, HR2⟩ := hrel
       by_cases hjl : j < ll.length
       ·obtain ⟨id, hid⟩ : ∃ id, ll[j]? = some id := ⟨_, List.getElem?_eq_getElem hjl⟩
        have hS := HRR.out.row.keep HR2.out.2.1 (fun x h e => by have := HBM.out; omega)
        obtain ⟨gl, rfl, _, hcl, hrow⟩ := hS.pos (by omega)
        have d1 := hrow.cell (ints_get hid)
        have hidn : DN id := by
         have h1 := (HRR.out.mem id).1 (List.mem_of_getElem? hid)
         have h2 : ∃ f, f ∈ es ∧ f.id = id := by
          by_cases h3 : ∃ f, f ∈ tr ∧ f.id = id
          ·obtain ⟨f, hf, hfi⟩ := h3; exact ⟨f, HTT.out.sp.sub f hf, hfi⟩
          ·rcases h1 with h1 | h1
           ·exact ⟨e, HEM.out.1, h1.symm⟩
           ·exact absurd ((Spans.sans_none (fun g hg hh => h3 ⟨g, hg, hh⟩)).2 (HTT.out.sp.conn e HEM.out.1)) h1
         obtain ⟨f, hf, rfl⟩ := h2
         have := HO.out.small f hf
         unfold DN; omega
        have HIDN := Lib.hid hidn
        have hlook := HR2.out.1.mm.look hidn
        rw [mskJ_at HRR.out.nodup hid] at hlook
        obtain ⟨v, hv⟩ : ∃ v, mskK tr rs id k = v := ⟨_, rfl⟩
        have hvlt : v < 2 ^ 128 := by
         rw [← hv]
         exact Nat.lt_of_lt_of_le (mskK_lt tr rs id k) (Nat.pow_le_pow_right (by omega) (by omega))
        rw [hv] at hlook
        unfold encM at hlook
        obtain ⟨x0, hx0⟩ : ∃ x0, v % 18446744073709551616 = x0 := ⟨_, rfl⟩
        obtain ⟨x1, hx1⟩ : ∃ x1, v / 18446744073709551616 = x1 := ⟨_, rfl⟩
        rw [hx0, hx1] at hlook
        have hx0l : x0 < 18446744073709551616 := by omega
        have hx1l : x1 < 18446744073709551616 := by
         rw [← hx1]
         exact Nat.div_lt_of_lt_mul (by rw [show (18446744073709551616 * 18446744073709551616 : Nat) = 2 ^ 128 by decide]; exact hvlt)
        have HV := Lib.hid (And.intro hv (And.intro hx0 hx1))
        have HID := Lib.hid hid
        have c1 := HR2.out.1.head.cell (i := 1) rfl
        have kM : Keep (fun x => x = w.heap.size) wM wr := HRR.out.keep.of_nb.trans HR2.out.2.1
        have e0 := kM.cell HME.out.1 (fun h => by have h1 : q + 1 = w.heap.size := h; have := HME.out.2.2; omega)
        have e1 := kM.cell HME.out.2.1 (fun h => by have h1 : q + 1 = w.heap.size := h; have := HME.out.2.2; omega)
        obtain ⟨wX, hwX⟩ : ∃ wX, wr.alloc (.cells #[.int .u64 x0, .int .u64 x1] 244) = wX := ⟨_, rfl⟩
        have HX : Hid (Row wX wr.heap.size 244 [.int .u64 x0, .int .u64 x1] ∧ Keep Nb wr wX ∧ wX.cell? ⟨q + 1, 0, none⟩ = some (.int .u64 m0) ∧ wX.cell? ⟨q + 1, 1, none⟩ = some (.int .u64 m1) ∧ q + 1 ≠ wr.heap.size ∧ w.heap.size ≠ wr.heap.size) := Lib.hid (by
         have kx : Keep Nb wr wX := by rw [← hwX]; exact (Keep.refl Nb wr).alloc _
         refine ⟨?_, kx, kx.cell e0 (fun e => e), kx.cell e1 (fun e => e), ?_, ?_⟩
         ·have := Row.new wr #[.int .u64 x0, .int .u64 x1] 244
          rwa [hwX] at this
         ·have := World.block_lt_of_cell? _ _ e0; have h : q + 1 < wr.heap.size := this; omega
         ·have := HR2.out.1.mm.lt; omega)
        clear hS hrow hid hidn hv hvlt hx0 hx1 e0 e1 kM
        go_wp2_with fail
        clear hwX hlook c1
        obtain ⟨y, hy⟩ : ∃ y, wr.heap.size = y := ⟨_, rfl⟩
        rw [hy] at HX ⊢
        go_loopg [94] 2 (fun kz s94 wr3 => ∃ (i y0 y1 : Nat), s94 = .int .i64 i ∧ i ≤ 2 ∧ 2 - i ≤ kz ∧ Hid (Row wr3 y 244 [.int .u64 y0, .int .u64 y1] ∧ Keep (fun x => x = y) wX wr3 ∧ y0 = (if 0 < i then x0 ^^^ m0 else x0) ∧ y1 = (if 1 < i then x1 ^^^ m1 else x1)))
        case atStart => exact ⟨0, x0, x1, rfl, by omega, by omega, Lib.hid ⟨HX.out.1, Keep.refl _ _, rfl, rfl⟩⟩
        case round =>
         obtain ⟨i, y0, y1, rfl, hi2, hgi, HR3⟩ := hrel
         obtain ⟨h1, h2, h3, h4⟩ := HR3.out
         have g0 := h1.cell (i := 0) rfl
         have g1 := h1.cell (i := 1) rfl
         have f0 := h1.frozen 0 none
         have f1 := h1.frozen 1 none
         have e0 := h2.cell HX.out.2.2.1 (fun e => HX.out.2.2.2.2.1 e)
         have e1 := h2.cell HX.out.2.2.2.1 (fun e => HX.out.2.2.2.2.1 e)
         rcases (by omega : i = 0 ∨ i = 1 ∨ i = 2) with rfl | rfl | rfl
         ·simp only [Nat.lt_irrefl, if_false] at h3
          rw [if_neg (by omega)] at h4
          subst h3 h4
          have hxor := xor_u64 y0 m0 hx0l hm0
          have HN : Hid (Row (wr.drew.setCell ⟨y, 0, none⟩ (.int .u64 (y0 ^^^ m0 : Nat))) y 244 [.int .u64 (y0 ^^^ m0 : Nat), .int .u64 y1] ∧ Keep (fun x => x = y) wX (wr.drew.setCell ⟨y, 0, none⟩ (.int .u64 (y0 ^^^ m0 : Nat)))) := Lib.hid
           ⟨h1.drew.set (i := 0) (by simp) _, (h2.drew).setCell (p := ⟨y, 0, none⟩) (.inl rfl) _⟩
          clear h1 h2 HR3
          go_wp2_with fail
          go_region
          all_goals
           go_wp2_with fail
           go_roundg 1
           case measure => omega
           case rel => exact ⟨1, y0 ^^^ m0, y1, rfl, by omega, by omega, Lib.hid ⟨HN.out.1, HN.out.2, rfl, rfl⟩⟩
         ·rw [if_pos (by omega)] at h3
          simp only [Nat.lt_irrefl, if_false] at h4
          subst h3 h4
          have hxor := xor_u64 y1 m1 hx1l hm1
          have HN : Hid (Row (wr.drew.setCell ⟨y, 1, none⟩ (.int .u64 (y1 ^^^ m1 : Nat))) y 244 [.int .u64 (x0 ^^^ m0 : Nat), .int .u64 (y1 ^^^ m1 : Nat)] ∧ Keep (fun x => x = y) wX (wr.drew.setCell ⟨y, 1, none⟩ (.int .u64 (y1 ^^^ m1 : Nat)))) := Lib.hid
           ⟨h1.drew.set (i := 1) (by simp) _, (h2.drew).setCell (p := ⟨y, 1, none⟩) (.inl rfl) _⟩
          clear h1 h2 HR3
          go_wp2_with fail
          go_region
          all_goals
           go_wp2_with fail
           go_roundg 0
           case measure => omega
           case rel => exact ⟨2, x0 ^^^ m0, y1 ^^^ m1, rfl, by omega, by omega, Lib.hid ⟨HN.out.1, HN.out.2, rfl, rfl⟩⟩
         ·rw [if_pos (by omega)] at h3 h4
          subst h3 h4
          have hcv := ((HR2.out.1.keep HX.out.2.1 (fun e => e) (fun e => e)).keep h2 (fun e => by
           have := HR2.out.1.head.lt
           omega) (fun e => HX.out.2.2.2.2.2 e)).keep ((Keep.refl Nb wr).drew) (fun e => e) (fun e => e)
          obtain ⟨w9, r1, r2, r3⟩ := hcv.mm.store HIDN.out (v ^^^ 2 ^ k)
          unfold encM at r1
          rw [(HMX.out v).1, (HMX.out v).2, HV.out.2.1, HV.out.2.2] at r1
          have HN : Hid (CovMem w9 (w.heap.size + 1) b w.heap.size rs.length (mskJ tr rs k ll (j + 1)) ∧ Keep (fun x => x = w.heap.size) wd w9 ∧ Keep (fun x => x = w.heap.size) wS w9) := Lib.hid (by
           have hv := HV.out.1
           rw [← hv, mskJ_next HID.out] at r2
           have k3 : Keep (fun x => x = w.heap.size) wd w9 := (((HR2.out.2.1.trans' HX.out.2.1 (fun _ _ e => e) (fun _ _ e => e.elim)).trans' h2 (H := fun x => x = w.heap.size) (fun _ _ e => e) (fun z hz e => by have := HR2.out.2.1.size; omega)).drew).trans r3
           have k4 : Keep (fun x => x = w.heap.size) wS w9 := (((HR2.out.2.2.trans' HX.out.2.1 (fun _ _ e => e) (fun _ _ e => e.elim)).trans' h2 (H := fun x => x = w.heap.size) (fun _ _ e => e) (fun z hz e => by have := HR2.out.2.2.size; omega)).drew).trans r3
           exact ⟨⟨hcv.head.keep r3 hcv.ne, r2, hcv.ne⟩, k3, k4⟩)
          have c1 := hcv.head.cell (i := 1) rfl
          clear h1 h2 HR3 r2 r3 e0 e1 f0 f1 hcv
          go_wp2_with fail
          go_region
          all_goals
           go_wp2_with fail
           go_roundg (ll.length - (j + 1))
           case measure => omega
           case rel => exact ⟨j + 1, rfl, by omega, Nat.le_refl _, HN⟩
       ·obtain rfl : j = ll.length := by omega
        have HN : Hid (CovMem wr (w.heap.size + 1) b w.heap.size rs.length (fun id => mskK tr rs id (k + 1)) ∧ Keep (fun x => x = w.heap.size) wS wr) := Lib.hid (by
         have := HR2.out.1
         rw [mskJ_all HE.out HRR.out.mem] at this
         exact ⟨this, HR2.out.2.2⟩)
        clear HR2
        go_wp2_with fail
        go_roundg (rs.length - (k + 1))
        case measure => omega
        case rel => exact ⟨k + 1, rfl, by omega, Nat.le_refl _, HN⟩
    ·obtain rfl : k = rs.length := by omega
     have HP : Hid (COfPost w b es (.returned (.pointer (some ⟨w.heap.size + 1, 0, none⟩))) wr) := Lib.hid (by
      have h1 := HR.out.1
      have hlt := h1.head.lt
      refine ⟨_, rfl, ⟨w.heap.size, ?_, ⟨by omega, by omega⟩, ⟨by omega, by omega⟩⟩, HC2.out.2.1.trans' HR.out.2 (fun _ _ e => e) (fun z hz e => by show False; omega)⟩
      show CovMem wr (w.heap.size + 1) b w.heap.size (treesOf es).2.length (msk (treesOf es).1 (treesOf es).2)
      rw [HTR.out, HRS.out]
      exact h1)
     clear HR
     go_wp2_with fail
     go_ret
     exact HP.out
end Go.Proofs.YtfglkgkihafcpaaGreatDoor

