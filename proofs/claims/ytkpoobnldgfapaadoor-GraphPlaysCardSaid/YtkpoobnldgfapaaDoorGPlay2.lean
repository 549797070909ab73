/- isthmuslaw.GraphPlays: the walk. -/
import Derived.Test.YtkpoobnldgfapaaDoorGPlay1
import Derived.Deep.DeepCutAuto
import Derived.Deep.RegionHeld3
import Derived.BigQuiet
import Derived.Deep.QuietTactic
set_option linter.unusedVariables false
set_option linter.unusedSimpArgs false
namespace Go.Proofs.YtkpoobnldgfapaaDoor
open Go.RowKit Pl

/-- A slice of steps, as it came. -/
structure Stp (w : World) (b off len : Nat) (I A B : Nat → Int) (G : Nat → Bool) : Prop where
  id : ∀ i, i < len → w.cell? ⟨b, off + i * 4, none⟩ = some (.int .i64 (I i))
  a : ∀ i, i < len → w.cell? ⟨b, off + i * 4 + 1, none⟩ = some (.int .i64 (A i))
  bq : ∀ i, i < len → w.cell? ⟨b, off + i * 4 + 2, none⟩ = some (.int .i64 (B i))
  g : ∀ i, i < len → w.cell? ⟨b, off + i * 4 + 3, none⟩ = some (.bool (G i))

theorem Stp.keep {F : Nat → Prop} {w w' : World} {b off len : Nat} {I A B : Nat → Int} {G : Nat → Bool} (h : Stp w b off len I A B G) (k : Keep F w w') (hb : ¬ F b) : Stp w' b off len I A B G :=
  ⟨fun i hi => k.cell (h.id i hi) hb, fun i hi => k.cell (h.a i hi) hb, fun i hi => k.cell (h.bq i hi) hb, fun i hi => k.cell (h.g i hi) hb⟩

theorem gnew_err (n : Int) (h : n < 0 ∨ 40 < n) (w : World) :
    Calls Tryd.prog 24 #[.int .i64 n] w fun e w' => e = .returned (.tuple #[.pointer none, errV 2]) ∧ w = w' := by
  by_cases h0 : n < 0
  · go_enter Tryd.func24, Tryd.ntmps24
    go_wp2_with fail
    go_ret2
    exact ⟨rfl, rfl⟩
  · have h1 : 40 < n := by omega
    go_enter Tryd.func24, Tryd.ntmps24
    go_wp2_with fail
    go_ret2
    exact ⟨rfl, rfl⟩

set_option maxRecDepth 100000 in
theorem gplay_long (n : Int) (oa oe on : Option Addr) (len cap le ce ln cn : Nat) (h : 150 < len ∨ 20 < le ∨ 20 < ln) (w : World) :
    Calls Tryd.prog 5 #[.int .i64 n, .slice oa len cap, .slice oe le ce, .slice on ln cn] w fun e w' => e = .returned (.bool true) ∧ Keep Nb w w' := by
  by_cases h1 : (150 : Int) < (len : Int)
  · go_enter Tryd.func5, Tryd.ntmps5
    go_wp2_with fail
    go_ret
    exact ⟨rfl, Keep.refl _ _⟩
  · by_cases h2 : (20 : Int) < (le : Int)
    · go_enter Tryd.func5, Tryd.ntmps5
      go_wp2_with fail
      go_ret
      exact ⟨rfl, Keep.refl _ _⟩
    · have h3 : (20 : Int) < (ln : Int) := by omega
      clear h
      go_enter Tryd.func5, Tryd.ntmps5
      go_wp2_with fail
      go_ret
      exact ⟨rfl, Keep.refl _ _⟩

set_option maxRecDepth 100000 in
theorem gplay_none (n : Int) (hn : n < 0 ∨ 40 < n) (oa oe on : Option Addr) (len cap le ce ln cn : Nat) (h : len ≤ 150) (h' : le ≤ 20) (h'' : ln ≤ 20) (w : World) (hE : ErrT w) :
    Calls Tryd.prog 5 #[.int .i64 n, .slice oa len cap, .slice oe le ce, .slice on ln cn] w fun e w' => e = .returned (.bool true) ∧ Keep Nb w w' := by
  have h1 : ¬ (150 : Int) < (len : Int) := by omega
  have h2 : ¬ (20 : Int) < (le : Int) := by omega
  have h3 : ¬ (20 : Int) < (ln : Int) := by omega
  obtain ⟨ev, hev⟩ : ∃ ev, errV 2 = ev := ⟨_, rfl⟩
  have hNE := gnew_err n hn w
  rw [hev] at hNE
  have HNE := Lib.hid hNE
  have HB : Hid (∀ wx, Keep Nb w wx → Calls Tryd.prog 7 #[ev, .int .i64 2] wx fun e w' => e = .returned (.bool true) ∧ Keep Nb wx w') := Lib.hid (fun wx k => lbare_any ev 2 2 hev.symm wx (hE.keep k (fun e => e)))
  clear h h' h'' hev hNE hE
  rcases hn with hn | hn
  · go_enter Tryd.func5, Tryd.ntmps5
    go_wp2_with (go_at_call 24; refine HNE.out.mono ?_; rintro e w1 ⟨rfl, rfl⟩)
    refine (HB.out _ (Keep.refl _ _)).mono ?_
    rintro e w1 ⟨rfl, hk⟩
    go_wp2_with fail
    go_ret
    exact ⟨rfl, hk⟩
  · have h4 : ¬ n < 0 := by omega
    go_enter Tryd.func5, Tryd.ntmps5
    go_wp2_with (go_at_call 24; refine HNE.out.mono ?_; rintro e w1 ⟨rfl, rfl⟩)
    refine (HB.out _ (Keep.refl _ _)).mono ?_
    rintro e w1 ⟨rfl, hk⟩
    go_wp2_with fail
    go_ret
    exact ⟨rfl, hk⟩

/-- What stands between two rounds. -/
def GpR (w : World) (n gb rb : Nat) (es fs : List E) (wr : World) : Prop := GM n es fs ∧ ∃ X, GpS w X n gb rb es fs wr

/-- The inner loop, k edges seen: the one of the number (g, r), and those that touch the node. -/
structure InG (es : List E) (t xa : Int) (X3 : Nat) (w7 wr : World) (k : Nat) (g : E) (r : Int) (o : Option Addr) (m c : Nat) : Prop where
  pick : Pick (es.take k) t g r
  at_ : Sl (fun j => w7.heap.size ≤ j) wr 55 3 o m c (ecs ((es.take k).filter (kpI xa)))
  len : ((es.take k).filter (kpI xa)).length = m
  row : Row wr X3 55 (ecells g)
  keep : Keep (fun j => j = X3) w7 wr
  lt : X3 < w7.heap.size

theorem Pick.nil (t : Int) : Pick [] t ⟨0, 0, 0⟩ 7 := .inr ⟨rfl, rfl, rfl⟩

theorem InG.start {es : List E} {t xa : Int} {X3 : Nat} {w7 : World} (h : Row w7 X3 55 (ecells ⟨0, 0, 0⟩)) : InG es t xa X3 w7 w7 0 ⟨0, 0, 0⟩ 7 none 0 0 :=
  ⟨Pick.nil t, Sl.nil _ _ _ _, rfl, h, Keep.refl _ _, h.lt⟩

theorem hasId_snoc (es : List E) (e : E) (t : Int) : hasId (es ++ [e]) t = (hasId es t || decide ((e.id : Int) = t)) := by
  unfold hasId; rw [List.any_append]; simp

theorem Pick.miss {es : List E} {t : Int} {g e : E} {r : Int} (h : Pick es t g r) (he : (e.id : Int) ≠ t) : Pick (es ++ [e]) t g r := by
  rcases h with ⟨a1, a2, a3, a4⟩ | ⟨a1, a2, a3⟩
  · exact .inl ⟨by rw [hasId_snoc, a1]; rfl, List.mem_append_left _ a2, a3, a4⟩
  · exact .inr ⟨by rw [hasId_snoc, a1]; simpa using he, a2, a3⟩

theorem Pick.hit (es : List E) {t : Int} {e : E} (he : (e.id : Int) = t) : Pick (es ++ [e]) t e 0 :=
  .inl ⟨by rw [hasId_snoc]; simp [he], by simp, he, rfl⟩

/-- The middle of a round: the one of the number has been looked for. -/
structure InM (es : List E) (t xa : Int) (X3 : Nat) (w7 wr : World) (k : Nat) (g : E) (r : Int) (o : Option Addr) (m c : Nat) : Prop where
  pick : Pick (es.take (k + 1)) t g r
  at_ : Sl (fun j => w7.heap.size ≤ j) wr 55 3 o m c (ecs ((es.take k).filter (kpI xa)))
  len : ((es.take k).filter (kpI xa)).length = m
  row : Row wr X3 55 (ecells g)
  keep : Keep (fun j => j = X3) w7 wr
  lt : X3 < w7.heap.size

theorem InM.no {es : List E} {t xa : Int} {X3 : Nat} {w7 wr w' : World} {k : Nat} {g : E} {r : Int} {o : Option Addr} {m c : Nat} (h : InM es t xa X3 w7 wr k g r o m c) {e : E} (he : es[k]? = some e) (hk : kpI xa e = false) (hw : Keep Nb wr w') :
    InG es t xa X3 w7 w' (k + 1) g r o m c := by
  have e1 : (es.take (k + 1)).filter (kpI xa) = (es.take k).filter (kpI xa) := by rw [take_snoc' he, List.filter_append]; simp [hk]
  exact ⟨h.pick, by rw [e1]; exact h.at_.keep hw (fun _ _ e => e), by rw [e1]; exact h.len, h.row.keep hw (fun e => e), h.keep.trans hw.of_nb, h.lt⟩

theorem InM.yes {es : List E} {t xa : Int} {X3 : Nat} {w7 wr wd w' : World} {k : Nat} {g : E} {r : Int} {o : Option Addr} {m c g' c' : Nat} (h : InM es t xa X3 w7 wr k g r o m c) {e : E} (he : es[k]? = some e) (hk : kpI xa e = true) (hw : Keep Nb wr wd)
    (hS : Sl (fun j => w7.heap.size ≤ j ∨ j = wd.heap.size + 1) w' 55 3 (some ⟨g', 0, none⟩) (m + 1) c' (ecs ((es.take k).filter (kpI xa)) ++ ecells e)) (hK : Keep (Bl o) wd w') :
    InG es t xa X3 w7 w' (k + 1) g r (some ⟨g', 0, none⟩) (m + 1) c' := by
  have e1 : (es.take (k + 1)).filter (kpI xa) = (es.take k).filter (kpI xa) ++ [e] := by rw [take_snoc' he, List.filter_append]; simp [hk]
  have z1 := h.keep.size
  have z2 := hw.size
  have hb : ¬ Bl o X3 := by
    rintro ⟨a, ha, hb⟩
    have := h.at_.foot a ha
    have := h.lt
    omega
  refine ⟨h.pick, ?_, by rw [e1, List.length_append, h.len]; rfl, (h.row.keep hw (fun e => e)).keep hK hb, ?_, h.lt⟩
  · rw [e1, ecs_append]
    show Sl _ w' _ 3 _ (m + 1) c' (ecs _ ++ (ecells e ++ []))
    rw [List.append_nil]
    exact hS.mono (fun j hj => by rcases hj with hj | hj; exact hj; omega)
  · exact (h.keep.trans hw.of_nb).trans' hK (fun _ _ e => e) (fun j hj hb => by
      obtain ⟨a, ha, hb⟩ := hb
      have := h.at_.foot a ha
      omega)

theorem GM.without {n : Nat} {es fs : List E} (h : GM n es fs) (p q : Nat → Bool) : GM n (withoutP p q es) (withoutP p q fs) := by
  have hperm : es.Perm fs := by
    rw [List.perm_ext_iff_of_nodup]
    · exact h.mem
    · exact h.sorted.imp (fun hlt e => by rw [e] at hlt; omega)
    · exact h.nd.imp (fun hne e => hne (by rw [e]))
  have hp : (withoutP p q es).Perm (withoutP p q fs) := hperm.filter _
  exact ⟨h.sorted.sublist List.filter_sublist, fun e he => h.over e (List.mem_filter.1 he).1, fun e => hp.mem_iff, hp.length_eq, Nat.le_trans (withoutP_len p q es) h.le, h.nd.sublist List.filter_sublist⟩

set_option maxHeartbeats 4000000 in
set_option maxRecDepth 100000 in
theorem gplay_short (n b0 off len cap : Nat) (oa oe on : Option Addr) (le ce ln cn : Nat) (hoa : 0 < len → oa = some ⟨b0, off, none⟩) (I A B : Nat → Int) (G : Nat → Bool) (Ce Cn : Nat → Int) (hn : n ≤ 40) (hlen : len ≤ 150) (hle : le ≤ 20) (hln : ln ≤ 20) (hcap : len ≤ cap)
    (w : World) (hP : Stp w b0 off len I A B G) (hCe : Ilr w oe le Ce) (hCn : Ilr w on ln Cn) (hE : ErrT w) :
    Calls Tryd.prog 5 #[.int .i64 n, .slice oa len cap, .slice oe le ce, .slice on ln cn] w fun e w' => e = .returned (.bool true) ∧ Keep Nb w w' := by
  have HOA := Lib.hid hoa
  have HP := Lib.hid hP
  have HE := Lib.hid hE
  have HCe := Lib.hid hCe
  have HCn := Lib.hid hCn
  have h1 : ¬ (150 : Int) < (len : Int) := by omega
  have h2 : ¬ (20 : Int) < (le : Int) := by omega
  have h3 : ¬ (20 : Int) < (ln : Int) := by omega
  have HL := Lib.hid (And.intro hle hln)
  clear hoa hP hE hCe hCn hle hln
  go_enter Tryd.func5, Tryd.ntmps5
  go_wp2_with fail
  refine (gnew_any w n hn).mono ?_
  rintro e w1 ⟨rfl, hG1, hk1, hz1⟩
  have hz0 : 0 < w.heap.size := World.block_lt_of_cell? _ _ HE.out
  have H0 : Hid (GpR w n w.heap.size w1.heap.size [] [] (w1.alloc (.cells #[.int .i64 n, .slice none 0 0] 64))) := Lib.hid
    ⟨GM.nil n, 0, fun k => k = w.heap.size, fun k => k = w1.heap.size, hG1.alloc _, ⟨none, 0, Row.new w1 #[.int .i64 n, .slice none 0 0] 64, rfl, (Sl.nil _ w1 55 3).alloc _, fun _ h => by cases h⟩,
      fun k hk => by have hk : k = w.heap.size := hk; rw [World.size_alloc]; omega, fun k hk => by have hk : k = w1.heap.size := hk; rw [World.size_alloc]; omega, fun k hk hk' => by have hk : k = w.heap.size := hk; have hk' : k = w1.heap.size := hk'; omega, hk1.alloc _, by rw [World.size_alloc]; omega⟩
  clear hG1 hk1 hz1 hz0
  obtain ⟨gb, hgb⟩ : ∃ gb, w.heap.size = gb := ⟨_, rfl⟩
  obtain ⟨rb, hrb⟩ : ∃ rb, w1.heap.size = rb := ⟨_, rfl⟩
  rw [hgb, hrb] at H0
  rw [hgb]
  go_wp2_with fail
  clear hgb hrb
  go_loopg [12] len (fun kx s wr => ∃ (i : Nat) (es fs : List E), s = .int .i64 i ∧ i ≤ len ∧ len - i ≤ kx ∧ Hid (GpR w n gb rb es fs wr))
  case atStart => exact ⟨0, [], [], rfl, Nat.zero_le _, by omega, H0⟩
  case round =>
    clear H0
    obtain ⟨i, es, fs, rfl, hi, hg, HR⟩ := hrel
    obtain ⟨wr0, rfl⟩ : ∃ w' : World, w' = wr := ⟨_, rfl⟩
    by_cases hlt : i < len
    · as_aux_lemma =>
      obtain rfl := HOA.out (by omega)
      have hP' := HP.out.keep HR.out.2.choose_spec.keep (fun e => e)
      have p0 := hP'.id i hlt
      have p1 := hP'.a i hlt
      have p2 := hP'.bq i hlt
      have p3 := hP'.g i hlt
      obtain ⟨t, ht⟩ : ∃ t, I i = t := ⟨_, rfl⟩
      obtain ⟨xa, hxa⟩ : ∃ xa, A i = xa := ⟨_, rfl⟩
      obtain ⟨xb, hxb⟩ : ∃ xb, B i = xb := ⟨_, rfl⟩
      obtain ⟨gn, hgn⟩ : ∃ gn, G i = gn := ⟨_, rfl⟩
      rw [ht] at p0
      rw [hxa] at p1
      rw [hxb] at p2
      rw [hgn] at p3
      clear hP' ht hxa hxb hgn
      obtain ⟨hM, X0, hS0⟩ := HR.out
      have HM := Lib.hid hM
      have hS1 := hS0.newX (.cells #[.int .i64 t, .int .i64 xa, .int .i64 xb, .bool gn] 66)
      have hrow := Row.new wr0 #[.int .i64 t, .int .i64 xa, .int .i64 xb, .bool gn] 66
      obtain ⟨w2, hw2⟩ : ∃ w2, wr0.alloc (.cells #[.int .i64 t, .int .i64 xa, .int .i64 xb, .bool gn] 66) = w2 := ⟨_, rfl⟩
      obtain ⟨X, hX⟩ : ∃ X, wr0.heap.size = X := ⟨_, rfl⟩
      have HX1 : Hid (wr0.heap.size = X) := Lib.hid hX
      rw [hw2, hX] at hS1 hrow
      have HS1 := Lib.hid hS1
      have x0 := hrow.cell (i := 0) rfl
      have x1 := hrow.cell (i := 1) rfl
      have x2 := hrow.cell (i := 2) rfl
      have x3 := hrow.cell (i := 3) rfl
      clear hM hS0 hS1 hrow HR
      go_upto_region 13 with (fail)
      have X0 := Lib.hid x0
      have X1 := Lib.hid x1
      have X2 := Lib.hid x2
      clear p0 p1 p2 p3 hw2 hX
      go_upto_if 75 with (fail)
      go_cut [75] (fun v wc => ∃ es2 fs2, Hid (GM n es2 fs2) ∧ Hid (GpS w X n gb rb es2 fs2 wc) ∧ Hid (wc.cell? ⟨X, 0, none⟩ = some (.int .i64 t) ∧ wc.cell? ⟨X, 1, none⟩ = some (.int .i64 xa)))
      case first =>
        cases gn with
        | true =>
          obtain ⟨dr, hdr⟩ : ∃ dr : Int, (if hasId es t = true then 0 else 7) = dr := ⟨_, rfl⟩
          obtain ⟨ev, hev⟩ : ∃ ev, errV dr = ev := ⟨_, rfl⟩
          obtain ⟨es2, hes2⟩ : ∃ es2, dropEs es t = es2 := ⟨_, rfl⟩
          have HD1 : Hid (∀ wx, GpS w X n gb rb es fs wx → Calls Tryd.prog 25 #[.pointer (some ⟨gb, 0, none⟩), .int .i64 t] wx fun e w' => e = .returned ev ∧ GpS w X n gb rb es2 fs w' ∧ Keep (fun k => k ≠ X) wx w') := Lib.hid (fun wx h => by
            have := gp_drop h HM.out t
            rw [hdr, hev, hes2] at this
            exact this)
          have HD2 : Hid (∀ wx, GpS w X n gb rb es2 fs wx → Calls Tryd.prog 26 #[.pointer (some ⟨rb, 0, none⟩), .int .i64 t] wx fun e w' => e = .returned (.int .i64 dr) ∧ (∃ fs', GM n es2 fs' ∧ GpS w X n gb rb es2 fs' w') ∧ Keep (fun k => k ≠ X) wx w') := Lib.hid (fun wx h => by
            have := gp_rdrop h HM.out t hes2.symm
            rw [hdr] at this
            exact this)
          have HD3 : Hid (∀ wx, Keep Nb w wx → Calls Tryd.prog 7 #[ev, .int .i64 dr] wx fun e w' => e = .returned (.bool true) ∧ Keep Nb wx w') := Lib.hid (fun wx k => by
            have := lbare_any ev dr dr hev.symm wx (HE.out.keep k (fun e => e))
            rw [decide_eq_true (rfl : dr = dr)] at this
            exact this)
          clear hdr hev hes2
          go_wp2_with fail
          go_region_held3 (fun w' => w'.cell? ⟨X, 0, none⟩ = some (.int .i64 t)) (go_keep) ((first
            | (go_at_call 25; refine (HD1.out _ (GpS.keepN HS1.out (show Keep Nb w2 _ from (by (repeat (first | exact Keep.refl _ _ | refine Keep.alloc ?_ _ | refine Keep.drew ?_)))))).mono ?_; rintro e1 wA ⟨rfl, hA, kA⟩; have a0 := kA.cell (p := ⟨X, 0, none⟩) X0.out (by simp); have a1 := kA.cell (p := ⟨X, 1, none⟩) X1.out (by simp); have HA := Lib.hid hA; have A0 := Lib.hid a0; have A1 := Lib.hid a1; clear hA kA a1)
            | (go_at_call 26; refine (HD2.out _ (GpS.keepN HA.out (show Keep Nb wA _ from (by (repeat (first | exact Keep.refl _ _ | refine Keep.alloc ?_ _ | refine Keep.drew ?_)))))).mono ?_; rintro e2 wB ⟨rfl, ⟨fs2, hM2, hB⟩, kB⟩; have b0' := kB.cell (p := ⟨X, 0, none⟩) A0.out (by simp); have b1' := kB.cell (p := ⟨X, 1, none⟩) A1.out (by simp); have HB := Lib.hid hB; have B0 := Lib.hid b0'; have B1 := Lib.hid b1'; have HM2 := Lib.hid hM2; clear hB kB b1' hM2)
            | (go_at_call 7; refine (HD3.out _ (GpS.keepN HB.out (show Keep Nb wB _ from (by (repeat (first | exact Keep.refl _ _ | refine Keep.alloc ?_ _ | refine Keep.drew ?_))))).keep).mono ?_; rintro e3 wC ⟨rfl, kC⟩; have c0' := kC.cell (p := ⟨X, 0, none⟩) B0.out (fun e => e); have KC := Lib.hid kC; clear kC)))
          have HC : Hid (GpS w X n gb rb es2 fs2 wC) := Lib.hid (GpS.keepN HB.out (Keep.trans (show Keep Nb wB _ from (by (repeat (first | exact Keep.refl _ _ | refine Keep.alloc ?_ _ | refine Keep.drew ?_)))) KC.out))
          have HXC : Hid (wC.cell? ⟨X, 0, none⟩ = some (.int .i64 t) ∧ wC.cell? ⟨X, 1, none⟩ = some (.int .i64 xa)) := Lib.hid ⟨KC.out.cell (p := ⟨X, 0, none⟩) B0.out (fun e => e), KC.out.cell (p := ⟨X, 1, none⟩) B1.out (fun e => e)⟩
          clear HS1 HA HB KC HD1 HD2 HD3
          go_wp2_with fail
          go_meet
          exact ⟨es2, fs2, HM2, HC, HXC⟩
        | false =>
          obtain ⟨dr, hdr⟩ : ∃ dr : Int, addErr n es t xa xb = dr := ⟨_, rfl⟩
          obtain ⟨ev, hev⟩ : ∃ ev, errV dr = ev := ⟨_, rfl⟩
          obtain ⟨es2, hes2⟩ : ∃ es2, addEs n es t xa xb = es2 := ⟨_, rfl⟩
          have HD1 : Hid (∀ wx, GpS w X n gb rb es fs wx → Calls Tryd.prog 27 #[.pointer (some ⟨gb, 0, none⟩), .int .i64 t, .int .i64 xa, .int .i64 xb] wx fun e w' => e = .returned ev ∧ GpS w X n gb rb es2 fs w' ∧ Keep (fun k => k ≠ X) wx w') := Lib.hid (fun wx h => by
            have := gp_add h HM.out hn t xa xb
            rw [hdr, hev, hes2] at this
            exact this)
          have HD2 : Hid (∀ wx, GpS w X n gb rb es2 fs wx → Calls Tryd.prog 28 #[.pointer (some ⟨rb, 0, none⟩), .int .i64 t, .int .i64 xa, .int .i64 xb] wx fun e w' => e = .returned (.int .i64 dr) ∧ (∃ fs', GM n es2 fs' ∧ GpS w X n gb rb es2 fs' w') ∧ Keep (fun k => k ≠ X) wx w') := Lib.hid (fun wx h => by
            have := gp_radd h HM.out hn t xa xb hes2.symm
            rw [hdr] at this
            exact this)
          have HD3 : Hid (∀ wx, Keep Nb w wx → Calls Tryd.prog 7 #[ev, .int .i64 dr] wx fun e w' => e = .returned (.bool true) ∧ Keep Nb wx w') := Lib.hid (fun wx k => by
            have := lbare_any ev dr dr hev.symm wx (HE.out.keep k (fun e => e))
            rw [decide_eq_true (rfl : dr = dr)] at this
            exact this)
          clear hdr hev hes2
          go_wp2_with fail
          go_region_held3 (fun w' => w'.cell? ⟨X, 0, none⟩ = some (.int .i64 t) ∧ w'.cell? ⟨X, 1, none⟩ = some (.int .i64 xa) ∧ w'.cell? ⟨X, 2, none⟩ = some (.int .i64 xb)) (go_keep) ((first
            | (go_at_call 27; refine (HD1.out _ (GpS.keepN HS1.out (show Keep Nb w2 _ from (by (repeat (first | exact Keep.refl _ _ | refine Keep.alloc ?_ _ | refine Keep.drew ?_)))))).mono ?_; rintro e1 wA ⟨rfl, hA, kA⟩; have a0 := kA.cell (p := ⟨X, 0, none⟩) X0.out (by simp); have a1 := kA.cell (p := ⟨X, 1, none⟩) X1.out (by simp); have a2 := kA.cell (p := ⟨X, 2, none⟩) X2.out (by simp); have HA := Lib.hid hA; have A0 := Lib.hid a0; have A1 := Lib.hid a1; have A2 := Lib.hid a2; clear hA kA)
            | (go_at_call 28; refine (HD2.out _ (GpS.keepN HA.out (show Keep Nb wA _ from (by (repeat (first | exact Keep.refl _ _ | refine Keep.alloc ?_ _ | refine Keep.drew ?_)))))).mono ?_; rintro e2 wB ⟨rfl, ⟨fs2, hM2, hB⟩, kB⟩; have b0' := kB.cell (p := ⟨X, 0, none⟩) A0.out (by simp); have b1' := kB.cell (p := ⟨X, 1, none⟩) A1.out (by simp); have HB := Lib.hid hB; have B0 := Lib.hid b0'; have B1 := Lib.hid b1'; have HM2 := Lib.hid hM2; have b2' := kB.cell (p := ⟨X, 2, none⟩) A2.out (by simp); clear hB kB hM2; have B2 := Lib.hid b2')
            | (go_at_call 7; refine (HD3.out _ (GpS.keepN HB.out (show Keep Nb wB _ from (by (repeat (first | exact Keep.refl _ _ | refine Keep.alloc ?_ _ | refine Keep.drew ?_))))).keep).mono ?_; rintro e3 wC ⟨rfl, kC⟩; have c0' := kC.cell (p := ⟨X, 0, none⟩) B0.out (fun e => e); have c1' := kC.cell (p := ⟨X, 1, none⟩) B1.out (fun e => e); have c2' := kC.cell (p := ⟨X, 2, none⟩) B2.out (fun e => e); have KC := Lib.hid kC; clear kC)))
          have HC : Hid (GpS w X n gb rb es2 fs2 wC) := Lib.hid (GpS.keepN HB.out (Keep.trans (show Keep Nb wB _ from (by (repeat (first | exact Keep.refl _ _ | refine Keep.alloc ?_ _ | refine Keep.drew ?_)))) KC.out))
          have HXC : Hid (wC.cell? ⟨X, 0, none⟩ = some (.int .i64 t) ∧ wC.cell? ⟨X, 1, none⟩ = some (.int .i64 xa)) := Lib.hid ⟨KC.out.cell (p := ⟨X, 0, none⟩) B0.out (fun e => e), KC.out.cell (p := ⟨X, 1, none⟩) B1.out (fun e => e)⟩
          clear HS1 HA HB KC HD1 HD2 HD3
          go_wp2_with fail
          go_meet
          exact ⟨es2, fs2, HM2, HC, HXC⟩
      case rest =>
        obtain ⟨es2, fs2, HM2, HS2, HX2⟩ := hcut
        obtain ⟨w3, rfl⟩ : ∃ w' : World, w' = wc := ⟨_, rfl⟩
        clear HM HS1 X0 X1 X2 x0 x1 x2 x3
        obtain ⟨f, r, hpk⟩ := pick_edge HM2.out.sorted t
        have HPK := Lib.hid hpk
        obtain ⟨ev, hev⟩ : ∃ ev, errV r = ev := ⟨_, rfl⟩
        have HEV := Lib.hid hev
        obtain ⟨x0, x1⟩ := HX2.out
        have hge := gp_edge (fun _ => True) w3 gb n es2 t f r HS2.out.gr HM2.out.sorted HM2.out.le hpk
        rw [hev] at hge
        have HGE := Lib.hid hge
        clear hpk hev hge
        go_wp2_with fail
        refine HGE.out.mono ?_
        rintro e w4 ⟨rfl, hk4⟩
        have HK4 := Lib.hid hk4
        clear hk4 HGE x0 x1
        go_wp2_with fail
        obtain ⟨X2, hX2⟩ : ∃ X2, w4.heap.size = X2 := ⟨_, rfl⟩
        obtain ⟨w6, hw6⟩ : ∃ w6, (w4.alloc (.cells #[.int .i64 f.id, .int .i64 f.a, .int .i64 f.b] 55)).alloc (.cells #[.int .i64 0, .int .i64 0, .int .i64 0] 55) = w6 := ⟨_, rfl⟩
        have HK6 : Hid (Keep Nb w3 w6) := Lib.hid (by rw [← hw6]; exact (HK4.out.alloc _).alloc _)
        have HZ6 : Hid (w6.heap.size = X2 + 2) := Lib.hid (by rw [← hw6, ← hX2]; simp)
        have HRf : Hid (Row w6 X2 55 (ecells f)) := Lib.hid (by rw [← hw6, ← hX2]; exact (Row.new w4 #[.int .i64 f.id, .int .i64 f.a, .int .i64 f.b] 55).alloc _)
        have HRz : Hid (Row w6 (X2 + 1) 55 (ecells ⟨0, 0, 0⟩)) := Lib.hid (by
          rw [← hw6, ← hX2]
          have := Row.new (w4.alloc (.cells #[.int .i64 f.id, .int .i64 f.a, .int .i64 f.b] 55)) #[.int .i64 0, .int .i64 0, .int .i64 0] 55
          rw [World.size_alloc] at this
          exact this)
        have HS6 : Hid (GpS w X n gb rb es2 fs2 w6) := Lib.hid (HS2.out.keepN HK6.out)
        rw [hw6, hX2]
        obtain ⟨X3, hX3⟩ : ∃ X3, X2 + 1 = X3 := ⟨_, rfl⟩
        have HX3 : Hid (X2 + 1 = X3 ∧ X < X2 ∧ w3.heap.size ≤ X2) := Lib.hid ⟨hX3, by
          obtain ⟨F1, F2, m1, m2, m3, m4, m5, m6, m7⟩ := HS2.out
          have := HK4.out.size
          omega⟩
        rw [hX3] at HRz ⊢
        have HX6 : Hid (w6.cell? ⟨X, 0, none⟩ = some (.int .i64 t) ∧ w6.cell? ⟨X, 1, none⟩ = some (.int .i64 xa)) := Lib.hid ⟨HK6.out.cell HX2.out.1 (fun e => e), HK6.out.cell HX2.out.2 (fun e => e)⟩
        clear HX2 hw6 hX2 HK4 hX3
        refine (rsorted_any _ _ rb n fs2 HS6.out.rgr (by have := HM2.out.le; have := HM2.out.len; omega)).mono ?_
        rintro e w7 ⟨ds, o7, c7, rfl, hp7, hs7, hS7, hk7⟩
        have hds := gp_sorted HM2.out hp7 hs7
        subst hds
        obtain ⟨m7, hm7⟩ : ∃ m, fs2.length = m := ⟨_, rfl⟩
        rw [hm7] at hS7 ⊢
        have HM7 : Hid (ds.length = m7 ∧ m7 ≤ 120) := Lib.hid ⟨by have := HM2.out.len; omega, by have := HM2.out.le; have := HM2.out.len; omega⟩
        have HS7 := Lib.hid hS7
        have HK7 := Lib.hid hk7
        have H0 : Hid (InG ds t xa X3 w7 w7 0 ⟨0, 0, 0⟩ 7 none 0 0) := Lib.hid (InG.start (HRz.out.keep hk7 (fun e => e)))
        clear hp7 hs7 hS7 hk7 hm7
        go_wp2_with fail
        go_loopg [16, 19, 20] m7 (fun kx s16 s19 s20 wr => ∃ (k m c : Nat) (g : E) (r' : Int) (o : Option Addr), s16 = .int .i64 r' ∧ s19 = .slice o m c ∧ s20 = .int .i64 k ∧ k ≤ m7 ∧ m7 - k ≤ kx ∧ Hid (InG ds t xa X3 w7 wr k g r' o m c))
        case atStart => exact ⟨0, 0, 0, ⟨0, 0, 0⟩, 7, none, rfl, rfl, rfl, Nat.zero_le _, by omega, H0⟩
        case round =>
          clear H0
          obtain ⟨k, m, c, g, r', o, rfl, rfl, rfl, hk, hgk, HG⟩ := hrel
          obtain ⟨wg, rfl⟩ : ∃ w' : World, w' = wr := ⟨_, rfl⟩
          by_cases hltk : k < m7
          · as_aux_lemma =>
            have hy := List.getElem?_eq_getElem (l := ds) (i := k) (by rw [HM7.out.1]; exact hltk)
            generalize ds[k]'(by rw [HM7.out.1]; exact hltk) = e at hy
            have HY := Lib.hid hy
            have kX : Keep (fun j => j = X3) w6 wg := HK7.out.of_nb.trans HG.out.keep
            have hS7w := HS7.out.keep HG.out.keep (fun j h1 h2 => by have := HZ6.out; have := HX3.out; omega)
            obtain ⟨g7, ho7, _, hnc7, hrow7⟩ := hS7w.pos (by omega)
            have d1 := hrow7.edges.id _ _ hy
            have d2 := hrow7.edges.a _ _ hy
            have d3 := hrow7.edges.b _ _ hy
            have x0 := kX.cell HX6.out.1 (by have := HX3.out; show ¬ X = X3; omega)
            have x1 := kX.cell HX6.out.2 (by have := HX3.out; show ¬ X = X3; omega)
            subst ho7
            clear hS7w hrow7 hy kX
            obtain ⟨eb, heb⟩ : ∃ eb, ((e.id : Int) == t) = eb := ⟨_, rfl⟩
            have HEB := Lib.hid heb
            go_upto_region 25 with (fail)
            go_cut [127] (fun v wc => v = .bool eb ∧ ∃ j, wc = wg.drewN j)
            case first => as_aux_lemma =>
              clear HG HX6 HP HE HCe HCn HOA HS6 HM2 HEB d2 d3
              go_quiet (fail)
              go_wp2_with fail
              go_meet
              exact ⟨rfl, _, rfl⟩
            case rest => as_aux_lemma =>
              obtain ⟨rfl, j1, rfl⟩ := hcut
              clear heb d1 d2 d3 x0 x1
              have kj : Keep Nb wg (wg.drewN j1) := (Keep.refl Nb wg).drewN j1
              have HG1 : Hid (InG ds t xa X3 w7 (wg.drewN j1) k g r' o m c) := Lib.hid ⟨HG.out.pick, HG.out.at_.keep kj (fun _ _ e => e), HG.out.len, HG.out.row.keep kj (fun e => e), HG.out.keep.trans kj.of_nb, HG.out.lt⟩
              obtain ⟨wh, hwh⟩ : ∃ wh, wg.drewN j1 = wh := ⟨_, rfl⟩
              rw [hwh] at HG1 ⊢
              clear HG kj hwh
              have hS7w := HS7.out.keep HG1.out.keep (fun j h1 h2 => by have := HZ6.out; have := HX3.out; omega)
              obtain ⟨g7', ho7, _, _, hrow7⟩ := hS7w.pos (by omega)
              cases ho7
              have d1 := hrow7.edges.id _ _ HY.out
              have d2 := hrow7.edges.a _ _ HY.out
              have d3 := hrow7.edges.b _ _ HY.out
              clear hS7w hrow7
              go_upto_if 127 with (fail)
              go_cut [16] (fun s wc => ∃ (g' : E) (r2 : Int), s = .int .i64 r2 ∧ Hid (InM ds t xa X3 w7 wc k g' r2 o m c))
              case first => as_aux_lemma =>
                cases eb with
                | true =>
                  have hid : (e.id : Int) = t := by have := HEB.out; simpa using this
                  have f0 := HG1.out.row.frozen 0 none
                  have f1 := HG1.out.row.frozen 1 none
                  have f2 := HG1.out.row.frozen 2 none
                  have q0 := HG1.out.row.cell (i := 0) rfl
                  have q1 := HG1.out.row.cell (i := 1) rfl
                  have q2 := HG1.out.row.cell (i := 2) rfl
                  have HN : Hid (∀ wx, Keep Nb wh wx → InM ds t xa X3 w7 (((wx.setCell ⟨X3, 0, none⟩ (.int .i64 e.id)).setCell ⟨X3, 1, none⟩ (.int .i64 e.a)).setCell ⟨X3, 2, none⟩ (.int .i64 e.b)) k e 0 o m c) := Lib.hid (fun wx hw => by
                    have kS : Keep (fun j => j = X3) wx (((wx.setCell ⟨X3, 0, none⟩ (.int .i64 e.id)).setCell ⟨X3, 1, none⟩ (.int .i64 e.a)).setCell ⟨X3, 2, none⟩ (.int .i64 e.b)) :=
                      (((Keep.refl (fun j => j = X3) wx).setCell (p := ⟨X3, 0, none⟩) (.inl rfl) _).setCell (p := ⟨X3, 1, none⟩) (.inl rfl) _).setCell (p := ⟨X3, 2, none⟩) (.inl rfl) _
                    refine ⟨?_, (HG1.out.at_.keep hw (fun _ _ e => e)).keep kS (fun j h1 h2 => by have := HG1.out.lt; omega), HG1.out.len, ?_, (HG1.out.keep.trans hw.of_nb).trans kS, HG1.out.lt⟩
                    · rw [take_snoc' HY.out]; exact Pick.hit _ hid
                    · exact (((HG1.out.row.keep hw (fun e => e)).set (i := 0) (by simp [ecells]) (.int .i64 e.id)).set (i := 1) (by simp [ecells]) (.int .i64 e.a)).set (i := 2) (by simp [ecells]) (.int .i64 e.b))
                  clear hid HG1 HX6 HP HE HCe HCn HOA HS6 HM2 HEB
                  go_wp2_with fail
                  go_region
                  all_goals (try go_wp2_with fail)
                  all_goals
                    go_meet
                    exact ⟨e, 0, rfl, Lib.hid (HN.out _ ((Keep.refl Nb wh).drewN _))⟩
                | false =>
                  have hid : ¬ (e.id : Int) = t := by have := HEB.out; simpa using this
                  have HN : Hid (InM ds t xa X3 w7 wh k g r' o m c) := Lib.hid
                    ⟨by rw [take_snoc' HY.out]; exact HG1.out.pick.miss hid, HG1.out.at_, HG1.out.len, HG1.out.row, HG1.out.keep, HG1.out.lt⟩
                  clear hid HG1 HX6 HP HE HCe HCn HOA HS6 HM2 HEB
                  go_wp2_with fail
                  go_meet
                  exact ⟨g, r', rfl, HN⟩
              case rest => as_aux_lemma =>
                obtain ⟨g', r2, rfl, HI⟩ := hcut
                obtain ⟨wi, rfl⟩ : ∃ w' : World, w' = wc := ⟨_, rfl⟩
                clear HG1 d1 d2 d3 HEB
                have kX : Keep (fun j => j = X3) w6 wi := HK7.out.of_nb.trans HI.out.keep
                have hS7w := HS7.out.keep HI.out.keep (fun j h1 h2 => by have := HZ6.out; have := HX3.out; omega)
                obtain ⟨g7', ho7, _, _, hrow7⟩ := hS7w.pos (by omega)
                cases ho7
                have d1 := hrow7.edges.id _ _ HY.out
                have d2 := hrow7.edges.a _ _ HY.out
                have d3 := hrow7.edges.b _ _ HY.out
                have x1 := kX.cell HX6.out.2 (by have := HX3.out; show ¬ X = X3; omega)
                clear hS7w hrow7 kX
                obtain ⟨kb, hkb⟩ : ∃ kb, kpI xa e = kb := ⟨_, rfl⟩
                have HKB := Lib.hid hkb
                go_upto_region 27 with (fail)
                go_cut [149] (fun v wc => v = .bool kb ∧ ∃ j, wc = wi.drewN j)
                case first => as_aux_lemma =>
                  clear HI HX6 HP HE HCe HCn HOA HS6 HM2 HKB
                  unfold kpI at hkb
                  by_cases ha : (e.a : Int) = xa
                  · have ha2 : ((e.a : Int) == xa) = true := by simpa using ha
                    have ht : kb = true := by rw [← hkb]; simp [ha]
                    subst ht
                    clear hkb ha
                    go_quiet (fail)
                    go_wp2_with fail
                    go_meet
                    exact ⟨rfl, _, rfl⟩
                  · have ha2 : ((e.a : Int) == xa) = false := by simpa using ha
                    by_cases hb : (e.b : Int) = xa
                    · have hb2 : ((e.b : Int) == xa) = true := by simpa using hb
                      have ht : kb = true := by rw [← hkb]; simp [hb]
                      subst ht
                      clear hkb ha hb
                      go_quiet (fail)
                      go_wp2_with fail
                      go_meet
                      exact ⟨rfl, _, rfl⟩
                    · have hb2 : ((e.b : Int) == xa) = false := by simpa using hb
                      have ht : kb = false := by rw [← hkb]; simp [ha, hb]
                      subst ht
                      clear hkb ha hb
                      go_quiet (fail)
                      go_wp2_with fail
                      go_meet
                      exact ⟨rfl, _, rfl⟩
                case rest => as_aux_lemma =>
                  obtain ⟨rfl, j2, rfl⟩ := hcut
                  clear hkb x1
                  have kj : Keep Nb wi (wi.drewN j2) := (Keep.refl Nb wi).drewN j2
                  have HKJ := Lib.hid kj
                  have d1 := kj.cell d1 (fun e => e)
                  have d2 := kj.cell d2 (fun e => e)
                  have d3 := kj.cell d3 (fun e => e)
                  obtain ⟨wj, hwj⟩ : ∃ wj, wi.drewN j2 = wj := ⟨_, rfl⟩
                  rw [hwj] at d1 d2 d3 HKJ ⊢
                  clear kj hwj
                  have hk120 : k < 120 := by have := HM7.out; omega
                  cases kb with
                  | true =>
                    have hml : m ≤ 120 := by
                      have := HI.out.len
                      have h1 := List.length_filter_le (kpI xa) (ds.take k)
                      have h2 := List.length_take_le' k ds
                      have := HM7.out
                      omega
                    obtain ⟨g9, c9, w9, r9, s9, k9, q9⟩ := run_appN (P := Tryd.prog) 62 62 55 und_edges elem_edge (by rfl) (by omega) (HI.out.at_.keep HKJ.out (fun _ _ e => e)) [Value.int .i64 e.id, .int .i64 e.a, .int .i64 e.b] 1 (by simp [Value.oneCell']) rfl (by omega) (by omega) (by omega)
                    have R9 := Lib.hid r9
                    have HN := Lib.hid (HI.out.yes HY.out HKB.out HKJ.out s9 k9)
                    clear r9 s9 k9 q9 HI
                    go_wp2_with (at_builtin; refine wpList_app rfl _ _ _ rfl rfl rfl R9.out ?_)
                    go_roundg (m7 - (k + 1))
                    case measure => omega
                    case rel => exact ⟨k + 1, m + 1, c9, g', r2, some ⟨g9, 0, none⟩, rfl, rfl, by go_num, by omega, Nat.le_refl _, HN⟩
                  | false =>
                    have HN := Lib.hid (HI.out.no HY.out HKB.out HKJ.out)
                    clear HI
                    go_wp2_with fail
                    go_roundg (m7 - (k + 1))
                    case measure => omega
                    case rel => exact ⟨k + 1, m, c, g', r2, o, rfl, rfl, by go_num, by omega, Nat.le_refl _, HN⟩
          · as_aux_lemma =>
            obtain rfl : k = m7 := by omega
            obtain ⟨m7, rfl⟩ : ∃ n', n' = k := ⟨_, rfl⟩
            have htk : ds.take m7 = ds := List.take_of_length_le (by rw [HM7.out.1]; exact Nat.le_refl _)
            obtain ⟨hgf, hrr⟩ : g = f ∧ r' = r := Pick.unique HM2.out.sorted (by have := HG.out.pick; rwa [htk] at this) HPK.out
            subst hgf hrr
            have kX : Keep (fun j => j = X3) w6 wg := HK7.out.of_nb.trans HG.out.keep
            have x1 := kX.cell HX6.out.2 (by have := HX3.out; show ¬ X = X3; omega)
            have HSg : Hid (GpS w X n gb rb ds fs2 wg) := Lib.hid (HS2.out.keepT (HK6.out.trans' kX (fun _ _ e => e.elim) (fun j hj e => by have := HX3.out; omega)))
            have HAT : Hid (Sl (fun j => w7.heap.size ≤ j) wg 55 3 o m c (ecs (ds.filter (kpI xa))) ∧ (ds.filter (kpI xa)).length = m) := Lib.hid (by
              have h1 := HG.out.at_
              have h2 := HG.out.len
              rw [htk] at h1 h2
              exact ⟨h1, h2⟩)
            have HB2 : Hid (Row wg X2 55 (ecells g)) := Lib.hid (HRf.out.keep kX (by have := HX3.out; show ¬ X2 = X3; omega))
            have HB3 : Hid (Row wg X3 55 (ecells g)) := Lib.hid HG.out.row
            clear htk kX HG HS2 HS6 HK7 HS7 HRf HRz HK6 HX6 hgk
            obtain ⟨L, hL⟩ : ∃ L, atV n ds xa = L := ⟨_, rfl⟩
            obtain ⟨r8, hr8⟩ : ∃ r8, atR n xa = r8 := ⟨_, rfl⟩
            obtain ⟨ev8, hev8⟩ : ∃ ev, errV r8 = ev := ⟨_, rfl⟩
            obtain ⟨m8, hm8⟩ : ∃ m, L.length = m := ⟨_, rfl⟩
            have hat := gp_at (fun _ => True) wg gb n ds xa HSg.out.gr HM2.out.le L r8 hL hr8
            rw [hev8, hm8] at hat
            have HATC := Lib.hid hat
            have HLL : Hid (atV n ds xa = L ∧ atR n xa = r8 ∧ errV r8 = ev8 ∧ L.length = m8) := Lib.hid ⟨hL, hr8, hev8, hm8⟩
            clear hL hr8 hev8 hm8 hat
            go_wp2_with fail
            refine HATC.out.mono ?_
            rintro e w8 ⟨o8, c8, rfl, hS8, hk8⟩
            have HS8 := Lib.hid hS8
            have HK8 := Lib.hid hk8
            have x1 := hk8.cell x1 (fun e => e)
            clear hS8 hk8 HATC
            obtain ⟨oz, hoz⟩ : ∃ oz, outB n xa = oz := ⟨_, rfl⟩
            have HOZ := Lib.hid hoz
            go_upto_region 31 with (fail)
            go_cut [172] (fun v wc => v = .bool oz ∧ wc = w8)
            case first => as_aux_lemma =>
              clear HP HE HCe HCn HOA HM2 HSg HAT HB2 HB3 HS8 HK8 HOZ HLL
              by_cases h1 : xa < 0
              · have ht : oz = true := by rw [← hoz]; simp [outB, h1]
                subst ht
                clear hoz
                go_wp2_with fail
                go_meet
                exact ⟨rfl, rfl⟩
              · by_cases h2 : (n : Int) ≤ xa
                · have ht : oz = true := by rw [← hoz]; simp [outB, h2]
                  subst ht
                  clear hoz
                  go_wp2_with fail
                  go_meet
                  exact ⟨rfl, rfl⟩
                · have ht : oz = false := by rw [← hoz]; simp [outB, h1, h2]
                  subst ht
                  clear hoz
                  go_wp2_with fail
                  go_meet
                  exact ⟨rfl, rfl⟩
            case rest => as_aux_lemma =>
              obtain ⟨rfl, rfl⟩ := hcut
              obtain ⟨w8, rfl⟩ : ∃ w' : World, w' = wc := ⟨_, rfl⟩
              clear hoz x1
              have HBB : Hid (∀ (v : Value) (q : Int) wx, v = errV q → Keep Nb w8 wx → Calls Tryd.prog 7 #[v, .int .i64 q] wx fun e w' => e = .returned (.bool true) ∧ Keep Nb wx w') := Lib.hid (fun v q wx hv k => by
                have := lbare_any v q q hv wx (HE.out.keep ((HSg.out.keep.trans HK8.out).trans k) (fun e => e))
                rw [decide_eq_true (rfl : q = q)] at this
                exact this)
              have HEQ : Hid (∀ (o' : Option Addr) (c' mm : Nat) wx, m8 = mm → Keep Nb w8 wx → (∃ F : Nat → Prop, Sl F wx 55 3 o' mm c' (ecs L)) → Calls Tryd.prog 31 #[.slice o8 m8 c8, .slice o' mm c'] wx fun e w' => e = .returned (.bool true) ∧ ∃ j, w' = wx.drewN j) := Lib.hid (fun o' c' mm wx hmm k h => by
                obtain ⟨F, hF⟩ := h
                subst hmm
                exact sameE_q _ F wx o8 o' m8 c8 c' L HLL.out.2.2.2 (HS8.out.keep k (fun _ _ e => e)) hF (by
                  have := HLL.out
                  have h1 : L.length ≤ ds.length := by
                    rw [← this.1]; unfold atV
                    split
                    · simp
                    · exact List.length_filter_le _ _
                  have := HM7.out
                  omega))
              have HNX : Hid (∀ wx, Keep Nb w8 wx → GpR w n gb rb ds fs2 wx) := Lib.hid (fun wx k => ⟨HM2.out, X, HSg.out.keepN (HK8.out.trans k)⟩)
              cases oz with
              | true =>
                obtain ⟨hL0, hr0⟩ : L = [] ∧ r8 = 2 := by
                  have := HLL.out
                  have h1 := this.1
                  have h2 := this.2.1
                  unfold atV at h1
                  unfold atR at h2
                  rw [HOZ.out, if_pos rfl] at h1 h2
                  exact ⟨h1.symm, h2.symm⟩
                subst hL0 hr0
                have hm0 : m8 = 0 := HLL.out.2.2.2.symm
                subst hm0
                go_wp2_with fail
                refine (HBB.out ev r' _ HEV.out.symm (Keep.refl _ _)).mono ?_
                rintro e wA ⟨rfl, kA⟩
                have KA := Lib.hid kA
                have b20 := ((HB2.out.keep HK8.out (fun e => e)).keep kA (fun e => e)).cell (i := 0) rfl
                have b21 := ((HB2.out.keep HK8.out (fun e => e)).keep kA (fun e => e)).cell (i := 1) rfl
                have b22 := ((HB2.out.keep HK8.out (fun e => e)).keep kA (fun e => e)).cell (i := 2) rfl
                have b30 := ((HB3.out.keep HK8.out (fun e => e)).keep kA (fun e => e)).cell (i := 0) rfl
                have b31 := ((HB3.out.keep HK8.out (fun e => e)).keep kA (fun e => e)).cell (i := 1) rfl
                have b32 := ((HB3.out.keep HK8.out (fun e => e)).keep kA (fun e => e)).cell (i := 2) rfl
                clear kA
                go_wp2_with fail
                refine (HBB.out ev8 2 _ HLL.out.2.2.1.symm KA.out).mono ?_
                rintro e wB ⟨rfl, kB⟩
                have KB := Lib.hid (KA.out.trans kB)
                clear kB b20 b21 b22 b30 b31 b32
                go_wp2_with fail
                refine (HEQ.out none 0 0 wB rfl KB.out ⟨fun _ => True, Sl.nil _ _ _ _⟩).mono ?_
                rintro e wC ⟨rfl, j, rfl⟩
                have HN := Lib.hid (HNX.out _ (KB.out.drewN j))
                clear HBB HEQ HNX HS8 HK8 HAT HB2 HB3 HSg KA KB HLL
                go_wp2_with fail
                go_roundg (len - (i + 1))
                case measure => omega
                case rel => exact ⟨i + 1, ds, fs2, by go_num, by omega, Nat.le_refl _, HN⟩
              | false =>
                obtain ⟨hL0, hr0⟩ : L = ds.filter (kpI xa) ∧ r8 = 0 := by
                  have := HLL.out
                  have h1 := this.1
                  have h2 := this.2.1
                  unfold atV at h1
                  unfold atR at h2
                  rw [HOZ.out, if_neg (by simp)] at h1 h2
                  exact ⟨h1.symm, h2.symm⟩
                subst hr0
                have HMM : Hid (m8 = m) := Lib.hid (by rw [← HLL.out.2.2.2, hL0]; exact HAT.out.2)
                have HSL : Hid (∀ wx, Keep Nb wg wx → ∃ F : Nat → Prop, Sl F wx 55 3 o m c (ecs L)) := Lib.hid (fun wx k => ⟨_, by rw [hL0]; exact HAT.out.1.keep k (fun _ _ e => e)⟩)
                clear hL0
                go_wp2_with fail
                refine (HBB.out ev r' _ HEV.out.symm (Keep.refl _ _)).mono ?_
                rintro e wA ⟨rfl, kA⟩
                have KA := Lib.hid kA
                have b20 := ((HB2.out.keep HK8.out (fun e => e)).keep kA (fun e => e)).cell (i := 0) rfl
                have b21 := ((HB2.out.keep HK8.out (fun e => e)).keep kA (fun e => e)).cell (i := 1) rfl
                have b22 := ((HB2.out.keep HK8.out (fun e => e)).keep kA (fun e => e)).cell (i := 2) rfl
                have b30 := ((HB3.out.keep HK8.out (fun e => e)).keep kA (fun e => e)).cell (i := 0) rfl
                have b31 := ((HB3.out.keep HK8.out (fun e => e)).keep kA (fun e => e)).cell (i := 1) rfl
                have b32 := ((HB3.out.keep HK8.out (fun e => e)).keep kA (fun e => e)).cell (i := 2) rfl
                clear kA
                go_wp2_with fail
                refine (HBB.out ev8 0 _ HLL.out.2.2.1.symm KA.out).mono ?_
                rintro e wB ⟨rfl, kB⟩
                have KB := Lib.hid (KA.out.trans kB)
                clear kB b20 b21 b22 b30 b31 b32
                go_wp2_with fail
                refine (HEQ.out o c m wB HMM.out KB.out (HSL.out _ (HK8.out.trans KB.out))).mono ?_
                rintro e wC ⟨rfl, j, rfl⟩
                have HN := Lib.hid (HNX.out _ (KB.out.drewN j))
                clear HBB HEQ HNX HS8 HK8 HAT HB2 HB3 HSg KA KB HLL
                go_wp2_with fail
                go_roundg (len - (i + 1))
                case measure => omega
                case rel => exact ⟨i + 1, ds, fs2, by go_num, by omega, Nat.le_refl _, HN⟩
    · as_aux_lemma =>
      obtain rfl : i = len := by omega
      obtain ⟨hM, X, hS0⟩ := HR.out
      have HM := Lib.hid hM
      have HS := Lib.hid hS0
      obtain ⟨p, hp⟩ : ∃ p, memC Ce le = p := ⟨_, rfl⟩
      obtain ⟨q, hq⟩ : ∃ q, memC Cn ln = q := ⟨_, rfl⟩
      have HPQ := Lib.hid (And.intro hp hq)
      have hne : ((n : Int) != (n : Int)) = false := by simp
      have HLE : Hid (es.length ≤ 120 ∧ fs.length ≤ 120 ∧ (withoutP p q es).length ≤ 120 ∧ (withoutP p q fs).length ≤ 120) := Lib.hid (by
        have h1 := hM.le
        have h2 := hM.len
        have h3 := withoutP_len p q es
        have h4 := withoutP_len p q fs
        omega)
      clear hM hS0 HR hp hq HP HOA
      go_wp2_with fail
      refine (without_c (fun _ => True) wr0 gb n es oe on ce cn le ln Ce Cn p q HPQ.out.1 HPQ.out.2 HS.out.gr (by have := HLE.out; omega) (HCe.out.keep HS.out.keep (fun _ _ e => e)) (HCn.out.keep HS.out.keep (fun _ _ e => e)) (by have := HL.out.1; omega) (by have := HL.out.2; omega)).mono ?_
      rintro e w1 ⟨rfl, hg1, hk1⟩
      obtain ⟨lb, hlb⟩ : ∃ lb, wr0.heap.size = lb := ⟨_, rfl⟩
      rw [hlb] at hg1 ⊢
      have HG1 := Lib.hid (hg1.mono (G := fun _ => True) (fun _ _ => trivial))
      have HS1 := Lib.hid (HS.out.keepN hk1)
      clear hg1 hk1 hlb HS
      go_wp2_with fail
      refine (nodes_any _ _ lb n _ HG1.out).mono ?_
      rintro e w' ⟨rfl, rfl⟩
      go_wp2_with fail
      refine (nodes_any _ _ gb n es HS1.out.gr).mono ?_
      rintro e w' ⟨rfl, rfl⟩
      obtain ⟨w1, rfl⟩ : ∃ w1 : World, w1 = w' := ⟨_, rfl⟩
      go_wp2_with fail
      refine (edges_any _ w1 gb n es HS1.out.gr (by have := HLE.out; omega)).mono ?_
      rintro e w2 ⟨oA, cA, rfl, hSA, hk2⟩
      have HSA := Lib.hid hSA
      have HS2 := Lib.hid (HS1.out.keepN hk2)
      have HG2 := Lib.hid (HG1.out.keep hk2 (fun _ _ e => e))
      clear hSA hk2 HS1 HG1
      go_wp2_with fail
      refine (rsorted_any _ w2 rb n fs HS2.out.rgr (by have := HLE.out; omega)).mono ?_
      rintro e w3 ⟨ds, oB, cB, rfl, hp3, hs3, hSB, hk3⟩
      have hds := gp_sorted HM.out hp3 hs3
      subst hds
      have HS3 := Lib.hid (HS2.out.keepN hk3)
      have HG3 := Lib.hid (HG2.out.keep hk3 (fun _ _ e => e))
      obtain ⟨m3, hm3⟩ : ∃ m, ds.length = m := ⟨_, rfl⟩
      have hm3' : fs.length = m3 := by have := HM.out.len; omega
      have hSA3 := HSA.out.keep hk3 (fun _ _ e => e)
      rw [hm3] at hSA3 ⊢
      rw [hm3'] at hSB ⊢
      have HC3 := Lib.hid (sameE_q _ _ w3 oA oB m3 cA cB ds hm3 hSA3 hSB (by have := HLE.out; omega))
      clear hp3 hs3 hSB hk3 hSA3 hm3 hm3' HSA HS2 HG2
      go_wp2_with fail
      refine HC3.out.mono ?_
      rintro e w4 ⟨rfl, j4, rfl⟩
      have k4 : Keep Nb w3 (w3.drewN j4) := (Keep.refl Nb w3).drewN j4
      have HS4 := Lib.hid (HS3.out.keepN k4)
      have HG4 := Lib.hid (HG3.out.keep k4 (fun _ _ e => e))
      obtain ⟨w4, hw4⟩ : ∃ w4, w3.drewN j4 = w4 := ⟨_, rfl⟩
      rw [hw4] at HS4 HG4 ⊢
      clear k4 hw4 HC3 HS3 HG3
      go_wp2_with fail
      refine (edges_any _ w4 lb n _ HG4.out (by have := HLE.out; omega)).mono ?_
      rintro e w5 ⟨oC, cC, rfl, hSC, hk5⟩
      have HSC := Lib.hid hSC
      have HS5 := Lib.hid (HS4.out.keepN hk5)
      clear hSC hk5 HS4 HG4
      go_wp2_with fail
      refine (rwithout_c (fun _ => True) w5 rb n fs oe on ce cn le ln Ce Cn p q HPQ.out.1 HPQ.out.2 HS5.out.rgr (by have := HLE.out; omega) (HCe.out.keep HS5.out.keep (fun _ _ e => e)) (HCn.out.keep HS5.out.keep (fun _ _ e => e)) (by have := HL.out.1; omega) (by have := HL.out.2; omega)).mono ?_
      rintro e w6 ⟨rfl, hg6, hk6⟩
      have HG6 := Lib.hid hg6
      have HSC6 := Lib.hid (HSC.out.keep hk6 (fun _ _ e => e))
      have HK6 := Lib.hid (HS5.out.keep.trans hk6)
      clear hg6 hk6 HSC HS5
      go_wp2_with fail
      refine (rsorted_any _ w6 _ n _ HG6.out (by have := HLE.out; omega)).mono ?_
      rintro e w7 ⟨ds7, oD, cD, rfl, hp7, hs7, hSD, hk7⟩
      have hds7 := gp_sorted (GM.without HM.out p q) hp7 hs7
      subst hds7
      obtain ⟨m7, hm7⟩ : ∃ m, (withoutP p q ds).length = m := ⟨_, rfl⟩
      have hm7' : (withoutP p q fs).length = m7 := by have := (GM.without HM.out p q).len; omega
      have hSC7 := HSC6.out.keep hk7 (fun _ _ e => e)
      rw [hm7] at hSC7 ⊢
      rw [hm7'] at hSD ⊢
      have HC7 := Lib.hid (sameE_q _ _ w7 oC oD m7 cC cD _ hm7 hSC7 hSD (by have := HLE.out; omega))
      have HK7 := Lib.hid (HK6.out.trans hk7)
      clear hp7 hs7 hSD hk7 hSC7 hm7 hm7' HSC6 HG6 HK6
      go_wp2_with fail
      refine HC7.out.mono ?_
      rintro e w8 ⟨rfl, j8, rfl⟩
      have HK8 := Lib.hid (HK7.out.drewN j8)
      obtain ⟨w8, hw8⟩ : ∃ w8, w7.drewN j8 = w8 := ⟨_, rfl⟩
      rw [hw8] at HK8 ⊢
      clear hw8 HC7 HK7
      go_wp2_with fail
      refine (other_any w8 0 3 7 3).mono ?_
      rintro e w9 ⟨rfl, hk9⟩
      have HK9 := Lib.hid (HK8.out.trans hk9)
      clear hk9 HK8
      go_wp2_with fail
      refine (other_any w9 0 3 7 7).mono ?_
      rintro e w10 ⟨rfl, hk10⟩
      have HK10 := Lib.hid (HK9.out.trans hk10)
      clear hk10 HK9
      go_wp2_with fail
      go_ret
      exact ⟨rfl, HK10.out⟩

end Go.Proofs.YtkpoobnldgfapaaDoor
