/- Contains and Without at slices of ints of any value, as they come as arguments. -/
import Derived.Test.YtkpoobnldgfapaaDoorA5
import Derived.Test.YtkpoobnldgfapaaDoorRGraph4
set_option linter.unusedVariables false
set_option linter.unusedSimpArgs false
namespace Go.Proofs.YtkpoobnldgfapaaDoor
open Go.RowKit Pl

/-- A slice of ints that is only read. -/
structure Ilr (w : World) (oa : Option Addr) (len : Nat) (C : Nat → Int) : Prop where
  cells : ∀ i, i < len → ∃ b off, oa = some ⟨b, off, none⟩ ∧ w.cell? ⟨b, off + i, none⟩ = some (.int .i64 (C i)) ∧ b < w.heap.size

theorem Ilr.keep {G : Nat → Prop} {w w' : World} {oa : Option Addr} {len : Nat} {C : Nat → Int} (h : Ilr w oa len C) (k : Keep G w w') (d : ∀ j, j < w.heap.size → ¬ G j) : Ilr w' oa len C :=
  ⟨fun i hi => by obtain ⟨b, off, h1, h2, h3⟩ := h.cells i hi; exact ⟨b, off, h1, k.cell h2 (d _ h3), Nat.lt_of_lt_of_le h3 k.size⟩⟩

/-- Whether a number is among them. -/
def memC (C : Nat → Int) (len : Nat) (x : Nat) : Bool := (List.range len).any (fun i => decide (C i = (x : Int)))

theorem memC_iff {C : Nat → Int} {len x : Nat} : memC C len x = true ↔ ∃ i, i < len ∧ C i = (x : Int) := by
  simp [memC]

set_option maxRecDepth 100000 in
theorem index_c (w : World) (o : Option Addr) (c len : Nat) (C : Nat → Int) (x : Nat) (hS : Ilr w o len C) (hn : len ≤ 1000) :
    Calls Tryd.prog 76 #[.slice o len c, .int .i64 x] w fun e w' => ∃ r : Int, e = .returned (.int .i64 r) ∧ (0 ≤ r ↔ memC C len x = true) ∧ w' = w := by
  have HS := Lib.hid hS
  clear hS
  have HP : Hid (∀ i : Nat, i < len → C i = (x : Int) → ∃ r : Int, Ending.returned (.int .i64 i) = .returned (.int .i64 r) ∧ (0 ≤ r ↔ memC C len x = true)) :=
    Lib.hid (fun i hi hc => ⟨i, rfl, ⟨fun _ => memC_iff.2 ⟨i, hi, hc⟩, fun _ => by omega⟩⟩)
  have HN : Hid ((∀ j : Nat, j < len → C j ≠ (x : Int)) → ∃ r : Int, Ending.returned (.int .i64 (-1)) = .returned (.int .i64 r) ∧ (0 ≤ r ↔ memC C len x = true)) :=
    Lib.hid (fun h => ⟨-1, rfl, ⟨fun h => by omega, fun h' => by
      obtain ⟨j, hj, hj'⟩ := memC_iff.1 h'
      exact absurd hj' (h j hj)⟩⟩)
  generalize hPP : (fun (e : Ending) (w' : World) => ∃ r : Int, e = .returned (.int .i64 r) ∧ (0 ≤ r ↔ memC C len x = true) ∧ w' = w) = PP
  have HPP := Lib.hid hPP
  clear hPP
  go_enter Tryd.func76, Tryd.ntmps76
  go_wp2
  go_loop [8] (fun r => ∃ i : Nat, r = .int .i64 i ∧ i ≤ len ∧ Hid (∀ j : Nat, j < i → C j ≠ (x : Int))) (fun r => len - (intOf r).toNat)
  case atStart => exact ⟨0, rfl, Nat.zero_le _, Lib.hid (fun j hj => by omega)⟩
  case round =>
    obtain ⟨i, rfl, hi, HJ⟩ := hrel
    by_cases hlt : i < len
    · obtain ⟨g, off, rfl, c1, hb⟩ := HS.out.cells i hlt
      obtain ⟨y, hy⟩ : ∃ y, C i = y := ⟨_, rfl⟩
      rw [hy] at c1
      have HY := Lib.hid hy
      clear hy
      by_cases hxy : (x : Int) = y
      · subst hxy
        go_wp2
        obtain ⟨r, h1, h2⟩ := HP.out i hlt HY.out
        rw [← HPP.out]
        exact ⟨r, h1, h2, rfl⟩
      · have hxy' : ¬ ((x : Int) = y) := hxy
        have HX := Lib.hid hxy
        clear hxy
        go_wp2
        go_round
        case rel => exact ⟨i + 1, rfl, by omega, Lib.hid (fun j hj => by
            by_cases e : j = i
            · subst e; rw [HY.out]; intro h; exact HX.out h.symm
            · exact HJ.out j (by omega))⟩
        case measure => simp [intOf]; omega
    · go_wp2
      rw [← HPP.out]
      obtain ⟨r, h1, h2⟩ := HN.out (fun j hj => HJ.out j (by omega))
      exact ⟨r, h1, h2, rfl⟩

set_option maxRecDepth 100000 in
theorem contains_c (w : World) (o : Option Addr) (c len : Nat) (C : Nat → Int) (x : Nat) (r : Bool) (hr0 : memC C len x = r) (hS : Ilr w o len C) (hn : len ≤ 1000) :
    Calls Tryd.prog 59 #[.slice o len c, .int .i64 x] w fun e w' => e = .returned (.bool r) ∧ w' = w := by
  have HS := Lib.hid hS
  have HR0 := Lib.hid hr0
  clear hS hr0
  go_enter Tryd.func59, Tryd.ntmps59
  go_wp2_with fail
  refine (index_c w o c len C x HS.out hn).mono ?_
  rintro e w1 ⟨q, rfl, hr, rfl⟩
  have hd : decide (0 ≤ q) = r := by rw [← HR0.out, Bool.eq_iff_iff, decide_eq_true_eq]; exact hr
  have HD := Lib.hid hd
  clear hr hd
  go_wp2_with fail
  go_ret
  exact ⟨by rw [← HD.out]; rfl, rfl⟩

set_option maxRecDepth 100000 in
theorem has_c (w : World) (o : Option Addr) (c len : Nat) (C : Nat → Int) (x : Nat) (r : Bool) (hr : memC C len x = r) (hS : Ilr w o len C) (hl : len ≤ 1000) :
    Calls Tryd.prog 61 #[.slice o len c, .int .i64 x] w fun e w' => e = .returned (.bool r) ∧ w = w' := by
  have HS := Lib.hid hS
  have HR := Lib.hid hr
  clear hS hr
  go_enter Tryd.func61, Tryd.ntmps61
  go_wp2_with fail
  go_loopg [9] len (fun kx s wr => ∃ i : Nat, s = .int .i64 i ∧ i ≤ len ∧ len - i ≤ kx ∧ w = wr ∧ Hid (∀ (k : Nat), k < i → C k ≠ (x : Int)))
  case atStart => exact ⟨0, rfl, Nat.zero_le _, by omega, rfl, Lib.hid fun k hk => absurd hk (by omega)⟩
  case round =>
    obtain ⟨i, rfl, hi, hg, rfl, HI⟩ := hrel
    by_cases hlt : i < len
    · obtain ⟨g, off, rfl, d1, hb⟩ := HS.out.cells i hlt
      obtain ⟨y, hy⟩ : ∃ y, C i = y := ⟨_, rfl⟩
      rw [hy] at d1
      have HY := Lib.hid hy
      clear hy
      by_cases e : (x : Int) = y
      · have e2 : ((x : Int) == y) = true := by rw [beq_iff_eq]; exact e
        have hr2 : r = true := by rw [← HR.out]; exact memC_iff.2 ⟨i, hlt, by rw [HY.out, e]⟩
        have HYY := Lib.hid e
        clear e HR
        subst hr2
        go_wp2_with fail
        go_ret
        exact ⟨rfl, rfl⟩
      · have e2 : ((x : Int) == y) = false := by rw [beq_eq_false_iff_ne]; exact e
        have HN : Hid (∀ (k : Nat), k < i + 1 → C k ≠ (x : Int)) := Lib.hid fun k hk => by
          by_cases hki : k = i
          · subst hki; rw [HY.out]; exact fun h => e h.symm
          · exact HI.out k (by omega)
        clear e
        go_wp2_with fail
        go_roundg (len - (i + 1))
        case measure => omega
        case rel => exact ⟨i + 1, rfl, by omega, Nat.le_refl _, rfl, HN⟩
    · have hr2 : r = false := by
        rw [← HR.out, Bool.eq_false_iff]
        intro hm
        obtain ⟨k, hk, hk'⟩ := memC_iff.1 hm
        exact HI.out k (by omega) hk'
      clear HR
      subst hr2
      go_wp2_with fail
      go_ret
      exact ⟨rfl, rfl⟩

/-- Without the edges whose number, or one of whose ends, is told so. -/
def keepsP (p q : Nat → Bool) (e : E) : Bool := !p e.id && !q e.a && !q e.b
def withoutP (p q : Nat → Bool) (es : List E) : List E := es.filter (keepsP p q)

def WRelP (w : World) (n : Nat) (p q : Nat → Bool) (es : List E) (i : Nat) (bq : Nat) (wr : World) : Prop :=
  bq = w.heap.size ∧ Gr (fun k => w.heap.size ≤ k) wr bq n (withoutP p q (es.take i)) ∧ Keep Nb w wr

def WithoutPostP (w : World) (n : Nat) (p q : Nat → Bool) (es : List E) (e : Ending) (w' : World) : Prop :=
  e = .returned (.pointer (some ⟨w.heap.size, 0, none⟩)) ∧ Gr (fun k => w.heap.size ≤ k) w' w.heap.size n (withoutP p q es) ∧ Keep Nb w w'

theorem withoutP_succ {p q : Nat → Bool} {es : List E} {i : Nat} {e : E} (h : es[i]? = some e) : withoutP p q (es.take (i + 1)) = withoutP p q (es.take i) ++ (if keepsP p q e then [e] else []) := by
  unfold withoutP
  rw [List.take_add_one, h]
  simp [List.filter_append, List.filter_cons]

theorem withoutP_len (p q : Nat → Bool) (es : List E) : (withoutP p q es).length ≤ es.length := List.length_filter_le _ _

/-- A round that takes none. -/
theorem WRelP.skip {w wr w2 : World} {n : Nat} {p q : Nat → Bool} {es : List E} {i bq : Nat} {e : E} (h : WRelP w n p q es i bq wr) (he : es[i]? = some e) (hk : keepsP p q e = false) (k : Keep Nb wr w2) : WRelP w n p q es (i + 1) bq w2 := by
  obtain ⟨h1, h2, h3⟩ := h
  refine ⟨h1, ?_, h3.trans k⟩
  rw [withoutP_succ he, hk]
  simp only [Bool.false_eq_true, if_false, List.append_nil]
  exact h2.keep k (fun _ _ h => h)

/-- A round that takes one. -/
theorem WRelP.take {w wr w2 w3 : World} {n : Nat} {p q : Nat → Bool} {es : List E} {i : Nat} {e : E} {o : Option Addr} {c : Nat} (hF : Keep Nb w wr) (hM : GrMem (fun k => w.heap.size ≤ k) wr w.heap.size n (withoutP p q (es.take i)) o c) (he : es[i]? = some e) (hk : keepsP p q e = true)
    (k : Keep Nb wr w2) {g c' m : Nat} (hm : m = (withoutP p q (es.take i)).length) (hS : Sl (fun k => w.heap.size ≤ k ∨ k = w2.heap.size + 1) w3 55 3 (some ⟨g, 0, none⟩) (m + 1) c' (ecs (withoutP p q (es.take i)) ++ ecells e)) (hk3 : Keep (Bl o) w2 w3) (hg : o = some ⟨g, 0, none⟩ ∨ g = w2.heap.size + 1) :
    WRelP w n p q es (i + 1) w.heap.size (w3.setCell ⟨w.heap.size, 1, none⟩ (.slice (some ⟨g, 0, none⟩) (m + 1) c')) := by
  have hsz := k.size
  have hF1 := hF.size
  have hlt := hM.head.lt
  have hbl : ∀ j, Bl o j → w.heap.size ≤ j ∧ j ≠ w.heap.size := by
    rintro j ⟨x, hx, rfl⟩
    exact ⟨hM.s.foot x hx, hM.d x hx⟩
  have hgq : g ≠ w.heap.size := by
    rcases hg with h | h
    · exact hM.d _ h
    · omega
  have hhead := (hM.head.keep k (fun h => h)).keep hk3 (fun h => (hbl _ h).2 rfl)
  have hes : withoutP p q (es.take (i + 1)) = withoutP p q (es.take i) ++ [e] := by rw [withoutP_succ he, hk]; rfl
  have hlen : (withoutP p q (es.take (i + 1))).length = m + 1 := by rw [hes, List.length_append, ← hm]; rfl
  refine ⟨rfl, ⟨some ⟨g, 0, none⟩, c', ?_, ?_, ?_, ?_⟩, ?_⟩
  · have := hhead.set (i := 1) (by simp) (.slice (some ⟨g, 0, none⟩) (m + 1) c')
    rw [hlen]
    exact this
  · exact Nat.le_refl _
  · rw [hlen, hes, ecs_append, ecs_cons, ecs_nil, List.append_nil]
    exact (hS.mono (G := fun k => w.heap.size ≤ k) (fun j hj => by rcases hj with h | h; exact h; omega)).set_ne (p := ⟨w.heap.size, 1, none⟩) (fun x hx => by cases hx; exact hgq) _
  · intro x hx; cases hx; exact hgq
  · exact ((hF.trans k).trans' hk3 (H := Nb) (fun _ _ h => h) (fun j hj h => by have := (hbl j h).1; omega)).setCell (.inr (Nat.le_refl _)) _

set_option maxRecDepth 100000 in
set_option maxHeartbeats 1000000 in
theorem without_c (F : Nat → Prop) (w : World) (b n : Nat) (es : List E) (oe on : Option Addr) (ce cn le ln : Nat) (Ce Cn : Nat → Int) (p q : Nat → Bool) (hp : memC Ce le = p) (hq : memC Cn ln = q) (hG : Gr F w b n es) (hn : es.length ≤ 1000)
    (hE : Ilr w oe le Ce) (hN : Ilr w on ln Cn) (he : le ≤ 1000) (hnl : ln ≤ 1000) :
    Calls Tryd.prog 32 #[.pointer (some ⟨b, 0, none⟩), .slice oe le ce, .slice on ln cn] w (WithoutPostP w n p q es) := by
  obtain ⟨o, c, hM⟩ := hG
  have c0 := hM.head.cell (i := 0) rfl
  have c1 := hM.head.cell (i := 1) rfl
  have hbw := hM.head.lt
  have HM := Lib.hid hM
  have HE := Lib.hid hE
  have HPM := Lib.hid hp
  have HQM := Lib.hid hq
  have HN := Lib.hid hN
  have H0 : Hid (WRelP w n p q es 0 w.heap.size (w.alloc (.cells #[.int .i64 n, .slice none 0 0] 106))) :=
    Lib.hid ⟨rfl, ⟨none, 0, Row.new w #[.int .i64 n, .slice none 0 0] 106, Nat.le_refl _, (Sl.nil _ w 55 3).alloc _, fun _ h => by cases h⟩, (Keep.refl Nb w).alloc _⟩
  clear hM hE hN hp hq
  go_enter Tryd.func32, Tryd.ntmps32
  go_wp2
  go_loopg [21] es.length (fun kx s wr => ∃ i : Nat, s = .int .i64 i ∧ i ≤ es.length ∧ es.length - i ≤ kx ∧ Hid (WRelP w n p q es i w.heap.size wr))
  case atStart => exact ⟨0, rfl, Nat.zero_le _, by omega, H0⟩
  case round =>
    clear H0
    obtain ⟨i, rfl, hi, hg, HR⟩ := hrel
    by_cases hlt : i < es.length
    · obtain ⟨g, rfl, _, hnc, hrow⟩ := HM.out.s.pos (by omega)
      have hy := List.getElem?_eq_getElem hlt
      generalize es[i]'hlt = e at hy
      have hEr := hrow.edges.keep HR.out.2.2 id
      have d1 := hEr.id _ _ hy
      have d2 := hEr.a _ _ hy
      have d3 := hEr.b _ _ hy
      have HY := Lib.hid hy
      have HE1 := Lib.hid ((HE.out.keep (HR.out.2.2.alloc (.cells #[.int .i64 e.id, .int .i64 e.a, .int .i64 e.b] 55)) (fun _ _ h => h)))
      have HN1 := Lib.hid ((HN.out.keep (HR.out.2.2.alloc (.cells #[.int .i64 e.id, .int .i64 e.a, .int .i64 e.b] 55)) (fun _ _ h => h)))
      have HK := Lib.hid ((Keep.refl Nb wr).alloc (.cells #[.int .i64 e.id, .int .i64 e.a, .int .i64 e.b] 55))
      clear hy hrow hEr
      by_cases m1 : p e.id = true
      · go_wp2_with fail
        refine (contains_c _ oe ce le Ce e.id true (by rw [HPM.out]; exact m1) HE1.out he).mono ?_
        rintro e1 w1 ⟨rfl, rfl⟩
        go_wp2
        go_roundg (es.length - (i + 1))
        case measure => omega
        case rel => exact ⟨i + 1, rfl, by omega, Nat.le_refl _, Lib.hid (HR.out.skip HY.out (by simp [keepsP, m1]) HK.out)⟩
      · by_cases m2 : q e.a = true
        · go_wp2_with fail
          refine (contains_c _ oe ce le Ce e.id false (by rw [HPM.out]; simpa using m1) HE1.out he).mono ?_
          rintro e1 w1 ⟨rfl, rfl⟩
          go_wp2_with fail
          refine (contains_c _ on cn ln Cn e.a true (by rw [HQM.out]; exact m2) HN1.out hnl).mono ?_
          rintro e1 w1 ⟨rfl, rfl⟩
          go_wp2
          go_roundg (es.length - (i + 1))
          case measure => omega
          case rel => exact ⟨i + 1, rfl, by omega, Nat.le_refl _, Lib.hid (HR.out.skip HY.out (by simp [keepsP, m2]) HK.out)⟩
        · by_cases m3 : q e.b = true
          · go_wp2_with fail
            refine (contains_c _ oe ce le Ce e.id false (by rw [HPM.out]; simpa using m1) HE1.out he).mono ?_
            rintro e1 w1 ⟨rfl, rfl⟩
            go_wp2_with fail
            refine (contains_c _ on cn ln Cn e.a false (by rw [HQM.out]; simpa using m2) HN1.out hnl).mono ?_
            rintro e1 w1 ⟨rfl, rfl⟩
            go_wp2_with fail
            refine (contains_c _ on cn ln Cn e.b true (by rw [HQM.out]; exact m3) HN1.out hnl).mono ?_
            rintro e1 w1 ⟨rfl, rfl⟩
            go_wp2
            go_roundg (es.length - (i + 1))
            case measure => omega
            case rel => exact ⟨i + 1, rfl, by omega, Nat.le_refl _, Lib.hid (HR.out.skip HY.out (by simp [keepsP, m3]) HK.out)⟩
          · obtain ⟨_, ⟨o2, c2, hM2⟩, hkw⟩ := HR.out
            have hle := withoutP_len p q (es.take i)
            rw [List.length_take] at hle
            have hM3 := (hM2.alloc (.cells #[.int .i64 e.id, .int .i64 e.a, .int .i64 e.b] 55)).drew
            obtain ⟨gq, c', w3, h1, h2, h3, h4⟩ := run_appN (P := Tryd.prog) 62 62 55 und_edges elem_edge (by rfl) (by omega) hM3.s (ecells e) 1 (fun u hu => ecs_one [e] u (by simpa [ecs] using hu)) rfl (by omega) (by omega) (by omega)
            have hsz2 : (wr.alloc (.cells #[.int .i64 e.id, .int .i64 e.a, .int .i64 e.b] 55)).drew.heap.size = wr.heap.size + 1 := by simp
            have hrow3 := hM3.head.keep h3 (fun h => by obtain ⟨x, hx, hxg⟩ := h; exact hM3.d x hx hxg)
            have x1 := hM2.head.cell (i := 1) rfl
            have x2 := hrow3.cell (i := 1) rfl
            have x3 := hrow3.frozen 1 none
            have x4 := hM2.head.lt
            generalize hm : (withoutP p q (es.take i)).length = m at *
            have HT := Lib.hid (WRelP.take hkw hM2 HY.out (by simp [keepsP, m1, m2, m3]) (HK.out.drew) hm.symm h2 h3 h4)
            rw [hsz2] at h1
            have H1 := Lib.hid h1
            have mixed : (Tryd.prog).follows Departure.mixedOrders = true := by kernel_rfl
            clear h1 h2 h3 h4 hM2 hM3 hrow3 hkw hsz2 hm
            go_wp2_with fail
            refine (contains_c _ oe ce le Ce e.id false (by rw [HPM.out]; simpa using m1) HE1.out he).mono ?_
            rintro e1 w1 ⟨rfl, rfl⟩
            go_wp2_with fail
            refine (contains_c _ on cn ln Cn e.a false (by rw [HQM.out]; simpa using m2) HN1.out hnl).mono ?_
            rintro e1 w1 ⟨rfl, rfl⟩
            go_wp2_with fail
            refine (contains_c _ on cn ln Cn e.b false (by rw [HQM.out]; simpa using m3) HN1.out hnl).mono ?_
            rintro e1 w1 ⟨rfl, rfl⟩
            go_wp2_with fail
            go_region_law_o (refine step_app_run rfl _ _ 62 62 rfl (.slice o2 m c2) (.slice (some ⟨wr.heap.size + 1, 0, none⟩) 1 1) (by simp [Act.eval, Act.put]) (by simp [Act.eval, Act.put]) H1.out ?_)
            all_goals
              (try go_wp2)
              go_roundg (es.length - (i + 1))
              case measure => omega
              case rel => exact ⟨i + 1, rfl, by omega, Nat.le_refl _, HT⟩
    · obtain rfl : i = es.length := by omega
      have hP : WithoutPostP w n p q es (.returned (.pointer (some ⟨w.heap.size, 0, none⟩))) wr := by
        obtain ⟨_, h2, h3⟩ := HR.out
        rw [List.take_length] at h2
        exact ⟨rfl, h2, h3⟩
      have HP := Lib.hid hP
      clear hP
      go_wp2
      go_ret
      exact HP.out

def RWRelP (w : World) (n : Nat) (p q : Nat → Bool) (es : List E) (i : Nat) (bq : Nat) (wr : World) : Prop :=
  bq = w.heap.size ∧ RGr (fun k => w.heap.size ≤ k) wr bq n (withoutP p q (es.take i)) ∧ Keep Nb w wr

def RWithoutPostP (w : World) (n : Nat) (p q : Nat → Bool) (es : List E) (e : Ending) (w' : World) : Prop :=
  e = .returned (.pointer (some ⟨w.heap.size, 0, none⟩)) ∧ RGr (fun k => w.heap.size ≤ k) w' w.heap.size n (withoutP p q es) ∧ Keep Nb w w'

/-- A round that takes none. -/
theorem RWRelP.skip {w wr w2 : World} {n : Nat} {p q : Nat → Bool} {es : List E} {i bq : Nat} {e : E} (h : RWRelP w n p q es i bq wr) (he : es[i]? = some e) (hk : keepsP p q e = false) (k : Keep Nb wr w2) : RWRelP w n p q es (i + 1) bq w2 := by
  obtain ⟨h1, h2, h3⟩ := h
  refine ⟨h1, ?_, h3.trans k⟩
  rw [withoutP_succ he, hk]
  simp only [Bool.false_eq_true, if_false, List.append_nil]
  exact h2.keep k (fun _ _ h => h)

/-- A round that takes one. -/
theorem RWRelP.take {w wr w2 w3 : World} {n : Nat} {p q : Nat → Bool} {es : List E} {i : Nat} {e : E} {o : Option Addr} {c : Nat} (hF : Keep Nb w wr) (hM : RGrMem (fun k => w.heap.size ≤ k) wr w.heap.size n (withoutP p q (es.take i)) o c) (he : es[i]? = some e) (hk : keepsP p q e = true)
    (k : Keep Nb wr w2) {g c' m : Nat} (hm : m = (withoutP p q (es.take i)).length) (hS : Sl (fun k => w.heap.size ≤ k ∨ k = w2.heap.size + 1) w3 55 3 (some ⟨g, 0, none⟩) (m + 1) c' (ecs (withoutP p q (es.take i)) ++ ecells e)) (hk3 : Keep (Bl o) w2 w3) (hg : o = some ⟨g, 0, none⟩ ∨ g = w2.heap.size + 1) :
    RWRelP w n p q es (i + 1) w.heap.size (w3.setCell ⟨w.heap.size, 1, none⟩ (.slice (some ⟨g, 0, none⟩) (m + 1) c')) := by
  have hsz := k.size
  have hF1 := hF.size
  have hlt := hM.head.lt
  have hbl : ∀ j, Bl o j → w.heap.size ≤ j ∧ j ≠ w.heap.size := by
    rintro j ⟨x, hx, rfl⟩
    exact ⟨hM.s.foot x hx, hM.d x hx⟩
  have hgq : g ≠ w.heap.size := by
    rcases hg with h | h
    · exact hM.d _ h
    · omega
  have hhead := (hM.head.keep k (fun h => h)).keep hk3 (fun h => (hbl _ h).2 rfl)
  have hes : withoutP p q (es.take (i + 1)) = withoutP p q (es.take i) ++ [e] := by rw [withoutP_succ he, hk]; rfl
  have hlen : (withoutP p q (es.take (i + 1))).length = m + 1 := by rw [hes, List.length_append, ← hm]; rfl
  refine ⟨rfl, ⟨some ⟨g, 0, none⟩, c', ?_, ?_, ?_, ?_⟩, ?_⟩
  · have := hhead.set (i := 1) (by simp) (.slice (some ⟨g, 0, none⟩) (m + 1) c')
    rw [hlen]
    exact this
  · exact Nat.le_refl _
  · rw [hlen, hes, ecs_append, ecs_cons, ecs_nil, List.append_nil]
    exact (hS.mono (G := fun k => w.heap.size ≤ k) (fun j hj => by rcases hj with h | h; exact h; omega)).set_ne (p := ⟨w.heap.size, 1, none⟩) (fun x hx => by cases hx; exact hgq) _
  · intro x hx; cases hx; exact hgq
  · exact ((hF.trans k).trans' hk3 (H := Nb) (fun _ _ h => h) (fun j hj h => by have := (hbl j h).1; omega)).setCell (.inr (Nat.le_refl _)) _

set_option maxRecDepth 100000 in
set_option maxHeartbeats 1000000 in
theorem rwithout_c (F : Nat → Prop) (w : World) (b n : Nat) (es : List E) (oe on : Option Addr) (ce cn le ln : Nat) (Ce Cn : Nat → Int) (p q : Nat → Bool) (hp : memC Ce le = p) (hq : memC Cn ln = q) (hG : RGr F w b n es) (hn : es.length ≤ 1000)
    (hE : Ilr w oe le Ce) (hN : Ilr w on ln Cn) (he : le ≤ 1000) (hnl : ln ≤ 1000) :
    Calls Tryd.prog 35 #[.pointer (some ⟨b, 0, none⟩), .slice oe le ce, .slice on ln cn] w (RWithoutPostP w n p q es) := by
  obtain ⟨o, c, hM⟩ := hG
  have c0 := hM.head.cell (i := 0) rfl
  have c1 := hM.head.cell (i := 1) rfl
  have hbw := hM.head.lt
  have HM := Lib.hid hM
  have HE := Lib.hid hE
  have HPM := Lib.hid hp
  have HQM := Lib.hid hq
  have HN := Lib.hid hN
  have H0 : Hid (RWRelP w n p q es 0 w.heap.size (w.alloc (.cells #[.int .i64 n, .slice none 0 0] 64))) :=
    Lib.hid ⟨rfl, ⟨none, 0, Row.new w #[.int .i64 n, .slice none 0 0] 64, Nat.le_refl _, (Sl.nil _ w 55 3).alloc _, fun _ h => by cases h⟩, (Keep.refl Nb w).alloc _⟩
  clear hM hE hN hp hq
  go_enter Tryd.func35, Tryd.ntmps35
  go_wp2
  go_loopg [22] es.length (fun kx s wr => ∃ i : Nat, s = .int .i64 i ∧ i ≤ es.length ∧ es.length - i ≤ kx ∧ Hid (RWRelP w n p q es i w.heap.size wr))
  case atStart => exact ⟨0, rfl, Nat.zero_le _, by omega, H0⟩
  case round =>
    clear H0
    obtain ⟨i, rfl, hi, hg, HR⟩ := hrel
    by_cases hlt : i < es.length
    · obtain ⟨g, rfl, _, hnc, hrow⟩ := HM.out.s.pos (by omega)
      have hy := List.getElem?_eq_getElem hlt
      generalize es[i]'hlt = e at hy
      have hEr := hrow.edges.keep HR.out.2.2 id
      have d1 := hEr.id _ _ hy
      have d2 := hEr.a _ _ hy
      have d3 := hEr.b _ _ hy
      have HY := Lib.hid hy
      have HE1 := Lib.hid ((HE.out.keep (HR.out.2.2.alloc (.cells #[.int .i64 e.id, .int .i64 e.a, .int .i64 e.b] 55)) (fun _ _ h => h)))
      have HN1 := Lib.hid ((HN.out.keep (HR.out.2.2.alloc (.cells #[.int .i64 e.id, .int .i64 e.a, .int .i64 e.b] 55)) (fun _ _ h => h)))
      have HK := Lib.hid ((Keep.refl Nb wr).alloc (.cells #[.int .i64 e.id, .int .i64 e.a, .int .i64 e.b] 55))
      clear hy hrow hEr
      by_cases m1 : p e.id = true
      · go_wp2_with fail
        refine (has_c _ oe ce le Ce e.id true (by rw [HPM.out]; exact m1) HE1.out he).mono ?_
        rintro e1 w1 ⟨rfl, rfl⟩
        go_wp2
        go_roundg (es.length - (i + 1))
        case measure => omega
        case rel => exact ⟨i + 1, rfl, by omega, Nat.le_refl _, Lib.hid (HR.out.skip HY.out (by simp [keepsP, m1]) HK.out)⟩
      · by_cases m2 : q e.a = true
        · go_wp2_with fail
          refine (has_c _ oe ce le Ce e.id false (by rw [HPM.out]; simpa using m1) HE1.out he).mono ?_
          rintro e1 w1 ⟨rfl, rfl⟩
          go_wp2_with fail
          refine (has_c _ on cn ln Cn e.a true (by rw [HQM.out]; exact m2) HN1.out hnl).mono ?_
          rintro e1 w1 ⟨rfl, rfl⟩
          go_wp2
          go_roundg (es.length - (i + 1))
          case measure => omega
          case rel => exact ⟨i + 1, rfl, by omega, Nat.le_refl _, Lib.hid (HR.out.skip HY.out (by simp [keepsP, m2]) HK.out)⟩
        · by_cases m3 : q e.b = true
          · go_wp2_with fail
            refine (has_c _ oe ce le Ce e.id false (by rw [HPM.out]; simpa using m1) HE1.out he).mono ?_
            rintro e1 w1 ⟨rfl, rfl⟩
            go_wp2_with fail
            refine (has_c _ on cn ln Cn e.a false (by rw [HQM.out]; simpa using m2) HN1.out hnl).mono ?_
            rintro e1 w1 ⟨rfl, rfl⟩
            go_wp2_with fail
            refine (has_c _ on cn ln Cn e.b true (by rw [HQM.out]; exact m3) HN1.out hnl).mono ?_
            rintro e1 w1 ⟨rfl, rfl⟩
            go_wp2
            go_roundg (es.length - (i + 1))
            case measure => omega
            case rel => exact ⟨i + 1, rfl, by omega, Nat.le_refl _, Lib.hid (HR.out.skip HY.out (by simp [keepsP, m3]) HK.out)⟩
          · obtain ⟨_, ⟨o2, c2, hM2⟩, hkw⟩ := HR.out
            have hle := withoutP_len p q (es.take i)
            rw [List.length_take] at hle
            have hM3 := (hM2.alloc (.cells #[.int .i64 e.id, .int .i64 e.a, .int .i64 e.b] 55)).drew
            obtain ⟨gq, c', w3, h1, h2, h3, h4⟩ := run_appN (P := Tryd.prog) 62 62 55 und_edges elem_edge (by rfl) (by omega) hM3.s (ecells e) 1 (fun u hu => ecs_one [e] u (by simpa [ecs] using hu)) rfl (by omega) (by omega) (by omega)
            have hsz2 : (wr.alloc (.cells #[.int .i64 e.id, .int .i64 e.a, .int .i64 e.b] 55)).drew.heap.size = wr.heap.size + 1 := by simp
            have hrow3 := hM3.head.keep h3 (fun h => by obtain ⟨x, hx, hxg⟩ := h; exact hM3.d x hx hxg)
            have x1 := hM2.head.cell (i := 1) rfl
            have x2 := hrow3.cell (i := 1) rfl
            have x3 := hrow3.frozen 1 none
            have x4 := hM2.head.lt
            generalize hm : (withoutP p q (es.take i)).length = m at *
            have HT := Lib.hid (RWRelP.take hkw hM2 HY.out (by simp [keepsP, m1, m2, m3]) (HK.out.drew) hm.symm h2 h3 h4)
            rw [hsz2] at h1
            have H1 := Lib.hid h1
            have mixed : (Tryd.prog).follows Departure.mixedOrders = true := by kernel_rfl
            clear h1 h2 h3 h4 hM2 hM3 hrow3 hkw hsz2 hm
            go_wp2_with fail
            refine (has_c _ oe ce le Ce e.id false (by rw [HPM.out]; simpa using m1) HE1.out he).mono ?_
            rintro e1 w1 ⟨rfl, rfl⟩
            go_wp2_with fail
            refine (has_c _ on cn ln Cn e.a false (by rw [HQM.out]; simpa using m2) HN1.out hnl).mono ?_
            rintro e1 w1 ⟨rfl, rfl⟩
            go_wp2_with fail
            refine (has_c _ on cn ln Cn e.b false (by rw [HQM.out]; simpa using m3) HN1.out hnl).mono ?_
            rintro e1 w1 ⟨rfl, rfl⟩
            go_wp2_with fail
            go_region_law_o (refine step_app_run rfl _ _ 62 62 rfl (.slice o2 m c2) (.slice (some ⟨wr.heap.size + 1, 0, none⟩) 1 1) (by simp [Act.eval, Act.put]) (by simp [Act.eval, Act.put]) H1.out ?_)
            all_goals
              (try go_wp2)
              go_roundg (es.length - (i + 1))
              case measure => omega
              case rel => exact ⟨i + 1, rfl, by omega, Nat.le_refl _, HT⟩
    · obtain rfl : i = es.length := by omega
      have hP : RWithoutPostP w n p q es (.returned (.pointer (some ⟨w.heap.size, 0, none⟩))) wr := by
        obtain ⟨_, h2, h3⟩ := HR.out
        rw [List.take_length] at h2
        exact ⟨rfl, h2, h3⟩
      have HP := Lib.hid hP
      clear hP
      go_wp2
      go_ret
      exact HP.out

end Go.Proofs.YtkpoobnldgfapaaDoor
