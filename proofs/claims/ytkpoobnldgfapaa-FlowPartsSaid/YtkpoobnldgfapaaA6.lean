/- Joined: Split1 Split2 PairKey Split3 MatR Pair1 Split4. -/
import Derived.Test.YtkpoobnldgfapaaA5
import Derived.Test.YtkpoobnldgfapaaA3
import Derived.Test.YtkpoobnldgfapaaA2
import Derived.Test.YtkpoobnldgfapaaP1
import Derived.Test.YtkpoobnldgfapaaA1
import Derived.Test.YtkpoobnldgfapaaP3
import Derived.Test.YtkpoobnldgfapaaProg
import Derived.DeepKeys5
import Derived.RegionTactic
import Derived.ChangeAlike
import Derived.Deep.RegionHeld3
set_option linter.unusedVariables false
set_option linter.unusedSimpArgs false
/- split: label. -/
namespace Go.Proofs.Ytkpoobnldgfapaa
open Go.RowKit Pl

/-- The labels of a graph's nodes. -/
def labG (es : List E) : Nat → Nat := labs (ends es)

def LabelPost (w : World) (n : Nat) (es : List E) (e : Ending) (w' : World) : Prop :=
  ∃ o c, e = .returned (.slice o n c) ∧ Sl (fun k => w.heap.size ≤ k) w' 3 1 o n c (fints n (labG es)) ∧ Keep Nb w w'

theorem Sets.keep' {F G : Nat → Prop} {w w' : World} {b n : Nat} {L : Nat → Nat} (h : Sets F w b n L) (k : Keep G w w') (d : ∀ k, F k → ¬ G k) : Sets F w' b n L := by
  obtain ⟨up, size, low, many, ou, os, ol, cu, cs, cl, hM, hI, hn⟩ := h
  exact ⟨up, size, low, many, ou, os, ol, cu, cs, cl, hM.keep k d, hI, hn⟩

def LRel1 (w1 w2 : World) (F : Nat → Prop) (b n : Nat) (es : List E) (i : Nat) (wr : World) : Prop :=
  Sets F wr b n (labs (ends (es.take i))) ∧ Keep F w2 wr

theorem LRel1.next {w1 w2 wr w3 : World} {F : Nat → Prop} {b n i : Nat} {es : List E} {e : E} (h : LRel1 w1 w2 F b n es i wr) (he : es[i]? = some e)
    (hS : Sets F w3 b n (joinL (labs (ends (es.take i))) e.a e.b)) (k : Keep F wr w3) : LRel1 w1 w2 F b n es (i + 1) w3 := by
  refine ⟨?_, h.2.trans k⟩
  rw [List.take_add_one, he]
  unfold ends
  rw [List.map_append]
  exact (labs_snoc _ (e.a, e.b)) ▸ hS

end Go.Proofs.Ytkpoobnldgfapaa

/- split: label, the walk. -/
namespace Go.Proofs.Ytkpoobnldgfapaa
open Go.RowKit Pl

/-- A pointed edge lies over n nodes. -/
def Over (n : Nat) (es : List E) : Prop := ∀ e, e ∈ es → e.a < n ∧ e.b < n

def LRel2 (w2 : World) (F : Nat → Prop) (b n : Nat) (es : List E) (i : Nat) (o : Option Addr) (c : Nat) (wr : World) : Prop :=
  Sets F wr b n (labs (ends es)) ∧ Sl (fun k => w2.heap.size ≤ k) wr 3 1 o i c (fints i (labs (ends es))) ∧ Keep F w2 wr

theorem LRel2.next {w0 w1 w2 wr w5 w' : World} {b n i c c' g : Nat} {es : List E} {o : Option Addr} (h : LRel2 w2 (Iv w0.heap.size w1.heap.size) b n es i o c wr) (h12 : w1.heap.size ≤ w2.heap.size)
    (hs : Sets (Iv w0.heap.size w1.heap.size) w5 b n (labs (ends es))) (hk : Keep (Iv w0.heap.size w1.heap.size) wr w5)
    (h2 : Sl (fun k => w2.heap.size ≤ k ∨ k = w5.heap.size + 1) w' 3 1 (some ⟨g, 0, none⟩) (i + 1) c' (fints i (labs (ends es)) ++ [.int .i64 (labs (ends es) i : Nat)])) (h3 : Keep (Bl o) w5 w') :
    LRel2 w2 (Iv w0.heap.size w1.heap.size) b n es (i + 1) (some ⟨g, 0, none⟩) c' w' := by
  have hbl : ∀ k, Bl o k → w2.heap.size ≤ k := by
    rintro k ⟨x, hx, rfl⟩
    exact h.2.1.foot x hx
  have z1 := h.2.2.size
  have z2 := hk.size
  refine ⟨hs.keep' h3 (fun k hk hb => by have := hk.2; have := hbl k hb; omega), ?_, (h.2.2.trans hk).trans' h3 (fun _ _ h => h) (fun k hk hb => by have := hbl k hb; omega)⟩
  rw [fints_snoc]
  exact h2.mono (fun k hk => by rcases hk with h | h; exact h; omega)

set_option maxRecDepth 100000 in
set_option maxHeartbeats 1000000 in
theorem label_any (F : Nat → Prop) (w : World) (b n : Nat) (es : List E) (hG : Gr F w b n es) (hF : ∀ k, F k → k < w.heap.size) (hn : n ≤ 40) (hl : es.length ≤ 1000) (ho : Over n es) :
    Calls Try.prog 56 #[.pointer (some ⟨b, 0, none⟩)] w (LabelPost w n es) := by
  have HG := Lib.hid hG
  have HF := Lib.hid hF
  have HO := Lib.hid ho
  clear hG hF ho
  go_enter Try.func56, Try.ntmps56
  go_wp2_with fail
  refine (nodes_any F w b n es HG.out).mono ?_
  rintro e1 w0 ⟨rfl, rfl⟩
  go_wp2_with fail
  refine (new_any n hn _).mono ?_
  rintro e1 w1 ⟨s, rfl, hS1, hk1⟩
  have HS1 := Lib.hid hS1
  have HK1 := Lib.hid hk1
  clear hS1 hk1
  go_wp2_with fail
  refine (edges_any F w1 b n es (HG.out.keep HK1.out (fun _ _ h => h)) hl).mono ?_
  rintro e1 w2 ⟨o2, c2, rfl, hS2, hk2⟩
  have HS2 := Lib.hid hS2
  have HK2 := Lib.hid hk2
  clear hS2 hk2
  go_wp2_with fail
  go_loopg [20] es.length (fun kx s20 wr => ∃ i : Nat, s20 = .int .i64 i ∧ i ≤ es.length ∧ es.length - i ≤ kx ∧ Hid (LRel1 w1 w2 (Iv w0.heap.size w1.heap.size) s n es i wr))
  case atStart => exact ⟨0, rfl, Nat.zero_le _, by omega, Lib.hid ⟨HS1.out.keep' HK2.out (fun _ _ h => h), Keep.refl _ w2⟩⟩
  case round =>
    obtain ⟨i, rfl, hi, hg, HR⟩ := hrel
    by_cases hlt : i < es.length
    · obtain ⟨g, rfl, hFg, hnc, hrow⟩ := HS2.out.pos (by omega)
      have hy := List.getElem?_eq_getElem hlt
      generalize es[i]'hlt = e at hy
      have hEr := hrow.edges.keep HR.out.2 (fun h => by have := h.2; omega)
      have d1 := hEr.id _ _ hy
      have d2 := hEr.a _ _ hy
      have d3 := hEr.b _ _ hy
      have HY := Lib.hid hy
      have HOe := Lib.hid (HO.out e (List.mem_of_getElem? hy))
      clear hy hrow hEr
      go_wp2_with fail
      refine (join_any (Iv w0.heap.size w1.heap.size) _ s n _ e.a e.b HOe.out.1 HOe.out.2 (HR.out.1.keep' ((Keep.refl Nb wr).alloc _) (fun _ _ h => h))).mono ?_
      rintro e1 w3 ⟨rfl, hj, hk3⟩
      have HJ := Lib.hid hj
      have HK3 := Lib.hid hk3
      clear hj hk3
      go_wp2_with fail
      go_roundg (es.length - (i + 1))
      case measure => omega
      case rel => exact ⟨i + 1, rfl, by omega, Nat.le_refl _, Lib.hid (HR.out.next HY.out HJ.out ((((Keep.refl Nb wr).alloc _).of_nb).trans HK3.out))⟩
    · obtain rfl : i = es.length := by omega
      have hR := HR.out
      unfold LRel1 at hR
      rw [List.take_length] at hR
      have HR2 := Lib.hid hR
      clear hR HR
      go_wp2_with fail
      refine (nodes_any F wr b n es (((HG.out.keep HK1.out (fun _ _ h => h)).keep HK2.out (fun _ _ h => h)).keep HR2.out.2 (fun k hk h => by have := HF.out k hk; have := h.1; omega))).mono ?_
      rintro e1 w4 ⟨rfl, rfl⟩
      go_wp2_with fail
      go_loopg [7, 36] n (fun kx s7 s36 wr => ∃ (i : Nat) (o : Option Addr) (c : Nat), s7 = .slice o i c ∧ s36 = .int .i64 i ∧ i ≤ n ∧ n - i ≤ kx ∧ Hid (LRel2 w2 (Iv w0.heap.size w1.heap.size) s n es i o c wr))
      case atStart => exact ⟨0, none, 0, rfl, rfl, Nat.zero_le _, by omega, Lib.hid ⟨HR2.out.1, Sl.nil _ _ _ _, HR2.out.2⟩⟩
      case round =>
        obtain ⟨i, o, c, rfl, rfl, hi, hg, HR⟩ := hrel
        by_cases hlt : i < n
        · go_wp2_with fail
          refine (least_any (Iv w0.heap.size w1.heap.size) _ s n _ i hlt HR.out.1).mono ?_
          rintro e1 w5 ⟨rfl, hs5, hk5⟩
          have h12 := HK2.out.size
          obtain ⟨gq, c', w', h1, h2, h3, h4⟩ := run_app1 (P := Try.prog) 37 37 3 (by kernel_rfl) elem_int (by rfl) (HR.out.2.1.keep hk5 (fun k hk h => by have := h.2; have : w2.heap.size ≤ k := hk; omega)) (.int .i64 (labs (ends es) i : Nat)) rfl (by omega) (by omega)
          have HT := Lib.hid (LRel2.next HR.out h12 hs5 hk5 h2 h3)
          have H1 := Lib.hid h1
          clear h1 h2 h3 h4 hs5 hk5 h12
          go_wp2_with ((at_builtin; refine wpList_app rfl _ _ _ rfl rfl rfl H1.out ?_))
          go_roundg (n - (i + 1))
          case measure => omega
          case rel => exact ⟨i + 1, _, _, rfl, rfl, by omega, Nat.le_refl _, HT⟩
        · obtain rfl : i = n := by omega
          have hP : LabelPost w0 i es (.returned (.slice o i c)) wr := by
            obtain ⟨_, h2, h3⟩ := HR.out
            have s1 := HK1.out.size
            have s2 := HK2.out.size
            refine ⟨o, c, rfl, h2.mono (fun k hk => by have : w2.heap.size ≤ k := hk; omega), (HK1.out.trans HK2.out).trans' h3 (fun _ _ h => h) (fun k hk h => by have := h.1; omega)⟩
          have HP := Lib.hid hP
          clear hP
          go_wp2
          go_ret
          exact HP.out

end Go.Proofs.Ytkpoobnldgfapaa

/- Two numbers as a map's key. -/
namespace Go.Proofs.Ytkpoobnldgfapaa
open Go.RowKit Go.Maps

def encP (p : Nat × Nat) : Value := .agg #[.int .i64 p.1, .int .i64 p.2]
def DP (p : Nat × Nat) : Prop := DN p.1 ∧ DN p.2

theorem pair_keyed : Keyed Try.prog 31 :=
  Keyed.of_law (deep_law_laid (m := 5) (by kernel_rfl) (by omega) (of_decide_eq_true (by kernel_rfl)) (by kernel_rfl) (by kernel_rfl))

theorem keyOf_pairs {a b : Int} (ha : (Lit.int .i64 a).wf = true) (hb : (Lit.int .i64 b).wf = true) : ∃ l, keyOf Try.prog 31 (.agg #[.int .i64 a, .int .i64 b]) = some l := by
  have h1 : (Try.prog).keyType 31 = true := by kernel_rfl
  have h2 : (Try.prog).cellsOf 31 = 2 := by kernel_rfl
  have h3 : (Try.prog).cellsOf 3 = 1 := by kernel_rfl
  obtain ⟨m, hm⟩ : ∃ m, (Try.prog).types.size = m + 1 := ⟨(Try.prog).types.size - 1, by kernel_rfl⟩
  unfold keyOf
  simp only [Try.underlying31]
  rw [if_pos (by simp [h1, Value.formed, Try.underlying31, h2]), hm]
  unfold Program.keyLits
  simp only [Try.underlying31, Value.cells]
  rw [if_pos (by rw [h2]; exact ⟨rfl, by kernel_rfl⟩)]
  simp only [Program.keyLits, Try.underlying3, h3, List.mapM_cons, List.mapM_nil]
  simp [ha, hb]

theorem encP_enc : Enc Try.prog 31 encP DP := by
  refine ⟨pair_keyed, fun {a} ha => ?_, fun {a b} h => ?_⟩
  · have hw : ∀ x : Nat, DN x → (Lit.int .i64 (x : Int)).wf = true := fun x hx => by
      unfold DN at hx
      have h1 : IntKind.i64.min = -9223372036854775808 := by decide
      have h2 : IntKind.i64.max = 9223372036854775807 := by decide
      simp only [Lit.wf, h1, h2, Bool.and_eq_true, decide_eq_true_eq]
      omega
    exact keyOf_pairs (hw _ ha.1) (hw _ ha.2)
  · obtain ⟨a1, a2⟩ := a
    obtain ⟨b1, b2⟩ := b
    simp only [encP, Value.agg.injEq, Array.mk.injEq, List.cons.injEq, Value.int.injEq, true_and, and_true] at h
    rw [Prod.mk.injEq]
    omega

end Go.Proofs.Ytkpoobnldgfapaa

/- split: parts, the walk. -/
namespace Go.Proofs.Ytkpoobnldgfapaa
open Go.RowKit Pl

def valN (v : Nat) : Value := .int .i64 (v : Int)

/-- The map holds what the search knows. -/
def PRel (w wr : World) (mb n a b i : Nat) (X Y B : Nat → Nat) (mp : List ((Nat × Nat) × Value)) : Prop :=
  ∃ get : Nat × Nat → Option Nat, (∀ p, mget mp p = (get p).map valN) ∧ PInv i a b X Y B get ∧ MapAt encP DP wr mb mp ∧ Keep Nb w wr ∧ w.heap.size ≤ mb

theorem PRel.keep {w wr : World} {mb n a b i : Nat} {X Y B : Nat → Nat} {mp : List ((Nat × Nat) × Value)} (h : PRel w wr mb n a b i X Y B mp) : Keep Nb w wr := by
  obtain ⟨_, _, _, _, h, _⟩ := h; exact h

theorem PRel.skip {w wr : World} {mb n a b i : Nat} {X Y B : Nat → Nat} {mp : List ((Nat × Nat) × Value)} (h : PRel w wr mb n a b i X Y B mp) (hi : i = a ∨ i = b) : PRel w wr mb n a b (i + 1) X Y B mp := by
  obtain ⟨get, h1, h2, h3⟩ := h; exact ⟨get, h1, h2.skip hi, h3⟩

theorem PRel.same {w wr : World} {mb n a b i : Nat} {X Y B : Nat → Nat} {mp : List ((Nat × Nat) × Value)} {get : Nat × Nat → Option Nat} {x : Obj} (h1 : ∀ p, mget mp p = (get p).map valN) (h2 : PInv i a b X Y B get)
    (h3 : MapAt encP DP (wr.alloc x).drew mb mp) (h4 : Keep Nb w wr) (h5 : w.heap.size ≤ mb) (hg : get (X i, Y i) = some (B i)) : PRel w (wr.alloc x).drew mb n a b (i + 1) X Y B mp :=
  ⟨get, h1, h2.same hg, h3, h4.trans ((Keep.refl Nb wr).alloc x).drew, h5⟩

theorem PRel.store {w wr w2 : World} {mb n a b i : Nat} {X Y B : Nat → Nat} {mp : List ((Nat × Nat) × Value)} {get : Nat × Nat → Option Nat} {x : Obj} (h1 : ∀ p, mget mp p = (get p).map valN) (h2 : PInv i a b X Y B get)
    (h4 : Keep Nb w wr) (h5 : w.heap.size ≤ mb) (ia : i ≠ a) (ib : i ≠ b) (hg : get (X i, Y i) = none) (hm : MapAt encP DP w2 mb (mset mp (X i, Y i) (.int .i64 (B i : Nat)))) (hk : Keep (fun j => j = mb) (wr.alloc x).drew.drew w2) :
    PRel w w2 mb n a b (i + 1) X Y B (mset mp (X i, Y i) (.int .i64 (B i : Nat))) :=
  ⟨fun p => if p = (X i, Y i) then some (B i) else get p, fun p => by
      rw [mget_mset]
      by_cases e : p = (X i, Y i)
      · simp only [if_pos e]; rfl
      · simp only [if_neg e]; exact h1 p, h2.new ia ib hg (fun _ => rfl), hm, (h4.trans ((Keep.refl Nb wr).alloc x).drew.drew).trans' hk (fun _ _ e => e) (fun k hk' e => by omega), h5⟩

def PartsPost (w : World) (n a b : Nat) (X Y B : Nat → Nat) (e : Ending) (w' : World) : Prop :=
  ∃ r : Bool, (r = true ↔ PartsP n a b X Y B) ∧ e = .returned (.bool r) ∧ Keep Nb w w'

set_option maxRecDepth 100000 in
set_option maxHeartbeats 1000000 in
theorem parts_any (F : Nat → Prop) (w : World) (n a b : Nat) (X Y B : Nat → Nat) (ox oy ob : Option Addr) (cx cy cb : Nat) (hn : n ≤ 40) (ha : a < n) (hb : b < n)
    (hX : Sl F w 3 1 ox n cx (fints n X)) (hY : Sl F w 3 1 oy n cy (fints n Y)) (hB : Sl F w 3 1 ob n cb (fints n B)) (bX : ∀ k, X k ≤ k) (bY : ∀ k, Y k ≤ k) (bB : ∀ k, B k ≤ k) :
    Calls Try.prog 57 #[.int .i64 a, .int .i64 b, .slice ox n cx, .slice oy n cy, .slice ob n cb] w (PartsPost w n a b X Y B) := by
  obtain ⟨gx, rfl, _, hcx, rX⟩ := hX.pos (by omega)
  obtain ⟨gy, rfl, _, hcy, rY⟩ := hY.pos (by omega)
  obtain ⟨gb, rfl, _, hcb, rB⟩ := hB.pos (by omega)
  have RX := Lib.hid rX
  have RY := Lib.hid rY
  have RB := Lib.hid rB
  have BX := Lib.hid bX
  have BY := Lib.hid bY
  have BB := Lib.hid bB
  have hst : PRel w (w.alloc (.map #[] 0)) w.heap.size n a b 0 X Y B [] :=
    ⟨fun _ => none, fun _ => rfl, ⟨fun k hk => absurd hk (by omega), fun p v h => by cases h⟩, MapAt.made _ _ w, (Keep.refl Nb w).alloc _, Nat.le_refl _⟩
  have HST := Lib.hid hst
  clear hX hY hB rX rY rB bX bY bB hst
  have hmm := @run_makeMap Try.prog
  go_enter Try.func57, Try.ntmps57
  go_wp2_with fail
  go_loopg [19] n (fun kx s19 wr => ∃ (i : Nat) (mp : List ((Nat × Nat) × Value)), s19 = .int .i64 i ∧ i ≤ n ∧ n - i ≤ kx ∧ Hid (PRel w wr w.heap.size n a b i X Y B mp))
  case atStart => exact ⟨0, [], rfl, Nat.zero_le _, by omega, HST⟩
  case round =>
    clear HST
    obtain ⟨i, mp, rfl, hi, hg, HR⟩ := hrel
    by_cases hlt : i < n
    · have HD : Hid (DP (X i, Y i)) := Lib.hid ⟨nat40 (Nat.lt_of_le_of_lt (BX.out i) (by omega)), nat40 (Nat.lt_of_le_of_lt (BY.out i) (by omega))⟩
      by_cases hia : i = a
      · have hne1 : ((i : Int) == (a : Int)) = true := by simp; omega
        have HR' := Lib.hid (HR.out.skip (.inl hia))
        clear hia
        go_wp2
        go_roundg (n - (i + 1))
        case measure => omega
        case rel => exact ⟨i + 1, mp, rfl, by omega, Nat.le_refl _, HR'⟩
      · have hne1 : ((i : Int) == (a : Int)) = false := by simp; omega
        by_cases hib : i = b
        · have hne2 : ((i : Int) == (b : Int)) = true := by simp; omega
          have HR' := Lib.hid (HR.out.skip (.inr hib))
          clear hib
          go_wp2
          go_roundg (n - (i + 1))
          case measure => omega
          case rel => exact ⟨i + 1, mp, rfl, by omega, Nat.le_refl _, HR'⟩
        · have hne2 : ((i : Int) == (b : Int)) = false := by simp; omega
          have x1 := (RX.out.keep HR.out.keep (fun e => e)).cell (fints_get _ hlt)
          have x2 := (RY.out.keep HR.out.keep (fun e => e)).cell (fints_get _ hlt)
          have x3 := (RB.out.keep HR.out.keep (fun e => e)).cell (fints_get _ hlt)
          have l1 := World.block_lt_of_cell? wr _ x1
          have l2 := World.block_lt_of_cell? wr _ x2
          have l3 := World.block_lt_of_cell? wr _ x3
          obtain ⟨get, hget, hinv, hmap, hk, hle⟩ := HR.out
          have hmap1 := (hmap.alloc (.cells #[.int .i64 (X i : Nat), .int .i64 (Y i : Nat)] 31)).drew
          have hlook := hmap1.look encP_enc Try.underlying135 (zero_int _) HD.out true
          rw [hget] at hlook
          cases hg2 : get (X i, Y i) with
          | none =>
            rw [hg2] at hlook
            simp only [if_true, Option.map_none, Option.getD_none, Option.isSome_none, encP] at hlook
            obtain ⟨w2, hrun2, hm2, hk2⟩ := hmap1.drew.store encP_enc Try.underlying135 HD.out (.int .i64 (B i : Nat))
            simp only [encP] at hrun2
            have HN := Lib.hid (PRel.store (n := n) hget hinv hk hle (fun e => hia e) (fun e => hib e) hg2 hm2 hk2)
            clear hg2 hm2 hk2 hmap1 hmap hk hle hget hinv HD hia hib
            go_wp2_with fail
            go_region
            go_wp2
            go_region
            go_wp2
            go_roundg (n - (i + 1))
            case measure => omega
            case rel => exact ⟨i + 1, _, rfl, by omega, Nat.le_refl _, HN⟩
          | some v =>
            rw [hg2] at hlook
            simp only [if_true, Option.map_some, Option.getD_some, Option.isSome_some, encP, valN] at hlook
            by_cases hv : v = B i
            · have hne : ((v : Int) != (B i : Int)) = false := by simp; omega
              have HN := Lib.hid (PRel.same (n := n) hget hinv hmap1 hk hle (by rw [hg2, hv]))
              clear hg2 hmap1 hmap hk hle hget hinv HD hia hib hv
              go_wp2_with fail
              go_region
              go_wp2
              go_roundg (n - (i + 1))
              case measure => omega
              case rel => exact ⟨i + 1, _, rfl, by omega, Nat.le_refl _, HN⟩
            · have hne : ((v : Int) != (B i : Int)) = true := by simp; omega
              have hP : PartsP n a b X Y B := hinv.found hlt hia hib hg2 hv
              have HP : Hid (PartsPost w n a b X Y B (.returned (.bool true)) (wr.alloc (.cells #[.int .i64 (X i : Nat), .int .i64 (Y i : Nat)] 31)).drew) :=
                Lib.hid ⟨true, by simp [hP], rfl, hk.trans ((Keep.refl Nb wr).alloc _).drew⟩
              clear hg2 hmap1 hmap hk hle hget hinv HD hia hib hv hP
              go_wp2_with fail
              go_region
              go_wp2
              go_ret
              exact HP.out
    · obtain rfl : i = n := by omega
      have HP : Hid (PartsPost w i a b X Y B (.returned (.bool false)) wr) := Lib.hid (by
        obtain ⟨get, _, hinv, _, hk, _⟩ := HR.out
        exact ⟨false, by simp [hinv.none], rfl, hk⟩)
      clear HR
      go_wp2
      go_ret
      exact HP.out

end Go.Proofs.Ytkpoobnldgfapaa

/- Rows of numbers that are only read once they are made. Nothing of one program stands here. -/
namespace Go.Proofs.Ytkpoobnldgfapaa
open Go.RowKit

structure MatR (F : Nat → Prop) (w : World) (T e : TypeId) (o : Option Addr) (n c : Nat) (rw_ : Nat → Rw) (f : Nat → List Nat) : Prop where
  out : Sl F w T 1 o n c ((List.range n).map (fun i => (rw_ i).val))
  row : ∀ i, i < n → Sl F w e 1 (rw_ i).o (f i).length (rw_ i).c (ints (f i))
  num : ∀ i, i < n → (rw_ i).n = (f i).length
  ne : ∀ i a, i < n → (rw_ i).o = some a → ¬ Bl o a.block

namespace MatR
variable {F : Nat → Prop} {w : World} {T e : TypeId} {o : Option Addr} {n c : Nat} {rw_ : Nat → Rw} {f : Nat → List Nat}

theorem nil (F : Nat → Prop) (w : World) (T e : TypeId) (rw_ : Nat → Rw) (f : Nat → List Nat) : MatR F w T e none 0 0 rw_ f :=
  ⟨Sl.nil F w T 1, fun _ h => absurd h (by omega), fun _ h => absurd h (by omega), fun _ _ h => absurd h (by omega)⟩

theorem of_heap {w' : World} (h : MatR F w T e o n c rw_ f) (he : ∀ k, k < w.heap.size → F k → w'.heap[k]? = w.heap[k]?) : MatR F w' T e o n c rw_ f :=
  ⟨h.out.of_heap he, fun i hi => (h.row i hi).of_heap he, h.num, h.ne⟩

theorem keep {G : Nat → Prop} {w' : World} (h : MatR F w T e o n c rw_ f) (k : Keep G w w') (d : ∀ k, F k → ¬ G k) : MatR F w' T e o n c rw_ f := h.of_heap fun i hi hF => k.block i hi (d i hF)
theorem mono {G : Nat → Prop} (h : MatR F w T e o n c rw_ f) (hG : ∀ k, F k → G k) : MatR G w T e o n c rw_ f := ⟨h.out.mono hG, fun i hi => (h.row i hi).mono hG, h.num, h.ne⟩
theorem alloc (h : MatR F w T e o n c rw_ f) (ob : Obj) : MatR F (w.alloc ob) T e o n c rw_ f := h.of_heap fun k hk _ => Below.heap_alloc w ob k hk
theorem drew (h : MatR F w T e o n c rw_ f) : MatR F w.drew T e o n c rw_ f := h.of_heap fun _ _ _ => rfl

theorem tight (h : MatR F w T e o n c rw_ f) : MatR (fun k => F k ∧ k < w.heap.size) w T e o n c rw_ f := ⟨h.out.tight, fun i hi => (h.row i hi).tight, h.num, h.ne⟩

/-- One row's header. -/
theorem cell (h : MatR F w T e o n c rw_ f) {i : Nat} (hi : i < n) : ∃ go, o = some ⟨go, 0, none⟩ ∧ n ≤ c ∧ F go ∧ w.cell? ⟨go, i, none⟩ = some (.slice (rw_ i).o (f i).length (rw_ i).c) := by
  obtain ⟨go, h1, h2, h3, h4⟩ := h.out.pos (by omega)
  refine ⟨go, h1, h3, h2, ?_⟩
  have := h4.cell (i := i) (v := (rw_ i).val) (by simp [hi])
  rw [this, Rw.val, h.num i hi]

/-- One row more. w1: where the row has been made; w': behind the append. -/
theorem push {w' : World} {g c' q cq : Nat} {oq : Option Addr} {l : List Nat} (h : MatR F w T e o n c rw_ f) (hq : q = l.length) (hr : Sl F w e 1 oq q cq (ints l)) (hne : ∀ a, oq = some a → ¬ Bl o a.block)
    (hS : Sl (fun k => F k ∨ k = w.heap.size + 1) w' T 1 (some ⟨g, 0, none⟩) (n + 1) c' ((List.range n).map (fun i => (rw_ i).val) ++ [.slice oq q cq])) (hk : Keep (Bl o) w w') (hg : o = some ⟨g, 0, none⟩ ∨ g = w.heap.size + 1) (hF : F (w.heap.size + 1)) :
    MatR F w' T e (some ⟨g, 0, none⟩) (n + 1) c' (fun i => if i = n then ⟨oq, q, cq⟩ else rw_ i) (fun i => if i = n then l else f i) := by
  subst hq
  have old : ∀ i a, i < n → (rw_ i).o = some a → a.block < w.heap.size := fun i a hi ha => (h.row i hi).lt ha
  refine ⟨?_, fun i hi => ?_, fun i hi => ?_, fun i a hi ha => ?_⟩
  · have e1 : (List.range (n + 1)).map (fun i => (if i = n then (⟨oq, l.length, cq⟩ : Rw) else rw_ i).val) = (List.range n).map (fun i => (rw_ i).val) ++ [.slice oq l.length cq] := by
      rw [List.range_succ, List.map_append]
      congr 1
      · refine List.map_congr_left fun i hi => ?_
        have := List.mem_range.1 hi
        rw [if_neg (by omega)]
      · simp [Rw.val]
    rw [e1]
    exact hS.mono fun k hk => hk.elim id (fun h => h ▸ hF)
  · by_cases hin : i = n
    · simp only [if_pos hin]
      exact hr.of_block fun a ha => hk.block _ (hr.lt ha) (hne a ha)
    · simp only [if_neg hin]
      have h1 := h.row i (by omega)
      exact h1.of_block fun a ha => hk.block _ (h1.lt ha) (h.ne i a (by omega) ha)
  · by_cases hin : i = n
    · simp only [if_pos hin]
    · simp only [if_neg hin]; exact h.num i (by omega)
  · rintro ⟨x, hx, hb⟩
    simp at hx; subst hx
    simp only at hb
    by_cases hin : i = n
    · simp only [if_pos hin] at ha
      rcases hg with hg | hg
      · exact hne a ha ⟨_, hg, hb⟩
      · have := hr.lt ha; omega
    · simp only [if_neg hin] at ha
      rcases hg with hg | hg
      · exact h.ne i a (by omega) ha ⟨_, hg, hb⟩
      · have := old i a (by omega) ha; omega
end MatR

end Go.Proofs.Ytkpoobnldgfapaa

/- Slices of pairs of numbers: their cells. -/
namespace Go.Proofs.Ytkpoobnldgfapaa
open Go.RowKit

def pcells (p : Nat × Nat) : List Value := [.int .i64 p.1, .int .i64 p.2]
def pcs (l : List (Nat × Nat)) : List Value := l.flatMap pcells

@[simp] theorem pcs_length (l : List (Nat × Nat)) : (pcs l).length = l.length * 2 := by
  induction l with
  | nil => rfl
  | cons p l ih => simp only [pcs, List.flatMap_cons, List.length_append] at ih ⊢; rw [ih]; simp [pcells]; omega

theorem pcs_snoc (l : List (Nat × Nat)) (p : Nat × Nat) : pcs (l ++ [p]) = pcs l ++ pcells p := by simp [pcs]
theorem pcells_one (p : Nat × Nat) : ∀ u ∈ pcells p, u.oneCell' = true := by
  intro u hu; simp [pcells] at hu; rcases hu with rfl | rfl <;> rfl

theorem pcs_get {l : List (Nat × Nat)} {i : Nat} {p : Nat × Nat} (h : l[i]? = some p) : (pcs l)[i * 2]? = some (.int .i64 p.1) ∧ (pcs l)[i * 2 + 1]? = some (.int .i64 p.2) := by
  induction l generalizing i with
  | nil => simp at h
  | cons q l ih =>
    cases i with
    | zero => simp at h; subst h; simp [pcs, pcells]
    | succ i =>
      simp at h
      obtain ⟨h1, h2⟩ := ih h
      have e1 : (i + 1) * 2 = i * 2 + 2 := by omega
      rw [e1]
      have e2 : pcs (q :: l) = [.int .i64 q.1, .int .i64 q.2] ++ pcs l := by simp [pcs, pcells]
      rw [e2, List.getElem?_append_right (by simp), List.getElem?_append_right (by simp)]
      simp only [List.length_cons, List.length_nil]
      exact ⟨by rw [show i * 2 + 2 - (0 + 1 + 1) = i * 2 by omega]; exact h1, by rw [show i * 2 + 2 + 1 - (0 + 1 + 1) = i * 2 + 1 by omega]; exact h2⟩

theorem und_pairs : Try.prog.underlying 22 = some (.slice 31) := Try.underlying22
theorem elem_pair : ElemT Try.prog 31 (.agg #[.int .i64 0, .int .i64 0]) 2 16 := by unfold ElemT; kernel_rfl

/-- A slice of pairs, as it is read. -/
theorem Sl.pairs {F : Nat → Prop} {w : World} {g n c : Nat} {l : List (Nat × Nat)} (h : Sl F w 31 2 (some ⟨g, 0, none⟩) n c (pcs l)) {i : Nat} {p : Nat × Nat} (hi : l[i]? = some p) :
    w.cell? ⟨g, i * 2, none⟩ = some (.int .i64 p.1) ∧ w.cell? ⟨g, i * 2 + 1, none⟩ = some (.int .i64 p.2) := by
  have hn : 0 < n := by
    have h1 := h.len
    have h2 := (List.getElem?_eq_some_iff.1 hi).1
    simp at h1; omega
  obtain ⟨g', e, _, _, hrow⟩ := h.pos hn
  obtain rfl : g = g' := by simpa using e
  obtain ⟨h1, h2⟩ := pcs_get hi
  exact ⟨hrow.cell h1, hrow.cell h2⟩

end Go.Proofs.Ytkpoobnldgfapaa

/- split: Pairs, the walk. -/
namespace Go.Proofs.Ytkpoobnldgfapaa
open Go.RowKit Pl

/-- A slice that has just been built. -/
theorem Sl.built (w : World) (T : TypeId) (sz n : Nat) (l : List Value) (hl : l.length = n * sz) (hn : n ≤ maxLen) :
    Sl (fun k => k = w.heap.size) (w.alloc (.cells l.toArray T)) T sz (some ⟨w.heap.size, 0, none⟩) n n l :=
  ⟨⟨hl, .inr ⟨w.heap.size, n, l.toArray, rfl, Nat.zero_le _, heap_alloc_new w _, Nat.le_refl _, hn, by simp [hl], by rw [← hl]; simp⟩⟩, fun a ha => by simp at ha; rw [← ha]⟩

theorem over_without {n : Nat} {es : List E} (h : Over n es) (ed nd : List Nat) : Over n (withoutEs ed nd es) := fun e he => h e (List.mem_filter.1 he).1

theorem Gr.tight {F : Nat → Prop} {w : World} {b n : Nat} {es : List E} (h : Gr F w b n es) : Gr (fun k => F k ∧ k < w.heap.size) w b n es := by
  obtain ⟨o, c, h⟩ := h; exact ⟨o, c, GrMem.tight h⟩

/-- The rows of all labels without one node. -/
def SRel1 (w : World) (n : Nat) (es : List E) (i : Nat) (o : Option Addr) (c : Nat) (wr : World) : Prop :=
  ∃ rw_ f, (∀ x, x < i → f x = (List.range n).map (labG (withoutEs [] [x] es))) ∧ MatR (fun k => w.heap.size ≤ k) wr 37 3 o i c rw_ f ∧ Keep Nb w wr

theorem srel1_next {w w1 w2 w3 w' : World} {n i : Nat} {es : List E} {o oq : Option Addr} {c cq g c' : Nat} {rw_ : Nat → Rw} {f : Nat → List Nat} (h1 : ∀ x, x < i → f x = (List.range n).map (labG (withoutEs [] [x] es))) (h2 : MatR (fun k => w.heap.size ≤ k) w1 37 3 o i c rw_ f) (h3 : Keep Nb w w1) (h12 : Keep Nb w1 w2) (h23 : Keep Nb w2 w3) (hr : Sl (fun k => w2.heap.size ≤ k) w3 3 1 oq n cq (fints n (labG (withoutEs [] [i] es))))
    (hS : Sl (fun k => w.heap.size ≤ k ∨ k = w3.heap.size + 1) w' 37 1 (some ⟨g, 0, none⟩) (i + 1) c' ((List.range i).map (fun i => (rw_ i).val) ++ [.slice oq n cq]))
    (hk : Keep (Bl o) w3 w') (hg : o = some ⟨g, 0, none⟩ ∨ g = w3.heap.size + 1) : SRel1 w n es (i + 1) (some ⟨g, 0, none⟩) c' w' := by
  have z1 := h3.size
  have z2 := h12.size
  have z3 := h23.size
  have h2' := (h2.keep h12 (fun _ _ e => e)).keep h23 (fun _ _ e => e)
  have hbl : ∀ k, Bl o k → w.heap.size ≤ k ∧ k < w1.heap.size := by
    rintro k ⟨x, hx, rfl⟩
    exact ⟨h2.out.foot x hx, h2.out.lt hx⟩
  have hr' : Sl (fun k => w.heap.size ≤ k) w3 3 1 oq n cq (fints n (labG (withoutEs [] [i] es))) := hr.mono fun k hk => by have : w2.heap.size ≤ k := hk; omega
  refine ⟨_, _, fun x hx => ?_, h2'.push (l := (List.range n).map (labG (withoutEs [] [i] es))) (by simp) hr' (fun a ha hb => ?_) hS hk hg (by show w.heap.size ≤ w3.heap.size + 1; omega), ((h3.trans h12).trans h23).trans' hk (fun _ _ e => e) (fun k hk' e => by have := hbl k e; omega)⟩
  · by_cases e : x = i
    · simp only [if_pos e]; rw [e]
    · simp only [if_neg e]; exact h1 x (by omega)
  · have := hbl _ hb
    have : w2.heap.size ≤ a.block := hr.foot a ha
    omega

/-- What is found so far. -/
def SRel2 (wA : World) (l : List (Nat × Nat)) (o : Option Addr) (m c : Nat) (wr : World) : Prop :=
  m = l.length ∧ Sl (fun k => wA.heap.size ≤ k) wr 31 2 o m c (pcs l) ∧ Keep Nb wA wr

def splitsB (n : Nat) (es : List E) (a b : Nat) : Bool := partsB n a b (labG (withoutEs [] [a] es)) (labG (withoutEs [] [b] es)) (labG (withoutEs [] [a, b] es))

def PairsPost (w : World) (n : Nat) (es : List E) (e : Ending) (w' : World) : Prop :=
  ∃ o c, e = .returned (.slice o (allS (splitsB n es) n n).length c) ∧ Sl (fun k => w.heap.size ≤ k) w' 31 2 o (allS (splitsB n es) n n).length c (pcs (allS (splitsB n es) n n)) ∧ Keep Nb w w'

set_option maxRecDepth 100000 in
set_option maxHeartbeats 1000000 in
theorem pairs_any (F : Nat → Prop) (w : World) (b n : Nat) (es : List E) (hG : Gr F w b n es) (hF : ∀ k, F k → k < w.heap.size) (hn : n ≤ 40) (hl : es.length ≤ 1000) (ho : Over n es) :
    Calls Try.prog 20 #[.pointer (some ⟨b, 0, none⟩)] w (PairsPost w n es) := by
  have HG := Lib.hid hG
  have HF := Lib.hid hF
  have HO := Lib.hid ho
  clear hG hF ho
  go_enter Try.func20, Try.ntmps20
  go_wp2_with fail
  refine (nodes_any F w b n es HG.out).mono ?_
  rintro e1 w0 ⟨rfl, rfl⟩
  go_wp2_with fail
  go_loopg [3, 10] n (fun kx s3 s10 wr => ∃ (i : Nat) (o : Option Addr) (c : Nat), s3 = .slice o i c ∧ s10 = .int .i64 i ∧ i ≤ n ∧ n - i ≤ kx ∧ Hid (SRel1 w0 n es i o c wr))
  case atStart => exact ⟨0, none, 0, rfl, rfl, Nat.zero_le _, by omega, Lib.hid ⟨fun _ => ⟨none, 0, 0⟩, fun _ => [], fun _ h => absurd h (by omega), MatR.nil _ _ _ _ _ _, Keep.refl _ _⟩⟩
  case round =>
    obtain ⟨i, o, c, rfl, rfl, hi, hg, HR⟩ := hrel
    by_cases hlt : i < n
    · go_wp2_with fail
      have HGr := Lib.hid ((HG.out.keep HR.out.choose_spec.choose_spec.2.2 (fun _ _ h => h)).alloc (.cells #[.int .i64 (i : Nat)] 3))
      refine (without_any F (fun _ => False) _ _ b n es none (some ⟨wr.heap.size, 0, none⟩) 0 1 [] [i] HGr.out hl (Sl.nil _ _ _ _) (Sl.built wr 3 1 1 [.int .i64 (i : Nat)] rfl (by simp only [maxLen]; omega)) (by simp) (by simp)).mono ?_
      rintro e1 w2 ⟨rfl, hG2, hk2⟩
      simp only [World.size_alloc] at hG2
      have HG2 := Lib.hid hG2
      have HK2 := Lib.hid (((Keep.refl Nb wr).alloc _).trans hk2)
      have HB2 := Lib.hid hk2.size
      clear hG2 hk2 HGr
      go_wp2_with fail
      refine (label_any (fun k => wr.heap.size + 1 ≤ k ∧ k < w2.heap.size) w2 (wr.heap.size + 1) n (withoutEs [] [i] es) HG2.out.tight (fun k hk => hk.2) hn (Nat.le_trans (withoutEs_len _ _ _) hl) (over_without HO.out _ _)).mono ?_
      rintro e1 w3 ⟨oq, cq, rfl, hS3, hk3⟩
      have HS3 := Lib.hid hS3
      have HK3 := Lib.hid hk3
      clear hS3 hk3
      obtain ⟨rw_, f, hf, hM, hk⟩ := HR.out
      obtain ⟨gq, c', w', h1, h2, h3, h4⟩ := run_app1 (P := Try.prog) 35 35 37 (by kernel_rfl) elem_ints (by rfl) (((hM.keep HK2.out (fun _ _ e => e)).keep HK3.out (fun _ _ e => e)).out) (.slice oq n cq) rfl (by omega) (by omega)
      have HN : Hid (SRel1 w0 n es (i + 1) (some ⟨gq, 0, none⟩) c' w') := Lib.hid (srel1_next hf hM hk HK2.out HK3.out HS3.out h2 h3 h4)
      have H1 := Lib.hid h1
      clear h1 h2 h3 h4 hM hf hk
      go_wp2_with ((at_builtin; refine wpList_app rfl _ _ _ rfl rfl rfl H1.out ?_))
      go_roundg (n - (i + 1))
      case measure => omega
      case rel => exact ⟨i + 1, _, _, rfl, rfl, by omega, Nat.le_refl _, HN⟩
    · obtain rfl : i = n := by omega
      obtain ⟨rw_, f, hf, hM0, hk0⟩ := HR.out
      have hM := hM0.tight
      have HM := Lib.hid hM
      have HFF := Lib.hid hf
      have HK0 := Lib.hid hk0
      have HG1 := Lib.hid (HG.out.keep hk0 (fun _ _ h => h))
      have HS0 : Hid (SRel2 wr [] none 0 0 wr) := Lib.hid ⟨rfl, Sl.nil _ _ _ _, Keep.refl _ _⟩
      clear HR hM0 hM hf hk0
      go_wp2_with fail
      refine (nodes_any F wr b i es HG1.out).mono ?_
      rintro e1 wA ⟨rfl, rfl⟩
      go_wp2_with fail
      go_loopg [5, 24] i (fun kx s5 s24 wr => ∃ (a : Nat) (o : Option Addr) (m c : Nat), s5 = .slice o m c ∧ s24 = .int .i64 a ∧ a ≤ i ∧ i - a ≤ kx ∧ Hid (SRel2 wA (allS (splitsB i es) i a) o m c wr))
      case atStart => exact ⟨0, none, 0, 0, rfl, rfl, Nat.zero_le _, by omega, HS0⟩
      case round =>
        clear HS0
        obtain ⟨a, o2, m, c2, rfl, rfl, ha, hg2, HR2⟩ := hrel
        by_cases hlt2 : a < i
        · have HS1 : Hid (SRel2 wA (allS (splitsB i es) i a ++ rowS (splitsB i es) a (a + 1)) o2 m c2 wr) := Lib.hid (by rw [rowS_start, List.append_nil]; exact HR2.out)
          clear HR2
          go_wp2_with fail
          go_loopg [5, 7] i (fun kx s5 s7 wr => ∃ (d : Nat) (o : Option Addr) (m c : Nat), s5 = .slice o m c ∧ s7 = .int .i64 d ∧ a + 1 ≤ d ∧ (d ≤ i ∨ d = a + 1) ∧ i - d ≤ kx ∧ Hid (SRel2 wA (allS (splitsB i es) i a ++ rowS (splitsB i es) a d) o m c wr))
          case atStart => exact ⟨a + 1, o2, m, c2, rfl, by go_num, Nat.le_refl _, .inr rfl, by omega, HS1⟩
          case round =>
            clear HS1
            obtain ⟨d, o3, m3, c3, rfl, rfl, hd, hd2, hg3, HR3⟩ := hrel
            have HG3 := Lib.hid (HG1.out.keep HR3.out.2.2 (fun _ _ h => h))
            by_cases hlt3 : d < i
            · go_wp2_with fail
              refine (nodes_any F wr b i es HG3.out).mono ?_
              rintro e1 wy ⟨rfl, rfl⟩
              have hMx := HM.out.keep HR3.out.2.2 (fun _ _ h => h)
              obtain ⟨go, rfl, hcc, hgo, ca⟩ := hMx.cell hlt2
              obtain ⟨go', e2, _, _, cb⟩ := hMx.cell hlt3
              obtain rfl : go = go' := by simpa using e2
              have la : (f a).length = i := by rw [HFF.out a (by omega)]; simp
              have ld : (f d).length = i := by rw [HFF.out d (by omega)]; simp
              have hra := hMx.row a hlt2
              have hrd := hMx.row d hlt3
              rw [la, HFF.out a (by omega)] at hra
              rw [ld, HFF.out d (by omega)] at hrd
              rw [la] at ca
              rw [ld] at cb
              have HRA := Lib.hid (hra.mono (G := fun _ => True) (fun _ _ => trivial))
              have HRD := Lib.hid (hrd.mono (G := fun _ => True) (fun _ _ => trivial))
              clear e2 hMx la ld hra hrd
              go_wp2_with fail
              have HAB := Lib.hid (show (Over i (withoutEs [] [a, d] es)) from over_without HO.out _ _)
              have lgo : go < wy.heap.size := World.block_lt_of_cell? wy _ ca
              have hgo2 : ¬ wy.heap.size = go := by omega
              have CA := Lib.hid ca
              have CB := Lib.hid cb
              have bz : (wy.alloc (.cells #[.int .i64 (a : Nat), .int .i64 (d : Nat)] 3)).drew.heap.size = wy.heap.size + 1 := World.size_alloc _ _
              have BZ := Lib.hid bz
              clear bz
              go_region_held3 (fun w' => w'.cell? ⟨go, a, none⟩ = some (.slice (rw_ a).o i (rw_ a).c) ∧ w'.cell? ⟨go, d, none⟩ = some (.slice (rw_ d).o i (rw_ d).c)) (go_keep) ((first | (go_at_call 29; refine (without_any F (fun _ => False) _ _ b i es none (some ⟨wy.heap.size, 0, none⟩) 0 2 [] [a, d] (HG3.out.alloc _).drew hl (Sl.nil _ _ _ _) (Sl.built wy 3 1 2 [.int .i64 (a : Nat), .int .i64 (d : Nat)] rfl (by simp only [maxLen]; omega)).drew (by simp) (by simp)).mono ?_; rintro e1 w2 ⟨rfl, hG2, hk2⟩; rw [BZ.out] at hG2; have hkk := ((Keep.refl Nb wy).alloc _).drew.trans hk2; have ca2 := hkk.cell CA.out (fun e => e); have cb2 := hkk.cell CB.out (fun e => e); have HG2 := Lib.hid hG2.tight; have HK2 := Lib.hid hkk; clear hG2 hk2 hkk) | (go_at_call 56; refine (label_any _ _ _ i (withoutEs [] [a, d] es) HG2.out (fun k hk => hk.2) hn (Nat.le_trans (withoutEs_len _ _ _) hl) HAB.out).mono ?_; rintro e1 w3 ⟨oq, cq, rfl, hS3, hk3⟩; have ca3 := hk3.cell ca2 (fun e => e); have cb3 := hk3.cell cb2 (fun e => e); have HS3 := Lib.hid hS3; have HK3 := Lib.hid (HK2.out.trans hk3); clear hS3 hk3) | (go_at_call 57; refine (parts_any (fun _ => True) _ i a d _ _ _ _ _ _ _ _ _ hn hlt2 hlt3 (HRA.out.keep HK3.out (fun _ _ e => e)) (HRD.out.keep HK3.out (fun _ _ e => e)) (HS3.out.mono (fun _ _ => trivial)) (labs_le _) (labs_le _) (labs_le _)).mono ?_; rintro e1 w4 ⟨rb, hrb, rfl, hk4⟩; have ca4 := hk4.cell ca3 (fun e => e); have cb4 := hk4.cell cb3 (fun e => e); have HRB := Lib.hid hrb; have HK4 := Lib.hid (HK3.out.trans hk4); clear hrb hk4)))
              have hrb2 : rb = splitsB i es a d := by
                rw [Bool.eq_iff_iff, HRB.out]; exact partsB_iff.symm
              obtain ⟨hm3, hS3, hk3⟩ := HR3.out
              have hlen : m3 ≤ i * i + i := by
                rw [hm3, List.length_append]
                have h1 := allS_len (splitsB i es) i a
                have h2 := rowS_len (splitsB i es) a d
                have h3 : a * i ≤ i * i := Nat.mul_le_mul_right _ (by omega)
                omega
              have hii : i * i ≤ 40 * 40 := Nat.mul_le_mul hn hn
              have hSx := hS3.keep HK4.out (fun _ _ e => e)
              have hkx := hk3.trans HK4.out
              cases rb with
              | false =>
                have HN : Hid (SRel2 wA (allS (splitsB i es) i a ++ rowS (splitsB i es) a (d + 1)) o3 m3 c3 w4) := Lib.hid (by
                  rw [rowS_succ _ (by omega), ← hrb2, if_neg (by simp), List.append_nil]; exact ⟨hm3, hSx, hkx⟩)
                clear hm3 hS3 hk3 hSx hkx hlen hii hrb2 ca cb ca2 cb2 ca3 cb3 ca4 cb4
                go_wp2
                go_roundg (i - (d + 1))
                case measure => omega
                case rel => exact ⟨d + 1, o3, m3, c3, rfl, by go_num, by omega, .inl (by omega), Nat.le_refl _, HN⟩
              | true =>
                obtain ⟨gq, c', w5, h1, h2, h3, h4⟩ := run_appN (P := Try.prog) 22 22 31 und_pairs elem_pair (by rfl) (by omega) hSx (pcells (a, d)) 1 (pcells_one _) rfl (by omega) (by omega) (by omega)
                have HN : Hid (SRel2 wA (allS (splitsB i es) i a ++ rowS (splitsB i es) a (d + 1)) (some ⟨gq, 0, none⟩) (m3 + 1) c' w5) := Lib.hid (by
                  rw [rowS_succ _ (by omega), ← hrb2, if_pos rfl, ← List.append_assoc]
                  refine ⟨by rw [List.length_append, hm3]; rfl, ?_, hkx.trans' h3 (fun _ _ e => e) (fun k hk e => ?_)⟩
                  · rw [pcs_snoc]
                    have hz := hkx.size
                    exact h2.mono (fun k hk => by
                      rcases hk with hk | hk
                      · exact hk
                      · show wA.heap.size ≤ k; omega)
                  · obtain ⟨x, hx, rfl⟩ := e
                    have : wA.heap.size ≤ x.block := hSx.foot x hx
                    omega)
                have H1 := Lib.hid h1
                clear h1 h2 h3 h4 hm3 hS3 hk3 hSx hkx hrb2 ca cb ca2 cb2 ca3 cb3 ca4 cb4
                go_wp2_with ((at_builtin; refine wpList_app rfl _ _ _ rfl rfl rfl H1.out ?_))
                go_roundg (i - (d + 1))
                case measure => omega
                case rel => exact ⟨d + 1, _, _, _, rfl, by go_num, by omega, .inl (by omega), Nat.le_refl _, HN⟩
            · have HN : Hid (SRel2 wA (allS (splitsB i es) i (a + 1)) o3 m3 c3 wr) := Lib.hid (by
                rw [allS_succ, ← rowS_end (splitsB i es) hd (by omega) hd2]; exact HR3.out)
              go_wp2_with fail
              refine (nodes_any F wr b i es HG3.out).mono ?_
              rintro e1 wy ⟨rfl, rfl⟩
              go_wp2
              go_roundg (i - (a + 1))
              case measure => omega
              case rel => exact ⟨a + 1, o3, m3, c3, rfl, rfl, by omega, Nat.le_refl _, HN⟩
        · obtain rfl : a = i := by omega
          have HP : Hid (PairsPost w0 a es (.returned (.slice o2 m c2)) wr) := Lib.hid (by
            obtain ⟨h1, h2, h3⟩ := HR2.out
            subst h1
            have hz := HK0.out.size
            exact ⟨o2, c2, rfl, h2.mono (fun k hk => by have : wA.heap.size ≤ k := hk; omega), HK0.out.trans h3⟩)
          go_wp2
          go_ret
          exact HP.out

end Go.Proofs.Ytkpoobnldgfapaa
