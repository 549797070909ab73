/- Part 30 of the proof: S6 IKn. -/
import Derived.Test.YtfglkgkihafcpaaGreatDoorDp04
import Derived.Test.YtfglkgkihafcpaaGreatDoorDp05
import Derived.Test.YtfglkgkihafcpaaGreatDoorDp07
import Derived.Test.YtfglkgkihafcpaaGreatDoorDp08
import Derived.Test.YtfglkgkihafcpaaGreatDoorDp09
import Derived.Test.YtfglkgkihafcpaaGreatDoorDp12
import Derived.Test.YtfglkgkihafcpaaGreatDoorDp16
import Derived.Test.YtfglkgkihafcpaaGreatDoorDp19
import Derived.Test.YtfglkgkihafcpaaGreatDoorDp22
import Derived.Test.YtfglkgkihafcpaaGreatDoorDp25
import Derived.Test.YtfglkgkihafcpaaGreatDoorDp27
import Derived.Test.YtfglkgkihafcpaaGreatDoorDp29
import Derived.RegionTactic
import Derived.ChangeAlike
import Derived.Deep.RegionHeld3
set_option linter.unusedVariables false
set_option linter.unusedSimpArgs false
namespace Go.Proofs.YtfglkgkihafcpaaGreatDoor
open Go.RowKit Pl
def LabelPost (w : World) (n : Nat) (es : List E) (e : Ending) (w' : World) : Prop :=
 ∃ o c, e = .returned (.slice o n c) ∧ Sl (fun k => w.heap.size ≤ k) w' 3 1 o n c (fints n (labG es)) ∧ Keep Nb w w'
theorem Sets.keep' {F G : Nat → Prop} {w w' : World} {b n : Nat} {L : Nat → Nat} (h : Sets F w b n L) (k : Keep G w w') (d : ∀ k, F k → ¬ G k) : Sets F w' b n L := by
 obtain ⟨up, size, low, many, ou, os, ol, cu, cs, cl, hM, hI, hn⟩ := h
 exact ⟨up, size, low, many, ou, os, ol, cu, cs, cl, hM.keep k d, hI, hn⟩
def LRel1 (w1 w2 : World) (F : Nat → Prop) (b n : Nat) (es : List E) (i : Nat) (wr : World) : Prop :=
 Sets F wr b n (labs (ends (es.take i))) ∧ Keep F w2 wr
theorem LRel1.next {w1 w2 wr w3 : World} {F : Nat → Prop} {b n i : Nat} {es : List E} {e : E} (h : LRel1 w1 w2 F b n es i wr) (he : es[i]? = some e)
  (hS : Sets F w3 b n (joinL (labs (ends (es.take i))) e.a e.b)) (k : Keep F wr w3) : LRel1 w1 w2 F b n es (i + 1) w3 := by
 refine ⟨?_, h.2.trans k⟩
 rw [List.take_add_one, he]
 unfold ends
 rw [List.map_append]
 exact (labs_snoc _ (e.a, e.b)) ▸ hS
end Go.Proofs.YtfglkgkihafcpaaGreatDoor
namespace Go.Proofs.YtfglkgkihafcpaaGreatDoor
open Go.RowKit Pl
def LRel2 (w2 : World) (F : Nat → Prop) (b n : Nat) (es : List E) (i : Nat) (o : Option Addr) (c : Nat) (wr : World) : Prop :=
 Sets F wr b n (labs (ends es)) ∧ Sl (fun k => w2.heap.size ≤ k) wr 3 1 o i c (fints i (labs (ends es))) ∧ Keep F w2 wr
theorem LRel2.next {w0 w1 w2 wr w5 w' : World} {b n i c c' g : Nat} {es : List E} {o : Option Addr} (h : LRel2 w2 (Iv w0.heap.size w1.heap.size) b n es i o c wr) (h12 : w1.heap.size ≤ w2.heap.size)
  (hs : Sets (Iv w0.heap.size w1.heap.size) w5 b n (labs (ends es))) (hk : Keep (Iv w0.heap.size w1.heap.size) wr w5)
  (h2 : Sl (fun k => w2.heap.size ≤ k ∨ k = w5.heap.size + 1) w' 3 1 (some ⟨g, 0, none⟩) (i + 1) c' (fints i (labs (ends es)) ++ [.int .i64 (labs (ends es) i : Nat)])) (h3 : Keep (Bl o) w5 w') :
  LRel2 w2 (Iv w0.heap.size w1.heap.size) b n es (i + 1) (some ⟨g, 0, none⟩) c' w' := by
 have hbl : ∀ k, Bl o k → w2.heap.size ≤ k := by
  rintro k ⟨x, hx, rfl⟩
  exact h.2.1.foot x hx
 have z1 := h.2.2.size
 have z2 := hk.size
 refine ⟨hs.keep' h3 (fun k hk hb => by have := hk.2; have := hbl k hb; omega), ?_, (h.2.2.trans hk).trans' h3 (fun _ _ h => h) (fun k hk hb => by have := hbl k hb; omega)⟩
 rw [fints_snoc]
 exact h2.mono (fun k hk => by rcases hk with h | h; exact h; omega)
set_option maxRecDepth 100000 in
set_option maxHeartbeats 1000000 in
theorem label_any (F : Nat → Prop) (w : World) (b n : Nat) (es : List E) (hG : Gr F w b n es) (hF : ∀ k, F k → k < w.heap.size) (hn : n ≤ 40) (hl : es.length ≤ 1000) (ho : Over n es) :
  Calls Tryz.prog 176 #[.pointer (some ⟨b, 0, none⟩)] w (LabelPost w n es) := by
 have HG := Lib.hid hG
 have HF := Lib.hid hF
 have HO := Lib.hid ho
 clear hG hF ho
 go_enter Tryz.func176, Tryz.ntmps176
 go_wp2_with fail
 refine (nodes_any F w b n es HG.out).mono ?_
 rintro e1 w0 ⟨rfl, rfl⟩
 go_wp2_with fail
 refine (new_any n hn _).mono ?_
 rintro e1 w1 ⟨s, rfl, hS1, hk1⟩
 have HS1 := Lib.hid hS1
 have HK1 := Lib.hid hk1
 clear hS1 hk1
 go_wp2_with fail
 refine (edges_any F w1 b n es (HG.out.keep HK1.out (fun _ _ h => h)) hl).mono ?_
 rintro e1 w2 ⟨o2, c2, rfl, hS2, hk2⟩
 have HS2 := Lib.hid hS2
 have HK2 := Lib.hid hk2
 clear hS2 hk2
 go_wp2_with fail
 go_loopg [20] es.length (fun kx s20 wr => ∃ i : Nat, s20 = .int .i64 i ∧ i ≤ es.length ∧ es.length - i ≤ kx ∧ Hid (LRel1 w1 w2 (Iv w0.heap.size w1.heap.size) s n es i wr))
 case atStart => exact ⟨0, rfl, Nat.zero_le _, by omega, Lib.hid ⟨HS1.out.keep' HK2.out (fun _ _ h => h), Keep.refl _ w2⟩⟩
 case round =>
  obtain ⟨i, rfl, hi, hg, HR⟩ := hrel
  by_cases hlt : i < es.length
  ·obtain ⟨g, rfl, hFg, hnc, hrow⟩ := HS2.out.pos (by omega)
   have hy := List.getElem?_eq_getElem hlt
   generalize es[i]'hlt = e at hy
   have hEr := hrow.edges.keep HR.out.2 (fun h => by have := h.2; omega)
   have d1 := hEr.id _ _ hy
   have d2 := hEr.a _ _ hy
   have d3 := hEr.b _ _ hy
   have HY := Lib.hid hy
   have HOe := Lib.hid (HO.out e (List.mem_of_getElem? hy))
   clear hy hrow hEr
   go_wp2_with fail
   refine (join_any (Iv w0.heap.size w1.heap.size) _ s n _ e.a e.b HOe.out.1 HOe.out.2 (HR.out.1.keep' ((Keep.refl Nb wr).alloc _) (fun _ _ h => h))).mono ?_
   rintro e1 w3 ⟨rfl, hj, hk3⟩
   have HJ := Lib.hid hj
   have HK3 := Lib.hid hk3
   clear hj hk3
   go_wp2_with fail
   go_roundg (es.length - (i + 1))
   case measure => omega
   case rel => exact ⟨i + 1, rfl, by omega, Nat.le_refl _, Lib.hid (HR.out.next HY.out HJ.out ((((Keep.refl Nb wr).alloc _).of_nb).trans HK3.out))⟩
  ·obtain rfl : i = es.length := by omega
   have hR := HR.out
   unfold LRel1 at hR
   rw [List.take_length] at hR
   have HR2 := Lib.hid hR
   clear hR HR
   go_wp2_with fail
   refine (nodes_any F wr b n es (((HG.out.keep HK1.out (fun _ _ h => h)).keep HK2.out (fun _ _ h => h)).keep HR2.out.2 (fun k hk h => by have := HF.out k hk; have := h.1; omega))).mono ?_
   rintro e1 w4 ⟨rfl, rfl⟩
   go_wp2_with fail
   go_loopg [7, 36] n (fun kx s7 s36 wr => ∃ (i : Nat) (o : Option Addr) (c : Nat), s7 = .slice o i c ∧ s36 = .int .i64 i ∧ i ≤ n ∧ n - i ≤ kx ∧ Hid (LRel2 w2 (Iv w0.heap.size w1.heap.size) s n es i o c wr))
   case atStart => exact ⟨0, none, 0, rfl, rfl, Nat.zero_le _, by omega, Lib.hid ⟨HR2.out.1, Sl.nil _ _ _ _, HR2.out.2⟩⟩
   case round =>
    obtain ⟨i, o, c, rfl, rfl, hi, hg, HR⟩ := hrel
    by_cases hlt : i < n
    ·go_wp2_with fail
     refine (least_any (Iv w0.heap.size w1.heap.size) _ s n _ i hlt HR.out.1).mono ?_
     rintro e1 w5 ⟨rfl, hs5, hk5⟩
     have h12 := HK2.out.size
     obtain ⟨gq, c', w', h1, h2, h3, h4⟩ := run_app1 (P := Tryz.prog) 63 63 3 (by kernel_rfl) elem_int (by rfl) (HR.out.2.1.keep hk5 (fun k hk h => by have := h.2; have : w2.heap.size ≤ k := hk; omega)) (.int .i64 (labs (ends es) i : Nat)) rfl (by omega) (by omega)
     have HT := Lib.hid (LRel2.next HR.out h12 hs5 hk5 h2 h3)
     have H1 := Lib.hid h1
     clear h1 h2 h3 h4 hs5 hk5 h12
     go_wp2_with ((at_builtin; refine wpList_app rfl _ _ _ rfl rfl rfl H1.out ?_))
     go_roundg (n - (i + 1))
     case measure => omega
     case rel => exact ⟨i + 1, _, _, rfl, rfl, by omega, Nat.le_refl _, HT⟩
    ·obtain rfl : i = n := by omega
     have hP : LabelPost w0 i es (.returned (.slice o i c)) wr := by
      obtain ⟨_, h2, h3⟩ := HR.out
      have s1 := HK1.out.size
      have s2 := HK2.out.size
      refine ⟨o, c, rfl, h2.mono (fun k hk => by have : w2.heap.size ≤ k := hk; omega), (HK1.out.trans HK2.out).trans' h3 (fun _ _ h => h) (fun k hk h => by have := h.1; omega)⟩
     have HP := Lib.hid hP
     clear hP
     go_wp2
     go_ret
     exact HP.out
end Go.Proofs.YtfglkgkihafcpaaGreatDoor
namespace Go.Proofs.YtfglkgkihafcpaaGreatDoor
open Go.RowKit Pl
def valN (v : Nat) : Value := .int .i64 (v : Int)
def PRel (w wr : World) (mb n a b i : Nat) (X Y B : Nat → Nat) (mp : List ((Nat × Nat) × Value)) : Prop :=
 ∃ get : Nat × Nat → Option Nat, (∀ p, mget mp p = (get p).map valN) ∧ PInv i a b X Y B get ∧ MapAt encP DP wr mb mp ∧ Keep Nb w wr ∧ w.heap.size ≤ mb
theorem PRel.keep {w wr : World} {mb n a b i : Nat} {X Y B : Nat → Nat} {mp : List ((Nat × Nat) × Value)} (h : PRel w wr mb n a b i X Y B mp) : Keep Nb w wr := by
 obtain ⟨_, _, _, _, h, _⟩ := h; exact h
theorem PRel.skip {w wr : World} {mb n a b i : Nat} {X Y B : Nat → Nat} {mp : List ((Nat × Nat) × Value)} (h : PRel w wr mb n a b i X Y B mp) (hi : i = a ∨ i = b) : PRel w wr mb n a b (i + 1) X Y B mp := by
 obtain ⟨get, h1, h2, h3⟩ := h; exact ⟨get, h1, h2.skip hi, h3⟩
theorem PRel.same {w wr : World} {mb n a b i : Nat} {X Y B : Nat → Nat} {mp : List ((Nat × Nat) × Value)} {get : Nat × Nat → Option Nat} {x : Obj} (h1 : ∀ p, mget mp p = (get p).map valN) (h2 : PInv i a b X Y B get)
  (h3 : MapAt encP DP (wr.alloc x).drew mb mp) (h4 : Keep Nb w wr) (h5 : w.heap.size ≤ mb) (hg : get (X i, Y i) = some (B i)) : PRel w (wr.alloc x).drew mb n a b (i + 1) X Y B mp :=
 ⟨get, h1, h2.same hg, h3, h4.trans ((Keep.refl Nb wr).alloc x).drew, h5⟩
theorem PRel.store {w wr w2 : World} {mb n a b i : Nat} {X Y B : Nat → Nat} {mp : List ((Nat × Nat) × Value)} {get : Nat × Nat → Option Nat} {x : Obj} (h1 : ∀ p, mget mp p = (get p).map valN) (h2 : PInv i a b X Y B get)
  (h4 : Keep Nb w wr) (h5 : w.heap.size ≤ mb) (ia : i ≠ a) (ib : i ≠ b) (hg : get (X i, Y i) = none) (hm : MapAt encP DP w2 mb (mset mp (X i, Y i) (.int .i64 (B i : Nat)))) (hk : Keep (fun j => j = mb) (wr.alloc x).drew.drew w2) :
  PRel w w2 mb n a b (i + 1) X Y B (mset mp (X i, Y i) (.int .i64 (B i : Nat))) :=
 ⟨fun p => if p = (X i, Y i) then some (B i) else get p, fun p => by
   rw [mget_mset]
   by_cases e : p = (X i, Y i)
   ·simp only [if_pos e]; rfl
   ·simp only [if_neg e]; exact h1 p, h2.new ia ib hg (fun _ => rfl), hm, (h4.trans ((Keep.refl Nb wr).alloc x).drew.drew).trans' hk (fun _ _ e => e) (fun k hk' e => by omega), h5⟩
def PartsPost (w : World) (n a b : Nat) (X Y B : Nat → Nat) (e : Ending) (w' : World) : Prop :=
 ∃ r : Bool, (r = true ↔ PartsP n a b X Y B) ∧ e = .returned (.bool r) ∧ Keep Nb w w'
set_option maxRecDepth 100000 in
set_option maxHeartbeats 1000000 in
theorem parts_any (F : Nat → Prop) (w : World) (n a b : Nat) (X Y B : Nat → Nat) (ox oy ob : Option Addr) (cx cy cb : Nat) (hn : n ≤ 40) (ha : a < n) (hb : b < n)
  (hX : Sl F w 3 1 ox n cx (fints n X)) (hY : Sl F w 3 1 oy n cy (fints n Y)) (hB : Sl F w 3 1 ob n cb (fints n B)) (bX : ∀ k, X k ≤ k) (bY : ∀ k, Y k ≤ k) (bB : ∀ k, B k ≤ k) :
  Calls Tryz.prog 178 #[.int .i64 a, .int .i64 b, .slice ox n cx, .slice oy n cy, .slice ob n cb] w (PartsPost w n a b X Y B) := by
 obtain ⟨gx, rfl, _, hcx, rX⟩ := hX.pos (by omega)
 obtain ⟨gy, rfl, _, hcy, rY⟩ := hY.pos (by omega)
 obtain ⟨gb, rfl, _, hcb, rB⟩ := hB.pos (by omega)
 have RX := Lib.hid rX
 have RY := Lib.hid rY
 have RB := Lib.hid rB
 have BX := Lib.hid bX
 have BY := Lib.hid bY
 have BB := Lib.hid bB
 have hst : PRel w (w.alloc (.map #[] 0)) w.heap.size n a b 0 X Y B [] :=
  ⟨fun _ => none, fun _ => rfl, ⟨fun k hk => absurd hk (by omega), fun p v h => by cases h⟩, MapAt.made _ _ w, (Keep.refl Nb w).alloc _, Nat.le_refl _⟩
 have HST := Lib.hid hst
 clear hX hY hB rX rY rB bX bY bB hst
 have hmm := @run_makeMap Tryz.prog
 go_enter Tryz.func178, Tryz.ntmps178
 go_wp2_with fail
 go_loopg [19] n (fun kx s19 wr => ∃ (i : Nat) (mp : List ((Nat × Nat) × Value)), s19 = .int .i64 i ∧ i ≤ n ∧ n - i ≤ kx ∧ Hid (PRel w wr w.heap.size n a b i X Y B mp))
 case atStart => exact ⟨0, [], rfl, Nat.zero_le _, by omega, HST⟩
 case round =>
  clear HST
  obtain ⟨i, mp, rfl, hi, hg, HR⟩ := hrel
  by_cases hlt : i < n
  ·have HD : Hid (DP (X i, Y i)) := Lib.hid ⟨nat40 (Nat.lt_of_le_of_lt (BX.out i) (by omega)), nat40 (Nat.lt_of_le_of_lt (BY.out i) (by omega))⟩
   by_cases hia : i = a
   ·have hne1 : ((i : Int) == (a : Int)) = true := by simp; omega
    have HR' := Lib.hid (HR.out.skip (.inl hia))
    clear hia
    go_wp2
    go_roundg (n - (i + 1))
    case measure => omega
    case rel => exact ⟨i + 1, mp, rfl, by omega, Nat.le_refl _, HR'⟩
   ·have hne1 : ((i : Int) == (a : Int)) = false := by simp; omega
    by_cases hib : i = b
    ·have hne2 : ((i : Int) == (b : Int)) = true := by simp; omega
     have HR' := Lib.hid (HR.out.skip (.inr hib))
     clear hib
     go_wp2
     go_roundg (n - (i + 1))
     case measure => omega
     case rel => exact ⟨i + 1, mp, rfl, by omega, Nat.le_refl _, HR'⟩
    ·have hne2 : ((i : Int) == (b : Int)) = false := by simp; omega
     have x1 := (RX.out.keep HR.out.keep (fun e => e)).cell (fints_get _ hlt)
     have x2 := (RY.out.keep HR.out.keep (fun e => e)).cell (fints_get _ hlt)
     have x3 := (RB.out.keep HR.out.keep (fun e => e)).cell (fints_get _ hlt)
     have l1 := World.block_lt_of_cell? wr _ x1
     have l2 := World.block_lt_of_cell? wr _ x2
     have l3 := World.block_lt_of_cell? wr _ x3
     obtain ⟨get, hget, hinv, hmap, hk, hle⟩ := HR.out
     have hmap1 := (hmap.alloc (.cells #[.int .i64 (X i : Nat), .int .i64 (Y i : Nat)] 191)).drew
     have hlook := hmap1.look encP_enc Tryz.underlying278 (zero_int _) HD.out true
     rw [hget] at hlook
     cases hg2 : get (X i, Y i) with
     | none =>
      rw [hg2] at hlook
      simp only [if_true, Option.map_none, Option.getD_none, Option.isSome_none, encP] at hlook
      obtain ⟨w2, hrun2, hm2, hk2⟩ := hmap1.drew.store encP_enc Tryz.underlying278 HD.out (.int .i64 (B i : Nat))
      simp only [encP] at hrun2
      have HN := Lib.hid (PRel.store (n := n) hget hinv hk hle (fun e => hia e) (fun e => hib e) hg2 hm2 hk2)
      clear hg2 hm2 hk2 hmap1 hmap hk hle hget hinv HD hia hib
      go_wp2_with fail
      go_region
      go_wp2
      go_region
      go_wp2
      go_roundg (n - (i + 1))
      case measure => omega
      case rel => exact ⟨i + 1, _, rfl, by omega, Nat.le_refl _, HN⟩
     | some v =>
      rw [hg2] at hlook
      simp only [if_true, Option.map_some, Option.getD_some, Option.isSome_some, encP, valN] at hlook
      by_cases hv : v = B i
      ·have hne : ((v : Int) != (B i : Int)) = false := by simp; omega
       have HN := Lib.hid (PRel.same (n := n) hget hinv hmap1 hk hle (by rw [hg2, hv]))
       clear hg2 hmap1 hmap hk hle hget hinv HD hia hib hv
       go_wp2_with fail
       go_region
       go_wp2
       go_roundg (n - (i + 1))
       case measure => omega
       case rel => exact ⟨i + 1, _, rfl, by omega, Nat.le_refl _, HN⟩
      ·have hne : ((v : Int) != (B i : Int)) = true := by simp; omega
       have hP : PartsP n a b X Y B := hinv.found hlt hia hib hg2 hv
       have HP : Hid (PartsPost w n a b X Y B (.returned (.bool true)) (wr.alloc (.cells #[.int .i64 (X i : Nat), .int .i64 (Y i : Nat)] 191)).drew) :=
        Lib.hid ⟨true, by simp [hP], rfl, hk.trans ((Keep.refl Nb wr).alloc _).drew⟩
       clear hg2 hmap1 hmap hk hle hget hinv HD hia hib hv hP
       go_wp2_with fail
       go_region
       go_wp2
       go_ret
       exact HP.out
  ·obtain rfl : i = n := by omega
   have HP : Hid (PartsPost w i a b X Y B (.returned (.bool false)) wr) := Lib.hid (by
    obtain ⟨get, _, hinv, _, hk, _⟩ := HR.out
    exact ⟨false, by simp [hinv.none], rfl, hk⟩)
   clear HR
   go_wp2
   go_ret
   exact HP.out
end Go.Proofs.YtfglkgkihafcpaaGreatDoor
namespace Go.Proofs.YtfglkgkihafcpaaGreatDoor
open Go.RowKit Pl
def SRel1 (w : World) (n : Nat) (es : List E) (i : Nat) (o : Option Addr) (c : Nat) (wr : World) : Prop :=
 ∃ rw_ f, (∀ x, x < i → f x = (List.range n).map (labG (withoutEs [] [x] es))) ∧ MatR (fun k => w.heap.size ≤ k) wr 63 3 o i c rw_ f ∧ Keep Nb w wr
theorem srel1_next {w w1 w2 w3 w' : World} {n i : Nat} {es : List E} {o oq : Option Addr} {c cq g c' : Nat} {rw_ : Nat → Rw} {f : Nat → List Nat} (h1 : ∀ x, x < i → f x = (List.range n).map (labG (withoutEs [] [x] es))) (h2 : MatR (fun k => w.heap.size ≤ k) w1 63 3 o i c rw_ f) (h3 : Keep Nb w w1) (h12 : Keep Nb w1 w2) (h23 : Keep Nb w2 w3) (hr : Sl (fun k => w2.heap.size ≤ k) w3 3 1 oq n cq (fints n (labG (withoutEs [] [i] es))))
  (hS : Sl (fun k => w.heap.size ≤ k ∨ k = w3.heap.size + 1) w' 63 1 (some ⟨g, 0, none⟩) (i + 1) c' ((List.range i).map (fun i => (rw_ i).val) ++ [.slice oq n cq]))
  (hk : Keep (Bl o) w3 w') (hg : o = some ⟨g, 0, none⟩ ∨ g = w3.heap.size + 1) : SRel1 w n es (i + 1) (some ⟨g, 0, none⟩) c' w' := by
 have z1 := h3.size
 have z2 := h12.size
 have z3 := h23.size
 have h2' := (h2.keep h12 (fun _ _ e => e)).keep h23 (fun _ _ e => e)
 have hbl : ∀ k, Bl o k → w.heap.size ≤ k ∧ k < w1.heap.size := by
  rintro k ⟨x, hx, rfl⟩
  exact ⟨h2.out.foot x hx, h2.out.lt hx⟩
 have hr' : Sl (fun k => w.heap.size ≤ k) w3 3 1 oq n cq (fints n (labG (withoutEs [] [i] es))) := hr.mono fun k hk => by have : w2.heap.size ≤ k := hk; omega
 refine ⟨_, _, fun x hx => ?_, h2'.push (l := (List.range n).map (labG (withoutEs [] [i] es))) (by simp) hr' (fun a ha hb => ?_) hS hk hg (by show w.heap.size ≤ w3.heap.size + 1; omega), ((h3.trans h12).trans h23).trans' hk (fun _ _ e => e) (fun k hk' e => by have := hbl k e; omega)⟩
 ·by_cases e : x = i
  ·simp only [if_pos e]; rw [e]
  ·simp only [if_neg e]; exact h1 x (by omega)
 ·have := hbl _ hb
  have : w2.heap.size ≤ a.block := hr.foot a ha
  omega
def SRel2 (wA : World) (l : List (Nat × Nat)) (o : Option Addr) (m c : Nat) (wr : World) : Prop :=
 m = l.length ∧ Sl (fun k => wA.heap.size ≤ k) wr 191 2 o m c (pcs l) ∧ Keep Nb wA wr
def splitsB (n : Nat) (es : List E) (a b : Nat) : Bool := partsB n a b (labG (withoutEs [] [a] es)) (labG (withoutEs [] [b] es)) (labG (withoutEs [] [a, b] es))
def PairsPost (w : World) (n : Nat) (es : List E) (e : Ending) (w' : World) : Prop :=
 ∃ o c, e = .returned (.slice o (allS (splitsB n es) n n).length c) ∧ Sl (fun k => w.heap.size ≤ k) w' 191 2 o (allS (splitsB n es) n n).length c (pcs (allS (splitsB n es) n n)) ∧ Keep Nb w w'
set_option maxRecDepth 100000 in
set_option maxHeartbeats 1000000 in
theorem pairs_any (F : Nat → Prop) (w : World) (b n : Nat) (es : List E) (hG : Gr F w b n es) (hF : ∀ k, F k → k < w.heap.size) (hn : n ≤ 40) (hl : es.length ≤ 1000) (ho : Over n es) :
  Calls Tryz.prog 143 #[.pointer (some ⟨b, 0, none⟩)] w (PairsPost w n es) := by
 have HG := Lib.hid hG
 have HF := Lib.hid hF
 have HO := Lib.hid ho
 clear hG hF ho
 go_enter Tryz.func143, Tryz.ntmps143
 go_wp2_with fail
 refine (nodes_any F w b n es HG.out).mono ?_
 rintro e1 w0 ⟨rfl, rfl⟩
 go_wp2_with fail
 go_loopg [3, 10] n (fun kx s3 s10 wr => ∃ (i : Nat) (o : Option Addr) (c : Nat), s3 = .slice o i c ∧ s10 = .int .i64 i ∧ i ≤ n ∧ n - i ≤ kx ∧ Hid (SRel1 w0 n es i o c wr))
 case atStart => exact ⟨0, none, 0, rfl, rfl, Nat.zero_le _, by omega, Lib.hid ⟨fun _ => ⟨none, 0, 0⟩, fun _ => [], fun _ h => absurd h (by omega), MatR.nil _ _ _ _ _ _, Keep.refl _ _⟩⟩
 case round =>
  obtain ⟨i, o, c, rfl, rfl, hi, hg, HR⟩ := hrel
  by_cases hlt : i < n
  ·go_wp2_with fail
   have HGr := Lib.hid ((HG.out.keep HR.out.choose_spec.choose_spec.2.2 (fun _ _ h => h)).alloc (.cells #[.int .i64 (i : Nat)] 3))
   refine (without_any F (fun _ => False) _ _ b n es none (some ⟨wr.heap.size, 0, none⟩) 0 1 [] [i] HGr.out hl (Sl.nil _ _ _ _) (Sl.built wr 3 1 1 [.int .i64 (i : Nat)] rfl (by simp only [maxLen]; omega)) (by simp) (by simp)).mono ?_
   rintro e1 w2 ⟨rfl, hG2, hk2⟩
   simp only [World.size_alloc] at hG2
   have HG2 := Lib.hid hG2
   have HK2 := Lib.hid (((Keep.refl Nb wr).alloc _).trans hk2)
   have HB2 := Lib.hid hk2.size
   clear hG2 hk2 HGr
   go_wp2_with fail
   refine (label_any (fun k => wr.heap.size + 1 ≤ k ∧ k < w2.heap.size) w2 (wr.heap.size + 1) n (withoutEs [] [i] es) HG2.out.tight (fun k hk => hk.2) hn (Nat.le_trans (withoutEs_len _ _ _) hl) (over_without HO.out _ _)).mono ?_
   rintro e1 w3 ⟨oq, cq, rfl, hS3, hk3⟩
   have HS3 := Lib.hid hS3
   have HK3 := Lib.hid hk3
   clear hS3 hk3
   obtain ⟨rw_, f, hf, hM, hk⟩ := HR.out
   obtain ⟨gq, c', w', h1, h2, h3, h4⟩ := run_app1 (P := Tryz.prog) 134 134 63 (by kernel_rfl) elem_ints (by rfl) (((hM.keep HK2.out (fun _ _ e => e)).keep HK3.out (fun _ _ e => e)).out) (.slice oq n cq) rfl (by omega) (by omega)
   have HN : Hid (SRel1 w0 n es (i + 1) (some ⟨gq, 0, none⟩) c' w') := Lib.hid (srel1_next hf hM hk HK2.out HK3.out HS3.out h2 h3 h4)
   have H1 := Lib.hid h1
   clear h1 h2 h3 h4 hM hf hk
   go_wp2_with ((at_builtin; refine wpList_app rfl _ _ _ rfl rfl rfl H1.out ?_))
   go_roundg (n - (i + 1))
   case measure => omega
   case rel => exact ⟨i + 1, _, _, rfl, rfl, by omega, Nat.le_refl _, HN⟩
  ·obtain rfl : i = n := by omega
   obtain ⟨rw_, f, hf, hM0, hk0⟩ := HR.out
   have hM := hM0.tight
   have HM := Lib.hid hM
   have HFF := Lib.hid hf
   have HK0 := Lib.hid hk0
   have HG1 := Lib.hid (HG.out.keep hk0 (fun _ _ h => h))
   have HS0 : Hid (SRel2 wr [] none 0 0 wr) := Lib.hid ⟨rfl, Sl.nil _ _ _ _, Keep.refl _ _⟩
   clear HR hM0 hM hf hk0
   go_wp2_with fail
   refine (nodes_any F wr b i es HG1.out).mono ?_
   rintro e1 wA ⟨rfl, rfl⟩
   go_wp2_with fail
   go_loopg [5, 24] i (fun kx s5 s24 wr => ∃ (a : Nat) (o : Option Addr) (m c : Nat), s5 = .slice o m c ∧ s24 = .int .i64 a ∧ a ≤ i ∧ i - a ≤ kx ∧ Hid (SRel2 wA (allS (splitsB i es) i a) o m c wr))
   case atStart => exact ⟨0, none, 0, 0, rfl, rfl, Nat.zero_le _, by omega, HS0⟩
   case round =>
    clear HS0
    obtain ⟨a, o2, m, c2, rfl, rfl, ha, hg2, HR2⟩ := hrel
    by_cases hlt2 : a < i
    ·have HS1 : Hid (SRel2 wA (allS (splitsB i es) i a ++ rowS (splitsB i es) a (a + 1)) o2 m c2 wr) := Lib.hid (by rw [rowS_start, List.append_nil]; exact HR2.out)
     clear HR2
     go_wp2_with fail
     go_loopg [5, 7] i (fun kx s5 s7 wr => ∃ (d : Nat) (o : Option Addr) (m c : Nat), s5 = .slice o m c ∧ s7 = .int .i64 d ∧ a + 1 ≤ d ∧ (d ≤ i ∨ d = a + 1) ∧ i - d ≤ kx ∧ Hid (SRel2 wA (allS (splitsB i es) i a ++ rowS (splitsB i es) a d) o m c wr))
     case atStart => exact ⟨a + 1, o2, m, c2, rfl, by go_num, Nat.le_refl _, .inr rfl, by omega, HS1⟩
     case round =>
      clear HS1
      obtain ⟨d, o3, m3, c3, rfl, rfl, hd, hd2, hg3, HR3⟩ := hrel
      have HG3 := Lib.hid (HG1.out.keep HR3.out.2.2 (fun _ _ h => h))
      by_cases hlt3 : d < i
      ·go_wp2_with fail
       refine (nodes_any F wr b i es HG3.out).mono ?_
       rintro e1 wy ⟨rfl, rfl⟩
       have hMx := HM.out.keep HR3.out.2.2 (fun _ _ h => h)
       obtain ⟨go, rfl, hcc, hgo, ca⟩ := hMx.cell hlt2
       obtain ⟨go', e2, _, _, cb⟩ := hMx.cell hlt3
       obtain rfl : go = go' := by simpa using e2
       have la : (f a).length = i := by rw [HFF.out a (by omega)]; simp
       have ld : (f d).length = i := by rw [HFF.out d (by omega)]; simp
       have hra := hMx.row a hlt2
       have hrd := hMx.row d hlt3
       rw [la, HFF.out a (by omega)] at hra
       rw [ld, HFF.out d (by omega)] at hrd
       rw [la] at ca
       rw [ld] at cb
       have HRA := Lib.hid (hra.mono (G := fun _ => True) (fun _ _ => trivial))
       have HRD := Lib.hid (hrd.mono (G := fun _ => True) (fun _ _ => trivial))
       clear e2 hMx la ld hra hrd
       go_wp2_with fail
       have HAB := Lib.hid (show (Over i (withoutEs [] [a, d] es)) from over_without HO.out _ _)
       have lgo : go < wy.heap.size := World.block_lt_of_cell? wy _ ca
       have hgo2 : ¬ wy.heap.size = go := by omega
       have CA := Lib.hid ca
       have CB := Lib.hid cb
       have bz : (wy.alloc (.cells #[.int .i64 (a : Nat), .int .i64 (d : Nat)] 3)).drew.heap.size = wy.heap.size + 1 := World.size_alloc _ _
       have BZ := Lib.hid bz
       clear bz
       go_region_held3 (fun w' => w'.cell? ⟨go, a, none⟩ = some (.slice (rw_ a).o i (rw_ a).c) ∧ w'.cell? ⟨go, d, none⟩ = some (.slice (rw_ d).o i (rw_ d).c)) (go_keep) ((first | (go_at_call 177; refine (without_any F (fun _ => False) _ _ b i es none (some ⟨wy.heap.size, 0, none⟩) 0 2 [] [a, d] (HG3.out.alloc _).drew hl (Sl.nil _ _ _ _) (Sl.built wy 3 1 2 [.int .i64 (a : Nat), .int .i64 (d : Nat)] rfl (by simp only [maxLen]; omega)).drew (by simp) (by simp)).mono ?_; rintro e1 w2 ⟨rfl, hG2, hk2⟩; rw [BZ.out] at hG2; have hkk := ((Keep.refl Nb wy).alloc _).drew.trans hk2; have ca2 := hkk.cell CA.out (fun e => e); have cb2 := hkk.cell CB.out (fun e => e); have HG2 := Lib.hid hG2.tight; have HK2 := Lib.hid hkk; clear hG2 hk2 hkk) | (go_at_call 176; refine (label_any _ _ _ i (withoutEs [] [a, d] es) HG2.out (fun k hk => hk.2) hn (Nat.le_trans (withoutEs_len _ _ _) hl) HAB.out).mono ?_; rintro e1 w3 ⟨oq, cq, rfl, hS3, hk3⟩; have ca3 := hk3.cell ca2 (fun e => e); have cb3 := hk3.cell cb2 (fun e => e); have HS3 := Lib.hid hS3; have HK3 := Lib.hid (HK2.out.trans hk3); clear hS3 hk3) | (go_at_call 178; refine (parts_any (fun _ => True) _ i a d _ _ _ _ _ _ _ _ _ hn hlt2 hlt3 (HRA.out.keep HK3.out (fun _ _ e => e)) (HRD.out.keep HK3.out (fun _ _ e => e)) (HS3.out.mono (fun _ _ => trivial)) (labs_le _) (labs_le _) (labs_le _)).mono ?_; rintro e1 w4 ⟨rb, hrb, rfl, hk4⟩; have ca4 := hk4.cell ca3 (fun e => e); have cb4 := hk4.cell cb3 (fun e => e); have HRB := Lib.hid hrb; have HK4 := Lib.hid (HK3.out.trans hk4); clear hrb hk4)))
       have hrb2 : rb = splitsB i es a d := by
        rw [Bool.eq_iff_iff, HRB.out]; exact partsB_iff.symm
       obtain ⟨hm3, hS3, hk3⟩ := HR3.out
       have hlen : m3 ≤ i * i + i := by
        rw [hm3, List.length_append]
        have h1 := allS_len (splitsB i es) i a
        have h2 := rowS_len (splitsB i es) a d
        have h3 : a * i ≤ i * i := Nat.mul_le_mul_right _ (by omega)
        omega
       have hii : i * i ≤ 40 * 40 := Nat.mul_le_mul hn hn
       have hSx := hS3.keep HK4.out (fun _ _ e => e)
       have hkx := hk3.trans HK4.out
       cases rb with
       | false =>
        have HN : Hid (SRel2 wA (allS (splitsB i es) i a ++ rowS (splitsB i es) a (d + 1)) o3 m3 c3 w4) := Lib.hid (by
         rw [rowS_succ _ (by omega), ← hrb2, if_neg (by simp), List.append_nil]; exact ⟨hm3, hSx, hkx⟩)
        clear hm3 hS3 hk3 hSx hkx hlen hii hrb2 ca cb ca2 cb2 ca3 cb3 ca4 cb4
        go_wp2
        go_roundg (i - (d + 1))
        case measure => omega
        case rel => exact ⟨d + 1, o3, m3, c3, rfl, by go_num, by omega, .inl (by omega), Nat.le_refl _, HN⟩
       | true =>
        obtain ⟨gq, c', w5, h1, h2, h3, h4⟩ := run_appN (P := Tryz.prog) 140 140 191 und_pairs elem_pair (by rfl) (by omega) hSx (pcells (a, d)) 1 (pcells_one _) rfl (by omega) (by omega) (by omega)
        have HN : Hid (SRel2 wA (allS (splitsB i es) i a ++ rowS (splitsB i es) a (d + 1)) (some ⟨gq, 0, none⟩) (m3 + 1) c' w5) := Lib.hid (by
         rw [rowS_succ _ (by omega), ← hrb2, if_pos rfl, ← List.append_assoc]
         refine ⟨by rw [List.length_append, hm3]; rfl, ?_, hkx.trans' h3 (fun _ _ e => e) (fun k hk e => ?_)⟩
         ·rw [pcs_snoc]
          have hz := hkx.size
          exact h2.mono (fun k hk => by
           rcases hk with hk | hk
           ·exact hk
           ·show wA.heap.size ≤ k; omega)
         ·obtain ⟨x, hx, rfl⟩ := e
          have : wA.heap.size ≤ x.block := hSx.foot x hx
          omega)
        have H1 := Lib.hid h1
        clear h1 h2 h3 h4 hm3 hS3 hk3 hSx hkx hrb2 ca cb ca2 cb2 ca3 cb3 ca4 cb4
        go_wp2_with ((at_builtin; refine wpList_app rfl _ _ _ rfl rfl rfl H1.out ?_))
        go_roundg (i - (d + 1))
        case measure => omega
        case rel => exact ⟨d + 1, _, _, _, rfl, by go_num, by omega, .inl (by omega), Nat.le_refl _, HN⟩
      ·have HN : Hid (SRel2 wA (allS (splitsB i es) i (a + 1)) o3 m3 c3 wr) := Lib.hid (by
        rw [allS_succ, ← rowS_end (splitsB i es) hd (by omega) hd2]; exact HR3.out)
       go_wp2_with fail
       refine (nodes_any F wr b i es HG3.out).mono ?_
       rintro e1 wy ⟨rfl, rfl⟩
       go_wp2
       go_roundg (i - (a + 1))
       case measure => omega
       case rel => exact ⟨a + 1, o3, m3, c3, rfl, rfl, by omega, Nat.le_refl _, HN⟩
    ·obtain rfl : a = i := by omega
     have HP : Hid (PairsPost w0 a es (.returned (.slice o2 m c2)) wr) := Lib.hid (by
      obtain ⟨h1, h2, h3⟩ := HR2.out
      subst h1
      have hz := HK0.out.size
      exact ⟨o2, c2, rfl, h2.mono (fun k hk => by have : wA.heap.size ≤ k := hk; omega), HK0.out.trans h3⟩)
     go_wp2
     go_ret
     exact HP.out
end Go.Proofs.YtfglkgkihafcpaaGreatDoor

namespace Go.Proofs.YtfglkgkihafcpaaGreatDoor
open Go.RowKit Pl Go.Maps
def BkAt (F : Nat → Prop) (w : World) (Y n : Nat) (es : List E) : Prop :=
 ∃ (mv : Value) (pc cc : Nat) (po co : Option Addr) (rows : List Rw) (ps : List (List Nat)) (cs : List Nat), BlkList es ps ∧ (∀ x, x ∈ cs ↔ x < n ∧ Sep es x) ∧ cs.Pairwise (· < ·) ∧
  Row w Y 232 [mv, .slice po ps.length pc, .slice co cs.length cc] ∧ Mat F w 63 3 po ps.length pc rows ps ∧ Sl F w 3 1 co cs.length cc (ints cs) ∧ F Y
theorem BkAt.keep {F G : Nat → Prop} {w w' : World} {Y n : Nat} {es : List E} (h : BkAt F w Y n es) (k : Keep G w w') (d : ∀ k, F k → ¬ G k) : BkAt F w' Y n es := by
 obtain ⟨mv, pc, cc, po, co, rows, ps, cs, h1, h2, h3, h4, h5, h6, h7⟩ := h
 exact ⟨mv, pc, cc, po, co, rows, ps, cs, h1, h2, h3, h4.keep k (d _ h7), h5.keep k d, h6.keep k d, h7⟩
theorem BkAt.mono {F G : Nat → Prop} {w : World} {Y n : Nat} {es : List E} (h : BkAt F w Y n es) (hG : ∀ k, F k → G k) : BkAt G w Y n es := by
 obtain ⟨mv, pc, cc, po, co, rows, ps, cs, h1, h2, h3, h4, h5, h6, h7⟩ := h
 exact ⟨mv, pc, cc, po, co, rows, ps, cs, h1, h2, h3, h4, h5.mono hG, h6.mono hG, hG _ h7⟩
theorem BkAt.tight {F : Nat → Prop} {w : World} {Y n : Nat} {es : List E} (h : BkAt F w Y n es) : BkAt (fun k => F k ∧ k < w.heap.size) w Y n es := by
 obtain ⟨mv, pc, cc, po, co, rows, ps, cs, h1, h2, h3, h4, h5, h6, h7⟩ := h
 exact ⟨mv, pc, cc, po, co, rows, ps, cs, h1, h2, h3, h4, h5.tight, h6.tight, h7, h4.lt⟩
def PsAt (F : Nat → Prop) (w : World) (pb n : Nat) (es : List E) : Prop :=
 ∃ (o : Option Addr) (c : Nat), Row w pb 140 [.slice o (allS (splitsB n es) n n).length c] ∧ Sl F w 191 2 o (allS (splitsB n es) n n).length c (pcs (allS (splitsB n es) n n)) ∧ F pb
theorem PsAt.keep {F G : Nat → Prop} {w w' : World} {pb n : Nat} {es : List E} (h : PsAt F w pb n es) (k : Keep G w w') (d : ∀ k, F k → ¬ G k) : PsAt F w' pb n es := by
 obtain ⟨o, c, h1, h2, h3⟩ := h
 exact ⟨o, c, h1.keep k (d _ h3), h2.keep k d, h3⟩
theorem PsAt.mono {F G : Nat → Prop} {w : World} {pb n : Nat} {es : List E} (h : PsAt F w pb n es) (hG : ∀ k, F k → G k) : PsAt G w pb n es := by
 obtain ⟨o, c, h1, h2, h3⟩ := h
 exact ⟨o, c, h1, h2.mono hG, hG _ h3⟩
structure KnB (F : Nat → Prop) (w : World) (n : Nat) (es : List E) (gb : Nat) (r2 r3 r4 : Value) : Prop where
 b : r2 = .pointer none ∨ ∃ Y, r2 = .pointer (some ⟨Y, 0, none⟩) ∧ BkAt F w Y n es
 c : r3 = .pointer none ∨ ∃ cv, r3 = .pointer (some ⟨cv, 0, none⟩) ∧ Cov F w cv gb es
 p : r4 = .pointer none ∨ ∃ pb, r4 = .pointer (some ⟨pb, 0, none⟩) ∧ PsAt F w pb n es
theorem KnB.none (F : Nat → Prop) (w : World) (n : Nat) (es : List E) (gb : Nat) : KnB F w n es gb (.pointer none) (.pointer none) (.pointer none) := ⟨.inl rfl, .inl rfl, .inl rfl⟩
theorem KnB.keep {F G : Nat → Prop} {w w' : World} {n : Nat} {es : List E} {gb : Nat} {r2 r3 r4 : Value} (h : KnB F w n es gb r2 r3 r4) (k : Keep G w w') (d : ∀ k, F k → ¬ G k) : KnB F w' n es gb r2 r3 r4 := by
 refine ⟨?_, ?_, ?_⟩
 ·rcases h.b with e | ⟨Y, e, hb⟩
  ·exact .inl e
  ·exact .inr ⟨Y, e, hb.keep k d⟩
 ·rcases h.c with e | ⟨Y, e, hb⟩
  ·exact .inl e
  ·exact .inr ⟨Y, e, hb.keep k d⟩
 ·rcases h.p with e | ⟨Y, e, hb⟩
  ·exact .inl e
  ·exact .inr ⟨Y, e, hb.keep k d⟩
structure IxM (Fg Fb Fc : Nat → Prop) (w : World) (xb gb bb n : Nat) (es fs : List E) (r2 r3 r4 : Value) : Prop where
 row : Row w xb 100 [.pointer (some ⟨gb, 0, none⟩), .pointer (some ⟨bb, 0, none⟩), r2, r3, r4]
 gr : Gr Fg w gb n es
 brs : Brs Fb w bb n fs
 mem : ∀ e, e ∈ es ↔ e ∈ fs.map norm
 len : fs.length = es.length
 kn : KnB Fc w n es gb r2 r3 r4
 g : ∀ k, Fg k → k ≠ xb ∧ ¬ Fb k ∧ ¬ Fc k ∧ k < w.heap.size
 br : ∀ k, Fb k → k ≠ xb ∧ ¬ Fc k ∧ k < w.heap.size
 k : ∀ k, Fc k → k ≠ xb ∧ k < w.heap.size
def IxK (F : Nat → Prop) (w : World) (xb n : Nat) (es : List E) : Prop :=
 ∃ Fg Fb Fc gb bb fs r2 r3 r4, IxM Fg Fb Fc w xb gb bb n es fs r2 r3 r4 ∧ F xb ∧ (∀ k, Fg k → F k) ∧ (∀ k, Fb k → F k) ∧ (∀ k, Fc k → F k)
theorem IxM.keep {Fg Fb Fc G : Nat → Prop} {w w' : World} {xb gb bb n : Nat} {es fs : List E} {r2 r3 r4 : Value} (h : IxM Fg Fb Fc w xb gb bb n es fs r2 r3 r4) (k : Keep G w w') (dx : ¬ G xb) (dg : ∀ k, Fg k → ¬ G k) (db : ∀ k, Fb k → ¬ G k) (dc : ∀ k, Fc k → ¬ G k) :
  IxM Fg Fb Fc w' xb gb bb n es fs r2 r3 r4 := by
 have z := k.size
 exact ⟨h.row.keep k dx, h.gr.keep k dg, h.brs.keep k db, h.mem, h.len, h.kn.keep k dc, fun j hj => by have := h.g j hj; exact ⟨this.1, this.2.1, this.2.2.1, by omega⟩, fun j hj => by have := h.br j hj; exact ⟨this.1, this.2.1, by omega⟩, fun j hj => by have := h.k j hj; exact ⟨this.1, by omega⟩⟩
theorem IxK.keep {F G : Nat → Prop} {w w' : World} {xb n : Nat} {es : List E} (h : IxK F w xb n es) (k : Keep G w w') (d : ∀ k, F k → ¬ G k) : IxK F w' xb n es := by
 obtain ⟨Fg, Fb, Fc, gb, bb, fs, r2, r3, r4, h, hx, hg, hb, hc⟩ := h
 exact ⟨Fg, Fb, Fc, gb, bb, fs, r2, r3, r4, h.keep k (d _ hx) (fun j hj => d j (hg j hj)) (fun j hj => d j (hb j hj)) (fun j hj => d j (hc j hj)), hx, hg, hb, hc⟩
theorem IxK.mono {F G : Nat → Prop} {w : World} {xb n : Nat} {es : List E} (h : IxK F w xb n es) (hG : ∀ k, F k → k < w.heap.size → G k) : IxK G w xb n es := by
 obtain ⟨Fg, Fb, Fc, gb, bb, fs, r2, r3, r4, h, hx, hg, hb, hc⟩ := h
 exact ⟨Fg, Fb, Fc, gb, bb, fs, r2, r3, r4, h, hG _ hx h.row.lt, fun j hj => hG _ (hg j hj) (h.g j hj).2.2.2, fun j hj => hG _ (hb j hj) (h.br j hj).2.2, fun j hj => hG _ (hc j hj) (h.k j hj).2⟩
theorem IxK.tight {F : Nat → Prop} {w : World} {xb n : Nat} {es : List E} (h : IxK F w xb n es) : IxK (fun k => F k ∧ k < w.heap.size) w xb n es := h.mono (fun _ h1 h2 => ⟨h1, h2⟩)
theorem IxAt.known {F : Nat → Prop} {w : World} {xb n : Nat} {es : List E} (h : IxAt F w xb n es (.pointer none) (.pointer none) (.pointer none)) : IxK F w xb n es := by
 obtain ⟨gb, bb, Fg, Fb, fs, h1, h2, h3, h4, hl, h5, h6, h7⟩ := h
 exact ⟨Fg, Fb, Nb, gb, bb, fs, _, _, _, ⟨h1, h2, h3, h4, hl, KnB.none _ _ _ _ _, fun k hk => ⟨(h6 k hk).2.1, (h6 k hk).2.2.1, fun e => e, (h6 k hk).2.2.2⟩, fun k hk => ⟨(h7 k hk).2.1, fun e => e, (h7 k hk).2.2⟩, fun k hk => hk.elim⟩, h5, fun k hk => (h6 k hk).1, fun k hk => (h7 k hk).1, fun k hk => hk.elim⟩
end Go.Proofs.YtfglkgkihafcpaaGreatDoor

