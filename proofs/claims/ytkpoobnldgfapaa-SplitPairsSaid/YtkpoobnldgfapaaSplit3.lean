/- split: parts, the walk. -/
import Derived.Test.YtkpoobnldgfapaaSplit2
import Derived.Test.YtkpoobnldgfapaaPairKey
import Derived.Test.YtkpoobnldgfapaaPlSplit
import Derived.RegionTactic
import Derived.ChangeAlike
namespace Go.Proofs.Ytkpoobnldgfapaa
open Go.RowKit Pl

def valN (v : Nat) : Value := .int .i64 (v : Int)

/-- The map holds what the search knows. -/
def PRel (w wr : World) (mb n a b i : Nat) (X Y B : Nat → Nat) (mp : List ((Nat × Nat) × Value)) : Prop :=
  ∃ get : Nat × Nat → Option Nat, (∀ p, mget mp p = (get p).map valN) ∧ PInv i a b X Y B get ∧ MapAt encP DP wr mb mp ∧ Keep Nb w wr ∧ w.heap.size ≤ mb

theorem PRel.keep {w wr : World} {mb n a b i : Nat} {X Y B : Nat → Nat} {mp : List ((Nat × Nat) × Value)} (h : PRel w wr mb n a b i X Y B mp) : Keep Nb w wr := by
  obtain ⟨_, _, _, _, h, _⟩ := h; exact h

theorem PRel.skip {w wr : World} {mb n a b i : Nat} {X Y B : Nat → Nat} {mp : List ((Nat × Nat) × Value)} (h : PRel w wr mb n a b i X Y B mp) (hi : i = a ∨ i = b) : PRel w wr mb n a b (i + 1) X Y B mp := by
  obtain ⟨get, h1, h2, h3⟩ := h; exact ⟨get, h1, h2.skip hi, h3⟩

theorem PRel.same {w wr : World} {mb n a b i : Nat} {X Y B : Nat → Nat} {mp : List ((Nat × Nat) × Value)} {get : Nat × Nat → Option Nat} {x : Obj} (h1 : ∀ p, mget mp p = (get p).map valN) (h2 : PInv i a b X Y B get)
    (h3 : MapAt encP DP (wr.alloc x).drew mb mp) (h4 : Keep Nb w wr) (h5 : w.heap.size ≤ mb) (hg : get (X i, Y i) = some (B i)) : PRel w (wr.alloc x).drew mb n a b (i + 1) X Y B mp :=
  ⟨get, h1, h2.same hg, h3, h4.trans ((Keep.refl Nb wr).alloc x).drew, h5⟩

theorem PRel.store {w wr w2 : World} {mb n a b i : Nat} {X Y B : Nat → Nat} {mp : List ((Nat × Nat) × Value)} {get : Nat × Nat → Option Nat} {x : Obj} (h1 : ∀ p, mget mp p = (get p).map valN) (h2 : PInv i a b X Y B get)
    (h4 : Keep Nb w wr) (h5 : w.heap.size ≤ mb) (ia : i ≠ a) (ib : i ≠ b) (hg : get (X i, Y i) = none) (hm : MapAt encP DP w2 mb (mset mp (X i, Y i) (.int .i64 (B i : Nat)))) (hk : Keep (fun j => j = mb) (wr.alloc x).drew.drew w2) :
    PRel w w2 mb n a b (i + 1) X Y B (mset mp (X i, Y i) (.int .i64 (B i : Nat))) :=
  ⟨fun p => if p = (X i, Y i) then some (B i) else get p, fun p => by
      rw [mget_mset]
      by_cases e : p = (X i, Y i)
      · simp only [if_pos e]; rfl
      · simp only [if_neg e]; exact h1 p, h2.new ia ib hg (fun _ => rfl), hm, (h4.trans ((Keep.refl Nb wr).alloc x).drew.drew).trans' hk (fun _ _ e => e) (fun k hk' e => by omega), h5⟩

def PartsPost (w : World) (n a b : Nat) (X Y B : Nat → Nat) (e : Ending) (w' : World) : Prop :=
  ∃ r : Bool, (r = true ↔ PartsP n a b X Y B) ∧ e = .returned (.bool r) ∧ Keep Nb w w'

set_option maxRecDepth 100000 in
set_option maxHeartbeats 1000000 in
theorem parts_any (F : Nat → Prop) (w : World) (n a b : Nat) (X Y B : Nat → Nat) (ox oy ob : Option Addr) (cx cy cb : Nat) (hn : n ≤ 40) (ha : a < n) (hb : b < n)
    (hX : Sl F w 3 1 ox n cx (fints n X)) (hY : Sl F w 3 1 oy n cy (fints n Y)) (hB : Sl F w 3 1 ob n cb (fints n B)) (bX : ∀ k, X k ≤ k) (bY : ∀ k, Y k ≤ k) (bB : ∀ k, B k ≤ k) :
    Calls Try.prog 57 #[.int .i64 a, .int .i64 b, .slice ox n cx, .slice oy n cy, .slice ob n cb] w (PartsPost w n a b X Y B) := by
  obtain ⟨gx, rfl, _, hcx, rX⟩ := hX.pos (by omega)
  obtain ⟨gy, rfl, _, hcy, rY⟩ := hY.pos (by omega)
  obtain ⟨gb, rfl, _, hcb, rB⟩ := hB.pos (by omega)
  have RX := Lib.hid rX
  have RY := Lib.hid rY
  have RB := Lib.hid rB
  have BX := Lib.hid bX
  have BY := Lib.hid bY
  have BB := Lib.hid bB
  have hst : PRel w (w.alloc (.map #[] 0)) w.heap.size n a b 0 X Y B [] :=
    ⟨fun _ => none, fun _ => rfl, ⟨fun k hk => absurd hk (by omega), fun p v h => by cases h⟩, MapAt.made _ _ w, (Keep.refl Nb w).alloc _, Nat.le_refl _⟩
  have HST := Lib.hid hst
  clear hX hY hB rX rY rB bX bY bB hst
  have hmm := @run_makeMap Try.prog
  go_enter Try.func57, Try.ntmps57
  go_wp2_with fail
  go_loopg [19] n (fun kx s19 wr => ∃ (i : Nat) (mp : List ((Nat × Nat) × Value)), s19 = .int .i64 i ∧ i ≤ n ∧ n - i ≤ kx ∧ Hid (PRel w wr w.heap.size n a b i X Y B mp))
  case atStart => exact ⟨0, [], rfl, Nat.zero_le _, by omega, HST⟩
  case round =>
    clear HST
    obtain ⟨i, mp, rfl, hi, hg, HR⟩ := hrel
    by_cases hlt : i < n
    · have HD : Hid (DP (X i, Y i)) := Lib.hid ⟨nat40 (Nat.lt_of_le_of_lt (BX.out i) (by omega)), nat40 (Nat.lt_of_le_of_lt (BY.out i) (by omega))⟩
      by_cases hia : i = a
      · have hne1 : ((i : Int) == (a : Int)) = true := by simp; omega
        have HR' := Lib.hid (HR.out.skip (.inl hia))
        clear hia
        go_wp2
        go_roundg (n - (i + 1))
        case measure => omega
        case rel => exact ⟨i + 1, mp, rfl, by omega, Nat.le_refl _, HR'⟩
      · have hne1 : ((i : Int) == (a : Int)) = false := by simp; omega
        by_cases hib : i = b
        · have hne2 : ((i : Int) == (b : Int)) = true := by simp; omega
          have HR' := Lib.hid (HR.out.skip (.inr hib))
          clear hib
          go_wp2
          go_roundg (n - (i + 1))
          case measure => omega
          case rel => exact ⟨i + 1, mp, rfl, by omega, Nat.le_refl _, HR'⟩
        · have hne2 : ((i : Int) == (b : Int)) = false := by simp; omega
          have x1 := (RX.out.keep HR.out.keep (fun e => e)).cell (fints_get _ hlt)
          have x2 := (RY.out.keep HR.out.keep (fun e => e)).cell (fints_get _ hlt)
          have x3 := (RB.out.keep HR.out.keep (fun e => e)).cell (fints_get _ hlt)
          have l1 := World.block_lt_of_cell? wr _ x1
          have l2 := World.block_lt_of_cell? wr _ x2
          have l3 := World.block_lt_of_cell? wr _ x3
          obtain ⟨get, hget, hinv, hmap, hk, hle⟩ := HR.out
          have hmap1 := (hmap.alloc (.cells #[.int .i64 (X i : Nat), .int .i64 (Y i : Nat)] 31)).drew
          have hlook := hmap1.look encP_enc Try.underlying135 (zero_int _) HD.out true
          rw [hget] at hlook
          cases hg2 : get (X i, Y i) with
          | none =>
            rw [hg2] at hlook
            simp only [if_true, Option.map_none, Option.getD_none, Option.isSome_none, encP] at hlook
            obtain ⟨w2, hrun2, hm2, hk2⟩ := hmap1.drew.store encP_enc Try.underlying135 HD.out (.int .i64 (B i : Nat))
            simp only [encP] at hrun2
            have HN := Lib.hid (PRel.store (n := n) hget hinv hk hle (fun e => hia e) (fun e => hib e) hg2 hm2 hk2)
            clear hg2 hm2 hk2 hmap1 hmap hk hle hget hinv HD hia hib
            go_wp2_with fail
            go_region
            go_wp2
            go_region
            go_wp2
            go_roundg (n - (i + 1))
            case measure => omega
            case rel => exact ⟨i + 1, _, rfl, by omega, Nat.le_refl _, HN⟩
          | some v =>
            rw [hg2] at hlook
            simp only [if_true, Option.map_some, Option.getD_some, Option.isSome_some, encP, valN] at hlook
            by_cases hv : v = B i
            · have hne : ((v : Int) != (B i : Int)) = false := by simp; omega
              have HN := Lib.hid (PRel.same (n := n) hget hinv hmap1 hk hle (by rw [hg2, hv]))
              clear hg2 hmap1 hmap hk hle hget hinv HD hia hib hv
              go_wp2_with fail
              go_region
              go_wp2
              go_roundg (n - (i + 1))
              case measure => omega
              case rel => exact ⟨i + 1, _, rfl, by omega, Nat.le_refl _, HN⟩
            · have hne : ((v : Int) != (B i : Int)) = true := by simp; omega
              have hP : PartsP n a b X Y B := hinv.found hlt hia hib hg2 hv
              have HP : Hid (PartsPost w n a b X Y B (.returned (.bool true)) (wr.alloc (.cells #[.int .i64 (X i : Nat), .int .i64 (Y i : Nat)] 31)).drew) :=
                Lib.hid ⟨true, by simp [hP], rfl, hk.trans ((Keep.refl Nb wr).alloc _).drew⟩
              clear hg2 hmap1 hmap hk hle hget hinv HD hia hib hv hP
              go_wp2_with fail
              go_region
              go_wp2
              go_ret
              exact HP.out
    · obtain rfl : i = n := by omega
      have HP : Hid (PartsPost w i a b X Y B (.returned (.bool false)) wr) := Lib.hid (by
        obtain ⟨get, _, hinv, _, hk, _⟩ := HR.out
        exact ⟨false, by simp [hinv.none], rfl, hk⟩)
      clear HR
      go_wp2
      go_ret
      exact HP.out

end Go.Proofs.Ytkpoobnldgfapaa
