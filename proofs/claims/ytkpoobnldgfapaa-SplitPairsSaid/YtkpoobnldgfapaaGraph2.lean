/- graph: slices.BinarySearchFunc over the edges; find. -/
import Derived.Test.YtkpoobnldgfapaaGraph1
import Derived.Deep.LoopGhost
import Derived.WalkArith
namespace Go.Proofs.Ytkpoobnldgfapaa
open Go.RowKit Pl

/-- How far the search has come. -/
def BRel (w : World) (es : List E) (t : Int) (lo hi : Nat) (wr : World) : Prop :=
  Keep Nb w wr ∧ (∀ k e, k < lo → es[k]? = some e → (e.id : Int) < t) ∧ (∀ k e, hi ≤ k → es[k]? = some e → t ≤ (e.id : Int))

theorem BRel.up {w : World} {es : List E} {t : Int} {lo hi m : Nat} {wr w2 : World} {e : E} (h : BRel w es t lo hi wr) (hs : Sorted es) (he : es[m]? = some e) (hl : (e.id : Int) < t) (k : Keep Nb wr w2) : BRel w es t (m + 1) hi w2 := by
  refine ⟨h.1.trans k, fun j f hj hf => ?_, h.2.2⟩
  by_cases hjm : j = m
  · subst hjm; rw [he] at hf; cases hf; exact hl
  · have := hs.lt hf he (by omega); omega

theorem BRel.down {w : World} {es : List E} {t : Int} {lo hi m : Nat} {wr w2 : World} {e : E} (h : BRel w es t lo hi wr) (hs : Sorted es) (he : es[m]? = some e) (hl : ¬ (e.id : Int) < t) (k : Keep Nb wr w2) : BRel w es t lo m w2 := by
  refine ⟨h.1.trans k, h.2.1, fun j f hj hf => ?_⟩
  by_cases hjm : j = m
  · subst hjm; rw [he] at hf; cases hf; omega
  · have := hs.lt he hf (by omega); omega

def BPost (w : World) (es : List E) (t : Int) (e : Ending) (w' : World) : Prop :=
  e = .returned (.tuple #[.int .i64 (posOf es t : Nat), .bool (hasId es t)]) ∧ Keep Nb w w'

theorem cmp_neg (i : Nat) (t : Int) : cmpId i t < 0 ↔ (i : Int) < t := by
  unfold cmpId; split
  · simp; assumption
  · split
    · simp; omega
    · simp; omega
theorem cmp_zero (i : Nat) (t : Int) : cmpId i t = 0 ↔ (i : Int) = t := by
  unfold cmpId; split
  · simp; omega
  · split
    · simp; omega
    · simp; omega

set_option maxRecDepth 100000 in
set_option maxHeartbeats 1000000 in
theorem bsf_any (F : Nat → Prop) (w : World) (o : Option Addr) (n c : Nat) (es : List E) (t : Int) (hS : Sl F w 54 3 o n c (ecs es)) (hs : Sorted es) (hn : n ≤ 1000) :
    Calls Try.prog 93 #[.slice o n c, .int .i64 t, .func (.func 94) #[] #[]] w (BPost w es t) := by
  have hlen : n = es.length := by have := hS.len; rw [ecs_length] at this; omega
  have HS := Lib.hid hS
  have HO := Lib.hid hs
  have HP : Hid (∀ i wr, i ≤ n → BRel w es t i i wr → (match es[i]? with | some e => decide ((e.id : Int) = t) | none => false) = hasId es t ∧ posOf es t = i ∧ Keep Nb w wr) :=
    Lib.hid (fun i wr hi h => ⟨(hasId_at hs h.2.1 h.2.2).symm, posOf_eq (by omega) h.2.1 h.2.2, h.1⟩)
  have HB0 : Hid (BRel w es t 0 n w) := Lib.hid ⟨Keep.refl Nb w, fun _ _ h => by omega, fun k e hk he => by have := (List.getElem?_eq_some_iff.1 he).1; omega⟩
  have HLen := Lib.hid hlen
  clear hS hs hlen
  go_enter Try.func93, Try.ntmps93
  go_wp2
  go_loopg [9, 10] n (fun kx s9 s10 wr => ∃ lo hi : Nat, s9 = .int .i64 lo ∧ s10 = .int .i64 hi ∧ lo ≤ hi ∧ hi ≤ n ∧ hi - lo ≤ kx ∧ Hid (BRel w es t lo hi wr))
  case atStart => exact ⟨0, n, rfl, rfl, Nat.zero_le _, Nat.le_refl _, by omega, HB0⟩
  case round =>
    clear HB0
    obtain ⟨lo, hi, rfl, rfl, hlh, hin, hg, HB⟩ := hrel
    by_cases hlt : lo < hi
    · obtain ⟨g, ho, _, hnc, hrow⟩ := HS.out.pos (by omega)
      subst ho
      have hm : (lo + hi) / 2 < es.length := by have := HLen.out; omega
      have he := List.getElem?_eq_getElem hm
      generalize es[(lo + hi) / 2]'hm = e at he
      have hE := (hrow.edges.keep HB.out.1 id)
      have c1 := hE.id _ _ he
      have c2 := hE.a _ _ he
      have c3 := hE.b _ _ he
      have HE := Lib.hid he
      clear hE he hrow
      have HX := Lib.hid (show ((lo : Int) + (hi : Int)) / 2 = (((lo + hi) / 2 : Nat) : Int) by omega)
      by_cases hlt2 : (e.id : Int) < t
      · have hc : cmpId e.id t < 0 := (cmp_neg _ _).2 hlt2
        have HL := Lib.hid hlt2
        clear hlt2
        go_wp2_with (refine (find1_any e.id e.a e.b t _).mono ?_; rintro e1 w1 ⟨rfl, hk1⟩; have HK := Lib.hid hk1; clear hk1)
        go_roundg (hi - ((lo + hi) / 2 + 1))
        case measure => omega
        case rel => exact ⟨(lo + hi) / 2 + 1, hi, by rw [HX.out]; rfl, rfl, by omega, hin, Nat.le_refl _, Lib.hid (HB.out.up HO.out HE.out HL.out HK.out)⟩
      · have hc : ¬ cmpId e.id t < 0 := fun h => hlt2 ((cmp_neg _ _).1 h)
        have HL := Lib.hid hlt2
        clear hlt2
        go_wp2_with (refine (find1_any e.id e.a e.b t _).mono ?_; rintro e1 w1 ⟨rfl, hk1⟩; have HK := Lib.hid hk1; clear hk1)
        go_roundg ((lo + hi) / 2 - lo)
        case measure => omega
        case rel => exact ⟨lo, (lo + hi) / 2, rfl, by rw [HX.out], by omega, by omega, Nat.le_refl _, Lib.hid (HB.out.down HO.out HE.out (Int.not_lt.2 HL.out) HK.out)⟩
    · have e0 : lo = hi := by omega
      subst e0
      obtain ⟨hh, hp, hk⟩ := HP.out _ _ hin HB.out
      by_cases hlt3 : lo < n
      · obtain ⟨g, ho, _, hnc, hrow⟩ := HS.out.pos (by omega)
        subst ho
        have hm : lo < es.length := by have := HLen.out; omega
        have he := List.getElem?_eq_getElem hm
        generalize es[lo]'hm = e at he
        rw [he] at hh
        simp only at hh
        have hE := (hrow.edges.keep HB.out.1 id)
        have c1 := hE.id _ _ he
        have c2 := hE.a _ _ he
        have c3 := hE.b _ _ he
        have hz : (cmpId e.id t = 0) = ((e.id : Int) = t) := propext (cmp_zero _ _)
        have HH := Lib.hid hh
        have HPo := Lib.hid hp
        have HK := Lib.hid hk
        have HZ := Lib.hid hz
        clear hE he hrow hh hp hk hz
        go_wp2_with (refine (find1_any e.id e.a e.b t _).mono ?_; rintro e1 w1 ⟨rfl, hk1⟩; have HK1 := Lib.hid hk1; clear hk1)
        go_ret2
        exact ⟨by rw [HPo.out, ← HH.out]; simp; rw [Bool.eq_iff_iff, beq_iff_eq, decide_eq_true_iff, HZ.out], HK.out.trans HK1.out⟩
      · have hn0 : es[lo]? = none := by have := HLen.out; simp; omega
        rw [hn0] at hh
        have HH := Lib.hid hh
        have HPo := Lib.hid hp
        have HK := Lib.hid hk
        clear hh hp hk hn0
        go_wp2
        go_ret2
        exact ⟨by rw [HPo.out, ← HH.out]; rfl, HK.out⟩

end Go.Proofs.Ytkpoobnldgfapaa
