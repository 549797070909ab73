/- isthmusref: rooms, push, all. -/
import Derived.Test.YtkpoobnldgfapaaDoorRRoom1
import Derived.Test.YtkpoobnldgfapaaDoorA5
import Derived.RegionTactic
import Derived.BigRegion
import Derived.Deep.QuietTactic
import Derived.BigQuiet
set_option linter.unusedVariables false
set_option linter.unusedSimpArgs false
namespace Go.Proofs.YtkpoobnldgfapaaDoor
open Go.RowKit Pl

theorem elem_bool : ElemT Tryd.prog 4 (.bool false) 1 1 := by unfold ElemT; kernel_rfl

def RoomsPost (w : World) (N : Nat) (e : Ending) (w' : World) : Prop :=
  ∃ (g : Nat) (rb : Nat → Nat), e = .returned (.slice (some ⟨g, 0, none⟩) N N) ∧ Room (fun k => w.heap.size ≤ k) w' g N rb (fun _ _ => 0) ∧ Keep Nb w w'

set_option maxRecDepth 100000 in
set_option maxHeartbeats 1000000 in
theorem rooms_any (w : World) (N : Nat) (hN : 0 < N) (hn : N ≤ 100) : Calls Tryd.prog 42 #[.int .i64 N] w (RoomsPost w N) := by
  obtain ⟨w1, q1, q2, q3⟩ := run_make1 (P := Tryd.prog) w 88 30 Tryd.underlying88 elem_ints rfl N (by omega) (by omega)
  obtain ⟨g, hg⟩ : ∃ g, w.heap.size = g := ⟨_, rfl⟩
  have hrow : Row w1 g 30 (List.replicate N (.slice none 0 0)) := by
    obtain ⟨g', e, _, _, h⟩ := q2.pos hN
    cases e
    rw [← hg]; exact h
  rw [hg] at q1
  have H0 : Hid (∃ rb, RoomI (fun k => w.heap.size ≤ k) w1 g N 0 rb (fun _ _ => 0) ∧ Keep Nb w w1) := Lib.hid ⟨fun _ => 0, ⟨by rw [rheads_zero]; exact hrow, fun x hx => absurd hx (by omega), by omega, fun x hx => absurd hx (by omega), fun x hx => absurd hx (by omega), fun x y hx => absurd hx (by omega)⟩, q3⟩
  have HG := Lib.hid hg
  clear q2 q3 hrow hg
  go_enter Tryd.func42, Tryd.ntmps42
  go_wp2_with fail
  clear q1
  go_loopg [9] N (fun kx s9 wr => ∃ (i : Nat), s9 = .int .i64 i ∧ i ≤ N ∧ N - i ≤ kx ∧ Hid (∃ rb, RoomI (fun k => w.heap.size ≤ k) wr g N i rb (fun _ _ => 0) ∧ Keep Nb w wr))
  case atStart => exact ⟨0, rfl, Nat.zero_le _, by omega, H0⟩
  case round =>
    clear H0
    obtain ⟨i, rfl, hi, hgk, HR⟩ := hrel
    by_cases hlt : i < N
    · obtain ⟨rb, hR, hK⟩ := HR.out
      obtain ⟨w2, q1, q2, q3⟩ := run_make1 (P := Tryd.prog) wr 30 3 Tryd.underlying30 elem_int rfl N (by omega) (by omega)
      have hrow : Row w2 wr.heap.size 3 (zints N (fun _ => 0)) := by
        obtain ⟨g', e, _, _, h⟩ := q2.pos hN
        cases e
        rw [zints_zero]; exact h
      have hz := hK.size
      have HN : Hid (∃ rb, RoomI (fun k => w.heap.size ≤ k) (w2.setCell ⟨g, i, none⟩ (.slice (some ⟨wr.heap.size, 0, none⟩) N N)) g N (i + 1) rb (fun _ _ => 0) ∧ Keep Nb w (w2.setCell ⟨g, i, none⟩ (.slice (some ⟨wr.heap.size, 0, none⟩) N N))) := Lib.hid
        ⟨_, hR.more hlt q3 hrow (Nat.le_refl _) hz, (hK.trans q3).setCell (.inr (by rw [HG.out]; exact Nat.le_refl _)) _⟩
      have hh := hR.head.keep q3 (fun e => e)
      have e0 : ∃ v, w2.cell? ⟨g, i, none⟩ = some v := by
        have h1 : i < (rheads N rb i).length := by rw [rheads_length]; exact hlt
        exact ⟨_, hh.cell (List.getElem?_eq_getElem h1)⟩
      obtain ⟨v0, e0⟩ := e0
      have ef := hh.frozen i none
      clear hh hR hK q2 q3 hrow HR
      go_wp2_with fail
      go_roundg (N - (i + 1))
      case measure => omega
      case rel => exact ⟨i + 1, rfl, by omega, Nat.le_refl _, HN⟩
    · obtain rfl : i = N := by omega
      have HP : Hid (RoomsPost w i (.returned (.slice (some ⟨g, 0, none⟩) i i)) wr) := Lib.hid (by
        obtain ⟨rb, h1, h2⟩ := HR.out
        exact ⟨g, rb, rfl, h1, h2⟩)
      clear HR
      go_wp2_with fail
      go_ret
      exact HP.out

/-- Who was not seen yet: how many. -/
def unseen (N : Nat) (s : Nat → Bool) : Nat := cnt N (fun v => !s v)

theorem unseen_lt {N x : Nat} {s s' : Nat → Bool} (hx : x < N) (h0 : s x = false) (h1 : s' x = true) (hg : ∀ v, s v = true → s' v = true) : unseen N s' < unseen N s := by
  unfold unseen
  have h2 : cnt N (fun v => !s v) = cnt N (fun v => !s v && decide (v ≠ x)) + 1 := cnt_remove hx (by simp [h0]) (fun z _ => rfl)
  have h3 : cnt N (fun v => !s' v) ≤ cnt N (fun v => !s v && decide (v ≠ x)) := by
    unfold cnt
    refine List.countP_mono_left fun v _ hv => ?_
    have hv' : s' v = false := by simpa using hv
    have : s v = false := by
      cases e : s v with
      | false => rfl
      | true => rw [hg v e] at hv'; cases hv'
    have hne : v ≠ x := fun e => by rw [e, h1] at hv'; cases hv'
    simp [this, hne]
  omega

theorem unseen_pos {N x : Nat} {s : Nat → Bool} (hx : x < N) (h0 : s x = false) : 0 < unseen N s := cnt_lt_of hx (by simp [h0])

/-- The rooms, and who was seen. -/
structure PS (w : World) (g N : Nat) (rb : Nat → Nat) (sb : Nat) (seen : Nat → Bool) (r : Nat → Nat → Int) : Prop where
  room : Room (fun _ => True) w g N rb r
  seen : Row w sb 4 (zbools N seen)
  sg : sb ≠ g
  sr : ∀ x, x < N → rb x ≠ sb

def PK (rb : Nat → Nat) (N sb : Nat) : Nat → Prop := fun k => k = sb ∨ ∃ x, x < N ∧ k = rb x

theorem PS.setSeen {w : World} {g N : Nat} {rb : Nat → Nat} {sb : Nat} {seen : Nat → Bool} {r : Nat → Nat → Int} (h : PS w g N rb sb seen r) {x : Nat} (hx : x < N) (v : Bool) : PS (w.setCell ⟨sb, x, none⟩ (.bool v)) g N rb sb (upd seen x v) r := by
  refine ⟨⟨h.room.head.set_other (p := ⟨sb, x, none⟩) h.sg _, fun y hy => (h.room.row y hy).set_other (p := ⟨sb, x, none⟩) (fun e => h.sr y hy e.symm) _, trivial, fun _ _ => trivial, h.room.ne, h.room.inj⟩, ?_, h.sg, h.sr⟩
  rw [← zbools_set]
  exact h.seen.set (by rw [zbools_length]; exact hx) _

theorem PS.setRoom {w : World} {g N : Nat} {rb : Nat → Nat} {sb : Nat} {seen : Nat → Bool} {r : Nat → Nat → Int} (h : PS w g N rb sb seen r) {x y : Nat} (hx : x < N) (hy : y < N) (v : Int) : PS (w.setCell ⟨rb x, y, none⟩ (.int .i64 v)) g N rb sb seen (upd2 r x y v) :=
  ⟨h.room.set hx hy v, h.seen.set_other (p := ⟨rb x, y, none⟩) (h.sr x hx) _, h.sg, h.sr⟩

def PushPost (w : World) (g N : Nat) (rb : Nat → Nat) (sb x to : Nat) (seen0 : Nat → Bool) (r : Nat → Nat → Int) (e : Ending) (w' : World) : Prop :=
  ∃ (ok : Bool) (seen : Nat → Bool) (r' : Nat → Nat → Int), e = .returned (.bool ok) ∧ Pushed N to seen0 r x ok seen r' ∧ PS w' g N rb sb seen r' ∧ Keep (PK rb N sb) w w'

set_option maxRecDepth 100000 in
set_option maxHeartbeats 2000000 in
theorem push_any (g N to : Nat) (rb : Nat → Nat) (sb : Nat) (hN : N ≤ 100) (hto : to < N) (k : Nat) : ∀ (w : World) (seen0 : Nat → Bool) (r : Nat → Nat → Int) (x : Nat), unseen N seen0 ≤ k → x < N → seen0 x = false → (∀ u v, 0 ≤ r u v ∧ r u v ≤ 1000000) → PS w g N rb sb seen0 r →
    Calls Tryd.prog 65 #[.slice (some ⟨g, 0, none⟩) N N, .int .i64 x, .int .i64 to, .slice (some ⟨sb, 0, none⟩) N N] w (PushPost w g N rb sb x to seen0 r) := by
  induction k with
  | zero => intro w seen0 r x hk hx h0; have := unseen_pos hx h0; omega
  | succ k ih =>
    intro w seen0 r x hk hx h0 hr hS
    have IH := Lib.hid ih
    have HRB := Lib.hid hr
    have HS := Lib.hid hS
    have HK := Lib.hid hk
    have HX0 := Lib.hid h0
    clear ih hr hS hk h0
    by_cases hxt : x = to
    · subst hxt
      go_enter Tryd.func65, Tryd.ntmps65
      go_wp2_with fail
      go_ret
      exact ⟨true, seen0, r, rfl, Pushed.there N seen0 r x, HS.out, Keep.refl _ _⟩
    · have hne : ((x : Int) == (to : Int)) = false := by simp; omega
      have s0 := HS.out.seen.cell (zbools_get seen0 hx)
      have sf := HS.out.seen.frozen x none
      have H0 : Hid (Pushing N to seen0 r x 0 (upd seen0 x true) ∧ PS (w.setCell ⟨sb, x, none⟩ (.bool true)) g N rb sb (upd seen0 x true) r ∧ Keep (PK rb N sb) w (w.setCell ⟨sb, x, none⟩ (.bool true))) := Lib.hid
        ⟨Pushing.start r hxt, HS.out.setSeen hx true, (Keep.refl _ w).setCell (.inl (.inl rfl)) _⟩
      have HXT := Lib.hid hxt
      clear hxt
      go_enter Tryd.func65, Tryd.ntmps65
      go_wp2_with fail
      clear s0 sf hne
      go_loopg [18] N (fun kx s18 wr => ∃ (j : Nat) (seen : Nat → Bool), s18 = .int .i64 j ∧ j ≤ N ∧ N - j ≤ kx ∧ Hid (Pushing N to seen0 r x j seen ∧ PS wr g N rb sb seen r ∧ Keep (PK rb N sb) w wr))
      case atStart => exact ⟨0, _, rfl, Nat.zero_le _, by omega, H0⟩
      case round =>
        clear H0
        obtain ⟨j, seen, rfl, hj, hgk, HR⟩ := hrel
        obtain ⟨wr0, rfl⟩ : ∃ w' : World, w' = wr := ⟨_, rfl⟩
        by_cases hlt : j < N
        · have c0 := HR.out.2.1.room.hcell hx hx
          have c1 := HR.out.2.1.room.cell hx hlt
          have c2 := HR.out.2.1.seen.cell (zbools_get seen hlt)
          obtain ⟨rv, hrv⟩ : ∃ rv, r x j = rv := ⟨_, rfl⟩
          have hrb := HRB.out x j
          rw [hrv] at c1 hrb
          obtain ⟨sv, hsv⟩ : ∃ sv, seen j = sv := ⟨_, rfl⟩
          rw [hsv] at c2
          have HRV := Lib.hid hrv
          have HSV := Lib.hid hsv
          clear hrv hsv
          by_cases hp : 0 < rv
          · cases sv with
            | true =>
              have HN : Hid (Pushing N to seen0 r x (j + 1) seen ∧ PS wr0 g N rb sb seen r ∧ Keep (PK rb N sb) w wr0) := Lib.hid ⟨HR.out.1.skip (.inr HSV.out), HR.out.2⟩
              clear HR
              go_wp2_with fail
              go_roundg (N - (j + 1))
              case measure => omega
              case rel => exact ⟨j + 1, seen, rfl, by omega, Nat.le_refl _, HN⟩
            | false =>
              have hun : unseen N seen ≤ k := by
                have := unseen_lt hx HX0.out HR.out.1.self HR.out.1.grow
                have := HK.out
                omega
              have HC := Lib.hid (IH.out wr0 seen r j hun hlt HSV.out HRB.out HR.out.2.1)
              have HP0 := Lib.hid hp
              clear hun
              go_wp2_with fail
              refine HC.out.mono ?_
              rintro e w2 ⟨ok, seen2, r2, rfl, hpu, hps, hk2⟩
              have HPU := Lib.hid hpu
              have HPS := Lib.hid hps
              have HK2 := Lib.hid (HR.out.2.2.trans hk2)
              clear hpu hps hk2 HC c0 c1 c2
              cases ok with
              | false =>
                have HN : Hid (Pushing N to seen0 r x (j + 1) seen2 ∧ PS w2 g N rb sb seen2 r ∧ Keep (PK rb N sb) w w2) := Lib.hid ⟨HR.out.1.fail HPU.out, by
                  have e : r2 = r := by funext u v; exact (HPU.out.no rfl).1 u v
                  have := HPS.out
                  rwa [e] at this, HK2.out⟩
                clear HR HPU HPS HK2
                go_wp2_with fail
                go_roundg (N - (j + 1))
                case measure => omega
                case rel => exact ⟨j + 1, seen2, rfl, by omega, Nat.le_refl _, HN⟩
              | true =>
                have hxj : x ≠ j := fun e => by have := HR.out.1.self; rw [e, HSV.out] at this; cases this
                have c0 := HPS.out.room.hcell hx hx
                have c1 := HPS.out.room.cell hx hlt
                have f1 := HPS.out.room.frozen hx j
                obtain ⟨p, hp2⟩ : ∃ p, r2 x j = p := ⟨_, rfl⟩
                have hpb : 0 ≤ p ∧ p ≤ 1000001 := by
                  rw [← hp2]
                  have h1 := HPU.out.pos (fun u v => (HRB.out u v).1) x j
                  have h2 := HPU.out.up x j
                  have h3 := HRB.out x j
                  omega
                rw [hp2] at c1
                have HS3 := Lib.hid (HPS.out.setRoom hx hlt (p - 1))
                obtain ⟨r3, hr3⟩ : ∃ r3, upd2 r2 x j (p - 1) = r3 := ⟨_, rfl⟩
                rw [hr3] at HS3
                have d0 := HS3.out.room.hcell hlt hlt
                have d1 := HS3.out.room.cell hlt hx
                have g1 := HS3.out.room.frozen hlt x
                obtain ⟨q, hq2⟩ : ∃ q, r3 j x = q := ⟨_, rfl⟩
                have hqb : 0 ≤ q ∧ q ≤ 1000001 := by
                  rw [← hq2, ← hr3, upd2_ne (fun h => hxj h.1.symm)]
                  have h1 := HPU.out.pos (fun u v => (HRB.out u v).1) j x
                  have h2 := HPU.out.up j x
                  have h3 := HRB.out j x
                  omega
                rw [hq2] at d1
                have HF : Hid (PushPost w g N rb sb x to seen0 r (.returned (.bool true)) ((w2.setCell ⟨rb x, j, none⟩ (.int .i64 (p - 1))).setCell ⟨rb j, x, none⟩ (.int .i64 (q + 1)))) := Lib.hid (by
                  have hst : step2 r2 x j = upd2 r3 j x (q + 1) := by unfold step2; rw [hp2, hr3, hq2]
                  refine ⟨true, seen2, step2 r2 x j, rfl, HR.out.1.goes hx hlt HX0.out (by rw [HRV.out]; exact HP0.out) HSV.out HPU.out, ?_, (HK2.out.setCell (.inl (.inr ⟨x, hx, rfl⟩)) _).setCell (.inl (.inr ⟨j, hlt, rfl⟩)) _⟩
                  rw [hst]
                  exact HS3.out.setRoom hlt hx (q + 1))
                clear HR HPU HPS HK2 HS3 hp2 hr3 hq2
                go_wp2_with fail
                go_ret
                exact HF.out
          · have HN : Hid (Pushing N to seen0 r x (j + 1) seen ∧ PS wr0 g N rb sb seen r ∧ Keep (PK rb N sb) w wr0) := Lib.hid ⟨HR.out.1.skip (.inl (by rw [HRV.out]; exact hp)), HR.out.2⟩
            clear HR
            go_wp2_with fail
            go_roundg (N - (j + 1))
            case measure => omega
            case rel => exact ⟨j + 1, seen, rfl, by omega, Nat.le_refl _, HN⟩
        · obtain rfl : j = N := by omega
          have HF : Hid (PushPost w g j rb sb x to seen0 r (.returned (.bool false)) wr0) := Lib.hid ⟨false, seen, r, rfl, HR.out.1.stuck, HR.out.2.1, HR.out.2.2⟩
          clear HR
          go_wp2_with fail
          go_ret
          exact HF.out

def RAllPost (w : World) (N : Nat) (rb : Nat → Nat) (s t most : Nat) (r : Nat → Nat → Int) (e : Ending) (w' : World) : Prop :=
  ∃ v : Nat, e = .returned (.int .i64 v) ∧ v ≤ most ∧ MinCap (cutM N r) s t most v ∧ Keep (Rb rb N) w w'

set_option maxRecDepth 100000 in
set_option maxHeartbeats 1000000 in
theorem rall_any (w : World) (g N s t most : Nat) (rb : Nat → Nat) (r : Nat → Nat → Int) (hN : N ≤ 100) (hs : s < N) (ht : t < N) (hm : most ≤ 120) (hr : ∀ u v, 0 ≤ r u v ∧ r u v ≤ 1000) (hR : Room (fun _ => True) w g N rb r) :
    Calls Tryd.prog 43 #[.slice (some ⟨g, 0, none⟩) N N, .int .i64 s, .int .i64 t, .int .i64 most] w (RAllPost w N rb s t most r) := by
  have HRB := Lib.hid hr
  have H0 : Hid (∃ r', Gone N s t r r' 0 ∧ Room (fun _ => True) w g N rb r' ∧ Keep (Rb rb N) w w) := Lib.hid ⟨r, Gone.start N s t (fun u v => (hr u v).1), hR, Keep.refl _ _⟩
  clear hr hR
  go_enter Tryd.func43, Tryd.ntmps43
  go_wp2_with fail
  go_loopg [9] most (fun kx s9 wr => ∃ (n : Nat), s9 = .int .i64 n ∧ n ≤ most ∧ most - n ≤ kx ∧ Hid (∃ r', Gone N s t r r' n ∧ Room (fun _ => True) wr g N rb r' ∧ Keep (Rb rb N) w wr))
  case atStart => exact ⟨0, rfl, Nat.zero_le _, by omega, H0⟩
  case round =>
    clear H0
    obtain ⟨n, rfl, hn, hgk, HR⟩ := hrel
    obtain ⟨wr0, rfl⟩ : ∃ w' : World, w' = wr := ⟨_, rfl⟩
    by_cases hlt : n < most
    · obtain ⟨r', hG, hRm, hK⟩ := HR.out
      obtain ⟨w2, q1, q2, q3⟩ := run_make1 (P := Tryd.prog) wr0 123 4 Tryd.underlying123 elem_bool rfl N (by omega) (by omega)
      have hrow : Row w2 wr0.heap.size 4 (zbools N (fun _ => false)) := by
        obtain ⟨g', e, _, _, h⟩ := q2.pos (by omega)
        cases e
        rw [zbools_no]; exact h
      have hb : ∀ u v, 0 ≤ r' u v ∧ r' u v ≤ 1000000 := fun u v => by
        have h1 := hG.pos u v
        have h2 := hG.up u v
        have h3 := HRB.out u v
        omega
      have hps : PS w2 g N rb wr0.heap.size (fun _ => false) r' := ⟨hRm.keep q3 (fun _ _ e => e), hrow, by have := hRm.head.lt; omega, fun x hx => by have := (hRm.row x hx).lt; omega⟩
      have HC := Lib.hid (push_any g N t rb wr0.heap.size hN ht (unseen N (fun _ => false)) w2 (fun _ => false) r' s (Nat.le_refl _) hs rfl hb hps)
      have HG := Lib.hid hG
      have HK := Lib.hid hK
      have HQ := Lib.hid q3
      clear hG hRm hK q2 q3 hrow hb hps HR
      go_wp2_with fail
      refine HC.out.mono ?_
      rintro e w3 ⟨ok, seen, r2, rfl, hpu, hps, hk3⟩
      have HPU := Lib.hid hpu
      have HPS := Lib.hid hps.room
      have HK3 : Hid (Keep (Rb rb N) w w3) := Lib.hid ((HK.out.trans HQ.out.of_nb).trans' hk3 (fun _ _ h => h) (fun k hk h => by
        rcases h with h | h
        · have := HK.out.size; omega
        · exact h))
      clear hpu hps hk3 HC q1
      cases ok with
      | true =>
        have HN : Hid (∃ r', Gone N s t r r' (n + 1) ∧ Room (fun _ => True) w3 g N rb r' ∧ Keep (Rb rb N) w w3) := Lib.hid ⟨r2, HG.out.more HPU.out, HPS.out, HK3.out⟩
        clear HG HPU HPS HK HQ HK3
        go_wp2_with fail
        go_roundg (most - (n + 1))
        case measure => omega
        case rel => exact ⟨n + 1, rfl, by omega, Nat.le_refl _, HN⟩
      | false =>
        have HF : Hid (RAllPost w N rb s t most r (.returned (.int .i64 n)) w3) := Lib.hid ⟨n, rfl, hn, HG.out.stuck hn HPU.out, HK3.out⟩
        clear HG HPU HPS HK HQ HK3
        go_wp2_with fail
        go_ret
        exact HF.out
    · obtain rfl : n = most := by omega
      have HF : Hid (RAllPost w N rb s t n r (.returned (.int .i64 n)) wr0) := Lib.hid (by
        obtain ⟨r', h1, _, h3⟩ := HR.out
        exact ⟨n, rfl, hn, h1.full, h3⟩)
      clear HR
      go_wp2_with fail
      go_ret
      exact HF.out

end Go.Proofs.YtkpoobnldgfapaaDoor
