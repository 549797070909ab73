/- isthmusref: Whole, In. -/
import Derived.Test.YtkpoobnldgfapabGreatDoorRTwos
import Derived.Test.YtkpoobnldgfapabGreatDoorE1
import Derived.Test.YtkpoobnldgfapabGreatDoorLSame
import Derived.Deep.RegionWith
import Derived.Deep.DeepCutAuto
set_option linter.unusedVariables false
set_option linter.unusedSimpArgs false
namespace Go.Proofs.YtkpoobnldgfapabGreatDoor
open Go.RowKit Pl

set_option maxRecDepth 100000 in
theorem rwhole1_any (F : Nat → Prop) (w : World) (A n c a b : Nat) (o : Option Addr) (L : Nat → Nat) (hA : w.cell? ⟨A, 0, none⟩ = some (.slice o n c)) (hS : Sl F w 3 1 o n c (fints n L)) (ha : a < n) (hb : b < n) (hn : n ≤ 40) :
    Calls Tryz.prog 100 #[.int .i64 (a : Nat), .int .i64 (b : Nat), .pointer (some ⟨A, 0, none⟩)] w fun e w' => e = .returned (.bool (decide (L a = L b))) ∧ Keep Nb w w' := by
  obtain ⟨gq, rfl, _, hnc, hrow⟩ := hS.pos (by omega)
  have d1 := hrow.cell (fints_get L ha)
  have d2 := hrow.cell (fints_get L hb)
  obtain ⟨p, hp⟩ : ∃ p, L a = p := ⟨_, rfl⟩
  obtain ⟨r, hr⟩ : ∃ r, L b = r := ⟨_, rfl⟩
  rw [hp] at d1
  rw [hr] at d2
  rw [hp, hr]
  clear hS hrow hp hr
  by_cases hpr : p = r
  · subst hpr
    have b1 : ((p : Int) == (p : Int)) = true := by simp
    rw [decide_eq_true rfl]
    go_enter Tryz.func100, Tryz.ntmps100
    go_wp2_with fail
    go_quiet (fail)
    go_wp2_with fail
    go_ret
    exact ⟨rfl, (Keep.refl Nb w).drewN _⟩
  · have b1 : ((p : Int) == (r : Int)) = false := by simp; omega
    rw [decide_eq_false hpr]
    clear hpr
    go_enter Tryz.func100, Tryz.ntmps100
    go_wp2_with fail
    go_quiet (fail)
    go_wp2_with fail
    go_ret
    exact ⟨rfl, (Keep.refl Nb w).drewN _⟩

set_option maxRecDepth 100000 in
theorem rwhole_any (F : Nat → Prop) (w : World) (g n : Nat) (fs : List E) (hG : RGr F w g n fs) (hn : n ≤ 40) (hl : fs.length ≤ 120) (ho : Over n fs) :
    Calls Tryz.prog 33 #[.pointer (some ⟨g, 0, none⟩)] w (QPartsPost w n (labG fs)) := by
  have HG := Lib.hid hG
  have HL := Lib.hid (rlabels_any F w g n fs hG hn (by omega) ho)
  clear hG ho
  go_enter Tryz.func33, Tryz.ntmps33
  go_wp2_with fail
  refine HL.out.mono ?_
  rintro e1 w1 ⟨q, rfl, hs1, hk1⟩
  obtain ⟨A, hA⟩ : ∃ A, w1.heap.size = A := ⟨_, rfl⟩
  obtain ⟨w2, hw2⟩ : ∃ w2, w1.alloc (.cells #[.slice (some ⟨q, 0, none⟩) n n] 33) = w2 := ⟨_, rfl⟩
  have hk2 : Keep Nb w w2 := by rw [← hw2]; exact hk1.alloc _
  have hs2 := hs1.keep (show Keep Nb w1 w2 by rw [← hw2]; exact (Keep.refl Nb w1).alloc _) (fun _ _ e => e)
  have hc2 : w2.cell? ⟨A, 0, none⟩ = some (.slice (some ⟨q, 0, none⟩) n n) := by rw [← hw2, ← hA, World.cell?_alloc_at _ _ _ _ rfl]; rfl
  obtain ⟨og, cg, hM⟩ := HG.out.keep hk2 (fun _ _ e => e)
  have g0 := hM.head.cell (i := 0) rfl
  have HQ := Lib.hid (rparts_whole w2 n (labG fs) (.pointer (some ⟨A, 0, none⟩)) hn (labs_canon _ _) (fun W k a b ha hb =>
    rwhole1_any _ W A n n a b (some ⟨q, 0, none⟩) (labG fs) (k.cell hc2 (fun e => e)) (hs2.keep k (fun _ _ e => e)) ha hb hn))
  have HK := Lib.hid hk2
  clear hs1 hk1 hs2 hk2 hc2 hM
  go_upto_region 2 with (fail)
  clear hw2 hA
  go_wp2_with fail
  refine HQ.out.mono ?_
  rintro e1 wz ⟨o, m, c, rows, rfl, hMz, hkz⟩
  have HF : Hid (QPartsPost w n (labG fs) (.returned (.slice o m c)) wz) := Lib.hid ⟨o, m, c, rows, rfl, hMz.mono (fun k hk => ⟨Nat.le_trans HK.out.size hk.1, hk.2⟩), HK.out.trans hkz⟩
  clear hMz hkz
  go_wp2_with fail
  go_ret
  exact HF.out

/-- Which of both have been seen. -/
def seen2 : Bool → Bool → Int
  | false, false => 0
  | true, false => 1
  | false, true => 2
  | true, true => 3

def SeenR (p : Bool) (a : Nat) (l : List Nat) : Prop := p = true ↔ a ∈ l

theorem SeenR.next {p p' : Bool} {a x : Nat} {l l' : List Nat} (h : SeenR p a l) (hl : l' = l ++ [x]) (hp : p' = true ↔ p = true ∨ x = a) : SeenR p' a l' := by
  unfold SeenR at *
  rw [hp, hl, List.mem_append, List.mem_singleton, h]
  exact ⟨fun h => h.imp id Eq.symm, fun h => h.imp id Eq.symm⟩

set_option maxRecDepth 100000 in
set_option maxHeartbeats 2000000 in
theorem rin_any (F : Nat → Prop) (w : World) (T e : TypeId) (o : Option Addr) (m c a b : Nat) (rows : List Rw) (ll : List (List Nat)) (hM : Mat F w T e o m c rows ll) (hm : m ≤ 1000) (hb : ∀ l, l ∈ ll → l.length ≤ 1000) :
    Calls Tryz.prog 39 #[.slice o m c, .int .i64 (a : Nat), .int .i64 (b : Nat)] w fun e w' => e = .returned (.bool (decide (∃ l, l ∈ ll ∧ a ∈ l ∧ b ∈ l))) ∧ w' = w := by
  have HM := Lib.hid hM
  have HB := Lib.hid hb
  have HN := Lib.hid hM.n_eq
  clear hM hb
  go_enter Tryz.func39, Tryz.ntmps39
  go_wp2_with fail
  go_loopg [14] m (fun kx s wr => ∃ i : Nat, s = .int .i64 i ∧ i ≤ m ∧ m - i ≤ kx ∧ Hid (∀ l, l ∈ ll.take i → ¬ (a ∈ l ∧ b ∈ l)) ∧ wr = w)
  case atStart => exact ⟨0, rfl, Nat.zero_le _, by omega, Lib.hid (fun l hl => by simp at hl), rfl⟩
  case round =>
    obtain ⟨i, rfl, hi, hg, HI, rfl⟩ := hrel
    by_cases hlt : i < m
    · obtain ⟨l, hl⟩ : ∃ l, ll[i]? = some l := ⟨_, List.getElem?_eq_getElem (by rw [← HN.out]; exact hlt)⟩
      obtain ⟨go, r, rfl, hmc, hcell, hS⟩ := HM.out.lat_ hl
      have hlen : l.length = r.n := by have := hS.len; simpa using this
      have hl1000 := HB.out l (List.mem_of_getElem? hl)
      have HL : Hid (ll.take (i + 1) = ll.take i ++ [l] ∧ l ∈ ll) := Lib.hid ⟨by rw [List.take_add_one, hl]; rfl, List.mem_of_getElem? hl⟩
      obtain ⟨n, hn⟩ : ∃ n, r.n = n := ⟨_, rfl⟩
      obtain ⟨ro, hro⟩ : ∃ ro, r.o = ro := ⟨_, rfl⟩
      obtain ⟨rc, hrc⟩ : ∃ rc, r.c = rc := ⟨_, rfl⟩
      rw [hn, hro, hrc] at hcell hS
      rw [hn] at hlen
      have HS := Lib.hid hS
      have HLN := Lib.hid hlen
      have hn1000 : n ≤ 1000 := by omega
      clear hS hlen hl1000 hl hn hro hrc
      go_wp2_with fail
      go_loopg [9, 20] n (fun ky s9 s20 wr2 => ∃ (k : Nat) (p q : Bool), s9 = .int .i64 (seen2 p q) ∧ s20 = .int .i64 k ∧ k ≤ n ∧ n - k ≤ ky ∧ Hid (SeenR p a (l.take k) ∧ SeenR q b (l.take k)) ∧ wr2 = wr)
      case atStart => exact ⟨0, false, false, rfl, rfl, Nat.zero_le _, by omega, Lib.hid (by unfold SeenR; simp), rfl⟩
      case round =>
        obtain ⟨k, p, q, rfl, rfl, hk, hgk, HPQ, rfl⟩ := hrel
        by_cases hkn : k < n
        · obtain ⟨x, hx⟩ : ∃ x, l[k]? = some x := ⟨_, List.getElem?_eq_getElem (by rw [HLN.out]; exact hkn)⟩
          obtain ⟨gq, rfl, _, hnc, hrow⟩ := HS.out.pos (by omega)
          have d1 := hrow.cell (ints_get hx)
          have HX : Hid (l.take (k + 1) = l.take k ++ [x]) := Lib.hid (by rw [List.take_add_one, hx]; rfl)
          clear hrow hx
          have hnext : ∀ p' q' : Bool, (p' = true ↔ p = true ∨ x = a) → (q' = true ↔ q = true ∨ x = b) → Hid (SeenR p' a (l.take (k + 1)) ∧ SeenR q' b (l.take (k + 1))) := fun p' q' h1 h2 => Lib.hid ⟨HPQ.out.1.next HX.out h1, HPQ.out.2.next HX.out h2⟩
          have HNX := Lib.hid hnext
          clear hnext
          by_cases hxa : x = a
          · have b1 : ((x : Int) == (a : Int)) = true := by simp; omega
            by_cases hxb : x = b
            · have b2 : ((x : Int) == (b : Int)) = true := by simp; omega
              have HN2 := HNX.out true true (by simp [hxa]) (by simp [hxb])
              clear HNX HPQ
              cases p <;> cases q <;> dsimp only [seen2]
              all_goals
                go_wp2_with fail
                go_roundg (n - (k + 1))
                case measure => omega
                case rel => exact ⟨k + 1, true, true, by first | rfl | (simp [seen2]), by go_num, by omega, Nat.le_refl _, HN2, rfl⟩
            · have b2 : ((x : Int) == (b : Int)) = false := by simp; omega
              have HN2 := HNX.out true q (by simp [hxa]) (by simp [hxb])
              clear HNX HPQ
              cases p <;> cases q <;> dsimp only [seen2]
              all_goals
                go_wp2_with fail
                go_roundg (n - (k + 1))
                case measure => omega
                case rel => exact ⟨k + 1, true, _, by first | rfl | (simp [seen2]), by go_num, by omega, Nat.le_refl _, HN2, rfl⟩
          · have b1 : ((x : Int) == (a : Int)) = false := by simp; omega
            by_cases hxb : x = b
            · have b2 : ((x : Int) == (b : Int)) = true := by simp; omega
              have HN2 := HNX.out p true (by simp [hxa]) (by simp [hxb])
              clear HNX HPQ
              cases p <;> cases q <;> dsimp only [seen2]
              all_goals
                go_wp2_with fail
                go_roundg (n - (k + 1))
                case measure => omega
                case rel => exact ⟨k + 1, _, true, by first | rfl | (simp [seen2]), by go_num, by omega, Nat.le_refl _, HN2, rfl⟩
            · have b2 : ((x : Int) == (b : Int)) = false := by simp; omega
              have HN2 := HNX.out p q (by simp [hxa]) (by simp [hxb])
              clear HNX HPQ
              cases p <;> cases q <;> dsimp only [seen2]
              all_goals
                go_wp2_with fail
                go_roundg (n - (k + 1))
                case measure => omega
                case rel => exact ⟨k + 1, _, _, by first | rfl | (simp [seen2]), by go_num, by omega, Nat.le_refl _, HN2, rfl⟩
        · obtain rfl : k = n := by omega
          have HE : Hid ((p = true ↔ a ∈ l) ∧ (q = true ↔ b ∈ l)) := Lib.hid (by
            have := HPQ.out
            rwa [List.take_of_length_le (by rw [HLN.out]; exact Nat.le_refl _)] at this)
          by_cases hpq : p = true ∧ q = true
          · obtain ⟨rfl, rfl⟩ := hpq
            have HD : Hid (decide (∃ l, l ∈ ll ∧ a ∈ l ∧ b ∈ l) = true) := Lib.hid (decide_eq_true ⟨l, HL.out.2, HE.out.1.1 rfl, HE.out.2.1 rfl⟩)
            dsimp only [seen2]
            go_wp2_with fail
            go_ret
            exact ⟨by rw [HD.out]; rfl, rfl⟩
          · have HNI : Hid (∀ l', l' ∈ ll.take (i + 1) → ¬ (a ∈ l' ∧ b ∈ l')) := Lib.hid (fun l' hl' => by
              rw [HL.out.1, List.mem_append, List.mem_singleton] at hl'
              rcases hl' with h | rfl
              · exact HI.out l' h
              · exact fun ⟨h1, h2⟩ => hpq ⟨HE.out.1.2 h1, HE.out.2.2 h2⟩)
            have hne : (seen2 p q == 3) = false := by cases p <;> cases q <;> first | rfl | exact absurd ⟨rfl, rfl⟩ hpq
            clear hpq HE HPQ
            obtain ⟨z, hz⟩ : ∃ z, seen2 p q = z := ⟨_, rfl⟩
            rw [hz] at hne ⊢
            clear hz
            go_wp2_with fail
            go_roundg (m - (i + 1))
            case measure => omega
            case rel => exact ⟨i + 1, by go_num, by omega, Nat.le_refl _, HNI, rfl⟩
    · obtain rfl : i = m := by omega
      have HD : Hid (decide (∃ l, l ∈ ll ∧ a ∈ l ∧ b ∈ l) = false) := Lib.hid (decide_eq_false (by
        have := HI.out
        rw [List.take_of_length_le (by rw [HN.out]; exact Nat.le_refl _)] at this
        rintro ⟨l, h1, h2, h3⟩
        exact this l h1 ⟨h2, h3⟩))
      clear HI
      go_wp2_with fail
      go_ret
      exact ⟨by rw [HD.out]; rfl, rfl⟩

end Go.Proofs.YtkpoobnldgfapabGreatDoor
