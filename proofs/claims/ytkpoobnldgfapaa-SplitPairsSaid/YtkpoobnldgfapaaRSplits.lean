/- isthmusref: Splits, the walk. -/
import Derived.Test.YtkpoobnldgfapaaRLabels
import Derived.Deep.QuietTactic
import Derived.BigQuiet
namespace Go.Proofs.Ytkpoobnldgfapaa
open Go.RowKit Pl

def condB (a b : Nat) (X Y B : Nat → Nat) (x y : Nat) : Prop := x ≠ a ∧ x ≠ b ∧ y ≠ a ∧ y ≠ b ∧ X x = X y ∧ Y x = Y y ∧ B x ≠ B y

/-- What has been asked so far. -/
def Asked (a b : Nat) (X Y B : Nat → Nat) (x y : Nat) (yes : Bool) : Prop := yes = true ↔ ∃ k l, (k < x ∧ l < k ∨ k = x ∧ l < y) ∧ condB a b X Y B k l

theorem Asked.start (a b : Nat) (X Y B : Nat → Nat) : Asked a b X Y B 0 0 false := by
  unfold Asked
  constructor
  · intro h; cases h
  · rintro ⟨k, l, h, _⟩; omega

theorem Asked.row {a b x : Nat} {X Y B : Nat → Nat} {yes : Bool} (h : Asked a b X Y B x x yes) : Asked a b X Y B (x + 1) 0 yes := by
  unfold Asked at h ⊢
  rw [h]
  constructor
  · rintro ⟨k, l, h1, h2⟩; exact ⟨k, l, by omega, h2⟩
  · rintro ⟨k, l, h1, h2⟩; exact ⟨k, l, by omega, h2⟩

theorem Asked.no {a b x y : Nat} {X Y B : Nat → Nat} {yes : Bool} (h : Asked a b X Y B x y yes) (hn : ¬ condB a b X Y B x y) : Asked a b X Y B x (y + 1) yes := by
  unfold Asked at h ⊢
  rw [h]
  constructor
  · rintro ⟨k, l, h1, h2⟩; exact ⟨k, l, by omega, h2⟩
  · rintro ⟨k, l, h1, h2⟩
    by_cases e : k = x ∧ l = y
    · obtain ⟨rfl, rfl⟩ := e; exact absurd h2 hn
    · exact ⟨k, l, by omega, h2⟩

theorem Asked.yes {a b x y : Nat} {X Y B : Nat → Nat} {yes : Bool} (h : Asked a b X Y B x y yes) (hc : yes = true ∨ condB a b X Y B x y) : Asked a b X Y B x (y + 1) true := by
  unfold Asked at h ⊢
  refine ⟨fun _ => ?_, fun _ => rfl⟩
  rcases hc with hc | hc
  · obtain ⟨k, l, h1, h2⟩ := h.1 hc
    exact ⟨k, l, by omega, h2⟩
  · exact ⟨x, y, by omega, hc⟩

theorem Asked.all {n a b : Nat} {X Y B : Nat → Nat} {yes : Bool} (h : Asked a b X Y B n 0 yes) : yes = partsB n a b X Y B := by
  rw [Bool.eq_iff_iff, partsB_iff]
  unfold Asked at h
  rw [h]
  unfold PartsP
  constructor
  · rintro ⟨k, l, h1, h2, h3, h4, h5, h6, h7, h8⟩
    exact ⟨k, l, by omega, by omega, h2, h3, h4, h5, h6, h7, h8⟩
  · rintro ⟨k, l, hk, hl, h1, h2, h3, h4, h5, h6, h7⟩
    have hne : k ≠ l := fun e => h7 (by rw [e])
    rcases Nat.lt_or_ge l k with g | g
    · exact ⟨k, l, by omega, h1, h2, h3, h4, h5, h6, h7⟩
    · exact ⟨l, k, by omega, h3, h4, h1, h2, h5.symm, h6.symm, fun e => h7 e.symm⟩

set_option maxRecDepth 100000 in
set_option maxHeartbeats 1000000 in
theorem rsplits_any (F : Nat → Prop) (w : World) (b n : Nat) (es : List E) (hG : RGr F w b n es) (hn : n ≤ 40) (hl : es.length ≤ 1000) (ho : Over n es) :
    Calls Try.prog 21 #[.pointer (some ⟨b, 0, none⟩)] w (PairsPost w n es) := by
  have c0 : w.cell? ⟨b, 0, none⟩ = some (.int .i64 n) := by obtain ⟨o, c, hM⟩ := hG; exact hM.head.cell (i := 0) rfl
  have C0 := Lib.hid c0
  have HG := Lib.hid hG
  have HO := Lib.hid ho
  clear hG ho
  go_enter Try.func21, Try.ntmps21
  go_wp2_with fail
  go_loopg [3, 16] n (fun kx s3 s16 wr => ∃ (i : Nat) (o : Option Addr) (c : Nat), s3 = .slice o i c ∧ s16 = .int .i64 i ∧ i ≤ n ∧ n - i ≤ kx ∧ Hid (SRel1 w n es i o c wr))
  case atStart => exact ⟨0, none, 0, rfl, rfl, Nat.zero_le _, by omega, Lib.hid ⟨fun _ => ⟨none, 0, 0⟩, fun _ => [], fun _ h => absurd h (by omega), MatR.nil _ _ _ _ _ _, Keep.refl _ _⟩⟩
  case round =>
    obtain ⟨i, o, c, rfl, rfl, hi, hg, HR⟩ := hrel
    by_cases hlt : i < n
    · go_wp2_with fail
      have HGr := Lib.hid ((HG.out.keep HR.out.choose_spec.choose_spec.2.2 (fun _ _ h => h)).alloc (.cells #[.int .i64 (i : Nat)] 3))
      refine (rwithout_any F (fun _ => False) _ _ b n es none (some ⟨wr.heap.size, 0, none⟩) 0 1 [] [i] HGr.out hl (Sl.nil _ _ _ _) (Sl.built wr 3 1 1 [.int .i64 (i : Nat)] rfl (by simp only [maxLen]; omega)) (by simp) (by simp)).mono ?_
      rintro e1 w2 ⟨rfl, hG2, hk2⟩
      simp only [World.size_alloc] at hG2
      have HG2 := Lib.hid hG2
      have HK2 := Lib.hid (((Keep.refl Nb wr).alloc _).trans hk2)
      clear hG2 hk2 HGr
      go_wp2_with fail
      refine (rlabels_any (fun k => wr.heap.size + 1 ≤ k) w2 (wr.heap.size + 1) n (withoutEs [] [i] es) HG2.out hn (Nat.le_trans (withoutEs_len _ _ _) hl) (over_without HO.out _ _)).mono ?_
      rintro e1 w3 ⟨q, rfl, hS3, hk3⟩
      have HS3 := Lib.hid hS3
      have HK3 := Lib.hid hk3
      clear hS3 hk3
      obtain ⟨rw_, f, hf, hM, hk⟩ := HR.out
      obtain ⟨gq, c', w', h1, h2, h3, h4⟩ := run_app1 (P := Try.prog) 35 35 37 (by kernel_rfl) elem_ints (by rfl) (((hM.keep HK2.out (fun _ _ e => e)).keep HK3.out (fun _ _ e => e)).out) (.slice (some ⟨q, 0, none⟩) n n) rfl (by omega) (by omega)
      have HN : Hid (SRel1 w n es (i + 1) (some ⟨gq, 0, none⟩) c' w') := Lib.hid (srel1_next hf hM hk HK2.out HK3.out HS3.out h2 h3 h4)
      have H1 := Lib.hid h1
      clear h1 h2 h3 h4 hM hf hk
      go_wp2_with ((at_builtin; refine wpList_app rfl _ _ _ rfl rfl rfl H1.out ?_))
      go_roundg (n - (i + 1))
      case measure => omega
      case rel => exact ⟨i + 1, _, _, rfl, rfl, by omega, Nat.le_refl _, HN⟩
    · obtain rfl : i = n := by omega
      obtain ⟨rw_, f, hf, hM0, hk0⟩ := HR.out
      obtain ⟨wA, rfl⟩ : ∃ wA : World, wA = wr := ⟨_, rfl⟩
      have hM := hM0.tight
      have HM := Lib.hid hM
      have HFF := Lib.hid hf
      have HK0 := Lib.hid hk0
      have HG1 := Lib.hid (HG.out.keep hk0 (fun _ _ h => h))
      have c0A := hk0.cell c0 (fun e => e)
      have C0A := Lib.hid c0A
      have HS0 : Hid (SRel2 wA [] none 0 0 wA) := Lib.hid ⟨rfl, Sl.nil _ _ _ _, Keep.refl _ _⟩
      clear HR hM0 hM hf hk0 c0
      go_wp2_with fail
      go_loopg [5, 32] i (fun kx s5 s24 wr => ∃ (a : Nat) (o : Option Addr) (m c : Nat), s5 = .slice o m c ∧ s24 = .int .i64 a ∧ a ≤ i ∧ i - a ≤ kx ∧ Hid (SRel2 wA (allS (splitsB i es) i a) o m c wr))
      case atStart => exact ⟨0, none, 0, 0, rfl, rfl, Nat.zero_le _, by omega, HS0⟩
      case round =>
        clear HS0 c0A
        obtain ⟨a, o2, m, c2, rfl, rfl, ha, hg2, HR2⟩ := hrel
        by_cases hlt2 : a < i
        · have HS1 : Hid (SRel2 wA (allS (splitsB i es) i a ++ rowS (splitsB i es) a (a + 1)) o2 m c2 wr) := Lib.hid (by rw [rowS_start, List.append_nil]; exact HR2.out)
          clear HR2
          go_wp2_with fail
          go_loopg [5, 7] i (fun kx s5 s7 wr => ∃ (d : Nat) (o : Option Addr) (m c : Nat), s5 = .slice o m c ∧ s7 = .int .i64 d ∧ a + 1 ≤ d ∧ (d ≤ i ∨ d = a + 1) ∧ i - d ≤ kx ∧ Hid (SRel2 wA (allS (splitsB i es) i a ++ rowS (splitsB i es) a d) o m c wr))
          case atStart => exact ⟨a + 1, o2, m, c2, rfl, by go_num, Nat.le_refl _, .inr rfl, by omega, HS1⟩
          case round =>
            clear HS1
            obtain ⟨d, o3, m3, c3, rfl, rfl, hd, hd2, hg3, HR3⟩ := hrel
            have HG3 := Lib.hid (HG1.out.keep HR3.out.2.2 (fun _ _ h => h))
            have c0r := HR3.out.2.2.cell C0A.out (fun e => e)
            by_cases hlt3 : d < i
            · go_wp2_with fail
              have HAB := Lib.hid (show (Over i (withoutEs [] [a, d] es)) from over_without HO.out _ _)
              refine (rwithout_any F (fun _ => False) _ _ b i es none (some ⟨wr.heap.size, 0, none⟩) 0 2 [] [a, d] (HG3.out.alloc _) hl (Sl.nil _ _ _ _) (Sl.built wr 3 1 2 [.int .i64 (a : Nat), .int .i64 (d : Nat)] rfl (by simp only [maxLen]; omega)) (by simp) (by simp)).mono ?_
              rintro e1 w2 ⟨rfl, hG2, hk2⟩
              simp only [World.size_alloc] at hG2
              have HG2 := Lib.hid hG2
              have HK2 := Lib.hid (((Keep.refl Nb wr).alloc _).trans hk2)
              clear hG2 hk2 c0r
              go_wp2_with fail
              refine (rlabels_any (fun k => wr.heap.size + 1 ≤ k) w2 (wr.heap.size + 1) i (withoutEs [] [a, d] es) HG2.out hn (Nat.le_trans (withoutEs_len _ _ _) hl) HAB.out).mono ?_
              rintro e1 w3 ⟨q, rfl, hS3, hk3⟩
              have HS3 := Lib.hid hS3
              have HK3 := Lib.hid (HK2.out.trans hk3)
              clear hS3 hk3
              have c03 := (HR3.out.2.2.trans HK3.out).cell C0A.out (fun e => e)
              go_wp2_with fail
              obtain ⟨X, hX⟩ : ∃ X, labG (withoutEs [] [a] es) = X := ⟨_, rfl⟩
              obtain ⟨Y, hY⟩ : ∃ Y, labG (withoutEs [] [d] es) = Y := ⟨_, rfl⟩
              obtain ⟨B, hB⟩ : ∃ B, labG (withoutEs [] [a, d] es) = B := ⟨_, rfl⟩
              have hk13 := HR3.out.2.2.trans HK3.out
              have hMx := HM.out.keep hk13 (fun _ _ h => h)
              obtain ⟨go, rfl, hcc, hgo, ca⟩ := hMx.cell hlt2
              obtain ⟨go', e2, _, _, cb⟩ := hMx.cell hlt3
              obtain rfl : go = go' := by simpa using e2
              have la : (f a).length = i := by rw [HFF.out a (by omega)]; simp
              have ld : (f d).length = i := by rw [HFF.out d (by omega)]; simp
              have hra := hMx.row a hlt2
              have hrd := hMx.row d hlt3
              rw [la, HFF.out a (by omega), hX] at hra
              rw [ld, HFF.out d (by omega), hY] at hrd
              obtain ⟨ga, ea, _, hca, hrowa⟩ := hra.pos (by omega)
              obtain ⟨gd, ed, _, hcd, hrowd⟩ := hrd.pos (by omega)
              rw [la, ea] at ca
              rw [ld, ed] at cb
              have hrowb : Row w3 q 3 (fints i B) := by
                obtain ⟨q', e, _, _, h⟩ := HS3.out.pos (by omega)
                obtain rfl : q = q' := by simpa using e
                rw [← hB]; exact h
              have CA := Lib.hid ca
              have CB := Lib.hid cb
              have RA := Lib.hid hrowa
              have RD := Lib.hid hrowd
              have RB := Lib.hid hrowb
              have HX := Lib.hid hX
              have HY := Lib.hid hY
              have HB := Lib.hid hB
              clear e2 hMx la ld hra hrd ea ed ca cb hrowa hrowd hrowb hX hY hB hk13
              go_loopg [9, 55] i (fun kx s9 s55 wr => ∃ (x : Nat) (yes : Bool), s9 = .bool yes ∧ s55 = .int .i64 x ∧ x ≤ i ∧ i - x ≤ kx ∧ Hid (Asked a d X Y B x 0 yes ∧ Keep Nb w3 wr))
              case atStart => exact ⟨0, false, rfl, rfl, Nat.zero_le _, by omega, Lib.hid ⟨Asked.start _ _ _ _ _, Keep.refl _ _⟩⟩
              case round =>
                clear c03
                obtain ⟨x, yes, rfl, rfl, hx, hgx, HA⟩ := hrel
                by_cases hltx : x < i
                · have HA0 := HA
                  clear HA
                  go_wp2_with fail
                  go_loopg [9, 59] x (fun kx s9 s59 wr => ∃ (y : Nat) (yes : Bool), s9 = .bool yes ∧ s59 = .int .i64 y ∧ y ≤ x ∧ x - y ≤ kx ∧ Hid (Asked a d X Y B x y yes ∧ Keep Nb w3 wr))
                  case atStart => exact ⟨0, yes, rfl, rfl, Nat.zero_le _, by omega, HA0⟩
                  case round =>
                    clear HA0
                    obtain ⟨y, yes, rfl, rfl, hy, hgy, HA⟩ := hrel
                    by_cases hlty : y < x
                    · by_cases hbad : x = a ∨ x = d ∨ y = a ∨ y = d
                      · have HN : Hid (Asked a d X Y B x (y + 1) yes ∧ Keep Nb w3 wr) := Lib.hid ⟨HA.out.1.no (fun h => by obtain ⟨h1, h2, h3, h4, _⟩ := h; omega), HA.out.2⟩
                        have hcs : ((x : Int) == (a : Int)) = true ∨ (((x : Int) == (a : Int)) = false ∧ ((x : Int) == (d : Int)) = true) ∨ (((x : Int) == (a : Int)) = false ∧ ((x : Int) == (d : Int)) = false ∧ ((y : Int) == (a : Int)) = true) ∨
                            (((x : Int) == (a : Int)) = false ∧ ((x : Int) == (d : Int)) = false ∧ ((y : Int) == (a : Int)) = false ∧ ((y : Int) == (d : Int)) = true) := by
                          simp only [beq_iff_eq, beq_eq_false_iff_ne, ne_eq]; omega
                        clear hbad
                        rcases hcs with h1 | ⟨h1, h2⟩ | ⟨h1, h2, h3⟩ | ⟨h1, h2, h3, h4⟩
                        all_goals
                          go_wp2_with fail
                          go_roundg (x - (y + 1))
                          case measure => omega
                          case rel => exact ⟨y + 1, yes, rfl, rfl, by omega, Nat.le_refl _, HN⟩
                      · have h1 : ((x : Int) == (a : Int)) = false := by simp; omega
                        have h2 : ((x : Int) == (d : Int)) = false := by simp; omega
                        have h3 : ((y : Int) == (a : Int)) = false := by simp; omega
                        have h4 : ((y : Int) == (d : Int)) = false := by simp; omega
                        have z1 := HA.out.2.cell CA.out (fun e => e)
                        have z2 := HA.out.2.cell CB.out (fun e => e)
                        have z3 := (RA.out.keep HA.out.2 (fun e => e)).cell (fints_get X hltx)
                        have z4 := (RA.out.keep HA.out.2 (fun e => e)).cell (fints_get X (Nat.lt_trans hlty hltx))
                        have z5 := (RD.out.keep HA.out.2 (fun e => e)).cell (fints_get Y hltx)
                        have z6 := (RD.out.keep HA.out.2 (fun e => e)).cell (fints_get Y (Nat.lt_trans hlty hltx))
                        have z7 := (RB.out.keep HA.out.2 (fun e => e)).cell (fints_get B hltx)
                        have z8 := (RB.out.keep HA.out.2 (fun e => e)).cell (fints_get B (Nat.lt_trans hlty hltx))
                        have hcs : ∃ r : Bool, Asked a d X Y B x (y + 1) r ∧ ((yes = true ∧ r = true) ∨ (yes = false ∧ ((((X x : Nat) : Int) == ((X y : Nat) : Int)) = false ∧ r = false ∨ (((X x : Nat) : Int) == ((X y : Nat) : Int)) = true ∧ (((Y x : Nat) : Int) == ((Y y : Nat) : Int)) = false ∧ r = false ∨
                            (((X x : Nat) : Int) == ((X y : Nat) : Int)) = true ∧ (((Y x : Nat) : Int) == ((Y y : Nat) : Int)) = true ∧ (((B x : Nat) : Int) != ((B y : Nat) : Int)) = false ∧ r = false ∨
                            (((X x : Nat) : Int) == ((X y : Nat) : Int)) = true ∧ (((Y x : Nat) : Int) == ((Y y : Nat) : Int)) = true ∧ (((B x : Nat) : Int) != ((B y : Nat) : Int)) = true ∧ r = true))) := by
                          cases yes with
                          | true => exact ⟨true, HA.out.1.yes (.inl rfl), .inl ⟨rfl, rfl⟩⟩
                          | false =>
                            by_cases g1 : X x = X y
                            · by_cases g2 : Y x = Y y
                              · by_cases g3 : B x = B y
                                · exact ⟨false, HA.out.1.no (fun h => h.2.2.2.2.2.2 g3), .inr ⟨rfl, .inr (.inr (.inl ⟨by simp [g1], by simp [g2], by simp [g3], rfl⟩))⟩⟩
                                · exact ⟨true, HA.out.1.yes (.inr ⟨by omega, by omega, by omega, by omega, g1, g2, g3⟩), .inr ⟨rfl, .inr (.inr (.inr ⟨by simp [g1], by simp [g2], by simp; omega, rfl⟩))⟩⟩
                              · exact ⟨false, HA.out.1.no (fun h => g2 h.2.2.2.2.2.1), .inr ⟨rfl, .inr (.inl ⟨by simp [g1], by simp; omega, rfl⟩)⟩⟩
                            · exact ⟨false, HA.out.1.no (fun h => g1 h.2.2.2.2.1), .inr ⟨rfl, .inl ⟨by simp; omega, rfl⟩⟩⟩
                        obtain ⟨r, hr, hcs⟩ := hcs
                        have HR5 := Lib.hid hr
                        have HK5 := Lib.hid HA.out.2
                        clear hr hbad HA
                        rcases hcs with ⟨rfl, rfl⟩ | ⟨rfl, ⟨g1, rfl⟩ | ⟨g1, g2, rfl⟩ | ⟨g1, g2, g3, rfl⟩ | ⟨g1, g2, g3, rfl⟩⟩
                        all_goals
                          go_wp2_with fail
                          go_quiet (fail)
                          go_wp2_with fail
                          go_roundg (x - (y + 1))
                          case measure => omega
                          case rel => exact ⟨y + 1, _, rfl, rfl, by omega, Nat.le_refl _, Lib.hid ⟨HR5.out, HK5.out.drewN _⟩⟩
                    · obtain rfl : y = x := by omega
                      have HN : Hid (Asked a d X Y B (y + 1) 0 yes ∧ Keep Nb w3 wr) := Lib.hid ⟨HA.out.1.row, HA.out.2⟩
                      go_wp2_with fail
                      go_roundg (i - (y + 1))
                      case measure => omega
                      case rel => exact ⟨y + 1, yes, rfl, rfl, by omega, Nat.le_refl _, HN⟩
                · obtain rfl : x = i := by omega
                  have hrb2 : yes = splitsB x es a d := by
                    rw [HA.out.1.all, ← HX.out, ← HY.out, ← HB.out]; rfl
                  obtain ⟨hm3, hS3, hk3⟩ := HR3.out
                  have hlen : m3 ≤ x * x + x := by
                    rw [hm3, List.length_append]
                    have h1 := allS_len (splitsB x es) x a
                    have h2 := rowS_len (splitsB x es) a d
                    have h3 : a * x ≤ x * x := Nat.mul_le_mul_right _ (by omega)
                    omega
                  have hii : x * x ≤ 40 * 40 := Nat.mul_le_mul hn hn
                  have hK4 := HK3.out.trans HA.out.2
                  have hSx := hS3.keep hK4 (fun _ _ e => e)
                  have hkx := hk3.trans hK4
                  cases yes with
                  | false =>
                    have HN : Hid (SRel2 wA (allS (splitsB x es) x a ++ rowS (splitsB x es) a (d + 1)) o3 m3 c3 wr) := Lib.hid (by
                      rw [rowS_succ _ (by omega), ← hrb2, if_neg (by simp), List.append_nil]; exact ⟨hm3, hSx, hkx⟩)
                    clear hm3 hS3 hk3 hSx hkx hlen hii hrb2 hK4
                    go_wp2
                    go_roundg (x - (d + 1))
                    case measure => omega
                    case rel => exact ⟨d + 1, o3, m3, c3, rfl, by go_num, by omega, .inl (by omega), Nat.le_refl _, HN⟩
                  | true =>
                    obtain ⟨gq, c', w5, h1, h2, h3, h4⟩ := run_appN (P := Try.prog) 22 22 31 und_pairs elem_pair (by rfl) (by omega) hSx (pcells (a, d)) 1 (pcells_one _) rfl (by omega) (by omega) (by omega)
                    have HN : Hid (SRel2 wA (allS (splitsB x es) x a ++ rowS (splitsB x es) a (d + 1)) (some ⟨gq, 0, none⟩) (m3 + 1) c' w5) := Lib.hid (by
                      rw [rowS_succ _ (by omega), ← hrb2, if_pos rfl, ← List.append_assoc]
                      refine ⟨by rw [List.length_append, hm3]; rfl, ?_, hkx.trans' h3 (fun _ _ e => e) (fun k hk e => ?_)⟩
                      · rw [pcs_snoc]
                        have hz := hkx.size
                        exact h2.mono (fun k hk => by
                          rcases hk with hk | hk
                          · exact hk
                          · show wA.heap.size ≤ k; omega)
                      · obtain ⟨x, hx, rfl⟩ := e
                        have : wA.heap.size ≤ x.block := hSx.foot x hx
                        omega)
                    have H1 := Lib.hid h1
                    clear h1 h2 h3 h4 hm3 hS3 hk3 hSx hkx hrb2 hK4
                    go_wp2_with ((at_builtin; refine wpList_app rfl _ _ _ rfl rfl rfl H1.out ?_))
                    go_roundg (x - (d + 1))
                    case measure => omega
                    case rel => exact ⟨d + 1, _, _, _, rfl, by go_num, by omega, .inl (by omega), Nat.le_refl _, HN⟩
            · have c0r2 := c0r
              have HN : Hid (SRel2 wA (allS (splitsB i es) i (a + 1)) o3 m3 c3 wr) := Lib.hid (by
                rw [allS_succ, ← rowS_end (splitsB i es) hd (by omega) hd2]; exact HR3.out)
              go_wp2
              go_roundg (i - (a + 1))
              case measure => omega
              case rel => exact ⟨a + 1, o3, m3, c3, rfl, rfl, by omega, Nat.le_refl _, HN⟩
        · obtain rfl : a = i := by omega
          have HP : Hid (PairsPost w a es (.returned (.slice o2 m c2)) wr) := Lib.hid (by
            obtain ⟨h1, h2, h3⟩ := HR2.out
            subst h1
            have hz := HK0.out.size
            exact ⟨o2, c2, rfl, h2.mono (fun k hk => by have : wA.heap.size ≤ k := hk; omega), HK0.out.trans h3⟩)
          go_wp2
          go_ret
          exact HP.out

end Go.Proofs.Ytkpoobnldgfapaa
