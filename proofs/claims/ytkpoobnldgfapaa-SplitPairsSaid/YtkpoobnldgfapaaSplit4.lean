/- split: Pairs, the walk. -/
import Derived.Test.YtkpoobnldgfapaaSplit3
import Derived.Test.YtkpoobnldgfapaaPlSplit2
import Derived.Test.YtkpoobnldgfapaaMatR
import Derived.Test.YtkpoobnldgfapaaPair1
import Derived.Deep.RegionHeld3
namespace Go.Proofs.Ytkpoobnldgfapaa
open Go.RowKit Pl

/-- A slice that has just been built. -/
theorem Sl.built (w : World) (T : TypeId) (sz n : Nat) (l : List Value) (hl : l.length = n * sz) (hn : n ≤ maxLen) :
    Sl (fun k => k = w.heap.size) (w.alloc (.cells l.toArray T)) T sz (some ⟨w.heap.size, 0, none⟩) n n l :=
  ⟨⟨hl, .inr ⟨w.heap.size, n, l.toArray, rfl, Nat.zero_le _, heap_alloc_new w _, Nat.le_refl _, hn, by simp [hl], by rw [← hl]; simp⟩⟩, fun a ha => by simp at ha; rw [← ha]⟩

theorem over_without {n : Nat} {es : List E} (h : Over n es) (ed nd : List Nat) : Over n (withoutEs ed nd es) := fun e he => h e (List.mem_filter.1 he).1

theorem Gr.tight {F : Nat → Prop} {w : World} {b n : Nat} {es : List E} (h : Gr F w b n es) : Gr (fun k => F k ∧ k < w.heap.size) w b n es := by
  obtain ⟨o, c, h⟩ := h; exact ⟨o, c, GrMem.tight h⟩

/-- The rows of all labels without one node. -/
def SRel1 (w : World) (n : Nat) (es : List E) (i : Nat) (o : Option Addr) (c : Nat) (wr : World) : Prop :=
  ∃ rw_ f, (∀ x, x < i → f x = (List.range n).map (labG (withoutEs [] [x] es))) ∧ MatR (fun k => w.heap.size ≤ k) wr 37 3 o i c rw_ f ∧ Keep Nb w wr

theorem srel1_next {w w1 w2 w3 w' : World} {n i : Nat} {es : List E} {o oq : Option Addr} {c cq g c' : Nat} {rw_ : Nat → Rw} {f : Nat → List Nat} (h1 : ∀ x, x < i → f x = (List.range n).map (labG (withoutEs [] [x] es))) (h2 : MatR (fun k => w.heap.size ≤ k) w1 37 3 o i c rw_ f) (h3 : Keep Nb w w1) (h12 : Keep Nb w1 w2) (h23 : Keep Nb w2 w3) (hr : Sl (fun k => w2.heap.size ≤ k) w3 3 1 oq n cq (fints n (labG (withoutEs [] [i] es))))
    (hS : Sl (fun k => w.heap.size ≤ k ∨ k = w3.heap.size + 1) w' 37 1 (some ⟨g, 0, none⟩) (i + 1) c' ((List.range i).map (fun i => (rw_ i).val) ++ [.slice oq n cq]))
    (hk : Keep (Bl o) w3 w') (hg : o = some ⟨g, 0, none⟩ ∨ g = w3.heap.size + 1) : SRel1 w n es (i + 1) (some ⟨g, 0, none⟩) c' w' := by
  have z1 := h3.size
  have z2 := h12.size
  have z3 := h23.size
  have h2' := (h2.keep h12 (fun _ _ e => e)).keep h23 (fun _ _ e => e)
  have hbl : ∀ k, Bl o k → w.heap.size ≤ k ∧ k < w1.heap.size := by
    rintro k ⟨x, hx, rfl⟩
    exact ⟨h2.out.foot x hx, h2.out.lt hx⟩
  have hr' : Sl (fun k => w.heap.size ≤ k) w3 3 1 oq n cq (fints n (labG (withoutEs [] [i] es))) := hr.mono fun k hk => by have : w2.heap.size ≤ k := hk; omega
  refine ⟨_, _, fun x hx => ?_, h2'.push (l := (List.range n).map (labG (withoutEs [] [i] es))) (by simp) hr' (fun a ha hb => ?_) hS hk hg (by show w.heap.size ≤ w3.heap.size + 1; omega), ((h3.trans h12).trans h23).trans' hk (fun _ _ e => e) (fun k hk' e => by have := hbl k e; omega)⟩
  · by_cases e : x = i
    · simp only [if_pos e]; rw [e]
    · simp only [if_neg e]; exact h1 x (by omega)
  · have := hbl _ hb
    have : w2.heap.size ≤ a.block := hr.foot a ha
    omega

/-- What is found so far. -/
def SRel2 (wA : World) (l : List (Nat × Nat)) (o : Option Addr) (m c : Nat) (wr : World) : Prop :=
  m = l.length ∧ Sl (fun k => wA.heap.size ≤ k) wr 31 2 o m c (pcs l) ∧ Keep Nb wA wr

def splitsB (n : Nat) (es : List E) (a b : Nat) : Bool := partsB n a b (labG (withoutEs [] [a] es)) (labG (withoutEs [] [b] es)) (labG (withoutEs [] [a, b] es))

def PairsPost (w : World) (n : Nat) (es : List E) (e : Ending) (w' : World) : Prop :=
  ∃ o c, e = .returned (.slice o (allS (splitsB n es) n n).length c) ∧ Sl (fun k => w.heap.size ≤ k) w' 31 2 o (allS (splitsB n es) n n).length c (pcs (allS (splitsB n es) n n)) ∧ Keep Nb w w'

set_option maxRecDepth 100000 in
set_option maxHeartbeats 1000000 in
theorem pairs_any (F : Nat → Prop) (w : World) (b n : Nat) (es : List E) (hG : Gr F w b n es) (hF : ∀ k, F k → k < w.heap.size) (hn : n ≤ 40) (hl : es.length ≤ 1000) (ho : Over n es) :
    Calls Try.prog 20 #[.pointer (some ⟨b, 0, none⟩)] w (PairsPost w n es) := by
  have HG := Lib.hid hG
  have HF := Lib.hid hF
  have HO := Lib.hid ho
  clear hG hF ho
  go_enter Try.func20, Try.ntmps20
  go_wp2_with fail
  refine (nodes_any F w b n es HG.out).mono ?_
  rintro e1 w0 ⟨rfl, rfl⟩
  go_wp2_with fail
  go_loopg [3, 10] n (fun kx s3 s10 wr => ∃ (i : Nat) (o : Option Addr) (c : Nat), s3 = .slice o i c ∧ s10 = .int .i64 i ∧ i ≤ n ∧ n - i ≤ kx ∧ Hid (SRel1 w0 n es i o c wr))
  case atStart => exact ⟨0, none, 0, rfl, rfl, Nat.zero_le _, by omega, Lib.hid ⟨fun _ => ⟨none, 0, 0⟩, fun _ => [], fun _ h => absurd h (by omega), MatR.nil _ _ _ _ _ _, Keep.refl _ _⟩⟩
  case round =>
    obtain ⟨i, o, c, rfl, rfl, hi, hg, HR⟩ := hrel
    by_cases hlt : i < n
    · go_wp2_with fail
      have HGr := Lib.hid ((HG.out.keep HR.out.choose_spec.choose_spec.2.2 (fun _ _ h => h)).alloc (.cells #[.int .i64 (i : Nat)] 3))
      refine (without_any F (fun _ => False) _ _ b n es none (some ⟨wr.heap.size, 0, none⟩) 0 1 [] [i] HGr.out hl (Sl.nil _ _ _ _) (Sl.built wr 3 1 1 [.int .i64 (i : Nat)] rfl (by simp only [maxLen]; omega)) (by simp) (by simp)).mono ?_
      rintro e1 w2 ⟨rfl, hG2, hk2⟩
      simp only [World.size_alloc] at hG2
      have HG2 := Lib.hid hG2
      have HK2 := Lib.hid (((Keep.refl Nb wr).alloc _).trans hk2)
      have HB2 := Lib.hid hk2.size
      clear hG2 hk2 HGr
      go_wp2_with fail
      refine (label_any (fun k => wr.heap.size + 1 ≤ k ∧ k < w2.heap.size) w2 (wr.heap.size + 1) n (withoutEs [] [i] es) HG2.out.tight (fun k hk => hk.2) hn (Nat.le_trans (withoutEs_len _ _ _) hl) (over_without HO.out _ _)).mono ?_
      rintro e1 w3 ⟨oq, cq, rfl, hS3, hk3⟩
      have HS3 := Lib.hid hS3
      have HK3 := Lib.hid hk3
      clear hS3 hk3
      obtain ⟨rw_, f, hf, hM, hk⟩ := HR.out
      obtain ⟨gq, c', w', h1, h2, h3, h4⟩ := run_app1 (P := Try.prog) 35 35 37 (by kernel_rfl) elem_ints (by rfl) (((hM.keep HK2.out (fun _ _ e => e)).keep HK3.out (fun _ _ e => e)).out) (.slice oq n cq) rfl (by omega) (by omega)
      have HN : Hid (SRel1 w0 n es (i + 1) (some ⟨gq, 0, none⟩) c' w') := Lib.hid (srel1_next hf hM hk HK2.out HK3.out HS3.out h2 h3 h4)
      have H1 := Lib.hid h1
      clear h1 h2 h3 h4 hM hf hk
      go_wp2_with ((at_builtin; refine wpList_app rfl _ _ _ rfl rfl rfl H1.out ?_))
      go_roundg (n - (i + 1))
      case measure => omega
      case rel => exact ⟨i + 1, _, _, rfl, rfl, by omega, Nat.le_refl _, HN⟩
    · obtain rfl : i = n := by omega
      obtain ⟨rw_, f, hf, hM0, hk0⟩ := HR.out
      have hM := hM0.tight
      have HM := Lib.hid hM
      have HFF := Lib.hid hf
      have HK0 := Lib.hid hk0
      have HG1 := Lib.hid (HG.out.keep hk0 (fun _ _ h => h))
      have HS0 : Hid (SRel2 wr [] none 0 0 wr) := Lib.hid ⟨rfl, Sl.nil _ _ _ _, Keep.refl _ _⟩
      clear HR hM0 hM hf hk0
      go_wp2_with fail
      refine (nodes_any F wr b i es HG1.out).mono ?_
      rintro e1 wA ⟨rfl, rfl⟩
      go_wp2_with fail
      go_loopg [5, 24] i (fun kx s5 s24 wr => ∃ (a : Nat) (o : Option Addr) (m c : Nat), s5 = .slice o m c ∧ s24 = .int .i64 a ∧ a ≤ i ∧ i - a ≤ kx ∧ Hid (SRel2 wA (allS (splitsB i es) i a) o m c wr))
      case atStart => exact ⟨0, none, 0, 0, rfl, rfl, Nat.zero_le _, by omega, HS0⟩
      case round =>
        clear HS0
        obtain ⟨a, o2, m, c2, rfl, rfl, ha, hg2, HR2⟩ := hrel
        by_cases hlt2 : a < i
        · have HS1 : Hid (SRel2 wA (allS (splitsB i es) i a ++ rowS (splitsB i es) a (a + 1)) o2 m c2 wr) := Lib.hid (by rw [rowS_start, List.append_nil]; exact HR2.out)
          clear HR2
          go_wp2_with fail
          go_loopg [5, 7] i (fun kx s5 s7 wr => ∃ (d : Nat) (o : Option Addr) (m c : Nat), s5 = .slice o m c ∧ s7 = .int .i64 d ∧ a + 1 ≤ d ∧ (d ≤ i ∨ d = a + 1) ∧ i - d ≤ kx ∧ Hid (SRel2 wA (allS (splitsB i es) i a ++ rowS (splitsB i es) a d) o m c wr))
          case atStart => exact ⟨a + 1, o2, m, c2, rfl, by go_num, Nat.le_refl _, .inr rfl, by omega, HS1⟩
          case round =>
            clear HS1
            obtain ⟨d, o3, m3, c3, rfl, rfl, hd, hd2, hg3, HR3⟩ := hrel
            have HG3 := Lib.hid (HG1.out.keep HR3.out.2.2 (fun _ _ h => h))
            by_cases hlt3 : d < i
            · go_wp2_with fail
              refine (nodes_any F wr b i es HG3.out).mono ?_
              rintro e1 wy ⟨rfl, rfl⟩
              have hMx := HM.out.keep HR3.out.2.2 (fun _ _ h => h)
              obtain ⟨go, rfl, hcc, hgo, ca⟩ := hMx.cell hlt2
              obtain ⟨go', e2, _, _, cb⟩ := hMx.cell hlt3
              obtain rfl : go = go' := by simpa using e2
              have la : (f a).length = i := by rw [HFF.out a (by omega)]; simp
              have ld : (f d).length = i := by rw [HFF.out d (by omega)]; simp
              have hra := hMx.row a hlt2
              have hrd := hMx.row d hlt3
              rw [la, HFF.out a (by omega)] at hra
              rw [ld, HFF.out d (by omega)] at hrd
              rw [la] at ca
              rw [ld] at cb
              have HRA := Lib.hid (hra.mono (G := fun _ => True) (fun _ _ => trivial))
              have HRD := Lib.hid (hrd.mono (G := fun _ => True) (fun _ _ => trivial))
              clear e2 hMx la ld hra hrd
              go_wp2_with fail
              have HAB := Lib.hid (show (Over i (withoutEs [] [a, d] es)) from over_without HO.out _ _)
              have lgo : go < wy.heap.size := World.block_lt_of_cell? wy _ ca
              have hgo2 : ¬ wy.heap.size = go := by omega
              have CA := Lib.hid ca
              have CB := Lib.hid cb
              have bz : (wy.alloc (.cells #[.int .i64 (a : Nat), .int .i64 (d : Nat)] 3)).drew.heap.size = wy.heap.size + 1 := World.size_alloc _ _
              have BZ := Lib.hid bz
              clear bz
              go_region_held3 (fun w' => w'.cell? ⟨go, a, none⟩ = some (.slice (rw_ a).o i (rw_ a).c) ∧ w'.cell? ⟨go, d, none⟩ = some (.slice (rw_ d).o i (rw_ d).c)) (go_keep) ((first | (go_at_call 29; refine (without_any F (fun _ => False) _ _ b i es none (some ⟨wy.heap.size, 0, none⟩) 0 2 [] [a, d] (HG3.out.alloc _).drew hl (Sl.nil _ _ _ _) (Sl.built wy 3 1 2 [.int .i64 (a : Nat), .int .i64 (d : Nat)] rfl (by simp only [maxLen]; omega)).drew (by simp) (by simp)).mono ?_; rintro e1 w2 ⟨rfl, hG2, hk2⟩; rw [BZ.out] at hG2; have hkk := ((Keep.refl Nb wy).alloc _).drew.trans hk2; have ca2 := hkk.cell CA.out (fun e => e); have cb2 := hkk.cell CB.out (fun e => e); have HG2 := Lib.hid hG2.tight; have HK2 := Lib.hid hkk; clear hG2 hk2 hkk) | (go_at_call 56; refine (label_any _ _ _ i (withoutEs [] [a, d] es) HG2.out (fun k hk => hk.2) hn (Nat.le_trans (withoutEs_len _ _ _) hl) HAB.out).mono ?_; rintro e1 w3 ⟨oq, cq, rfl, hS3, hk3⟩; have ca3 := hk3.cell ca2 (fun e => e); have cb3 := hk3.cell cb2 (fun e => e); have HS3 := Lib.hid hS3; have HK3 := Lib.hid (HK2.out.trans hk3); clear hS3 hk3) | (go_at_call 57; refine (parts_any (fun _ => True) _ i a d _ _ _ _ _ _ _ _ _ hn hlt2 hlt3 (HRA.out.keep HK3.out (fun _ _ e => e)) (HRD.out.keep HK3.out (fun _ _ e => e)) (HS3.out.mono (fun _ _ => trivial)) (labs_le _) (labs_le _) (labs_le _)).mono ?_; rintro e1 w4 ⟨rb, hrb, rfl, hk4⟩; have ca4 := hk4.cell ca3 (fun e => e); have cb4 := hk4.cell cb3 (fun e => e); have HRB := Lib.hid hrb; have HK4 := Lib.hid (HK3.out.trans hk4); clear hrb hk4)))
              have hrb2 : rb = splitsB i es a d := by
                rw [Bool.eq_iff_iff, HRB.out]; exact partsB_iff.symm
              obtain ⟨hm3, hS3, hk3⟩ := HR3.out
              have hlen : m3 ≤ i * i + i := by
                rw [hm3, List.length_append]
                have h1 := allS_len (splitsB i es) i a
                have h2 := rowS_len (splitsB i es) a d
                have h3 : a * i ≤ i * i := Nat.mul_le_mul_right _ (by omega)
                omega
              have hii : i * i ≤ 40 * 40 := Nat.mul_le_mul hn hn
              have hSx := hS3.keep HK4.out (fun _ _ e => e)
              have hkx := hk3.trans HK4.out
              cases rb with
              | false =>
                have HN : Hid (SRel2 wA (allS (splitsB i es) i a ++ rowS (splitsB i es) a (d + 1)) o3 m3 c3 w4) := Lib.hid (by
                  rw [rowS_succ _ (by omega), ← hrb2, if_neg (by simp), List.append_nil]; exact ⟨hm3, hSx, hkx⟩)
                clear hm3 hS3 hk3 hSx hkx hlen hii hrb2 ca cb ca2 cb2 ca3 cb3 ca4 cb4
                go_wp2
                go_roundg (i - (d + 1))
                case measure => omega
                case rel => exact ⟨d + 1, o3, m3, c3, rfl, by go_num, by omega, .inl (by omega), Nat.le_refl _, HN⟩
              | true =>
                obtain ⟨gq, c', w5, h1, h2, h3, h4⟩ := run_appN (P := Try.prog) 22 22 31 und_pairs elem_pair (by rfl) (by omega) hSx (pcells (a, d)) 1 (pcells_one _) rfl (by omega) (by omega) (by omega)
                have HN : Hid (SRel2 wA (allS (splitsB i es) i a ++ rowS (splitsB i es) a (d + 1)) (some ⟨gq, 0, none⟩) (m3 + 1) c' w5) := Lib.hid (by
                  rw [rowS_succ _ (by omega), ← hrb2, if_pos rfl, ← List.append_assoc]
                  refine ⟨by rw [List.length_append, hm3]; rfl, ?_, hkx.trans' h3 (fun _ _ e => e) (fun k hk e => ?_)⟩
                  · rw [pcs_snoc]
                    have hz := hkx.size
                    exact h2.mono (fun k hk => by
                      rcases hk with hk | hk
                      · exact hk
                      · show wA.heap.size ≤ k; omega)
                  · obtain ⟨x, hx, rfl⟩ := e
                    have : wA.heap.size ≤ x.block := hSx.foot x hx
                    omega)
                have H1 := Lib.hid h1
                clear h1 h2 h3 h4 hm3 hS3 hk3 hSx hkx hrb2 ca cb ca2 cb2 ca3 cb3 ca4 cb4
                go_wp2_with ((at_builtin; refine wpList_app rfl _ _ _ rfl rfl rfl H1.out ?_))
                go_roundg (i - (d + 1))
                case measure => omega
                case rel => exact ⟨d + 1, _, _, _, rfl, by go_num, by omega, .inl (by omega), Nat.le_refl _, HN⟩
            · have HN : Hid (SRel2 wA (allS (splitsB i es) i (a + 1)) o3 m3 c3 wr) := Lib.hid (by
                rw [allS_succ, ← rowS_end (splitsB i es) hd (by omega) hd2]; exact HR3.out)
              go_wp2_with fail
              refine (nodes_any F wr b i es HG3.out).mono ?_
              rintro e1 wy ⟨rfl, rfl⟩
              go_wp2
              go_roundg (i - (a + 1))
              case measure => omega
              case rel => exact ⟨a + 1, o3, m3, c3, rfl, rfl, by omega, Nat.le_refl _, HN⟩
        · obtain rfl : a = i := by omega
          have HP : Hid (PairsPost w0 a es (.returned (.slice o2 m c2)) wr) := Lib.hid (by
            obtain ⟨h1, h2, h3⟩ := HR2.out
            subst h1
            have hz := HK0.out.size
            exact ⟨o2, c2, rfl, h2.mono (fun k hk => by have : wA.heap.size ≤ k := hk; omega), HK0.out.trans h3⟩)
          go_wp2
          go_ret
          exact HP.out

end Go.Proofs.Ytkpoobnldgfapaa
