/- split: label, the walk. -/
import Derived.Test.YtkpoobnldgfapaaSplit1
namespace Go.Proofs.Ytkpoobnldgfapaa
open Go.RowKit Pl

/-- A pointed edge lies over n nodes. -/
def Over (n : Nat) (es : List E) : Prop := ∀ e, e ∈ es → e.a < n ∧ e.b < n

def LRel2 (w2 : World) (F : Nat → Prop) (b n : Nat) (es : List E) (i : Nat) (o : Option Addr) (c : Nat) (wr : World) : Prop :=
  Sets F wr b n (labs (ends es)) ∧ Sl (fun k => w2.heap.size ≤ k) wr 3 1 o i c (fints i (labs (ends es))) ∧ Keep F w2 wr

theorem LRel2.next {w0 w1 w2 wr w5 w' : World} {b n i c c' g : Nat} {es : List E} {o : Option Addr} (h : LRel2 w2 (Iv w0.heap.size w1.heap.size) b n es i o c wr) (h12 : w1.heap.size ≤ w2.heap.size)
    (hs : Sets (Iv w0.heap.size w1.heap.size) w5 b n (labs (ends es))) (hk : Keep (Iv w0.heap.size w1.heap.size) wr w5)
    (h2 : Sl (fun k => w2.heap.size ≤ k ∨ k = w5.heap.size + 1) w' 3 1 (some ⟨g, 0, none⟩) (i + 1) c' (fints i (labs (ends es)) ++ [.int .i64 (labs (ends es) i : Nat)])) (h3 : Keep (Bl o) w5 w') :
    LRel2 w2 (Iv w0.heap.size w1.heap.size) b n es (i + 1) (some ⟨g, 0, none⟩) c' w' := by
  have hbl : ∀ k, Bl o k → w2.heap.size ≤ k := by
    rintro k ⟨x, hx, rfl⟩
    exact h.2.1.foot x hx
  have z1 := h.2.2.size
  have z2 := hk.size
  refine ⟨hs.keep' h3 (fun k hk hb => by have := hk.2; have := hbl k hb; omega), ?_, (h.2.2.trans hk).trans' h3 (fun _ _ h => h) (fun k hk hb => by have := hbl k hb; omega)⟩
  rw [fints_snoc]
  exact h2.mono (fun k hk => by rcases hk with h | h; exact h; omega)

set_option maxRecDepth 100000 in
set_option maxHeartbeats 1000000 in
theorem label_any (F : Nat → Prop) (w : World) (b n : Nat) (es : List E) (hG : Gr F w b n es) (hF : ∀ k, F k → k < w.heap.size) (hn : n ≤ 40) (hl : es.length ≤ 1000) (ho : Over n es) :
    Calls Try.prog 56 #[.pointer (some ⟨b, 0, none⟩)] w (LabelPost w n es) := by
  have HG := Lib.hid hG
  have HF := Lib.hid hF
  have HO := Lib.hid ho
  clear hG hF ho
  go_enter Try.func56, Try.ntmps56
  go_wp2_with fail
  refine (nodes_any F w b n es HG.out).mono ?_
  rintro e1 w0 ⟨rfl, rfl⟩
  go_wp2_with fail
  refine (new_any n hn _).mono ?_
  rintro e1 w1 ⟨s, rfl, hS1, hk1⟩
  have HS1 := Lib.hid hS1
  have HK1 := Lib.hid hk1
  clear hS1 hk1
  go_wp2_with fail
  refine (edges_any F w1 b n es (HG.out.keep HK1.out (fun _ _ h => h)) hl).mono ?_
  rintro e1 w2 ⟨o2, c2, rfl, hS2, hk2⟩
  have HS2 := Lib.hid hS2
  have HK2 := Lib.hid hk2
  clear hS2 hk2
  go_wp2_with fail
  go_loopg [20] es.length (fun kx s20 wr => ∃ i : Nat, s20 = .int .i64 i ∧ i ≤ es.length ∧ es.length - i ≤ kx ∧ Hid (LRel1 w1 w2 (Iv w0.heap.size w1.heap.size) s n es i wr))
  case atStart => exact ⟨0, rfl, Nat.zero_le _, by omega, Lib.hid ⟨HS1.out.keep' HK2.out (fun _ _ h => h), Keep.refl _ w2⟩⟩
  case round =>
    obtain ⟨i, rfl, hi, hg, HR⟩ := hrel
    by_cases hlt : i < es.length
    · obtain ⟨g, rfl, hFg, hnc, hrow⟩ := HS2.out.pos (by omega)
      have hy := List.getElem?_eq_getElem hlt
      generalize es[i]'hlt = e at hy
      have hEr := hrow.edges.keep HR.out.2 (fun h => by have := h.2; omega)
      have d1 := hEr.id _ _ hy
      have d2 := hEr.a _ _ hy
      have d3 := hEr.b _ _ hy
      have HY := Lib.hid hy
      have HOe := Lib.hid (HO.out e (List.mem_of_getElem? hy))
      clear hy hrow hEr
      go_wp2_with fail
      refine (join_any (Iv w0.heap.size w1.heap.size) _ s n _ e.a e.b HOe.out.1 HOe.out.2 (HR.out.1.keep' ((Keep.refl Nb wr).alloc _) (fun _ _ h => h))).mono ?_
      rintro e1 w3 ⟨rfl, hj, hk3⟩
      have HJ := Lib.hid hj
      have HK3 := Lib.hid hk3
      clear hj hk3
      go_wp2_with fail
      go_roundg (es.length - (i + 1))
      case measure => omega
      case rel => exact ⟨i + 1, rfl, by omega, Nat.le_refl _, Lib.hid (HR.out.next HY.out HJ.out ((((Keep.refl Nb wr).alloc _).of_nb).trans HK3.out))⟩
    · obtain rfl : i = es.length := by omega
      have hR := HR.out
      unfold LRel1 at hR
      rw [List.take_length] at hR
      have HR2 := Lib.hid hR
      clear hR HR
      go_wp2_with fail
      refine (nodes_any F wr b n es (((HG.out.keep HK1.out (fun _ _ h => h)).keep HK2.out (fun _ _ h => h)).keep HR2.out.2 (fun k hk h => by have := HF.out k hk; have := h.1; omega))).mono ?_
      rintro e1 w4 ⟨rfl, rfl⟩
      go_wp2_with fail
      go_loopg [7, 36] n (fun kx s7 s36 wr => ∃ (i : Nat) (o : Option Addr) (c : Nat), s7 = .slice o i c ∧ s36 = .int .i64 i ∧ i ≤ n ∧ n - i ≤ kx ∧ Hid (LRel2 w2 (Iv w0.heap.size w1.heap.size) s n es i o c wr))
      case atStart => exact ⟨0, none, 0, rfl, rfl, Nat.zero_le _, by omega, Lib.hid ⟨HR2.out.1, Sl.nil _ _ _ _, HR2.out.2⟩⟩
      case round =>
        obtain ⟨i, o, c, rfl, rfl, hi, hg, HR⟩ := hrel
        by_cases hlt : i < n
        · go_wp2_with fail
          refine (least_any (Iv w0.heap.size w1.heap.size) _ s n _ i hlt HR.out.1).mono ?_
          rintro e1 w5 ⟨rfl, hs5, hk5⟩
          have h12 := HK2.out.size
          obtain ⟨gq, c', w', h1, h2, h3, h4⟩ := run_app1 (P := Try.prog) 37 37 3 (by kernel_rfl) elem_int (by rfl) (HR.out.2.1.keep hk5 (fun k hk h => by have := h.2; have : w2.heap.size ≤ k := hk; omega)) (.int .i64 (labs (ends es) i : Nat)) rfl (by omega) (by omega)
          have HT := Lib.hid (LRel2.next HR.out h12 hs5 hk5 h2 h3)
          have H1 := Lib.hid h1
          clear h1 h2 h3 h4 hs5 hk5 h12
          go_wp2_with ((at_builtin; refine wpList_app rfl _ _ _ rfl rfl rfl H1.out ?_))
          go_roundg (n - (i + 1))
          case measure => omega
          case rel => exact ⟨i + 1, _, _, rfl, rfl, by omega, Nat.le_refl _, HT⟩
        · obtain rfl : i = n := by omega
          have hP : LabelPost w0 i es (.returned (.slice o i c)) wr := by
            obtain ⟨_, h2, h3⟩ := HR.out
            have s1 := HK1.out.size
            have s2 := HK2.out.size
            refine ⟨o, c, rfl, h2.mono (fun k hk => by have : w2.heap.size ≤ k := hk; omega), (HK1.out.trans HK2.out).trans' h3 (fun _ _ h => h) (fun k hk h => by have := h.1; omega)⟩
          have HP := Lib.hid hP
          clear hP
          go_wp2
          go_ret
          exact HP.out

end Go.Proofs.Ytkpoobnldgfapaa
