/- isthmuskeep.SplitParts: the walk. -/
import Derived.Test.YtkpoobnldgfapaaSpParts1
import Derived.Deep.RegionHeld3
import Derived.Deep.Light
set_option linter.unusedVariables false
set_option linter.unusedSimpArgs false
namespace Go.Proofs.Ytkpoobnldgfapaa
open Go.RowKit Pl

/-- What has been made in the midst of a drawn region, and what is kept. -/
def K0 (a b : World) : Prop := Keep Nb a b
theorem K0.out {a b : World} (h : K0 a b) : Keep Nb a b := h
theorem K0.mk {a b : World} (h : Keep Nb a b) : K0 a b := h
def KStep (a b : World) : Prop := Keep Nb a b
theorem KStep.out {a b : World} (h : KStep a b) : Keep Nb a b := h
theorem KStep.mk {a b : World} (h : Keep Nb a b) : KStep a b := h
theorem Sl.kstep {w w' : World} {T : TypeId} {sz : Nat} {o : Option Addr} {n c : Nat} {l : List Value} {F : Nat → Prop} (h : Sl F w T sz o n c l) (k : KStep w w') : Sl F w' T sz o n c l := h.keep k (fun _ _ e => e)
theorem Sl.built1 {w : World} {q z : Nat} (h : q = w.heap.size) : Sl (fun _ => True) (w.alloc (.cells #[.int .i64 z] 3)) 3 1 (some ⟨q, 0, none⟩) 1 1 (ints [z]) := by
  subst h
  exact (Sl.built w 3 1 1 [.int .i64 z] rfl (by simp only [maxLen]; omega)).mono (fun _ _ => trivial)
def GrX (w : World) (q n : Nat) (es : List E) : Prop := Gr (fun _ => True) w q n es
theorem GrX.mk {F : Nat → Prop} {w : World} {q n : Nat} {es : List E} (h : Gr F w q n es) : GrX w q n es := h.mono (fun _ _ => trivial)
theorem GrX.out {w : World} {q n : Nat} {es : List E} (h : GrX w q n es) : Gr (fun _ => True) w q n es := h
theorem GrX.kstep {w w' : World} {q n : Nat} {es : List E} (h : GrX w q n es) (k : KStep w w') : GrX w' q n es := Gr.keep h k (fun _ _ e => e)
theorem GrX.alloc {w : World} {q n : Nat} {es : List E} (h : GrX w q n es) (o : Obj) : GrX (w.alloc o) q n es := Gr.keep h ((Keep.refl Nb w).alloc o) (fun _ _ e => e)
theorem GrX.drew {w : World} {q n : Nat} {es : List E} (h : GrX w q n es) : GrX w.drew q n es := Gr.keep h ((Keep.refl Nb w).drew) (fun _ _ e => e)
def BrX (w : World) (lo hi b n : Nat) (es : List E) : Prop := Brs (fun k => lo ≤ k ∧ k < hi) w b n es
theorem BrX.mk {w : World} {lo hi b n : Nat} {es : List E} (h : Brs (fun k => lo ≤ k ∧ k < hi) w b n es) : BrX w lo hi b n es := h
theorem BrX.kstep {w w' : World} {lo hi b n : Nat} {es : List E} (h : BrX w lo hi b n es) (k : KStep w w') : BrX w' lo hi b n es := Brs.keep h k (fun _ _ e => e)
theorem BrX.alloc {w : World} {lo hi b n : Nat} {es : List E} (h : BrX w lo hi b n es) (o : Obj) : BrX (w.alloc o) lo hi b n es := Brs.keep h ((Keep.refl Nb w).alloc o) (fun _ _ e => e)
theorem BrX.drew {w : World} {lo hi b n : Nat} {es : List E} (h : BrX w lo hi b n es) : BrX w.drew lo hi b n es := Brs.keep h ((Keep.refl Nb w).drew) (fun _ _ e => e)

theorem BrX.keep' {w w' : World} {lo hi b n : Nat} {es : List E} (h : BrX w lo hi b n es) (k : Keep Nb w w') : BrX w' lo hi b n es := Brs.keep h k (fun _ _ e => e)

/-- A witness that two nodes part together. -/
def Wit (es : List E) (x y k l : Nat) : Prop := k ≠ x ∧ k ≠ y ∧ l ≠ x ∧ l ≠ y ∧ Conn (ends (sansN es [x])) k l ∧ Conn (ends (sansN es [y])) k l ∧ ¬ Conn (ends (sansN es [x, y])) k l

theorem wit_of {n : Nat} {es : List E} {x y : Nat} (h : splitsB n es x y = true) (hn : ∀ k l, k < n → l < k → ¬ Wit es x y k l) : False := by
  obtain ⟨k, l, hk, hl, ka, kb, la, lb, h1, h2, h3⟩ := partsB_iff.1 h
  rw [withoutN_eq2] at h1 h2 h3
  rcases Nat.lt_trichotomy k l with e | e | e
  · exact hn l k hl e ⟨la, lb, ka, kb, Conn.symm h1, Conn.symm h2, fun c => h3 (Conn.symm c)⟩
  · exact h3 (by rw [e])
  · exact hn k l hk e ⟨ka, kb, la, lb, h1, h2, h3⟩

/-- Three Bridges, in blocks of their own. -/
structure H3 (n : Nat) (es : List E) (x y : Nat) (w : World) (loA hiA bA loB hiB bB loC hiC bC : Nat) (wr : World) : Prop where
  a : Brs (fun k => loA ≤ k ∧ k < hiA) wr bA n (sansN es [x])
  b : Brs (fun k => loB ≤ k ∧ k < hiB) wr bB n (sansN es [y])
  c : Brs (fun k => loC ≤ k ∧ k < hiC) wr bC n (sansN es [x, y])
  d : hiA ≤ loB ∨ hiB ≤ loA
  d1 : hiA ≤ loC
  d2 : hiB ≤ loC
  wA : w.heap.size ≤ loA
  wB : w.heap.size ≤ loB
  wC : w.heap.size ≤ loC
  k : Keep Nb w wr

section
variable {n : Nat} {es : List E} {x y : Nat} {w wr w' : World} {loA hiA bA loB hiB bB loC hiC bC : Nat}
theorem H3.goA (h : H3 n es x y w loA hiA bA loB hiB bB loC hiC bC wr) (hA : Brs (fun k => loA ≤ k ∧ k < hiA) w' bA n (sansN es [x])) (k : Keep (fun k => loA ≤ k ∧ k < hiA) wr w') : H3 n es x y w loA hiA bA loB hiB bB loC hiC bC w' :=
  ⟨hA, h.b.keep k (fun j hj e => by have := h.d; omega), h.c.keep k (fun j hj e => by have := h.d1; omega), h.d, h.d1, h.d2, h.wA, h.wB, h.wC, h.k.trans' k (fun _ _ e => e) (fun j hj e => by show False; have := h.wA; omega)⟩
theorem H3.goB (h : H3 n es x y w loA hiA bA loB hiB bB loC hiC bC wr) (hB : Brs (fun k => loB ≤ k ∧ k < hiB) w' bB n (sansN es [y])) (k : Keep (fun k => loB ≤ k ∧ k < hiB) wr w') : H3 n es x y w loA hiA bA loB hiB bB loC hiC bC w' :=
  ⟨h.a.keep k (fun j hj e => by have := h.d; omega), hB, h.c.keep k (fun j hj e => by have := h.d2; omega), h.d, h.d1, h.d2, h.wA, h.wB, h.wC, h.k.trans' k (fun _ _ e => e) (fun j hj e => by show False; have := h.wB; omega)⟩
theorem H3.goC (h : H3 n es x y w loA hiA bA loB hiB bB loC hiC bC wr) (hC : Brs (fun k => loC ≤ k ∧ k < hiC) w' bC n (sansN es [x, y])) (k : Keep (fun k => loC ≤ k ∧ k < hiC) wr w') : H3 n es x y w loA hiA bA loB hiB bB loC hiC bC w' :=
  ⟨h.a.keep k (fun j hj e => by have := h.d1; omega), h.b.keep k (fun j hj e => by have := h.d2; omega), hC, h.d, h.d1, h.d2, h.wA, h.wB, h.wC, h.k.trans' k (fun _ _ e => e) (fun j hj e => by show False; have := h.wC; omega)⟩
end

def NoW (es : List E) (x y a : Nat) (f : Bool) : Prop := f = false → ∀ k l, k < a → l < k → ¬ Wit es x y k l
def NoW2 (es : List E) (x y a d : Nat) (f : Bool) : Prop := f = false → (∀ k l, k < a → l < k → ¬ Wit es x y k l) ∧ ∀ l, l < d → ¬ Wit es x y a l

def TwoBr (n : Nat) (es : List E) (x y : Nat) (w : World) (u v : Value) (wc : World) : Prop :=
  ∃ b1 b2 lo1 hi1 lo2 hi2, u = .pointer (some ⟨b1, 0, none⟩) ∧ v = .pointer (some ⟨b2, 0, none⟩) ∧ BrX wc lo1 hi1 b1 n (sansN es [x]) ∧ BrX wc lo2 hi2 b2 n (sansN es [y]) ∧ (hi1 ≤ lo2 ∨ hi2 ≤ lo1) ∧
    w.heap.size ≤ lo1 ∧ w.heap.size ≤ lo2 ∧ hi1 ≤ wc.heap.size ∧ hi2 ≤ wc.heap.size ∧ K0 w wc

theorem TwoBr.mk {n : Nat} {es : List E} {x y : Nat} {w wc : World} {b1 b2 lo1 hi1 lo2 hi2 : Nat} (hA : BrX wc lo1 hi1 b1 n (sansN es [x])) (hB : BrX wc lo2 hi2 b2 n (sansN es [y])) (hk : K0 w wc) (hd : (hi1 ≤ lo2 ∨ hi2 ≤ lo1) ∧ w.heap.size ≤ lo1 ∧ w.heap.size ≤ lo2 ∧ hi1 ≤ wc.heap.size ∧ hi2 ≤ wc.heap.size) :
    TwoBr n es x y w (.pointer (some ⟨b1, 0, none⟩)) (.pointer (some ⟨b2, 0, none⟩)) wc :=
  ⟨b1, b2, lo1, hi1, lo2, hi2, rfl, rfl, hA, hB, hd.1, hd.2.1, hd.2.2.1, hd.2.2.2.1, hd.2.2.2.2, hk⟩

theorem EOk.filter2 {n : Nat} {es : List E} (h : EOk n es) (nd : List Nat) : EOk n (sansN es nd) :=
  ⟨fun e he => h.over e (List.mem_filter.1 he).1, fun e he => h.ne e (List.mem_filter.1 he).1, fun e he => h.small e (List.mem_filter.1 he).1, h.sorted.sublist List.filter_sublist⟩

set_option maxRecDepth 100000 in
theorem splitParts_long (n : Int) (oa : Option Addr) (len cap : Nat) (h : 40 < len) (w : World) :
    Calls Try.prog 6 #[.int .i64 n, .slice oa len cap] w fun e w' => e = .returned (.bool true) ∧ Keep Nb w w' := by
  go_enter Try.func6, Try.ntmps6
  go_wp2_with fail
  go_ret
  exact ⟨rfl, Keep.refl _ _⟩

set_option maxRecDepth 100000 in
set_option maxHeartbeats 4000000 in
theorem splitParts_short (n0 : Int) (b off len cap : Nat) (oa : Option Addr) (hoa : 0 < len → oa = some ⟨b, off, none⟩) (A B : Nat → Int) (hlen : len ≤ 40) (hcap : len ≤ cap) (w : World) (hb : 0 < len → b < w.heap.size) (hP : Prs w b off len A B) :
    Calls Try.prog 6 #[.int .i64 n0, .slice oa len cap] w fun e w' => e = .returned (.bool true) ∧ Keep Nb w w' := by
  have HOA := Lib.hid hoa
  have HP := Lib.hid hP
  have HB := Lib.hid hb
  have hlen' : ¬ (40 : Int) < (len : Int) := by omega
  clear hoa hP hb
  go_enter Try.func6, Try.ntmps6
  go_wp2_with fail
  refine (parted_any _).mono ?_
  rintro e w1 ⟨rfl, hk1⟩
  have HK1 := Lib.hid hk1
  clear hk1
  obtain ⟨N, hN⟩ : ∃ N, N = 2 + pickN n0 13 := ⟨_, rfl⟩
  have hN14 : N ≤ 14 := by have := pickN_lt n0 (n := 13) (by omega); omega
  have hN2 : 2 ≤ N := by omega
  have HNN := Lib.hid hN
  clear hN
  go_wp2_with fail
  refine (kmade_any n0 b off len cap oa HOA.out A B N len HNN.out (by omega) (by omega) hcap _ (fun h => Nat.lt_of_lt_of_le (HB.out h) HK1.out.size) (HP.out.keep HK1.out (fun e => e))).mono ?_
  rintro e w2 ⟨gb, rfl, hG, hk2⟩
  obtain ⟨es, hes⟩ : ∃ es, madeK N A B len = es := ⟨_, rfl⟩
  have hok : EOk N es := by rw [← hes]; exact madeK_ok (by omega) (by omega)
  have hel : es.length ≤ 40 := by rw [← hes]; exact Nat.le_trans (madeK_len N A B len) hlen
  rw [hes] at hG
  have HG := Lib.hid hG
  have HK2 := Lib.hid (HK1.out.trans hk2)
  have HOK := Lib.hid hok
  clear hG hk2 hes hok
  go_wp2_with fail
  refine (pairs_any _ _ gb N es HG.out (fun k hk => hk.2) (by omega) (by omega) HOK.out.over).mono ?_
  rintro e1 w3 ⟨oP, cP, rfl, hSP, hk3⟩
  have HSP := Lib.hid hSP
  have HK3 := Lib.hid hk3
  have HLS := Lib.hid (allS_sorted (splitsB N es) N N)
  have HMS : Hid (∀ (x y : Nat), (x, y) ∈ allS (splitsB N es) N N → x < y ∧ y < N ∧ splitsB N es x y = true) := Lib.hid (fun x y h => by have := mem_allS.1 h; exact ⟨this.2.1, this.2.2.1, this.2.2.2⟩)
  have hll := allS_len (splitsB N es) N N
  have hNN : N * N ≤ 14 * 14 := Nat.mul_le_mul hN14 hN14
  clear hSP hk3
  obtain ⟨l, hl⟩ : ∃ l, allS (splitsB N es) N N = l := ⟨_, rfl⟩
  rw [hl] at HSP HLS HMS hll ⊢
  have hl200 : l.length ≤ 200 := by omega
  clear hl hll hNN
  go_wp2_with fail
  go_loopg [7] l.length (fun kx s7 wr => ∃ i : Nat, s7 = .int .i64 i ∧ i ≤ l.length ∧ l.length - i ≤ kx ∧ Hid (Keep Nb w3 wr))
  case atStart => exact ⟨0, rfl, Nat.zero_le _, by omega, Lib.hid (Keep.refl _ _)⟩
  case round =>
    obtain ⟨i, rfl, hi, hg, HR⟩ := hrel
    by_cases hlt : i < l.length
    · obtain ⟨p, hp⟩ : ∃ p, l[i]? = some p := ⟨_, List.getElem?_eq_getElem hlt⟩
      obtain ⟨x, y⟩ := p
      obtain ⟨hxy, hyN, hPxy⟩ := HMS.out x y (List.mem_of_getElem? hp)
      have hS := HSP.out.keep HR.out (fun _ _ e => e)
      obtain ⟨gP, rfl, _, hcP, _⟩ := hS.pos (by omega)
      obtain ⟨d1, d2⟩ := hS.pairs hp
      have hprev : 0 < i → ∃ u v : Nat, wr.cell? ⟨gP, (i - 1) * 2, none⟩ = some (.int .i64 u) ∧ wr.cell? ⟨gP, (i - 1) * 2 + 1, none⟩ = some (.int .i64 v) ∧ (u < x ∨ u = x ∧ v < y) := fun h0 => by
        obtain ⟨q, hq⟩ : ∃ q, l[i - 1]? = some q := ⟨_, List.getElem?_eq_getElem (by omega)⟩
        obtain ⟨c1, c2⟩ := hS.pairs hq
        have := pairwise_next HLS.out (i := i - 1) hq (by rw [show i - 1 + 1 = i by omega]; exact hp)
        exact ⟨q.1, q.2, c1, c2, this⟩
      have HPV := Lib.hid hprev
      have HPX := Lib.hid hPxy
      clear hp hS hPxy hprev
      go_upto_region 13 with (fail)
      obtain ⟨wB, hwB⟩ : ∃ wB, wr.alloc (.cells #[.int .i64 x, .int .i64 y] 31) = wB := ⟨_, rfl⟩
      have kB : Keep Nb wr wB := by rw [← hwB]; exact (Keep.refl Nb wr).alloc _
      have p1 : wB.cell? ⟨wr.heap.size, 0, none⟩ = some (.int .i64 x) := by rw [← hwB, World.cell?_alloc_at _ _ _ _ rfl]; rfl
      have p2 : wB.cell? ⟨wr.heap.size, 1, none⟩ = some (.int .i64 y) := by rw [← hwB, World.cell?_alloc_at _ _ _ _ rfl]; rfl
      rw [hwB]
      have KB := Lib.hid kB
      have HBX : Hid (wr.heap.size < wB.heap.size) := Lib.hid (by rw [← hwB]; simp)
      obtain ⟨bx, hbx⟩ : ∃ bx, wr.heap.size = bx := ⟨_, rfl⟩
      rw [hbx] at p1 p2 HBX ⊢
      clear hwB kB hbx d1 d2
      go_cut [89] (fun v wc => v = .bool false ∧ Keep Nb wB wc)
      case first => as_aux_lemma =>
        have t1 : decide (y ≤ x) = false := by simp; omega
        by_cases h0 : i = 0
        · have t2 : decide (0 < i) = false := by simp; omega
          clear h0
          go_quiet (fail)
          go_wp2_with fail
          go_meet
          exact ⟨rfl, (Keep.refl Nb wB).drewN _⟩
        · obtain ⟨u, v, c1, c2, hlex⟩ := HPV.out (by omega)
          have c1' := KB.out.cell c1 (fun e => e)
          have c2' := KB.out.cell c2 (fun e => e)
          have t2 : decide (0 < i) = true := by simp; omega
          have t3 : decide (x < u) = false := by simp; omega
          have b1 : 1 ≤ i := by omega
          have b2 : i - 1 < l.length := by omega
          have b5 : (i : Int) - 1 < (l.length : Int) := by omega
          by_cases hux : u = x
          · have t4 : ((u : Int) == (x : Int)) = true := by simp; omega
            have t5 : decide (y ≤ v) = false := by simp; omega
            have b3 : ((i : Int) - 1).toNat = i - 1 := by omega
            have b4 : IntKind.i64.wrap ((i : Int) - 1) = (i : Int) - 1 := IntWalk.i64_in _ (by omega)
            clear h0 c1 c2 hlex hux
            go_quiet (fail)
            go_wp2_with fail
            go_meet
            exact ⟨rfl, (Keep.refl Nb wB).drewN _⟩
          · have t4 : ((u : Int) == (x : Int)) = false := by simp; omega
            have b3 : ((i : Int) - 1).toNat = i - 1 := by omega
            have b4 : IntKind.i64.wrap ((i : Int) - 1) = (i : Int) - 1 := IntWalk.i64_in _ (by omega)
            clear h0 c1 c2 hlex hux
            go_quiet (fail)
            go_wp2_with fail
            go_meet
            exact ⟨rfl, (Keep.refl Nb wB).drewN _⟩
      case rest =>
        obtain ⟨rfl, hkc⟩ := hcut
        have HKC := Lib.hid (((HK3.out.trans HR.out).trans KB.out).trans hkc)
        have HK34 := Lib.hid ((HR.out.trans KB.out).trans hkc)
        obtain ⟨w4, rfl⟩ : ∃ w4 : World, w4 = wc := ⟨_, rfl⟩
        have P1 := Lib.hid (hkc.cell p1 (fun e => e))
        have P2 := Lib.hid (hkc.cell p2 (fun e => e))
        have hbxc : bx < w4.heap.size := Nat.lt_of_lt_of_le HBX.out hkc.size
        obtain ⟨h2x, h2y⟩ := two_edges HOK.out.ne HPX.out
        clear hkc p1 p2
        have p1 := P1.out
        go_wp2_with fail
        refine (at_any _ _ gb N es x (HG.out.keep HKC.out (fun _ _ e => e)) (by omega) (by omega)).mono ?_
        rintro e1 w5 ⟨o5, c5, rfl, _, hk5⟩
        obtain ⟨m1, hm1⟩ : ∃ m1, (es.filter (kp x)).length = m1 := ⟨_, rfl⟩
        rw [hm1] at h2x ⊢
        clear hm1 p1
        have p2 := hk5.cell P2.out (fun e => e)
        have HK5 := Lib.hid hk5
        clear hk5
        go_wp2_with fail
        refine (at_any _ _ gb N es y (HG.out.keep (HKC.out.trans HK5.out) (fun _ _ e => e)) (by omega) (by omega)).mono ?_
        rintro e1 w6 ⟨o6, c6, rfl, _, hk6⟩
        obtain ⟨m2, hm2⟩ : ∃ m2, (es.filter (kp y)).length = m2 := ⟨_, rfl⟩
        rw [hm2] at h2y ⊢
        clear hm2 p2
        have HK6 := Lib.hid (HK5.out.trans hk6)
        have p1 := HK6.out.cell P1.out (fun e => e)
        have p2 := HK6.out.cell P2.out (fun e => e)
        clear hk6
        go_wp2_with fail
        refine (without_any _ Nb _ _ gb N es none _ 0 _ [] [x, y] (HG.out.keep ((HKC.out.trans HK6.out).alloc _) (fun _ _ e => e)) (by omega) (Sl.nil _ _ _ _) (Sl.built w6 3 1 2 [.int .i64 x, .int .i64 y] rfl (by simp only [maxLen]; omega)) (by simp) (by simp)).mono ?_
        rintro e1 w7 ⟨rfl, hgL, hk7⟩
        rw [withoutN_eq2] at hgL
        have HGL := Lib.hid hgL
        have HK7 := Lib.hid ((HK6.out.alloc _).trans hk7)
        clear hgL hk7 p1 p2
        obtain ⟨gL, hgLe⟩ : ∃ gL, (w6.alloc (.cells #[.int .i64 x, .int .i64 y] 3)).heap.size = gL := ⟨_, rfl⟩
        rw [hgLe] at HGL ⊢
        clear hgLe
        have p1 := HK7.out.cell P1.out (fun e => e)
        have p2 := HK7.out.cell P2.out (fun e => e)
        have HKL := Lib.hid (HKC.out.trans HK7.out)
        have hsn : Hid (∀ nd : List Nat, (sansN es nd).length ≤ 40) := Lib.hid (fun nd => Nat.le_trans (List.length_filter_le _ _) hel)
        have hbx7 : bx < w7.heap.size := Nat.lt_of_lt_of_le hbxc HK7.out.size
        have P1w := Lib.hid p1
        have P2w := Lib.hid p2
        obtain ⟨w6, rfl⟩ : ∃ w6 : World, w6 = w7 := ⟨_, rfl⟩
        go_wp2_with fail
        go_cut [15, 16] (fun u v wc => TwoBr N es x y w6 u v wc)
        case first => as_aux_lemma =>
          go_region_held3 (fun w' => w'.cell? ⟨bx, 0, none⟩ = some (.int .i64 x) ∧ w'.cell? ⟨bx, 1, none⟩ = some (.int .i64 y)) (go_keep) ((first | (go_at_call 29; refine (without_any _ Nb (fun _ => True) _ gb N es none _ 0 _ [] [x] (HG.out.keep (HKL.out.trans (show Keep Nb w6 _ from ?_)) (fun _ _ e => e)) (by omega) (Sl.nil _ _ _ _) ?_ (by simp) (by simp)).mono ?_; (focus ((repeat (first | exact Keep.refl _ _ | (refine K0.out (Hid.out ?_); assumption) | refine Keep.alloc ?_ _ | refine Keep.drew ?_)); done)); (focus ((repeat (first | (refine Sl.built1 ?_; (focus ((first | rfl | simp); done))) | refine Sl.alloc ?_ _ | refine Sl.drew ?_ | refine Sl.kstep ?_ (Hid.out (by assumption)))); done)); rintro e9 wx1 ⟨rfl, hg9, hk9⟩; rw [withoutN_eq2] at hg9; (try simp only [World.size_alloc, World.size_drew] at hg9); have hzx1 := hk9.size; (try simp only [World.size_alloc, World.size_drew] at hzx1); have HGx := Lib.hid (GrX.mk hg9); have hkx1 : Hid (K0 w6 wx1) := Lib.hid (K0.mk (Keep.trans (show Keep Nb w6 _ from (by (repeat (first | exact Keep.refl _ _ | (refine K0.out (Hid.out ?_); assumption) | refine Keep.alloc ?_ _ | refine Keep.drew ?_)))) hk9)); have hsx1 : Hid (KStep _ wx1) := Lib.hid (KStep.mk hk9); have q1 := (K0.out hkx1.out).cell P1w.out (fun e => e); have q2 := (K0.out hkx1.out).cell P2w.out (fun e => e); clear hg9 hk9) | (go_at_call 29; refine (without_any _ Nb (fun _ => True) _ gb N es none _ 0 _ [] [y] (HG.out.keep (HKL.out.trans (show Keep Nb w6 _ from ?_)) (fun _ _ e => e)) (by omega) (Sl.nil _ _ _ _) ?_ (by simp) (by simp)).mono ?_; (focus ((repeat (first | exact Keep.refl _ _ | (refine K0.out (Hid.out ?_); assumption) | refine Keep.alloc ?_ _ | refine Keep.drew ?_)); done)); (focus ((repeat (first | (refine Sl.built1 ?_; (focus ((first | rfl | simp); done))) | refine Sl.alloc ?_ _ | refine Sl.drew ?_ | refine Sl.kstep ?_ (Hid.out (by assumption)))); done)); rintro e9 wy1 ⟨rfl, hg9, hk9⟩; rw [withoutN_eq2] at hg9; (try simp only [World.size_alloc, World.size_drew] at hg9); have hzy1 := hk9.size; (try simp only [World.size_alloc, World.size_drew] at hzy1); have HGy := Lib.hid (GrX.mk hg9); have hky1 : Hid (K0 w6 wy1) := Lib.hid (K0.mk (Keep.trans (show Keep Nb w6 _ from (by (repeat (first | exact Keep.refl _ _ | (refine K0.out (Hid.out ?_); assumption) | refine Keep.alloc ?_ _ | refine Keep.drew ?_)))) hk9)); have hsy1 : Hid (KStep _ wy1) := Lib.hid (KStep.mk hk9); have q1 := (K0.out hky1.out).cell P1w.out (fun e => e); have q2 := (K0.out hky1.out).cell P2w.out (fun e => e); clear hg9 hk9) | (go_at_call 31; refine (bof_any (fun _ => True) _ _ N (sansN es [x]) (show GrX _ _ N (sansN es [x]) from ?_).out (by omega) (by have := hsn.out [x]; omega) (HOK.out.filter2 [x])).mono ?_; (focus ((repeat (first | (refine Hid.out ?_; assumption) | refine GrX.alloc ?_ _ | refine GrX.drew ?_ | refine GrX.kstep ?_ (Hid.out (by assumption)))); done)); rintro e9 wx2 ⟨bx2, rfl, hb9, hk9⟩; have hzx2 := hk9.size; (try simp only [World.size_alloc, World.size_drew] at hzx2); (try simp only [World.size_alloc, World.size_drew] at hb9); have HBx := Lib.hid (BrX.mk hb9); have hkx2 : Hid (K0 w6 wx2) := Lib.hid (K0.mk (Keep.trans (show Keep Nb w6 _ from (by (repeat (first | exact Keep.refl _ _ | (refine K0.out (Hid.out ?_); assumption) | refine Keep.alloc ?_ _ | refine Keep.drew ?_)))) hk9)); have hsx2 : Hid (KStep _ wx2) := Lib.hid (KStep.mk hk9); have q1 := (K0.out hkx2.out).cell P1w.out (fun e => e); have q2 := (K0.out hkx2.out).cell P2w.out (fun e => e); clear hb9 hk9) | (go_at_call 31; refine (bof_any (fun _ => True) _ _ N (sansN es [y]) (show GrX _ _ N (sansN es [y]) from ?_).out (by omega) (by have := hsn.out [y]; omega) (HOK.out.filter2 [y])).mono ?_; (focus ((repeat (first | (refine Hid.out ?_; assumption) | refine GrX.alloc ?_ _ | refine GrX.drew ?_ | refine GrX.kstep ?_ (Hid.out (by assumption)))); done)); rintro e9 wy2 ⟨by2, rfl, hb9, hk9⟩; have hzy2 := hk9.size; (try simp only [World.size_alloc, World.size_drew] at hzy2); (try simp only [World.size_alloc, World.size_drew] at hb9); have HBy := Lib.hid (BrX.mk hb9); have hky2 : Hid (K0 w6 wy2) := Lib.hid (K0.mk (Keep.trans (show Keep Nb w6 _ from (by (repeat (first | exact Keep.refl _ _ | (refine K0.out (Hid.out ?_); assumption) | refine Keep.alloc ?_ _ | refine Keep.drew ?_)))) hk9)); have hsy2 : Hid (KStep _ wy2) := Lib.hid (KStep.mk hk9); have q1 := (K0.out hky2.out).cell P1w.out (fun e => e); have q2 := (K0.out hky2.out).cell P2w.out (fun e => e); clear hb9 hk9)))
          all_goals
            go_wp2_with fail
            go_meet
            go_light
            first
              | exact TwoBr.mk (BrX.keep' HBx.out (by (repeat (first | exact Keep.refl _ _ | refine Keep.trans ?_ (KStep.out (Hid.out (by assumption))) | refine Keep.alloc ?_ _ | refine Keep.drew ?_)))) HBy.out hky2.out (by omega)
              | exact TwoBr.mk HBx.out (BrX.keep' HBy.out (by (repeat (first | exact Keep.refl _ _ | refine Keep.trans ?_ (KStep.out (Hid.out (by assumption))) | refine Keep.alloc ?_ _ | refine Keep.drew ?_)))) hkx2.out (by omega)
        case rest =>
          obtain ⟨bA, bB, loA, hiA, loB, hiB, rfl, rfl, hA, hB, hdis, hlA, hlB, hhA, hhB, hk0⟩ := hcut
          obtain ⟨w8, rfl⟩ : ∃ w8 : World, w8 = wc := ⟨_, rfl⟩
          have HA := Lib.hid hA
          have HBB := Lib.hid hB
          have HK8 := Lib.hid (K0.out hk0)
          clear hA hB hk0
          go_wp2_with fail
          refine (bof_any _ _ gL N (sansN es [x, y]) (HGL.out.keep HK8.out (fun _ _ e => e)) (by omega) (by have := hsn.out [x, y]; omega) (HOK.out.filter2 [x, y])).mono ?_
          rintro e1 w9 ⟨bC, rfl, hbC, hk9⟩
          have HH : Hid (H3 N es x y w6 loA hiA bA loB hiB bB w8.heap.size w9.heap.size bC w9) := Lib.hid
            ⟨HA.out.keep' hk9, HBB.out.keep' hk9, hbC, hdis, hhA, hhB, hlA, hlB, HK8.out.size, HK8.out.trans hk9⟩
          have NODES : Hid (∀ wr, Keep Nb w6 wr → Calls Try.prog 24 #[.pointer (some ⟨gb, 0, none⟩)] wr fun e w' => e = .returned (.int .i64 N) ∧ wr = w') := Lib.hid (fun wr k =>
            (nodes_any _ wr gb N es ((HG.out.keep HKL.out (fun _ _ e => e)).keep k (fun _ _ e => e))).mono fun _ _ h => ⟨h.1, h.2.symm⟩)
          clear hbC hk9 HA HBB hdis hlA hlB hhA hhB
          go_wp2_with (go_at_call 24; refine (NODES.out _ HH.out.k).mono ?_; rintro e1 w' ⟨rfl, rfl⟩)
          go_loopg [13, 18] N (fun kx s13 s18 wr => ∃ (a : Nat) (f : Bool), s13 = .bool f ∧ s18 = .int .i64 a ∧ a ≤ N ∧ N - a ≤ kx ∧ Hid (H3 N es x y w6 loA hiA bA loB hiB bB w8.heap.size w9.heap.size bC wr ∧ NoW es x y a f))
          case atStart => exact ⟨0, false, rfl, rfl, Nat.zero_le _, by omega, Lib.hid ⟨HH.out, fun _ k l h => absurd h (by omega)⟩⟩
          case round =>
            clear HH
            obtain ⟨a, f, rfl, rfl, ha, hga, HR1⟩ := hrel
            by_cases haf : a < N ∧ f = false
            · obtain ⟨haN, rfl⟩ := haf
              go_wp2_with (go_at_call 24; refine (NODES.out _ HR1.out.1.k).mono ?_; rintro e1 w' ⟨rfl, rfl⟩)
              go_loopg [13, 19] a (fun ky s13 s19 wr => ∃ (d : Nat) (f : Bool), s13 = .bool f ∧ s19 = .int .i64 d ∧ d ≤ a ∧ a - d ≤ ky ∧ Hid (H3 N es x y w6 loA hiA bA loB hiB bB w8.heap.size w9.heap.size bC wr ∧ NoW2 es x y a d f))
              case atStart => exact ⟨0, false, rfl, rfl, Nat.zero_le _, by omega, Lib.hid ⟨HR1.out.1, fun h => ⟨HR1.out.2 h, fun l hl => absurd hl (by omega)⟩⟩⟩
              case round => as_aux_lemma =>
                clear HR1
                obtain ⟨d, f, rfl, rfl, hd, hgd, HR2⟩ := hrel
                by_cases hdf : d < a ∧ f = false
                · obtain ⟨hda, rfl⟩ := hdf
                  have q1 := HR2.out.1.k.cell P1w.out (fun e => e)
                  have q2 := HR2.out.1.k.cell P2w.out (fun e => e)
                  by_cases ht : a = x ∨ a = y ∨ d = x ∨ d = y
                  · have HN : Hid (H3 N es x y w6 loA hiA bA loB hiB bB w8.heap.size w9.heap.size bC wr ∧ NoW2 es x y a (d + 1) false) := Lib.hid ⟨HR2.out.1, fun h => ⟨(HR2.out.2 h).1, fun l hl hw => by
                      by_cases e : l < d
                      · exact (HR2.out.2 h).2 l e hw
                      · obtain rfl : l = d := by omega
                        obtain ⟨g1, g2, g3, g4, _⟩ := hw
                        omega⟩⟩
                    by_cases t1 : a = x
                    · have b1 : ((a : Int) == (x : Int)) = true := by simp; omega
                      clear ht t1
                      go_wp2_with fail
                      go_roundg (a - (d + 1))
                      case measure => omega
                      case rel => exact ⟨d + 1, false, rfl, rfl, by omega, Nat.le_refl _, HN⟩
                    · have b1 : ((a : Int) == (x : Int)) = false := by simp; omega
                      by_cases t2 : a = y
                      · have b2 : ((a : Int) == (y : Int)) = true := by simp; omega
                        clear ht t1 t2
                        go_wp2_with fail
                        go_roundg (a - (d + 1))
                        case measure => omega
                        case rel => exact ⟨d + 1, false, rfl, rfl, by omega, Nat.le_refl _, HN⟩
                      · have b2 : ((a : Int) == (y : Int)) = false := by simp; omega
                        by_cases t3 : d = x
                        · have b3 : ((d : Int) == (x : Int)) = true := by simp; omega
                          clear ht t1 t2 t3
                          go_wp2_with fail
                          go_roundg (a - (d + 1))
                          case measure => omega
                          case rel => exact ⟨d + 1, false, rfl, rfl, by omega, Nat.le_refl _, HN⟩
                        · have b3 : ((d : Int) == (x : Int)) = false := by simp; omega
                          have b4 : ((d : Int) == (y : Int)) = true := by simp; omega
                          clear ht t1 t2 t3
                          go_wp2_with fail
                          go_roundg (a - (d + 1))
                          case measure => omega
                          case rel => exact ⟨d + 1, false, rfl, rfl, by omega, Nat.le_refl _, HN⟩
                  · have b1 : ((a : Int) == (x : Int)) = false := by simp; omega
                    have b2 : ((a : Int) == (y : Int)) = false := by simp; omega
                    have b3 : ((d : Int) == (x : Int)) = false := by simp; omega
                    have b4 : ((d : Int) == (y : Int)) = false := by simp; omega
                    have HT := Lib.hid ht
                    clear ht
                    have hdN : d < N := by omega
                    go_wp2_with fail
                    refine (bwhole_any _ _ bA N (sansN es [x]) a d haN hdN HR2.out.1.a).mono ?_
                    rintro e1 wa ⟨rfl, hA2, hka⟩
                    have HH1 := Lib.hid (HR2.out.1.goA hA2 hka)
                    obtain ⟨r1, hr1⟩ : ∃ r1, decide (Conn (ends (sansN es [x])) a d) = r1 := ⟨_, rfl⟩
                    rw [hr1]
                    have HR1' := Lib.hid hr1
                    clear hA2 hka hr1 b1 b2 b3 b4 q1 q2
                    go_wp2_with fail
                    refine (bwhole_any _ _ bB N (sansN es [y]) a d haN hdN HH1.out.b).mono ?_
                    rintro e1 wb ⟨rfl, hB2, hkb⟩
                    have HH2 := Lib.hid (HH1.out.goB hB2 hkb)
                    obtain ⟨r2, hr2⟩ : ∃ r2, decide (Conn (ends (sansN es [y])) a d) = r2 := ⟨_, rfl⟩
                    rw [hr2]
                    have HR2' := Lib.hid hr2
                    clear hB2 hkb hr2
                    go_wp2_with fail
                    refine (bwhole_any _ _ bC N (sansN es [x, y]) a d haN hdN HH2.out.c).mono ?_
                    rintro e1 wc3 ⟨rfl, hC2, hkc3⟩
                    have HH3 := Lib.hid (HH2.out.goC hC2 hkc3)
                    obtain ⟨r3, hr3⟩ : ∃ r3, decide (Conn (ends (sansN es [x, y])) a d) = r3 := ⟨_, rfl⟩
                    rw [hr3]
                    have HN : Hid (H3 N es x y w6 loA hiA bA loB hiB bB w8.heap.size w9.heap.size bC wc3 ∧ NoW2 es x y a (d + 1) (r1 && r2 && !r3)) := Lib.hid ⟨HH3.out, fun h => ⟨(HR2.out.2 rfl).1, fun l hl hw => by
                      by_cases e : l < d
                      · exact (HR2.out.2 rfl).2 l e hw
                      · obtain rfl : l = d := by omega
                        obtain ⟨_, _, _, _, g5, g6, g7⟩ := hw
                        have i1 : r1 = true := by rw [← HR1'.out]; exact decide_eq_true g5
                        have i2 : r2 = true := by rw [← HR2'.out]; exact decide_eq_true g6
                        have i3 : r3 = false := by rw [← hr3]; exact decide_eq_false g7
                        rw [i1, i2, i3] at h; cases h⟩⟩
                    clear hC2 hkc3 hr3 HR1' HR2' HH1 HH2 HH3 HR2
                    rcases (by cases r1 <;> cases r2 <;> simp : r1 = false ∨ (r1 = true ∧ r2 = false) ∨ (r1 = true ∧ r2 = true)) with rfl | ⟨rfl, rfl⟩ | ⟨rfl, rfl⟩
                    all_goals
                      go_wp2_with fail
                      go_roundg (a - (d + 1))
                      case measure => omega
                      case rel => exact ⟨d + 1, _, rfl, rfl, by omega, Nat.le_refl _, HN⟩
                · have HN : Hid (H3 N es x y w6 loA hiA bA loB hiB bB w8.heap.size w9.heap.size bC wr ∧ NoW es x y (a + 1) f) := Lib.hid ⟨HR2.out.1, fun h k l hk hl => by
                    by_cases e : k < a
                    · exact (HR2.out.2 h).1 k l e hl
                    · obtain rfl : k = a := by omega
                      exact (HR2.out.2 h).2 l (by
                        apply Classical.byContradiction
                        intro hh
                        exact hdf ⟨by omega, h⟩)⟩
                  by_cases hda : d < a
                  · have hf : f = true := by
                      cases f with
                      | true => rfl
                      | false => exact absurd ⟨hda, rfl⟩ hdf
                    subst hf
                    clear hdf HR2
                    go_wp2_with fail
                    go_roundg (N - (a + 1))
                    case measure => omega
                    case rel => exact ⟨a + 1, true, rfl, rfl, by omega, Nat.le_refl _, HN⟩
                  · clear hdf HR2
                    go_wp2_with fail
                    go_roundg (N - (a + 1))
                    case measure => omega
                    case rel => exact ⟨a + 1, f, rfl, rfl, by omega, Nat.le_refl _, HN⟩
            · have hft : f = true := by
                cases f with
                | true => rfl
                | false =>
                  exfalso
                  have haN : a = N := by
                    apply Classical.byContradiction
                    intro hh
                    exact haf ⟨by omega, rfl⟩
                  subst haN
                  exact wit_of HPX.out (HR1.out.2 rfl)
              subst hft
              have HN : Hid (Keep Nb w3 wr) := Lib.hid ((HK34.out.trans HK7.out).trans HR1.out.1.k)
              by_cases haN : a < N
              all_goals
                go_wp2_with (go_at_call 24; refine (NODES.out _ HR1.out.1.k).mono ?_; rintro e1 w' ⟨rfl, rfl⟩)
                go_roundg (l.length - (i + 1))
                case measure => omega
                case rel => exact ⟨i + 1, rfl, by omega, Nat.le_refl _, HN⟩
    · have HF : Hid (Keep Nb w wr) := Lib.hid (((HK2.out.trans HK3.out)).trans HR.out)
      go_wp2_with fail
      go_ret
      exact ⟨rfl, HF.out⟩

end Go.Proofs.Ytkpoobnldgfapaa
