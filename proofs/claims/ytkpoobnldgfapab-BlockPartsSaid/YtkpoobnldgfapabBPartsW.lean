/- isthmuskeep.BlockParts: the walk. -/
import Derived.Test.YtkpoobnldgfapabRinged
import Derived.Test.YtkpoobnldgfapabBPartsK
import Derived.Test.YtkpoobnldgfapabE3
import Derived.Test.YtkpoobnldgfapabGEdge
import Derived.Deep.DeepCutAuto
import Derived.Deep.LoopGhost
import Derived.BigQuiet
import Derived.Deep.QuietTactic
set_option linter.unusedVariables false
set_option linter.unusedSimpArgs false
namespace Go.Proofs.Ytkpoobnldgfapab
open Go.RowKit Pl Go.Maps

set_option maxRecDepth 100000 in
theorem blockParts_long (n : Int) (oa : Option Addr) (len cap : Nat) (h : 60 < len) (w : World) :
    Calls Try.prog 3 #[.int .i64 n, .slice oa len cap] w fun e w' => e = .returned (.bool true) ∧ Keep Nb w w' := by
  go_enter Try.func3, Try.ntmps3
  go_wp2_with fail
  go_ret
  exact ⟨rfl, Keep.refl _ _⟩

/-- Behind k parts and i edges of the next. -/
structure PK2 (es : List E) (ps : List (List Nat)) (wZ wr : World) (ab sb B N k i : Nat) (AT : Nat → List (Nat × Value)) : Prop where
  seen : MapAt encN DN wr sb (idSet (seenIds ps k i))
  at_ : AtM wr ab B N N AT
  keys : AtK es ps k i AT
  keep : Keep (fun j => j = sb ∨ (B ≤ j ∧ j < B + N)) wZ wr

/-- .. and those that stand alone. -/
structure PK (es : List E) (ps : List (List Nat)) (wZ wr : World) (ab sb B N k i l : Nat) (o : Option Addr) (c : Nat) (kl : Nat) (AT : Nat → List (Nat × Value)) : Prop where
  lone : Sl (fun j => wZ.heap.size ≤ j) wr 3 1 o l c (ints (loneOf (ps.take kl)))
  rest : PK2 es ps wZ wr ab sb B N k i AT

theorem PK2.next {es : List E} {ps : List (List Nat)} {wZ wr wf w4 : World} {ab sb B N k i : Nat} {AT : Nat → List (Nat × Value)} (h : PK2 es ps wZ wr ab sb B N k i AT) (hs : Sorted es) (hn : ps.flatten.Nodup) {p : List Nat} (hp : ps[k]? = some p) {e : E} (he : e ∈ es) (hi : p[i]? = some e.id)
    (hsb : sb < B) (hsab : sb ≠ ab) (hM : MapAt encN DN wf sb (mset (idSet (seenIds ps k i)) e.id (.bool true))) (kf : Keep (fun j => j = sb) wr wf) (k4 : Keep (fun j => B ≤ j ∧ j < B + N) wf w4)
    (hA : AtM w4 ab B N N (fun x => if x = e.a ∨ x = e.b then mset (AT x) k (.bool true) else AT x)) : PK2 es ps wZ w4 ab sb B N k (i + 1) (fun x => if x = e.a ∨ x = e.b then mset (AT x) k (.bool true) else AT x) := by
  refine ⟨?_, hA, h.keys.next hs hp he hi, (h.keep.trans' kf (fun _ _ e => e) (fun j _ e => .inl e)).trans' k4 (fun _ _ e => e) (fun j _ e => .inr e)⟩
  rw [seenIds_next hp hi, ← idSet_set (seenIds_fresh hn hp hi)]
  exact hM.keep k4 (fun e => by omega)

theorem PK2.row {es : List E} {ps : List (List Nat)} {wZ wr : World} {ab sb B N k : Nat} {AT : Nat → List (Nat × Value)} {p : List Nat} (hp : ps[k]? = some p) (h : PK2 es ps wZ wr ab sb B N k p.length AT) : PK2 es ps wZ wr ab sb B N (k + 1) 0 AT :=
  ⟨by rw [← seenIds_row hp]; exact h.seen, h.at_, fun x c => by rw [h.keys x c, TouchT.row hp], h.keep⟩

set_option maxRecDepth 100000 in
set_option maxHeartbeats 40000000 in
theorem blockParts_short (n0 : Int) (b off len cap : Nat) (oa : Option Addr) (hoa : 0 < len → oa = some ⟨b, off, none⟩) (A B0 : Nat → Int) (hlen : len ≤ 60) (hcap : len ≤ cap) (w : World) (hb : 0 < len → b < w.heap.size) (hP : Prs w b off len A B0) :
    Calls Try.prog 3 #[.int .i64 n0, .slice oa len cap] w fun e w' => e = .returned (.bool true) ∧ Keep Nb w w' := by
  have HOA := Lib.hid hoa
  have HP := Lib.hid hP
  have HB := Lib.hid hb
  have hlen' : ¬ (60 : Int) < (len : Int) := by omega
  clear hoa hP hb
  go_enter Try.func3, Try.ntmps3
  go_wp2_with fail
  refine (ringed_any _).mono ?_
  rintro e w1 ⟨rfl, hk1⟩
  have HK1 := Lib.hid hk1
  clear hk1
  obtain ⟨N, hN⟩ : ∃ N, N = 2 + pickN n0 13 := ⟨_, rfl⟩
  have hN14 : N ≤ 14 := by have := pickN_lt n0 (n := 13) (by omega); omega
  have hN2 : 2 ≤ N := by omega
  have HNN := Lib.hid hN
  clear hN
  go_wp2_with fail
  refine (kmade_any n0 b off len cap oa HOA.out A B0 N (min len 50) HNN.out rfl (by omega) hcap _ (fun h => Nat.lt_of_lt_of_le (HB.out h) HK1.out.size) (HP.out.keep HK1.out (fun e => e))).mono ?_
  rintro e w2 ⟨gb, rfl, hG, hk2⟩
  obtain ⟨es, hes⟩ : ∃ es, madeK N A B0 (min len 50) = es := ⟨_, rfl⟩
  have hok : EOk N es := by rw [← hes]; exact madeK_ok (by omega) (by omega)
  have hel : es.length ≤ 50 := by rw [← hes]; exact Nat.le_trans (madeK_len N A B0 _) (Nat.min_le_right _ _)
  rw [hes] at hG
  have HG := Lib.hid hG
  have HK2 := Lib.hid (HK1.out.trans hk2)
  have HOK := Lib.hid hok
  have HCF := Lib.hid (bkof_any _ w2 gb N es hG (fun k hk => hk.2) (by omega) (by omega) hok (fun X Y ob lb mb => deep_any w2.heap.size X Y ob lb gb N (.map (some mb)) es _ (fun k hk => hk.2) (by omega) (by omega) hok.over hok.ne N))
  clear hG hk2 hes hok HOA HP HB hlen'
  go_wp2_with fail
  refine HCF.out.mono ?_
  rintro e w3 ⟨Y, mb, pc, cc, po, co, rows, ps, cs, M, G, rfl, hBL, hcs, hrise, hYr, hMat, hCut, hMap, hOf, hGlo, hYlo, hmblo, hk3⟩
  have HBL := Lib.hid hBL
  have HCS := Lib.hid (And.intro hcs hrise)
  have HY := Lib.hid hYr
  have HMT := Lib.hid hMat
  have HCU := Lib.hid hCut
  have HK3 := Lib.hid hk3
  obtain ⟨hpl, hrl⟩ := hBL.lens HOK.out.sorted
  have HRL := Lib.hid hrl
  have hcl : cs.length ≤ N := by
    have h1 : cs.Nodup := hrise.imp fun h => Nat.ne_of_lt h
    have := len_le_of_mem h1 (k := List.range N) (fun i hi => List.mem_range.2 ((hcs i).1 hi).1)
    simpa using this
  have HB4 := Lib.hid (bof_any _ w3 gb N es (HG.out.keep hk3 (fun _ _ e => e)) (by omega) (by omega) HOK.out)
  clear hBL hcs hrise hYr hMat hCut hMap hOf hGlo hYlo hmblo hk3 HCF hrl
  go_wp2_with fail
  refine HB4.out.mono ?_
  rintro e1 w4 ⟨br, rfl, hB, hk4⟩
  have HBR := Lib.hid hB
  have HK4 := Lib.hid hk4
  have HPA := Lib.hid (bkparts_any G w4 Y cs.length cc pc (.map (some mb)) po co rows ps (HY.out.keep hk4 (fun e => e)) (HMT.out.keep hk4 (fun _ _ e => e)) HBL.out.ne (by omega) (fun p hp => by have := HRL.out p hp; omega))
  clear hB hk4 HB4
  go_wp2_with fail
  refine HPA.out.mono ?_
  rintro e1 w5 ⟨oP, cP, rowsP, rfl, hMP, hk5⟩
  obtain ⟨m, hm⟩ : ∃ m, ps.length = m := ⟨_, rfl⟩
  rw [hm] at hMP hpl
  rw [hm]
  have HM := Lib.hid hm
  have HMP := Lib.hid hMP.tight
  have HK5 := Lib.hid hk5
  have HK25 := Lib.hid (HK3.out.trans (HK4.out.trans hk5))
  obtain ⟨sb, hsb⟩ : ∃ sb, w5.heap.size = sb := ⟨_, rfl⟩
  obtain ⟨w6, hw6⟩ : ∃ w6, w5.alloc (.map #[] 0) = w6 := ⟨_, rfl⟩
  have k56 : Keep Nb w5 w6 := by rw [← hw6]; exact (Keep.refl Nb w5).alloc _
  have hz6 : w6.heap.size = sb + 1 := by rw [← hw6, ← hsb]; simp
  have hS6 : MapAt encN DN w6 sb (idSet (seenIds ps 0 0)) := by rw [← hw6, ← hsb]; exact MapAt.made encN DN w5
  have HK56 := Lib.hid k56
  have HS6 := Lib.hid hS6
  have HZ6 := Lib.hid hz6
  have hmm := @run_makeMap Try.prog
  have HNO := Lib.hid (nodes_any _ w6 gb N es ((HG.out.keep HK25.out (fun _ _ e => e)).keep k56 (fun _ _ e => e)))
  clear hMP hk5 hm HPA k56 hS6 hz6
  go_wp2_with fail
  try rw [hw6]
  try rw [hsb]
  clear hw6
  refine HNO.out.mono ?_
  rintro e1 w6 ⟨rfl, rfl⟩
  obtain ⟨Z, hZ, hmk⟩ := run_makeM N (by omega)
  obtain ⟨ab, hab⟩ : ∃ ab, w6.heap.size = ab := ⟨_, rfl⟩
  obtain ⟨w7, hw7⟩ : ∃ w7, w6.alloc (.cells Z 32) = w7 := ⟨_, rfl⟩
  have k67 : Keep Nb w6 w7 := by rw [← hw7]; exact (Keep.refl Nb w6).alloc _
  have hz7 : w7.heap.size = ab + 1 := by rw [← hw7, ← hab]; simp
  have hA7 : AtM w7 ab (ab + 1) N 0 (fun _ => []) := ⟨by omega, by
    have h1 := Row.new w6 Z 32
    rw [hab, hw7, hZ, ← atRow_zero N (ab + 1)] at h1
    exact h1, fun x hx => by omega⟩
  have HA7 := Lib.hid hA7
  have HK67 := Lib.hid k67
  have HZ7 : Hid (w7.heap.size = ab + 1 ∧ ab = sb + 1) := Lib.hid ⟨hz7, by have := HZ6.out; omega⟩
  obtain ⟨B, hB⟩ : ∃ B, ab + 1 = B := ⟨_, rfl⟩
  rw [hB] at HA7 HZ7
  have HAB := Lib.hid hB
  clear hZ k67 hA7 hz7 HNO hB
  go_wp2_with fail
  try rw [hw7]
  try rw [hab]
  clear hw7 hab hmk
  have hgr : ∀ wx, Keep (fun k => k = ab) w7 wx → Gr (fun k => w1.heap.size ≤ k ∧ k < w2.heap.size) wx gb N es := fun wx kx =>
    (((HG.out.keep HK25.out (fun _ _ e => e)).keep HK56.out (fun _ _ e => e)).keep HK67.out (fun _ _ e => e)).keep kx (fun k hk e => by
      have h1 := HK25.out.size; have h2 := HZ7.out.2; have e : k = ab := e; omega)
  have HGR := Lib.hid hgr
  clear hgr
  go_loopg [11] N (fun kx s11 wr => ∃ i : Nat, s11 = .int .i64 i ∧ i ≤ N ∧ N - i ≤ kx ∧ Hid (AtM wr ab B N i (fun _ => []) ∧ wr.heap.size = B + i ∧ Keep (fun k => k = ab) w7 wr))
  case atStart => exact ⟨0, rfl, Nat.zero_le _, by omega, Lib.hid ⟨HA7.out, by rw [HZ7.out.1]; rfl, Keep.refl _ _⟩⟩
  case round =>
    obtain ⟨i, rfl, hi, hg, HR⟩ := hrel
    have HNO := Lib.hid (nodes_any _ wr gb N es (HGR.out wr HR.out.2.2))
    by_cases hlt : i < N
    · as_aux_lemma =>
      have hr := HR.out.1.row
      have hz := HR.out.2.1
      have hr2 := hr.keep ((Keep.refl Nb wr).alloc (.map #[] 0)) (fun e => e)
      have q0 := hr2.cell (atRow_get (B := B) (i := i) hlt)
      have fq := hr2.frozen i none
      rw [if_neg (by omega)] at q0
      obtain ⟨h1, h2, h3⟩ := HR.out.1.make hz hlt
      have HN : Hid (AtM ((wr.alloc (.map #[] 0)).setCell ⟨ab, i, none⟩ (.map (some (B + i)))) ab B N (i + 1) (fun _ => []) ∧ ((wr.alloc (.map #[] 0)).setCell ⟨ab, i, none⟩ (.map (some (B + i)))).heap.size = B + (i + 1) ∧ Keep (fun k => k = ab) w7 ((wr.alloc (.map #[] 0)).setCell ⟨ab, i, none⟩ (.map (some (B + i))))) := Lib.hid ⟨h1, h2, HR.out.2.2.trans h3⟩
      clear hr hr2 h1 h2 h3
      go_wp2_with fail
      refine HNO.out.mono ?_
      rintro e1 w8 ⟨rfl, rfl⟩
      clear HNO
      go_wp2_with fail
      try rw [hz]
      go_roundg (N - (i + 1))
      case measure => omega
      case rel => exact ⟨i + 1, by go_num, by omega, Nat.le_refl _, HN⟩
    · obtain rfl : N = i := by omega
      go_wp2_with fail
      refine HNO.out.mono ?_
      rintro e1 wZ ⟨rfl, rfl⟩
      have HGZ := Lib.hid (HGR.out wZ HR.out.2.2)
      have hkZ : Keep (fun k => k = ab) w5 wZ := ((HK56.out.trans HK67.out).of_nb).trans HR.out.2.2
      have HKZ := Lib.hid hkZ
      have hzZ := HR.out.2.1
      have hkZ' : Keep Nb w5 wZ := ((HK56.out.trans HK67.out)).trans' HR.out.2.2 (fun _ _ e => e) (fun k hk e => by have h1 := HZ7.out.2; have e : k = ab := e; omega)
      have HKZN := Lib.hid hkZ'
      have HZZ := Lib.hid hzZ
      have H0 : Hid (PK es ps wZ wZ ab sb B N 0 0 0 none 0 0 (fun _ => [])) := Lib.hid ⟨Sl.nil _ _ _ _, by
        exact (HS6.out.keep HK67.out (fun e => e)).keep HR.out.2.2 (fun e => by have h1 := HZ7.out.2; omega), HR.out.1, fun x c => by
          constructor
          · intro h; simp at h
          · intro h; exact absurd h TouchT.zero, Keep.refl _ _⟩
      have hsB : sb + 2 = B := by have h1 := HZ7.out.2; have h2 := HAB.out; omega
      have hMZ := HMP.out.keep hkZ' (fun _ _ e => e)
      have HMZ := Lib.hid hMZ
      clear HNO HR HGR hkZ hkZ' hMZ HK56 HK67 HS6 HA7
      go_wp2_with fail
      go_loopg [12, 13] m (fun kx s12 s13 wr => ∃ (k l : Nat) (o : Option Addr) (c : Nat) (AT : Nat → List (Nat × Value)), s12 = .slice o l c ∧ s13 = .int .i64 k ∧ k ≤ m ∧ m - k ≤ kx ∧ Hid (PK es ps wZ wr ab sb B N k 0 l o c k AT))
      case atStart => exact ⟨0, 0, none, 0, _, rfl, rfl, Nat.zero_le _, by omega, H0⟩
      case round =>
        clear H0
        obtain ⟨k, l, o, c, AT, rfl, rfl, hk, hgk, HQ⟩ := hrel
        by_cases hkm : k < m
        · as_aux_lemma =>
          obtain ⟨p, hp⟩ : ∃ p, ps[k]? = some p := ⟨_, List.getElem?_eq_getElem (by rw [HM.out]; exact hkm)⟩
          have hp50 : p.length ≤ 50 := by have := HRL.out p (List.mem_of_getElem? hp); omega
          have hp0 : p ≠ [] := HBL.out.ne p (List.mem_of_getElem? hp)
          obtain ⟨gP, r, rfl, hmc, hcellZ, hrow⟩ := HMZ.out.lat_ hp
          have hrn : p.length = r.n := by have := hrow.len; simpa using this
          have hpos : 0 < p.length := List.length_pos_iff.2 hp0
          obtain ⟨gR, hgR, _, hnc, hrw⟩ := hrow.pos (by omega)
          have hgRf := hrow.foot _ hgR
          have hgPf := HMZ.out.out.foot _ rfl
          obtain ⟨rn, hrn2⟩ : ∃ x, r.n = x := ⟨_, rfl⟩
          obtain ⟨rc, hrc⟩ : ∃ x, r.c = x := ⟨_, rfl⟩
          rw [hgR, hrn2, hrc] at hcellZ
          rw [hrn2, hrc] at hnc
          rw [hrn2] at hrn
          have hz5 := HKZN.out.size
          have hrnle : rn ≤ 50 := by omega
          have hrnpos : 0 < rn := by omega
          have HC : Hid (∀ wx, Keep (fun j => j = sb ∨ (B ≤ j ∧ j < B + N)) wZ wx → wx.cell? ⟨gP, k, none⟩ = some (.slice (some ⟨gR, 0, none⟩) rn rc) ∧ ∀ (i x : Nat), p[i]? = some x → wx.cell? ⟨gR, i, none⟩ = some (.int .i64 x)) := Lib.hid (fun wx kx => by
            have h1 : w4.heap.size ≤ gR ∧ gR < w5.heap.size := hgRf
            have h2 : w4.heap.size ≤ gP ∧ gP < w5.heap.size := hgPf
            exact ⟨kx.cell hcellZ (fun e => by have e : gP = sb ∨ (B ≤ gP ∧ gP < B + N) := e; omega), fun i x hx => kx.cell (hrw.cell (ints_get hx)) (fun e => by have e : gR = sb ∨ (B ≤ gR ∧ gR < B + N) := e; omega)⟩)
          have HPP := Lib.hid (And.intro hp hrn)
          obtain ⟨x0, hx0⟩ : ∃ x, p[0]? = some x := ⟨_, List.getElem?_eq_getElem hpos⟩
          have hcell := (HC.out wr HQ.out.rest.keep).1
          clear hp hp0 hpos hcellZ hrow hrw hgRf hgPf hrn hgR hrn2 hrc
          by_cases h1 : rn = 1
          case' neg =>
            have b1 : ((rn : Int) == 1) = false := by simp; omega
            have HLO : Hid (Sl (fun j => wZ.heap.size ≤ j) wr 3 1 o l c (ints (loneOf (ps.take (k + 1))))) := Lib.hid (by
              rw [loneOf_succ HPP.out.1, if_neg (by rw [HPP.out.2]; exact h1)]; exact HQ.out.lone)
            have HV := Lib.hid HQ.out.rest
            obtain ⟨wv, rfl⟩ : ∃ w' : World, w' = wr := ⟨_, rfl⟩
            clear HQ h1
            go_upto_region 24 with (fail)
          case' pos =>
            have b1 : ((rn : Int) == 1) = true := by simp [h1]
            have H1E := Lib.hid h1
            have hc0 := (HC.out wr HQ.out.rest.keep).2 0 x0 hx0
            have hll : l ≤ 50 := by
              have h1 := HQ.out.lone.len
              have h2 : (loneOf (ps.take k)).length ≤ k := by
                unfold loneOf
                rw [List.length_map]
                refine Nat.le_trans (List.length_filter_le _ _) ?_
                rw [List.length_take]; omega
              have h3 : (ints (loneOf (ps.take k))).length = l * 1 := h1
              rw [ints_length] at h3
              omega
            have hcl2 : l ≤ c := by
              rcases HQ.out.lone.cases with ⟨_, h0, _, _⟩ | ⟨_, _, _, hnc2, _⟩ <;> omega
            obtain ⟨gq, cq, w8, r1, r2, r3, r4⟩ := run_app1 (P := Try.prog) 35 35 3 Try.underlying35 elem_int rfl HQ.out.lone (.int .i64 (x0 : Nat)) rfl (by omega) (by omega)
            have hbl : ∀ j, Bl o j → wZ.heap.size ≤ j := fun j ⟨a, ha, hj⟩ => by rw [← hj]; exact HQ.out.lone.foot a ha
            have HV : Hid (PK2 es ps wZ w8 ab sb B N k 0 AT) := Lib.hid (by
              have h := HQ.out.rest
              have hzr := h.keep.size
              have hzB := HZZ.out
              have hAB := HAB.out
              exact ⟨h.seen.keep r3 (fun e => by have := hbl _ e; omega), h.at_.keep r3 (fun e => by have := hbl _ e; omega) (fun x hx e => by have := hbl _ e; omega), h.keys, h.keep.trans' r3 (fun _ _ e => e) (fun j hj e => by have := hbl _ e; omega)⟩)
            have HLO : Hid (Sl (fun j => wZ.heap.size ≤ j) w8 3 1 (some ⟨gq, 0, none⟩) (l + 1) cq (ints (loneOf (ps.take (k + 1))))) := Lib.hid (by
              have hzr := HQ.out.rest.keep.size
              rw [loneOf_succ HPP.out.1, if_pos (HPP.out.2.trans H1E.out), ints_append]
              have hh : p.headD 0 = x0 := by
                cases p with
                | nil => simp at hx0
                | cons a l => simpa using hx0
              rw [hh]
              exact r2.mono (fun j e => by
                rcases e with e | e
                · exact e
                · have e : j = wr.heap.size + 1 := e
                  show wZ.heap.size ≤ j; omega))
            have HR1 := Lib.hid r1
            clear r1 r2 r3 r4 HQ hbl h1
            obtain ⟨wv, rfl⟩ : ∃ w' : World, w' = w8 := ⟨_, rfl⟩
            go_upto_region 24 with (at_builtin; refine wpList_app rfl _ _ _ rfl rfl rfl HR1.out ?_)
          all_goals
            as_aux_lemma =>
            clear hcell
            go_wp2_with fail
            go_loopg [14] rn (fun kz s14 wr2 => ∃ (i : Nat) (AT2 : Nat → List (Nat × Value)), s14 = .int .i64 i ∧ i ≤ rn ∧ rn - i ≤ kz ∧ Hid (PK2 es ps wZ wr2 ab sb B N k i AT2 ∧ Keep (fun j => j = sb ∨ (B ≤ j ∧ j < B + N)) wv wr2))
            case atStart => exact ⟨0, AT, rfl, Nat.zero_le _, by omega, Lib.hid ⟨HV.out, Keep.refl _ _⟩⟩
            case round =>
              clear HV
              obtain ⟨i, AT2, rfl, hi, hgi, HI⟩ := hrel
              have hcell := (HC.out wr HI.out.1.keep).1
              by_cases hlt : i < rn
              · as_aux_lemma =>
                obtain ⟨x, hx⟩ : ∃ x, p[i]? = some x := ⟨_, List.getElem?_eq_getElem (by rw [HPP.out.2]; exact hlt)⟩
                have hci := (HC.out wr HI.out.1.keep).2 i x hx
                obtain ⟨e, he, hid⟩ := (HBL.out.ids x).1 (List.mem_flatten.2 ⟨p, List.mem_of_getElem? HPP.out.1, List.mem_of_getElem? hx⟩)
                obtain ⟨xa, hxa⟩ : ∃ v, e.a = v := ⟨_, rfl⟩
                obtain ⟨xb, hxb⟩ : ∃ v, e.b = v := ⟨_, rfl⟩
                have hoe := HOK.out.over e he
                have hne := HOK.out.ne e he
                have hsm := HOK.out.small e he
                have hG := HGZ.out.keep HI.out.1.keep (fun j hj e => by
                  have h1 := HK25.out.size; have h2 : w1.heap.size ≤ j ∧ j < w2.heap.size := hj; have e : j = sb ∨ (B ≤ j ∧ j < B + N) := e; omega)
                have HGE := Lib.hid (gedge_hit _ wr gb N es e hG HOK.out.sorted (by omega) (pos_mem HOK.out.sorted he).1 (pos_mem HOK.out.sorted he).2)
                rw [hid, hxa, hxb] at HGE
                rw [hxa, hxb] at hoe hne
                rw [hid] at hsm
                have HEE := Lib.hid (And.intro he (And.intro hid (And.intro hxa (And.intro hxb hx))))
                obtain ⟨hoa, hob⟩ := hoe
                clear hx he hid hxa hxb hG
                go_wp2_with fail
                refine HGE.out.mono ?_
                rintro e1 we0 ⟨rfl, hke⟩
                obtain ⟨we, hwe⟩ : ∃ we, we0.alloc (.cells #[.int .i64 x, .int .i64 xa, .int .i64 xb] 37) = we := ⟨_, rfl⟩
                obtain ⟨X, hX⟩ : ∃ X, we0.heap.size = X := ⟨_, rfl⟩
                have hRX : Row we X 37 [.int .i64 x, .int .i64 xa, .int .i64 xb] := by rw [← hwe, ← hX]; exact Row.new we0 #[.int .i64 x, .int .i64 xa, .int .i64 xb] 37
                have kE : Keep Nb wr we := by rw [← hwe]; exact hke.trans ((Keep.refl Nb we0).alloc _)
                have f0 := hRX.cell (i := 0) rfl
                have hSE := HI.out.1.seen.keep kE (fun e => e)
                have hfr := seenIds_fresh HBL.out.nodup HPP.out.1 HEE.out.2.2.2.2
                have hlook := hSE.look (encN_enc Try.underlying3) Try.underlying32 (zero_boolB we) (a := x) (by show DN x; unfold DN; omega) false
                rw [idSet_none hfr] at hlook
                simp only [Bool.false_eq_true, if_false, Option.getD_none, encN] at hlook
                obtain ⟨wf, q1, q2, q3⟩ := hSE.store (encN_enc Try.underlying3) Try.underlying32 (a := x) (by show DN x; unfold DN; omega) (.bool true)
                have hsbX : sb < X := by
                  have h1 := HI.out.1.seen.lt
                  have h2 := hke.size
                  omega
                have hXf := hRX.keep q3 (fun e => by omega)
                have hAf := (HI.out.1.at_.keep kE (fun e => e) (fun _ _ e => e)).keep q3 (fun e => by have := HAB.out; omega) (fun y hy e => by omega)
                have hAd : AtM wf.drew ab B N N AT2 := hAf.keep ((Keep.refl Nb wf).drew) (fun e => e) (fun _ _ e => e)
                obtain ⟨u1, st1, v1, u2, u3, st2, v2, u4, r1, r2, r3, r4, k1, k2, k3, k4, hA4⟩ := hAd.two hoa hob hne (k := k) (by unfold DN; omega)
                have hXd := hXf.keep ((Keep.refl Nb wf).drew) (fun e => e)
                have hXB : B + N ≤ X := by
                  have h1 := HI.out.1.keep.size
                  have h2 := hke.size
                  omega
                have hX1 := hXd.keep k1 (fun e => by omega)
                have hX2 := hX1.keep k2 (fun e => by omega)
                have hX3 := hX2.keep k3 (fun e => by omega)
                have hab := HAB.out
                have hR1 := hAd.row.keep k1 (fun e => by omega)
                have hR2 := hR1.keep k2 (fun e => by omega)
                have hR3 := hR2.keep k3 (fun e => by omega)
                have c01 := hXf.cell (i := 1) rfl
                have c02 := hXf.cell (i := 2) rfl
                have c11 := hX1.cell (i := 1) rfl
                have c12 := hX1.cell (i := 2) rfl
                have c21 := hX2.cell (i := 1) rfl
                have c22 := hX2.cell (i := 2) rfl
                have c31 := hX3.cell (i := 1) rfl
                have c32 := hX3.cell (i := 2) rfl
                have d01 := hAf.row.cell (atRow_get (B := B) (i := N) hoa)
                have d02 := hAf.row.cell (atRow_get (B := B) (i := N) hob)
                have d11 := hR1.cell (atRow_get (B := B) (i := N) hoa)
                have d12 := hR1.cell (atRow_get (B := B) (i := N) hob)
                have d21 := hR2.cell (atRow_get (B := B) (i := N) hoa)
                have d22 := hR2.cell (atRow_get (B := B) (i := N) hob)
                have d31 := hR3.cell (atRow_get (B := B) (i := N) hoa)
                have d32 := hR3.cell (atRow_get (B := B) (i := N) hob)
                rw [if_pos hoa] at d01 d11 d21 d31
                rw [if_pos hob] at d02 d12 d22 d32
                have kA4 : Keep (fun j => B ≤ j ∧ j < B + N) wf u4 := (((((Keep.refl Nb wf).drew).of_nb (F := fun j => B ≤ j ∧ j < B + N)).trans' k1 (fun _ _ e => e) (fun j _ e => by subst e; omega)).trans' k2 (fun _ _ e => e) (fun j _ e => by subst e; omega)).trans' k3 (fun _ _ e => e) (fun j _ e => by subst e; omega) |> fun k => k.trans' k4 (fun _ _ e => e) (fun j _ e => by subst e; omega)
                have HN : Hid (PK2 es ps wZ u4 ab sb B N k (i + 1) (fun y => if y = e.a ∨ y = e.b then mset (AT2 y) k (.bool true) else AT2 y) ∧ Keep (fun j => j = sb ∨ (B ≤ j ∧ j < B + N)) wv u4) := Lib.hid (by
                  obtain ⟨he, hid, hxa, hxb, hx⟩ := HEE.out
                  refine ⟨HI.out.1.next HOK.out.sorted HBL.out.nodup HPP.out.1 he (by rw [hid]; exact hx) (by omega) (by omega) (by rw [hid]; exact q2) (kE.of_nb.trans q3) kA4 (by rw [hxa, hxb]; exact hA4), ?_⟩
                  exact ((HI.out.2.trans kE.of_nb).trans' q3 (fun _ _ e => e) (fun j _ e => .inl e)).trans' kA4 (fun _ _ e => e) (fun j _ e => .inr e))
                have HQ1 := Lib.hid q1
                have mixed : (Try.prog).follows Departure.mixedOrders = true := by kernel_rfl
                clear HGE hke hRX kE hSE hfr q1 q2 q3 hXf hAf hAd k1 k2 k3 k4 hA4 hXd hX1 hX2 hX3 hR1 hR2 hR3 kA4 hab
                go_wp2_with (at_mapUpdate; refine wpList_mapset rfl _ _ _ _ rfl rfl rfl rfl HQ1.out ?_)
                clear hwe
                refine beginZ (S := (fun w' => w'.cell? ⟨X, 1, none⟩ = some (.int .i64 xa) ∧ w'.cell? ⟨X, 2, none⟩ = some (.int .i64 xb) ∧ w'.cell? ⟨ab, xa, none⟩ = some (.map (some (B + xa))) ∧ w'.cell? ⟨ab, xb, none⟩ = some (.map (some (B + xb))))) (z := 17) (by kernel_rfl) ?_ (fun hHeld => ?_)
                · go_keep
                refine yesZ (i := 0) [17] (d := some 113) (v := ?_) rfl (by kernel_rfl) (by kernel_rfl) (by kernel_rfl) (by kernel_rfl) (by kernel_rfl) (fun _ _ _ h => h) (by kernel_rfl) ?_ (by assumption) ?_
                rotate_left
                · (intro w hSw; clear hSw; go_simp; try (with_reducible rfl))
                try simp only [Act.put, List.setIfInBounds_toArray, List.set_cons_zero, List.set_cons_succ]
                refine yesZ (i := 1) [17] (d := some 114) (v := ?_) rfl (by kernel_rfl) (by kernel_rfl) (by kernel_rfl) (by kernel_rfl) (by kernel_rfl) (fun _ _ _ h => h) (by kernel_rfl) ?_ (by assumption) ?_
                rotate_left
                · (intro w hSw; clear hSw; go_simp; try (with_reducible rfl))
                try simp only [Act.put, List.setIfInBounds_toArray, List.set_cons_zero, List.set_cons_succ]
                refine yesZ (i := 2) [17] (d := some 115) (v := ?_) rfl (by kernel_rfl) (by kernel_rfl) (by kernel_rfl) (by kernel_rfl) (by kernel_rfl) (fun _ _ _ h => h) (by kernel_rfl) ?_ (by assumption) ?_
                rotate_left
                · (intro w hSw; (try dsimp only at hSw); go_simp; try (with_reducible rfl))
                try simp only [Act.put, List.setIfInBounds_toArray, List.set_cons_zero, List.set_cons_succ]
                refine yesZ (i := 3) [17] (d := some 116) (v := ?_) rfl (by kernel_rfl) (by kernel_rfl) (by kernel_rfl) (by kernel_rfl) (by kernel_rfl) (fun _ _ _ h => h) (by kernel_rfl) ?_ (by assumption) ?_
                rotate_left
                · (intro w hSw; clear hSw; go_simp; try (with_reducible rfl))
                try simp only [Act.put, List.setIfInBounds_toArray, List.set_cons_zero, List.set_cons_succ]
                refine yesZ (i := 4) [17] (d := some 117) (v := ?_) rfl (by kernel_rfl) (by kernel_rfl) (by kernel_rfl) (by kernel_rfl) (by kernel_rfl) (fun _ _ _ h => h) (by kernel_rfl) ?_ (by assumption) ?_
                rotate_left
                · (intro w hSw; (try dsimp only at hSw); go_simp; try (with_reducible rfl))
                try simp only [Act.put, List.setIfInBounds_toArray, List.set_cons_zero, List.set_cons_succ]
                refine yesZ (i := 5) [17] (d := some 118) (v := ?_) rfl (by kernel_rfl) (by kernel_rfl) (by kernel_rfl) (by kernel_rfl) (by kernel_rfl) (fun _ _ _ h => h) (by kernel_rfl) ?_ (by assumption) ?_
                rotate_left
                · (intro w hSw; clear hSw; go_simp; try (with_reducible rfl))
                try simp only [Act.put, List.setIfInBounds_toArray, List.set_cons_zero, List.set_cons_succ]
                refine yesZ (i := 6) [17] (d := some 119) (v := ?_) rfl (by kernel_rfl) (by kernel_rfl) (by kernel_rfl) (by kernel_rfl) (by kernel_rfl) (fun _ _ _ h => h) (by kernel_rfl) ?_ (by assumption) ?_
                rotate_left
                · (intro w hSw; clear hSw; go_simp; try (with_reducible rfl))
                try simp only [Act.put, List.setIfInBounds_toArray, List.set_cons_zero, List.set_cons_succ]
                refine yesZ (i := 7) [17] (d := some 120) (v := ?_) rfl (by kernel_rfl) (by kernel_rfl) (by kernel_rfl) (by kernel_rfl) (by kernel_rfl) (fun _ _ _ h => h) (by kernel_rfl) ?_ (by assumption) ?_
                rotate_left
                · (intro w hSw; clear hSw; go_simp; try (with_reducible rfl))
                try simp only [Act.put, List.setIfInBounds_toArray, List.set_cons_zero, List.set_cons_succ]
                refine yesZ (i := 8) [17] (d := some 121) (v := ?_) rfl (by kernel_rfl) (by kernel_rfl) (by kernel_rfl) (by kernel_rfl) (by kernel_rfl) (fun _ _ _ h => h) (by kernel_rfl) ?_ (by assumption) ?_
                rotate_left
                · (intro w hSw; (try dsimp only at hSw); go_simp; try (with_reducible rfl))
                try simp only [Act.put, List.setIfInBounds_toArray, List.set_cons_zero, List.set_cons_succ]
                refine yesZ (i := 9) [17] (d := some 122) (v := ?_) rfl (by kernel_rfl) (by kernel_rfl) (by kernel_rfl) (by kernel_rfl) (by kernel_rfl) (fun _ _ _ h => h) (by kernel_rfl) ?_ (by assumption) ?_
                rotate_left
                · (intro w hSw; clear hSw; go_simp; try (with_reducible rfl))
                try simp only [Act.put, List.setIfInBounds_toArray, List.set_cons_zero, List.set_cons_succ]
                refine yesZ (i := 10) [17] (d := some 123) (v := ?_) rfl (by kernel_rfl) (by kernel_rfl) (by kernel_rfl) (by kernel_rfl) (by kernel_rfl) (fun _ _ _ h => h) (by kernel_rfl) ?_ (by assumption) ?_
                rotate_left
                · (intro w hSw; (try dsimp only at hSw); go_simp; try (with_reducible rfl))
                try simp only [Act.put, List.setIfInBounds_toArray, List.set_cons_zero, List.set_cons_succ]
                refine yesZ (i := 11) [17] (d := some 124) (v := ?_) rfl (by kernel_rfl) (by kernel_rfl) (by kernel_rfl) (by kernel_rfl) (by kernel_rfl) (fun _ _ _ h => h) (by kernel_rfl) ?_ (by assumption) ?_
                rotate_left
                · (intro w hSw; clear hSw; go_simp; try (with_reducible rfl))
                try simp only [Act.put, List.setIfInBounds_toArray, List.set_cons_zero, List.set_cons_succ]
                refine oneZ (i := 12) (by kernel_rfl) rfl (fun K hK => ?_)
                go_simp
                refine hK.out _ _ ?_ (fun hHeld => ?_)
                · go_keep
                clear hK K
                try simp only [Act.put, List.setIfInBounds_toArray, List.set_cons_zero, List.set_cons_succ]
                refine yesZ (i := 13) [17] (d := some 126) (v := ?_) rfl (by kernel_rfl) (by kernel_rfl) (by kernel_rfl) (by kernel_rfl) (by kernel_rfl) (fun _ _ _ h => h) (by kernel_rfl) ?_ (by assumption) ?_
                rotate_left
                · (intro w hSw; clear hSw; go_simp; try (with_reducible rfl))
                try simp only [Act.put, List.setIfInBounds_toArray, List.set_cons_zero, List.set_cons_succ]
                refine oneZ (i := 14) (by kernel_rfl) rfl (fun K hK => ?_)
                go_simp
                refine hK.out _ _ ?_ (fun hHeld => ?_)
                · go_keep
                clear hK K
                try simp only [Act.put, List.setIfInBounds_toArray, List.set_cons_zero, List.set_cons_succ]
                refine oneZ (i := 15) (by kernel_rfl) rfl (fun K hK => ?_)
                go_simp
                refine hK.out _ _ ?_ (fun hHeld => ?_)
                · go_keep
                clear hK K
                try simp only [Act.put, List.setIfInBounds_toArray, List.set_cons_zero, List.set_cons_succ]
                refine yesZ (i := 16) [17] (d := some 128) (v := ?_) rfl (by kernel_rfl) (by kernel_rfl) (by kernel_rfl) (by kernel_rfl) (by kernel_rfl) (fun _ _ _ h => h) (by kernel_rfl) ?_ (by assumption) ?_
                rotate_left
                · (intro w hSw; clear hSw; go_simp; try (with_reducible rfl))
                try simp only [Act.put, List.setIfInBounds_toArray, List.set_cons_zero, List.set_cons_succ]
                refine lastZ (i := 17) (by kernel_rfl) rfl (by kernel_rfl) rfl (fun K hK => ?_)
                go_simp
                refine hK.out _ _ ?_
                clear hK K
                all_goals
                  (try go_wp2_with fail)
                  go_roundg (rn - (i + 1))
                  case measure => omega
                  case rel => exact ⟨i + 1, _, by go_num, by omega, Nat.le_refl _, HN⟩
              · obtain rfl : rn = i := by omega
                have HN : Hid (PK es ps wZ wr ab sb B N (k + 1) 0 _ _ _ (k + 1) AT2) := Lib.hid ⟨HLO.out.keep HI.out.2 (fun j hj e => by have hj : wZ.heap.size ≤ j := hj; have e : j = sb ∨ (B ≤ j ∧ j < B + N) := e; omega), (by
                  have h1 := HI.out.1
                  rw [← HPP.out.2] at h1
                  exact h1.row HPP.out.1)⟩
                go_wp2_with fail
                go_roundg (m - (k + 1))
                case measure => omega
                case rel => exact ⟨k + 1, _, _, _, AT2, rfl, by go_num, by omega, Nat.le_refl _, HN⟩
        · obtain rfl : m = k := by omega
          have hseen : (idSet (seenIds ps m 0)).length = es.length := by
            rw [← HM.out, seenIds_all]
            unfold idSet
            rw [List.length_map, HBL.out.len HOK.out.sorted]
          have hln := fun ty => HQ.out.rest.seen.len (P := Try.prog) (t := 32) Try.underlying32 ty
          simp only [hseen] at hln
          have hG := HGZ.out.keep HQ.out.rest.keep (fun j hj e => by
            have h1 := HK25.out.size; have h2 : w1.heap.size ≤ j ∧ j < w2.heap.size := hj; have h3 := HKZN.out.size; have e : j = sb ∨ (B ≤ j ∧ j < B + N) := e; omega)
          have HE := Lib.hid (edges_any _ wr gb N es hG (by omega))
          have HBRr := Lib.hid ((((HBR.out.keep HK5.out (fun _ _ e => e)).keep HKZN.out (fun _ _ e => e)).keep HQ.out.rest.keep (fun j hj e => by
            have h1 := HK5.out.size; have h2 : w3.heap.size ≤ j ∧ j < w4.heap.size := hj; have e : j = sb ∨ (B ≤ j ∧ j < B + N) := e; omega)))
          have hbne : ((es.length : Int) != (es.length : Int)) = false := by simp
          clear hG hseen
          go_wp2_with fail
          refine HE.out.mono ?_
          rintro e1 wE ⟨oE, cE, rfl, _, hkE⟩
          have HI := Lib.hid (ids_any _ wE br N es (HBRr.out.keep hkE (fun _ _ e => e)) (by omega))
          have HKE := Lib.hid hkE
          clear hkE HE hln
          go_wp2_with fail
          refine HI.out.mono ?_
          rintro e1 wI ⟨l', oI, cI, rfl, hSI, hI, _, hkI, _⟩
          obtain rfl : l' = brE es := hI.unique ⟨brE_sorted HOK.out.sorted, fun id => mem_brE HOK.out.sorted⟩ (fun id => (hI.mem id).trans (mem_brE HOK.out.sorted).symm)
          have hbl : (brE es).length ≤ es.length := by unfold brE; rw [List.length_map]; exact List.length_filter_le _ _
          have HSM := Lib.hid (same_q _ _ wI o oI l (brE es).length c cI (brE es) (by
            have h1 := (HQ.out.lone.keep HKE.out (fun _ _ e => e)).keep hkI (fun _ _ e => e)
            have h2 : loneOf (ps.take m) = brE es := by rw [← HM.out, List.take_length]; exact HBL.out.lone HOK.out.sorted HOK.out.ne
            rw [h2] at h1
            exact h1) hSI (by omega))
          have HKI := Lib.hid (HKE.out.trans hkI)
          clear hSI hI hkI HI hbl hbne HBRr
          go_wp2_with fail
          refine HSM.out.mono ?_
          rintro e1 wS0 ⟨rfl, nq, hwS0⟩
          have hkS : Keep Nb wr wS0 := by rw [hwS0]; exact HKI.out.drewN nq
          obtain ⟨bb, hbb⟩ : ∃ bb, wS0.heap.size = bb := ⟨_, rfl⟩
          obtain ⟨wB, hwB⟩ : ∃ wB, wS0.alloc (.map #[] 0) = wB := ⟨_, rfl⟩
          have hkB : Keep Nb wr wB := by rw [← hwB]; exact hkS.trans ((Keep.refl Nb wS0).alloc _)
          have hMB : MapAt encP DP wB bb [] := by rw [← hwB, ← hbb]; exact MapAt.made encP DP wS0
          have hzB : wB.heap.size = bb + 1 := by rw [← hwB, ← hbb]; simp
          have hbbB : B + N ≤ bb := by have h1 := HQ.out.rest.keep.size; have h2 := hkS.size; omega
          have HZB := Lib.hid hzB
          have HAT : Hid (∀ wx, Keep (fun j => j = bb) wB wx → AtM wx ab B N N AT) := Lib.hid (fun wx kx => (HQ.out.rest.at_.keep hkB (fun e => e) (fun _ _ e => e)).keep kx (fun e => by have := HAB.out; omega) (fun x hx e => by omega))
          have HKS := Lib.hid (And.intro HQ.out.rest.keys HQ.out.rest.keep)
          have HKB := Lib.hid hkB
          have HGB : Hid (∀ wx, Keep (fun j => j = bb) wB wx → Gr (fun k => w1.heap.size ≤ k ∧ k < w2.heap.size) wx gb N es) := Lib.hid (fun wx kx =>
            ((HGZ.out.keep HKS.out.2 (fun j hj e => by
              have h1 := HK25.out.size; have h2 : w1.heap.size ≤ j ∧ j < w2.heap.size := hj; have h3 := HKZN.out.size; have e : j = sb ∨ (B ≤ j ∧ j < B + N) := e; omega)).keep HKB.out (fun _ _ e => e)).keep kx (fun j hj e => by
                have h1 := HK25.out.size; have h2 : w1.heap.size ≤ j ∧ j < w2.heap.size := hj; have h3 := HKZN.out.size; have e : j = bb := e; omega))
          have HONE := Lib.hid (show OneN AT from AtK.one HOK.out.ne HBL.out (by rw [HM.out]; exact HKS.out.1))
          have H0B : Hid (Sl (fun j => wB.heap.size ≤ j) wB 3 1 none 0 0 (ints (cutsA AT 0)) ∧ MapAt encP DP wB bb [] ∧ BInvB [] (Vis0 AT 0) ∧ Keep (fun j => j = bb) wB wB) := Lib.hid ⟨Sl.nil _ _ _ _, hMB, fun p q v h => by simp [mget_nil] at h, Keep.refl _ _⟩
          clear hwS0 hkS hkB hMB hzB HSM HQ HKE HKI
          go_wp2_with fail
          try rw [hwB]
          try rw [hbb]
          clear hwB hbb
          go_loopg [17, 19] N (fun kx s17 s19 wr => ∃ (x l : Nat) (o : Option Addr) (c : Nat) (BM : List ((Nat × Nat) × Value)), s17 = .slice o l c ∧ s19 = .int .i64 x ∧ x ≤ N ∧ N - x ≤ kx ∧ Hid (Sl (fun j => wB.heap.size ≤ j) wr 3 1 o l c (ints (cutsA AT x)) ∧ MapAt encP DP wr bb BM ∧ BInvB BM (Vis0 AT x) ∧ Keep (fun j => j = bb) wB wr))
          case atStart => exact ⟨0, 0, none, 0, _, rfl, rfl, Nat.zero_le _, by omega, H0B⟩
          case round =>
            clear H0B
            obtain ⟨x, l, o, c, BM, rfl, rfl, hx, hgx, HR⟩ := hrel
            have HNO := Lib.hid (nodes_any _ wr gb N es (HGB.out wr HR.out.2.2.2))
            by_cases hxN : x < N
            · as_aux_lemma =>
              have hAt := HAT.out wr HR.out.2.2.2
              have d0 := hAt.row.cell (atRow_get (B := B) (i := N) hxN)
              rw [if_pos hxN] at d0
              have hln := fun ty => (hAt.maps x hxN).len (P := Try.prog) (t := 32) Try.underlying32 ty
              obtain ⟨al, hal⟩ : ∃ al, (AT x).length = al := ⟨_, rfl⟩
              simp only [hal] at hln
              have HAL := Lib.hid hal
              have hbv0 : bb < wr.heap.size := HR.out.2.1.lt
              clear hAt hal
              go_wp2_with fail
              refine HNO.out.mono ?_
              rintro e1 wr1 ⟨rfl, rfl⟩
              clear HNO
              by_cases h1 : 1 < al
              case' neg =>
                have b1 : ¬ (1 : Int) < (al : Int) := by omega
                have HLO : Hid (Sl (fun j => wB.heap.size ≤ j) wr1 3 1 o l c (ints (cutsA AT (x + 1)))) := Lib.hid (by
                  rw [cutsA_succ, if_neg (by rw [HAL.out]; exact h1)]; exact HR.out.1)
                have HBM := Lib.hid HR.out.2
                obtain ⟨wv, rfl⟩ : ∃ w' : World, w' = wr1 := ⟨_, rfl⟩
                clear HR h1
                go_upto_region 41 with (fail)
              case' pos =>
                have b1 : (1 : Int) < (al : Int) := by omega
                have hll : l ≤ 50 := by
                  have h1 := HR.out.1.len
                  have h2 : (cutsA AT x).length ≤ x := by
                    unfold cutsA
                    refine Nat.le_trans (List.length_filter_le _ _) ?_
                    rw [List.length_range]; exact Nat.le_refl _
                  have h3 : (ints (cutsA AT x)).length = l * 1 := h1
                  rw [ints_length] at h3
                  omega
                obtain ⟨gq, cq, w8, r1, r2, r3, r4⟩ := run_app1 (P := Try.prog) 35 35 3 Try.underlying35 elem_int rfl HR.out.1 (.int .i64 (x : Nat)) rfl (by omega) (by omega)
                have hbl : ∀ j, Bl o j → wB.heap.size ≤ j := fun j ⟨a, ha, hj⟩ => by rw [← hj]; exact HR.out.1.foot a ha
                have hzB := HZB.out
                have HBM : Hid (MapAt encP DP w8 bb BM ∧ BInvB BM (Vis0 AT x) ∧ Keep (fun j => j = bb) wB w8) := Lib.hid ⟨HR.out.2.1.keep r3 (fun e => by have := hbl _ e; omega), HR.out.2.2.1, HR.out.2.2.2.trans' r3 (fun _ _ e => e) (fun j hj e => by have := hbl _ e; omega)⟩
                have HLO : Hid (Sl (fun j => wB.heap.size ≤ j) w8 3 1 (some ⟨gq, 0, none⟩) (l + 1) cq (ints (cutsA AT (x + 1)))) := Lib.hid (by
                  have hzr := HR.out.2.2.2.size
                  rw [cutsA_succ, if_pos (by rw [HAL.out]; exact h1), ints_append]
                  exact r2.mono (fun j e => by
                    rcases e with e | e
                    · exact e
                    · have e : j = wr1.heap.size + 1 := e
                      show wB.heap.size ≤ j; omega))
                have HR1 := Lib.hid r1
                have d08 := r3.cell d0 (fun e => by have h9 : wB.heap.size ≤ ab := hbl _ e; have := HAB.out; omega)
                clear r1 r2 r3 r4 HR hbl hzB h1
                obtain ⟨wv, rfl⟩ : ∃ w' : World, w' = w8 := ⟨_, rfl⟩
                go_upto_region 41 with (at_builtin; refine wpList_app rfl _ _ _ rfl rfl rfl HR1.out ?_)
              all_goals
                as_aux_lemma =>
                clear d0 hln b1
                have hAt := HAT.out wv HBM.out.2.2
                have d0 := hAt.row.cell (atRow_get (B := B) (i := N) hxN)
                rw [if_pos hxN] at d0
                have HND := Lib.hid (hAt.maps x hxN).nodup
                have HDM := Lib.hid (hAt.maps x hxN).dom
                obtain ⟨wj, q1, q2, q3, q4⟩ := (hAt.maps x hxN).rangeL (P := Try.prog) (t := 32) Try.underlying32
                have HJ := Lib.hid (And.intro q2 q3)
                have hbv : bb < wv.heap.size := HBM.out.1.lt
                have hbx : B + x < wv.heap.size := (hAt.maps x hxN).lt
                have HZJ := Lib.hid q4
                clear q2 q3 q4 hAt
                go_wp2_with fail
                obtain ⟨rj, hrj⟩ : ∃ rj, wv.heap.size = rj := ⟨_, rfl⟩
                rw [hrj] at HJ hbv hbx HZJ ⊢
                have HRJ := Lib.hid hrj
                have hjB : wB.heap.size ≤ rj := by have := HBM.out.2.2.size; omega
                clear q1 hrj d0
                have HS0 : Hid (MRangeL encN wj (B + x) rj (AT x) ((AT x).map (·.1)) ∧ MapAt encP DP wj bb BM ∧ BInvB BM (fun p q => Vis0 AT x p q ∨ (p ∈ (AT x).map (·.1) ∧ q ∈ (AT x).map (·.1) ∧ p ∉ (AT x).map (·.1))) ∧ Keep (fun j => j = bb ∨ j = rj) wj wj) := Lib.hid
                  ⟨HJ.out.1, HBM.out.1.keep HJ.out.2 (fun e => e), HBM.out.2.1.imp (fun _ _ => .inl), Keep.refl _ _⟩
                go_loopg [20] (AT x).length (fun ky s20 wr2 => ∃ (L1 : List Nat) (BM : List ((Nat × Nat) × Value)), L1.length ≤ ky ∧ Hid (MRangeL encN wr2 (B + x) rj (AT x) L1 ∧ MapAt encP DP wr2 bb BM ∧ BInvB BM (fun p q => Vis0 AT x p q ∨ (p ∈ (AT x).map (·.1) ∧ q ∈ (AT x).map (·.1) ∧ p ∉ L1)) ∧ Keep (fun j => j = bb ∨ j = rj) wj wr2))
                case atStart => exact ⟨_, BM, by rw [List.length_map]; exact Nat.le_refl _, HS0⟩
                case round =>
                  clear HS0
                  obtain ⟨L1, BM1, hl1, HR2⟩ := hrel
                  rcases HR2.out.1.next (P := Try.prog) HND.out (by omega) 0 with ⟨h0, hn⟩ | ⟨⟨p, v⟩, wn, hp, hpl, hn, hM3, hk3, hen⟩
                  · have HN : Hid (Sl (fun j => wB.heap.size ≤ j) wr 3 1 _ _ _ (ints (cutsA AT (x + 1))) ∧ MapAt encP DP wr bb BM1 ∧ BInvB BM1 (Vis0 AT (x + 1)) ∧ Keep (fun j => j = bb) wB wr) := Lib.hid (by
                      have z1 := HRJ.out
                      have z2 := HZB.out
                      refine ⟨((HLO.out.tight.keep HJ.out.2 (fun _ _ e => e)).keep HR2.out.2.2.2 (fun j hj e => by have h1 := hj.1; have h2 := hj.2; have h1 : wB.heap.size ≤ j := h1; have e : j = bb ∨ j = rj := e; omega)).mono (fun j hj => hj.1), HR2.out.2.1, HR2.out.2.2.1.imp (fun p q h => ?_), (HBM.out.2.2.trans HJ.out.2.of_nb).trans' HR2.out.2.2.2 (fun _ _ e => e) (fun j hj e => by have e : j = bb ∨ j = rj := e; show j = bb; omega)⟩
                      rcases h with ⟨y, hy, h1, h2⟩ | ⟨h1, h2, _⟩
                      · exact ⟨y, by omega, h1, h2⟩
                      · exact ⟨x, by omega, h1, h2⟩)
                    clear HR2 HJ
                    go_wp2_with fail
                    go_roundg (N - (x + 1))
                    case measure => omega
                    case rel => exact ⟨x + 1, _, _, _, BM1, rfl, by go_num, by omega, Nat.le_refl _, HN⟩
                  · as_aux_lemma =>
                    simp only [encN] at hn hen
                    have hpl : p ∈ L1 := hpl
                    have hM3 : MRangeL encN wn (B + x) rj (AT x) (L1.filter (fun y => decide (y ≠ p))) := hM3
                    have hdp : DN p := HDM.out _ hp
                    have hpk : p ∈ (AT x).map (·.1) := List.mem_map.2 ⟨_, hp, rfl⟩
                    obtain ⟨L1', hL1⟩ : ∃ L, L1.filter (fun y => decide (y ≠ p)) = L := ⟨_, rfl⟩
                    rw [hL1] at hM3
                    have hlt1 : L1'.length < L1.length := by
                      rw [← hL1]
                      exact List.length_filter_lt_length_iff_exists.2 ⟨p, hpl, by simp⟩
                    have HL1 := Lib.hid hL1
                    have HPK := Lib.hid (And.intro hpl hpk)
                    have HRJ2 := Lib.hid hM3
                    have hk2n : Keep (fun j => j = bb ∨ j = rj) wj wn := HR2.out.2.2.2.trans' hk3 (fun _ _ e => e) (fun j _ e => .inr e)
                    have hkBn : Keep (fun j => j = bb) wB wn := (HBM.out.2.2.trans HJ.out.2.of_nb).trans' hk2n (fun _ _ e => e) (fun j hj e => by have e : j = bb ∨ j = rj := e; show j = bb; omega)
                    have hBn : MapAt encP DP wn bb BM1 := HR2.out.2.1.keep hk3 (fun e => by have e : bb = rj := e; omega)
                    have hAt := HAT.out wn hkBn
                    have d1 := hAt.row.cell (atRow_get (B := B) (i := N) hxN)
                    rw [if_pos hxN] at d1
                    obtain ⟨wk, u1, u2, u3, u4⟩ := (hAt.maps x hxN).rangeL (P := Try.prog) (t := 32) Try.underlying32
                    have HKN := Lib.hid hk2n
                    have HBI := Lib.hid (And.intro hBn HR2.out.2.2.1)
                    have HJ2 := Lib.hid (And.intro u2 u3)
                    have hzn : rj + 1 ≤ wn.heap.size := by have h1 := hk2n.size; have h2 := HZJ.out; omega
                    clear hk3 hM3 hk2n hkBn hBn hAt u2 u3 u4 hpl hpk hL1 HR2 hp
                    go_wp2_with fail
                    obtain ⟨rk, hrk⟩ : ∃ rk, wn.heap.size = rk := ⟨_, rfl⟩
                    rw [hrk] at HJ2 hzn ⊢
                    have HRK := Lib.hid hrk
                    clear u1 hrk d1 hn hen
                    have HS0 : Hid (MRangeL encN wk (B + x) rj (AT x) L1' ∧ MRangeL encN wk (B + x) rk (AT x) ((AT x).map (·.1)) ∧ MapAt encP DP wk bb BM1 ∧ BInvB BM1 (fun p' q' => Vis0 AT x p' q' ∨ (p' ∈ (AT x).map (·.1) ∧ q' ∈ (AT x).map (·.1) ∧ p' ∉ L1' ∧ (p' = p → q' ∉ (AT x).map (·.1)))) ∧ Keep (fun j => j = bb ∨ j = rk) wk wk) := Lib.hid
                      ⟨HRJ2.out.keep HJ2.out.2 (fun e => e) (fun e => e), HJ2.out.1, HBI.out.1.keep HJ2.out.2 (fun e => e), HBI.out.2.imp (fun p' q' h => by
                        rcases h with h | ⟨h1, h2, h3⟩
                        · exact .inl h
                        · refine .inr ⟨h1, h2, fun h => h3 ?_, fun e => absurd (e ▸ HPK.out.1) h3⟩
                          rw [← HL1.out] at h
                          exact (List.mem_filter.1 h).1), Keep.refl _ _⟩
                    go_loopg [21] (AT x).length (fun kz s21 wr3 => ∃ (L2 : List Nat) (BM2 : List ((Nat × Nat) × Value)), L2.length ≤ kz ∧ Hid (MRangeL encN wr3 (B + x) rj (AT x) L1' ∧ MRangeL encN wr3 (B + x) rk (AT x) L2 ∧ MapAt encP DP wr3 bb BM2 ∧ BInvB BM2 (fun p' q' => Vis0 AT x p' q' ∨ (p' ∈ (AT x).map (·.1) ∧ q' ∈ (AT x).map (·.1) ∧ p' ∉ L1' ∧ (p' = p → q' ∉ L2))) ∧ Keep (fun j => j = bb ∨ j = rk) wk wr3))
                    case atStart => exact ⟨_, BM1, by rw [List.length_map]; exact Nat.le_refl _, HS0⟩
                    case round =>
                      clear HS0
                      obtain ⟨L2, BM2, hl2, HR3⟩ := hrel
                      rcases HR3.out.2.1.next (P := Try.prog) HND.out (by omega) 0 with ⟨h0, hn⟩ | ⟨⟨q, v2⟩, wm, hq, hql, hn, hM4, hk4, hen⟩
                      · have HN : Hid (MRangeL encN wr (B + x) rj (AT x) L1' ∧ MapAt encP DP wr bb BM2 ∧ BInvB BM2 (fun p q => Vis0 AT x p q ∨ (p ∈ (AT x).map (·.1) ∧ q ∈ (AT x).map (·.1) ∧ p ∉ L1')) ∧ Keep (fun j => j = bb ∨ j = rj) wj wr) := Lib.hid
                          ⟨HR3.out.1, HR3.out.2.2.1, HR3.out.2.2.2.1.imp (fun p' q' h => by
                            rcases h with h | ⟨h1, h2, h3, _⟩
                            · exact .inl h
                            · exact .inr ⟨h1, h2, h3⟩), (HKN.out.trans HJ2.out.2.of_nb).trans' HR3.out.2.2.2.2 (fun _ _ e => e) (fun j hj e => by
                              have h1 := HKN.out.size
                              have h2 := HRK.out
                              have e : j = bb ∨ j = rk := e
                              show j = bb ∨ j = rj; omega)⟩
                        clear HR3
                        go_wp2_with fail
                        go_roundg L1'.length
                        case measure => omega
                        case rel => exact ⟨L1', BM2, Nat.le_refl _, HN⟩
                      · simp only [encN] at hn hen
                        have hql : q ∈ L2 := hql
                        have hM4 : MRangeL encN wm (B + x) rk (AT x) (L2.filter (fun y => decide (y ≠ q))) := hM4
                        have hdq : DN q := HDM.out _ hq
                        have hqk : q ∈ (AT x).map (·.1) := List.mem_map.2 ⟨_, hq, rfl⟩
                        obtain ⟨L2', hL2⟩ : ∃ L, L2.filter (fun y => decide (y ≠ q)) = L := ⟨_, rfl⟩
                        rw [hL2] at hM4
                        have hlt2 : L2'.length < L2.length := by
                          rw [← hL2]
                          exact List.length_filter_lt_length_iff_exists.2 ⟨q, hql, by simp⟩
                        have hsub : ∀ y, y ∈ L2' → y ∈ L2 ∧ y ≠ q := fun y hy => by
                          rw [← hL2] at hy
                          have h1 := List.mem_filter.1 hy
                          exact ⟨h1.1, by simpa using h1.2⟩
                        have hJm := HR3.out.1.keep hk4 (fun e => by have e : B + x = rk := e; omega) (fun e => by have e : rj = rk := e; omega)
                        have hBm := HR3.out.2.2.1.keep hk4 (fun e => by have e : bb = rk := e; omega)
                        have hKm : Keep (fun j => j = bb ∨ j = rk) wk wm := HR3.out.2.2.2.2.trans' hk4 (fun _ _ e => e) (fun j _ e => .inr e)
                        by_cases hpq : p < q
                        · have hnone : mget BM2 (p, q) = none := by
                            cases hg : mget BM2 (p, q) with
                            | none => rfl
                            | some v =>
                              exfalso
                              rcases (HR3.out.2.2.2.1 p q v hg).2 with ⟨y, hy, h1, h2⟩ | ⟨_, _, _, h4⟩
                              · have := HONE.out p q y x hpq h1 h2 HPK.out.2 hqk
                                omega
                              · exact h4 rfl hql
                          have hdpq : DP (p, q) := ⟨hdp, hdq⟩
                          have hBd : MapAt encP DP wm.drew bb BM2 := hBm
                          have hs0 := hBd.look encP_enc Try.underlying46 (zero_intP wm.drew) hdpq false
                          obtain ⟨u1, st, r1, m1, k1, s1⟩ := hBd.entry encP_enc Try.underlying46 (zero_intP wm.drew) hdpq
                          obtain ⟨u2, r2, m2, k2⟩ := s1 u1 rfl (.int .i64 1)
                          have hs1 := m1.look encP_enc Try.underlying46 (zero_intP u1) hdpq false
                          rw [mget_mset, if_pos rfl] at hs1
                          rw [hnone] at hs0 hs1 r1
                          simp only [Bool.false_eq_true, if_false, Option.getD_none, Option.getD_some, encP] at hs0 hs1 r1
                          replace r1 : (Instr.mapEntry 46 (.map (some bb)) (.agg #[.int .i64 (p : Nat), .int .i64 (q : Nat)])).run Try.prog wm.drew = .ok (.tuple #[.int .i64 0, .int .i64 st]) u1 := r1
                          have hw1 : IntKind.i64.wrap 1 = 1 := by decide
                          replace r2 : (Instr.entryStore 46 (.map (some bb)) (.int .i64 st) (.int .i64 1)).run Try.prog u1 = .ok () u2 := r2
                          have kU : Keep (fun j => j = bb) wm u2 := (((Keep.refl Nb wm).drew).of_nb.trans k1).trans k2
                          have HN : Hid (MRangeL encN u2 (B + x) rj (AT x) L1' ∧ MRangeL encN u2 (B + x) rk (AT x) L2' ∧ MapAt encP DP u2 bb (mset BM2 (p, q) (.int .i64 1)) ∧ BInvB (mset BM2 (p, q) (.int .i64 1)) (fun p' q' => Vis0 AT x p' q' ∨ (p' ∈ (AT x).map (·.1) ∧ q' ∈ (AT x).map (·.1) ∧ p' ∉ L1' ∧ (p' = p → q' ∉ L2'))) ∧ Keep (fun j => j = bb ∨ j = rk) wk u2) := Lib.hid
                            ⟨hJm.keep kU (fun e => by have e : B + x = bb := e; omega) (fun e => by have e : rj = bb := e; omega), hM4.keep kU (fun e => by have e : B + x = bb := e; omega) (fun e => by have e : rk = bb := e; omega), m2,
                              HR3.out.2.2.2.1.set (fun p' q' h => by
                                rcases h with h | ⟨h1, h2, h3, h4⟩
                                · exact .inl h
                                · exact .inr ⟨h1, h2, h3, fun e hy => h4 e (hsub _ hy).1⟩)
                                (.inr ⟨HPK.out.2, hqk, fun h => by
                                  rw [← HL1.out] at h
                                  have := (List.mem_filter.1 h).2
                                  simp at this, fun _ hy => (hsub _ hy).2 rfl⟩), hKm.trans' kU (fun _ _ e => e) (fun j _ e => .inl e)⟩
                          have b2 : (p : Int) < (q : Int) := by omega
                          have mixed : (Try.prog).follows Departure.mixedOrders = true := by kernel_rfl
                          clear hM4 hk4 hJm hBm hKm hnone hBd m1 k1 s1 m2 k2 kU hsub hql hqk hL2 hq HR3 hpq
                          go_wp2_with fail
                          clear hn hen
                          refine beginZ (S := (fun w' => (Instr.lookup 46 (.map (some bb)) (.agg #[.int .i64 (p : Nat), .int .i64 (q : Nat)]) false).run Try.prog w' = .ok (.int .i64 0) w')) (z := 8) (by kernel_rfl) ?_ (fun hHeld => ?_)
                          · exact hs0
                          refine yesZ (i := 0) [8] (d := some 180) (v := ?_) rfl (by kernel_rfl) (by kernel_rfl) (by kernel_rfl) (by kernel_rfl) (by kernel_rfl) (fun _ _ _ h => h) (by kernel_rfl) ?_ (by assumption) ?_
                          rotate_left
                          · (intro w hSw; clear hSw; go_simp; try (with_reducible rfl))
                          try simp only [Act.put, List.setIfInBounds_toArray, List.set_cons_zero, List.set_cons_succ]
                          refine yesZ (i := 1) [8] (d := some 181) (v := ?_) rfl (by kernel_rfl) (by kernel_rfl) (by kernel_rfl) (by kernel_rfl) (by kernel_rfl) (fun _ _ _ h => h) (by kernel_rfl) ?_ (by assumption) ?_
                          rotate_left
                          · (intro w hSw; clear hSw; go_simp; try (with_reducible rfl))
                          try simp only [Act.put, List.setIfInBounds_toArray, List.set_cons_zero, List.set_cons_succ]
                          refine yesZ (i := 2) [8] (d := some 182) (v := ?_) rfl (by kernel_rfl) (by kernel_rfl) (by kernel_rfl) (by kernel_rfl) (by kernel_rfl) (fun _ _ _ h => h) (by kernel_rfl) ?_ (by assumption) ?_
                          rotate_left
                          · (intro w hSw; clear hSw; go_simp; try (with_reducible rfl))
                          try simp only [Act.put, List.setIfInBounds_toArray, List.set_cons_zero, List.set_cons_succ]
                          refine yesZ (i := 3) [8] (d := some 183) (v := ?_) rfl (by kernel_rfl) (by kernel_rfl) (by kernel_rfl) (by kernel_rfl) (by kernel_rfl) (fun _ _ _ h => h) (by kernel_rfl) ?_ (by assumption) ?_
                          rotate_left
                          · (intro w hSw; clear hSw; go_simp; try (with_reducible rfl))
                          try simp only [Act.put, List.setIfInBounds_toArray, List.set_cons_zero, List.set_cons_succ]
                          refine yesZ (i := 4) [8] (d := some 184) (v := ?_) rfl (by kernel_rfl) (by kernel_rfl) (by kernel_rfl) (by kernel_rfl) (by kernel_rfl) (fun _ _ _ h => h) (by kernel_rfl) ?_ (by assumption) ?_
                          rotate_left
                          · (intro w hSw; (try dsimp only at hSw); go_simp; try (with_reducible rfl))
                          try simp only [Act.put, List.setIfInBounds_toArray, List.set_cons_zero, List.set_cons_succ]
                          refine yesZ (i := 5) [8] (d := some 185) (v := ?_) rfl (by kernel_rfl) (by kernel_rfl) (by kernel_rfl) (by kernel_rfl) (by kernel_rfl) (fun _ _ _ h => h) (by kernel_rfl) ?_ (by assumption) ?_
                          rotate_left
                          · (intro w hSw; clear hSw; go_simp; try (with_reducible rfl))
                          try simp only [Act.put, List.setIfInBounds_toArray, List.set_cons_zero, List.set_cons_succ]
                          refine oneZ (i := 6) (by kernel_rfl) rfl (fun K hK => ?_)
                          go_simp
                          refine hK.out _ _ ?_ (fun hHeld => ?_)
                          · exact hs1
                          clear hK K
                          try simp only [Act.put, List.setIfInBounds_toArray, List.set_cons_zero, List.set_cons_succ]
                          refine yesZ (i := 7) [8] (d := some 187) (v := ?_) rfl (by kernel_rfl) (by kernel_rfl) (by kernel_rfl) (by kernel_rfl) (by kernel_rfl) (fun _ _ _ h => h) (by kernel_rfl) ?_ (by assumption) ?_
                          rotate_left
                          · (intro w hSw; clear hSw; go_simp; try (with_reducible rfl))
                          try simp only [Act.put, List.setIfInBounds_toArray, List.set_cons_zero, List.set_cons_succ]
                          refine lastZ (i := 8) (by kernel_rfl) rfl (by kernel_rfl) rfl (fun K hK => ?_)
                          go_simp
                          refine hK.out _ _ ?_
                          clear hK K
                          all_goals
                            (try go_wp2_with fail)
                            go_roundg L2'.length
                            case measure => omega
                            case rel => exact ⟨L2', _, Nat.le_refl _, HN⟩
                        · have b2 : ¬ (p : Int) < (q : Int) := by omega
                          have HN : Hid (MRangeL encN wm (B + x) rj (AT x) L1' ∧ MRangeL encN wm (B + x) rk (AT x) L2' ∧ MapAt encP DP wm bb BM2 ∧ BInvB BM2 (fun p' q' => Vis0 AT x p' q' ∨ (p' ∈ (AT x).map (·.1) ∧ q' ∈ (AT x).map (·.1) ∧ p' ∉ L1' ∧ (p' = p → q' ∉ L2'))) ∧ Keep (fun j => j = bb ∨ j = rk) wk wm) := Lib.hid
                            ⟨hJm, hM4, hBm, HR3.out.2.2.2.1.imp (fun p' q' h => by
                                rcases h with h | ⟨h1, h2, h3, h4⟩
                                · exact .inl h
                                · exact .inr ⟨h1, h2, h3, fun e hy => h4 e (hsub _ hy).1⟩), hKm⟩
                          clear hM4 hk4 hJm hBm hKm hsub hql hqk hL2 hq HR3 hpq
                          go_wp2_with fail
                          go_roundg L2'.length
                          case measure => omega
                          case rel => exact ⟨L2', _, Nat.le_refl _, HN⟩
            · obtain rfl : N = x := by omega
              go_wp2_with fail
              refine HNO.out.mono ?_
              rintro e1 wQ ⟨rfl, rfl⟩
              clear HNO
              obtain ⟨wj, cnt, q1, q2, q3, q4⟩ := HR.out.2.1.range (P := Try.prog) (t := 46) Try.underlying46
              have HJ := Lib.hid (And.intro q2 q3)
              have hbq : bb < wQ.heap.size := HR.out.2.1.lt
              clear q2 q3 q4
              go_wp2_with fail
              obtain ⟨rj, hrj⟩ : ∃ rj, wQ.heap.size = rj := ⟨_, rfl⟩
              rw [hrj] at HJ hbq ⊢
              have HRJ := Lib.hid hrj
              clear q1 hrj
              go_loopg [23] cnt (fun kx s23 wr2 => ∃ (cnt2 : Nat), cnt2 ≤ kx ∧ Hid (MRange encP wr2 bb rj BM cnt2 ∧ Keep (fun j => j = rj) wj wr2))
              case atStart => exact ⟨cnt, Nat.le_refl _, Lib.hid ⟨HJ.out.1, Keep.refl _ _⟩⟩
              case round =>
                obtain ⟨cnt2, hc2, HR2⟩ := hrel
                rcases HR2.out.1.next (P := Try.prog) (by omega) 0 with ⟨h0, hn⟩ | ⟨pr, wn, cnt3, hp, hn, hM3, hlt3, hk3, hen⟩
                · have hK3 : Keep Nb w3 wr := by
                    have z4 := HK4.out.size
                    have z5 := HK5.out.size
                    have zZ := HKZN.out.size
                    have zS := HKS.out.2.size
                    have zB := HKB.out.size
                    have zQ := HR.out.2.2.2.size
                    have k1 := ((HK4.out.trans HK5.out).trans HKZN.out).trans' HKS.out.2 (fun _ _ e => e) (fun j hj e => by have e : j = sb ∨ (B ≤ j ∧ j < B + N) := e; show False; omega)
                    have k2 := (k1.trans HKB.out).trans' HR.out.2.2.2 (fun _ _ e => e) (fun j hj e => by have e : j = bb := e; show False; omega)
                    exact (k2.trans HJ.out.2).trans' HR2.out.2 (fun _ _ e => e) (fun j hj e => by have e : j = rj := e; have h1 := HRJ.out; show False; omega)
                  have hcs : cs = cutsA AT N := AtK.cuts HOK.out.ne HBL.out (by rw [HM.out]; exact HKS.out.1) (fun x hx => ((HAT.out wB (Keep.refl _ _)).maps x hx).nodup) HCS.out.1 HCS.out.2
                  have hSo := (HR.out.1.tight.keep HJ.out.2 (fun _ _ e => e)).keep HR2.out.2 (fun j hj e => by have e : j = rj := e; have h1 := HRJ.out; have h2 := hj.2; omega)
                  have HSo := Lib.hid hSo
                  have HCC := Lib.hid (bkcuts_any G wr Y cc (.map (some mb)) (.slice po ps.length pc) co cs (HY.out.keep hK3 (fun e => e)) (HCU.out.keep hK3 (fun _ _ e => e)) (by omega))
                  have HCSE := Lib.hid hcs
                  have HKW : Hid (Keep Nb w wr) := Lib.hid ((HK2.out.trans HK3.out).trans hK3)
                  clear hK3 hcs hSo
                  go_wp2_with fail
                  refine HCC.out.mono ?_
                  rintro e1 wC ⟨oC, cC, rfl, hSC, hkC⟩
                  have HSM := Lib.hid (same_q _ _ wC o oC l cs.length c cC cs (by
                    have h1 := HSo.out.keep hkC (fun _ _ e => e)
                    rw [← HCSE.out] at h1
                    exact h1) hSC (by omega))
                  have HKC := Lib.hid (HKW.out.trans hkC)
                  clear hSC hkC HCC
                  go_wp2_with fail
                  refine HSM.out.mono ?_
                  rintro e1 wD ⟨rfl, nq2, rfl⟩
                  go_wp2_with fail
                  go_ret
                  exact ⟨rfl, HKC.out.drewN nq2⟩
                · have hv : pr.2 = .int .i64 1 := (HR.out.2.2.1 pr.1.1 pr.1.2 pr.2 (mget_of_mem HR.out.2.1.nodup hp)).1
                  rw [hv] at hn hen
                  have HN : Hid (MRange encP wn bb rj BM cnt3 ∧ Keep (fun j => j = rj) wj wn) := Lib.hid ⟨hM3, HR2.out.2.trans hk3⟩
                  clear hM3 hk3
                  go_wp2_with fail
                  go_roundg cnt3
                  case measure => omega
                  case rel => exact ⟨cnt3, Nat.le_refl _, HN⟩

end Go.Proofs.Ytkpoobnldgfapab
