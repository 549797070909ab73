/- isthmusref: Bridges. -/
import Derived.Test.YtkpoobnldgfapabGreatDoorE1
import Derived.Test.YtkpoobnldgfapabGreatDoorRSort
import Derived.Test.YtkpoobnldgfapabGreatDoorD1
import Derived.Deep.DeepCutAuto
set_option linter.unusedVariables false
set_option linter.unusedSimpArgs false
namespace Go.Proofs.YtkpoobnldgfapabGreatDoor
open Go.RowKit Pl

theorem sorted_of {es fs ds : List E} (hs : Sorted es) (hp : es.Perm fs) (hd : ds.Perm fs) (hw : ds.Pairwise (fun a b => ¬ b.id < a.id)) : ds = es := by
  have hde : ds.Perm es := hd.trans hp.symm
  refine sorted_ext ?_ hs (fun e => hde.mem_iff)
  have h1 : es.Pairwise (fun e f => e.id ≠ f.id) := hs.imp (fun h e => by omega)
  have h2 : ds.Pairwise (fun e f => e.id ≠ f.id) := (hde.pairwise_iff (fun h e => h e.symm)).2 h1
  exact (hw.and h2).imp (fun h => by have := h.1; have := h.2; omega)

theorem mem_withoutE {ed nd : List Nat} {fs : List E} {e : E} : e ∈ withoutEs ed nd fs ↔ e ∈ fs ∧ e.id ∉ ed ∧ e.a ∉ nd ∧ e.b ∉ nd := by
  unfold withoutEs keeps; rw [List.mem_filter]; simp [and_assoc]

/-- Without some edges: the document's and the program's. -/
theorem conn_less {es fs : List E} (hp : es.Perm fs) (l : List Nat) {x y : Nat} : Conn (ends (withoutEs l [] fs)) x y ↔ Conn (ends (sans es l)) x y :=
  ⟨Conn.of_sub fun e he => by have h := mem_withoutE.1 he; exact mem_sansL.2 ⟨hp.mem_iff.2 h.1, h.2.1⟩, Conn.of_sub fun e he => by have h := mem_sansL.1 he; exact mem_withoutE.2 ⟨hp.mem_iff.1 h.1, h.2, by simp, by simp⟩⟩

def RListPost (w : World) (l : List Nat) (e : Ending) (w' : World) : Prop :=
  ∃ (o : Option Addr) (m c : Nat), e = .returned (.slice o m c) ∧ Sl (fun k => w.heap.size ≤ k) w' 3 1 o m c (ints l) ∧ l.length = m ∧ Keep Nb w w'

theorem brE_take {es : List E} {i : Nat} {e : E} (h : es[i]? = some e) (es' : List E) : ((es.take (i + 1)).filter (fun e => decide (mk es' e.id = 0))).map (·.id) = ((es.take i).filter (fun e => decide (mk es' e.id = 0))).map (·.id) ++ (if mk es' e.id = 0 then [e.id] else []) := by
  rw [List.take_add_one, h]
  simp only [Option.toList_some, List.filter_append, List.map_append]
  congr 1
  by_cases h0 : mk es' e.id = 0 <;> simp [h0]

set_option maxRecDepth 100000 in
set_option maxHeartbeats 2000000 in
theorem rbridges_any (F : Nat → Prop) (w : World) (g n : Nat) (es fs : List E) (hG : RGr F w g n fs) (hn : n ≤ 40) (hl : fs.length ≤ 120) (hs : Sorted es) (hp : es.Perm fs) (ho : Over n fs) :
    Calls Tryz.prog 17 #[.pointer (some ⟨g, 0, none⟩)] w (RListPost w (brE es)) := by
  have HG := Lib.hid hG
  have HS := Lib.hid hs
  have HP := Lib.hid hp
  have HO := Lib.hid ho
  clear hG hs hp ho
  go_enter Tryz.func17, Tryz.ntmps17
  go_wp2_with fail
  refine (rsorted_any F w g n fs HG.out (by omega)).mono ?_
  rintro e w1 ⟨ds, o1, c1, rfl, hp1, hs1, hS1, hk1⟩
  have hds := sorted_of HS.out HP.out hp1 hs1
  subst hds
  obtain ⟨m, hm⟩ : ∃ m, fs.length = m := ⟨_, rfl⟩
  rw [hm] at hS1 ⊢
  have hm120 : m ≤ 120 := by omega
  have HM : Hid (ds.length = m ∧ m ≤ 120) := Lib.hid ⟨by rw [HP.out.length_eq]; exact hm, by omega⟩
  have HS1 := Lib.hid hS1.tight
  have HK1 := Lib.hid hk1
  have H0 : Hid (Sl (fun k => w1.heap.size ≤ k) w1 3 1 none 0 0 (ints (((ds.take 0).filter (fun e => decide (mk ds e.id = 0))).map (·.id))) ∧ Keep Nb w1 w1 ∧ (((ds.take 0).filter (fun e => decide (mk ds e.id = 0))).map (·.id)).length = 0) := Lib.hid ⟨Sl.nil _ _ _ _, Keep.refl _ _, rfl⟩
  clear hp1 hs1 hS1 hk1 hm
  go_wp2_with fail
  go_loopg [3, 10] m (fun kx s3 s10 wr => ∃ (i : Nat) (o : Option Addr) (k c : Nat), s3 = .slice o k c ∧ s10 = .int .i64 i ∧ i ≤ m ∧ m - i ≤ kx ∧ Hid (Sl (fun k => w1.heap.size ≤ k) wr 3 1 o k c (ints (((ds.take i).filter (fun e => decide (mk ds e.id = 0))).map (·.id))) ∧ Keep Nb w1 wr ∧ (((ds.take i).filter (fun e => decide (mk ds e.id = 0))).map (·.id)).length = k))
  case atStart => exact ⟨0, none, 0, 0, rfl, rfl, Nat.zero_le _, by omega, H0⟩
  case round =>
    clear H0
    obtain ⟨i, o, k, c, rfl, rfl, hi, hgk, HR⟩ := hrel
    obtain ⟨wq, rfl⟩ : ∃ w' : World, w' = wr := ⟨_, rfl⟩
    have hk120 : k ≤ 120 := by
      have h1 := HR.out.2.2
      rw [List.length_map] at h1
      have h2 := List.length_filter_le (fun e => decide (mk ds e.id = 0)) (ds.take i)
      have h3 := List.length_take_le' i ds
      have := HM.out
      omega
    by_cases hlt : i < m
    · as_aux_lemma =>
      obtain ⟨e, hy⟩ : ∃ e, ds[i]? = some e := ⟨_, List.getElem?_eq_getElem (by rw [HM.out.1]; exact hlt)⟩
      obtain ⟨ge, rfl, _, hnc, hrow⟩ := (HS1.out.keep HR.out.2.1 (fun _ _ e => e)).pos (by omega)
      have d1 := hrow.edges.id _ _ hy
      have d2 := hrow.edges.a _ _ hy
      have d3 := hrow.edges.b _ _ hy
      have hem := List.mem_of_getElem? hy
      have hoe := HO.out e (HP.out.mem_iff.1 hem)
      have HY := Lib.hid hy
      obtain ⟨X, hX⟩ : ∃ X, wq.heap.size = X := ⟨_, rfl⟩
      obtain ⟨wx, hwx⟩ : ∃ wx, wq.alloc (.cells #[.int .i64 e.id, .int .i64 e.a, .int .i64 e.b] 42) = wx := ⟨_, rfl⟩
      have hkx : Keep Nb wq wx := by rw [← hwx]; exact (Keep.refl Nb wq).alloc _
      have hzx : wx.heap.size = X + 1 := by rw [← hwx, ← hX]; simp
      have hrX : Row wx X 42 (ecells e) := by rw [← hwx, ← hX]; exact Row.new wq #[.int .i64 e.id, .int .i64 e.a, .int .i64 e.b] 42
      have HRX := Lib.hid hrX
      have x0 := hrX.cell (i := 0) rfl
      have hgw := ((HG.out.keep HK1.out (fun _ _ e => e)).keep HR.out.2.1 (fun _ _ e => e)).keep hkx (fun _ _ e => e)
      have hW := rwithout_any F (fun k => k = wx.heap.size) (fun _ => False) (wx.alloc (.cells #[.int .i64 e.id] 3)) g n fs (some ⟨wx.heap.size, 0, none⟩) none 1 0 [e.id] [] (hgw.alloc _) (by omega) (Sl.built wx 3 1 1 [.int .i64 (e.id : Nat)] rfl (by simp only [maxLen]; omega)) (Sl.nil _ _ _ _) (by simp) (by simp)
      rw [hzx] at hW
      have HW := Lib.hid hW
      have HKX := Lib.hid hkx
      have HZX := Lib.hid hzx
      have HWX := Lib.hid hwx
      have HX := Lib.hid hX
      clear hrow hy hkx hgw hW hwx hrX hX
      go_upto_region 5 with (fail)
      rw [HWX.out, HX.out]
      clear d1 d2 d3
      go_wp2_with fail
      refine HW.out.mono ?_
      rintro e1 w2 ⟨rfl, hg2, hk2⟩
      rw [World.size_alloc, hzx] at hg2 ⊢
      obtain ⟨rbn, hrbn⟩ : ∃ rbn, X + 1 + 1 = rbn := ⟨_, rfl⟩
      rw [hrbn] at hg2 ⊢
      have HK2 : Hid (Keep Nb wx w2) := Lib.hid (((Keep.refl Nb wx).alloc _).trans hk2)
      have HG2 := Lib.hid hg2
      have hol : Over n (withoutEs [e.id] [] fs) := fun f hf => HO.out f (mem_withoutE.1 hf).1
      have HOL := Lib.hid hol
      have hle2 : (withoutEs [e.id] [] fs).length ≤ 1000 := Nat.le_trans (List.length_filter_le _ _) (by omega)
      clear hg2 hk2 hrbn x0 HW hol
      go_wp2_with fail
      refine (rlabels_any _ w2 rbn n (withoutEs [e.id] [] fs) HG2.out hn hle2 HOL.out).mono ?_
      rintro e1 w3 ⟨q, rfl, hs3, hk3⟩
      obtain ⟨q', hq', _, _, hrow3⟩ := hs3.pos (by omega)
      cases hq'
      have l0 := hrow3.cell (fints_get (labG (withoutEs [e.id] [] fs)) hoe.1)
      have l1 := hrow3.cell (fints_get (labG (withoutEs [e.id] [] fs)) hoe.2)
      have HK3 : Hid (Keep Nb wx w3) := Lib.hid (HK2.out.trans hk3)
      have hX3 := HRX.out.keep HK3.out (fun e => e)
      have x1 := hX3.cell (i := 1) rfl
      have x2 := hX3.cell (i := 2) rfl
      obtain ⟨la, hla⟩ : ∃ la, labG (withoutEs [e.id] [] fs) e.a = la := ⟨_, rfl⟩
      obtain ⟨lb, hlb⟩ : ∃ lb, labG (withoutEs [e.id] [] fs) e.b = lb := ⟨_, rfl⟩
      have hcn : la = lb ↔ mk ds e.id ≠ 0 := by
        rw [mk_fine HS.out hem, ← conn_less HP.out, ← hla, ← hlb]; exact Iff.rfl
      rw [hla] at l0
      rw [hlb] at l1
      have HX3 := Lib.hid hX3
      clear hs3 hk3 hrow3 hla hlb HG2 HK2 hX3
      by_cases hab : la = lb
      · have b1 : ((la : Int) != (lb : Int)) = false := by simp; omega
        have HN : Hid (∀ wz, Keep Nb w3 wz → Sl (fun k => w1.heap.size ≤ k) wz 3 1 o k c (ints (((ds.take (i + 1)).filter (fun e => decide (mk ds e.id = 0))).map (·.id))) ∧ Keep Nb w1 wz ∧ (((ds.take (i + 1)).filter (fun e => decide (mk ds e.id = 0))).map (·.id)).length = k) := Lib.hid (fun wz kz => by
          rw [brE_take HY.out, if_neg (hcn.1 hab), List.append_nil]
          have kk := (HKX.out.trans HK3.out).trans kz
          exact ⟨HR.out.1.keep kk (fun _ _ e => e), HR.out.2.1.trans kk, HR.out.2.2⟩)
        clear hab hcn HR HX3 HK3 HKX
        go_wp2_with fail
        go_quiet (fail)
        go_wp2_with fail
        go_roundg (m - (i + 1))
        case measure => omega
        case rel => exact ⟨i + 1, o, k, c, rfl, by go_num, by omega, Nat.le_refl _, Lib.hid (HN.out _ ((Keep.refl Nb w3).drewN nq))⟩
      · have b1 : ((la : Int) != (lb : Int)) = true := by rw [bne_iff_ne]; omega
        have h00 : mk ds e.id = 0 := Classical.byContradiction fun h => hab (hcn.2 h)
        have HX30 := Lib.hid (HX3.out.cell (i := 0) rfl)
        clear hab hcn
        go_wp2_with fail
        go_quiet (fail)
        have kw : Keep Nb w3 (w3.drewN nq) := (Keep.refl Nb w3).drewN nq
        have x0 := kw.cell HX30.out (fun e => e)
        have hSo := HR.out.1.keep ((HKX.out.trans HK3.out).trans kw) (fun _ _ e => e)
        obtain ⟨w4, hw4⟩ : ∃ w4, w3.drewN nq = w4 := ⟨_, rfl⟩
        rw [hw4] at kw x0 hSo ⊢
        obtain ⟨gq, cq, w5, s1, s2, s3, s4⟩ := run_app1 (P := Tryz.prog) 33 33 3 Tryz.underlying33 elem_int rfl hSo (.int .i64 e.id) rfl (by omega) (by omega)
        have HN : Hid (Sl (fun k => w1.heap.size ≤ k) w5 3 1 (some ⟨gq, 0, none⟩) (k + 1) cq (ints (((ds.take (i + 1)).filter (fun e => decide (mk ds e.id = 0))).map (·.id))) ∧ Keep Nb w1 w5 ∧ (((ds.take (i + 1)).filter (fun e => decide (mk ds e.id = 0))).map (·.id)).length = k + 1) := Lib.hid (by
          rw [brE_take HY.out, if_pos h00]
          have kk := HR.out.2.1.trans ((HKX.out.trans HK3.out).trans kw)
          have zk := kk.size
          refine ⟨?_, kk.trans' s3 (fun _ _ e => e) (fun j hj e => ?_), by rw [List.length_append, HR.out.2.2]; rfl⟩
          · rw [ints_append]
            exact s2.mono (fun j hj => by rcases hj with hj | hj; exact hj; omega)
          · obtain ⟨a, ha, hb⟩ := e
            have := hSo.foot a ha
            show False; omega)
        have S1 := Lib.hid s1
        clear s1 s2 s3 s4 hSo HR HX3 HK3 HKX HX30 h00 l0 l1 x1 x2 hw4 kw
        go_wp2_with (at_builtin; refine wpList_app rfl _ _ _ rfl rfl rfl S1.out ?_)
        go_roundg (m - (i + 1))
        case measure => omega
        case rel => exact ⟨i + 1, some ⟨gq, 0, none⟩, k + 1, cq, rfl, by go_num, by omega, Nat.le_refl _, HN⟩
    · as_aux_lemma =>
      obtain rfl : i = m := by omega
      have HF : Hid (RListPost w (brE ds) (.returned (.slice o k c)) wq) := Lib.hid (by
        obtain ⟨h1, h2, h3⟩ := HR.out
        rw [← HM.out.1, List.take_length] at h1 h3
        exact ⟨o, k, c, rfl, h1.mono (fun j hj => by have := HK1.out.size; omega), h3, HK1.out.trans h2⟩)
      clear HR
      go_wp2_with fail
      go_ret
      exact HF.out

end Go.Proofs.YtkpoobnldgfapabGreatDoor
