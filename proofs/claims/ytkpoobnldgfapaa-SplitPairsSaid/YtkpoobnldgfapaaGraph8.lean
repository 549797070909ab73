/- graph: Add. -/
import Derived.Test.YtkpoobnldgfapaaGraph7
namespace Go.Proofs.Ytkpoobnldgfapaa
open Go.RowKit Go.Lib Pl

theorem add_done {F : Nat → Prop} {w w1 w2 w3 : World} {g n c : Nat} {o : Option Addr} {es : List E} {i : Nat} {e : E} {id a b : Int} {v : Value} (hM : GrMem F w g n es o c) (hk1 : Keep Nb w w1) (hk2 : Keep Nb w1 w2) {e3 : Ending}
    (h3 : InsPost F w2 o es i e e3 w3) (he : e3 = .returned v) (hE : addEs n es id a b = ins es i e) (h0 : addErr n es id a b = 0) :
    AddPost F w g n es id a b (.returned .nilIface) (w3.setCell ⟨g, 1, none⟩ v) := by
  obtain ⟨q, c', h3a, hS, hK, hq⟩ := h3
  rw [h3a] at he
  cases he
  have hk12 := hk1.trans hk2
  have hlen : (ins es i e).length = es.length + 1 := by
    have := hS.len
    rw [ecs_length] at this; omega
  have hsz := hk12.size
  have hgw := hM.head.lt
  have hbl : ∀ k, Bl o k → F k ∧ k ≠ g := by
    rintro k ⟨x, hx, rfl⟩
    exact ⟨hM.s.foot x hx, hM.d x hx⟩
  have hhead : Row w3 g 92 [.int .i64 n, .slice o es.length c] := (hM.head.keep hk12 (fun h => h)).keep hK (fun h => (hbl _ h).2 rfl)
  have hqg : q ≠ g := by
    rcases hq with h | h
    · exact hM.d _ h
    · omega
  refine ⟨by rw [h0]; rfl, ⟨some ⟨q, 0, none⟩, c', ?_⟩, ?_⟩
  · rw [hE]
    refine ⟨?_, .inl hM.hb, ?_, fun x hx => by cases hx; exact hqg⟩
    · have := hhead.set (i := 1) (by simp) (.slice (some ⟨q, 0, none⟩) (es.length + 1) c')
      rw [hlen]
      exact this
    · rw [hlen]
      exact (hS.mono (G := fun k => F k ∨ w.heap.size ≤ k) (fun k hk => by rcases hk with h | h; exact .inl h; exact .inr (by omega))).set_ne (p := ⟨g, 1, none⟩) (fun x hx => by cases hx; exact hqg) _
  · exact ((hk12.of_nb).trans' hK (H := F) (fun _ _ h => h) (fun k _ h => (hbl k h).1)).setCell (.inl hM.hb) _

set_option maxRecDepth 100000 in
set_option maxHeartbeats 1000000 in
theorem add_any (F : Nat → Prop) (w : World) (g n : Nat) (es : List E) (id a b : Int) (hG : Gr F w g n es) (hF : ∀ k, F k → k < w.heap.size) (hs : Sorted es) (hn : n ≤ 40) (hl : es.length ≤ 120) :
    Calls Try.prog 54 #[.pointer (some ⟨g, 0, none⟩), .int .i64 id, .int .i64 a, .int .i64 b] w (AddPost F w g n es id a b) := by
  by_cases hb : addBad n id a b
  · exact add_bad F w g n es id a b hG hb
  have HG := Lib.hid hG
  have HB := Lib.hid hb
  have HS := Lib.hid hs
  have HF := Lib.hid hF
  obtain ⟨o, c, hM⟩ := hG
  have c0 := hM.head.cell (i := 0) rfl
  have c1 := hM.head.cell (i := 1) rfl
  have HM := Lib.hid hM
  unfold addBad at hb
  obtain ⟨id, rfl⟩ : ∃ k : Nat, id = k := ⟨id.toNat, by omega⟩
  obtain ⟨a, rfl⟩ : ∃ k : Nat, a = k := ⟨a.toNat, by omega⟩
  obtain ⟨b, rfl⟩ : ∃ k : Nat, b = k := ⟨b.toNat, by omega⟩
  have hi1 : ¬ (1099511627776 < (id : Int)) := by omega
  have ha : a < n := by omega
  have hbn : b < n := by omega
  clear hb hM hs hF
  by_cases hab : a = b
  · subst hab
    have hP : AddPost F w g n es id a a (.returned (.iface 75 (.int .i64 1))) w :=
      AddPost.err HG.out (Keep.refl Nb w) (by unfold addErr; rw [if_neg HB.out, if_pos rfl]) (by unfold addEs; rw [if_pos (.inr (.inl rfl))]) (by omega)
    have HP := Lib.hid hP
    clear hP
    go_enter Try.func54, Try.ntmps54
    go_wp2
    go_ret
    exact HP.out
  · have HAB := Lib.hid (show ¬ ((a : Int) = (b : Int)) by omega)
    cases hh : hasId es id with
    | true =>
      have HH := Lib.hid hh
      clear hh
      go_enter Try.func54, Try.ntmps54
      go_wp2_with fail
      refine (find_any F w g n es id HG.out HS.out (by omega)).mono ?_
      rintro e1 w1 ⟨rfl, hk⟩
      have HK := Lib.hid hk
      clear hk
      rw [HH.out]
      go_wp2
      go_ret
      exact AddPost.err HG.out HK.out (by unfold addErr; rw [if_neg HB.out, if_neg HAB.out, if_pos HH.out]) (by unfold addEs; rw [if_pos (.inr (.inr (.inl HH.out)))]) (by omega)
    | false =>
      have HH := Lib.hid hh
      clear hh
      by_cases hfull : 120 ≤ es.length
      · go_enter Try.func54, Try.ntmps54
        go_wp2_with fail
        refine (find_any F w g n es id HG.out HS.out (by omega)).mono ?_
        rintro e1 w1 ⟨rfl, hk⟩
        have c1' := hk.cell c1 (fun h => h)
        have HK := Lib.hid hk
        clear hk
        rw [HH.out]
        go_wp2
        go_ret
        exact AddPost.err HG.out HK.out (by unfold addErr; rw [if_neg HB.out, if_neg HAB.out, if_neg (by rw [HH.out]; simp), if_pos hfull]) (by unfold addEs; rw [if_pos (.inr (.inr (.inr hfull)))]) (by omega)
      · have HE := Lib.hid (show addEs n es id a b = ins es (posOf es id) (mkE id a b) by
          unfold addEs; rw [if_neg (by rintro (h | h | h | h); exact HB.out h; exact HAB.out h; rw [HH.out] at h; cases h; exact hfull h)])
        have HR := Lib.hid (show addErr n es id a b = 0 by unfold addErr; rw [if_neg HB.out, if_neg HAB.out, if_neg (by rw [HH.out]; simp), if_neg hfull])
        have HMk := Lib.hid (show (ecells (mkE id a b)).toArray = #[.int .i64 id, .int .i64 (min (a : Int) b), .int .i64 (max (a : Int) b)] by
          unfold mkE ecells
          rw [show (((id : Int).toNat : Nat) : Int) = id by omega, show (((min (a : Int) b).toNat : Nat) : Int) = min (a : Int) b by omega, show (((max (a : Int) b).toNat : Nat) : Int) = max (a : Int) b by omega])
        go_enter Try.func54, Try.ntmps54
        go_wp2_with fail
        refine (find_any F w g n es id HG.out HS.out (by omega)).mono ?_
        rintro e1 w1 ⟨rfl, hk⟩
        have c1' := hk.cell c1 (fun h => h)
        have HK := Lib.hid hk
        have hgw : g < w1.heap.size := Nat.lt_of_lt_of_le HM.out.head.lt hk.size
        have hvF : ¬ F w1.heap.size := fun h => by have := HF.out _ h; have := hk.size; omega
        have HVF := Lib.hid hvF
        clear hk hvF
        rw [HH.out]
        go_wp2_with fail
        refine (insert_any F _ o c (posOf es id) es w1.heap.size (mkE id a b) ((HM.out.s.keep HK.out (fun _ _ h => h)).alloc _) (by omega) (by rw [HMk.out]; exact heap_alloc_new w1 _) HVF.out (posOf_le es id)).mono ?_
        intro e3 w3 h3
        have h3' := h3
        obtain ⟨q, c', rfl, _, hK3, _⟩ := h3'
        have hrow3 := ((HM.out.head.keep HK.out (fun h => h)).alloc (.cells #[.int .i64 id, .int .i64 (min (a : Int) b), .int .i64 (max (a : Int) b)] 54)).keep hK3 (fun h => by obtain ⟨x, hx, hxg⟩ := h; exact HM.out.d x hx hxg)
        have hx1 := hrow3.cell (i := 1) rfl
        have hx2 := hrow3.frozen 1 none
        clear hrow3
        have H3 := Lib.hid h3
        clear h3 hK3
        go_wp2
        go_ret
        exact add_done HM.out HK.out ((Keep.refl Nb _).alloc _) H3.out rfl HE.out HR.out

end Go.Proofs.Ytkpoobnldgfapaa
