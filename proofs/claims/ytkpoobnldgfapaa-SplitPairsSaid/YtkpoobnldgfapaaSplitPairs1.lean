/- isthmuslaw.SplitPairs: the walk. -/
import Derived.Test.YtkpoobnldgfapaaLMade
import Derived.Test.YtkpoobnldgfapaaSamePairs
namespace Go.Proofs.Ytkpoobnldgfapaa
open Go.RowKit Pl

theorem without_mem {n m : Nat} {es fs : List E} (h : Made n m es fs) (ed nd : List Nat) (x : Nat) : labG (withoutEs ed nd es) x = labG (withoutEs ed nd fs) x := by
  have sub : ∀ {es fs : List E}, (∀ e, e ∈ es → e ∈ fs) → ∀ a b, (a, b) ∈ ends (withoutEs ed nd es) → (a, b) ∈ ends (withoutEs ed nd fs) ∨ (b, a) ∈ ends (withoutEs ed nd fs) := by
    intro es fs hs a b hab
    obtain ⟨e, he, hee⟩ := List.mem_map.1 hab
    unfold withoutEs at he
    rw [List.mem_filter] at he
    exact .inl (List.mem_map.2 ⟨e, List.mem_filter.2 ⟨hs e he.1, he.2⟩, hee⟩)
  exact labs_mem (sub fun e he => (h.mem e).1 he) (sub fun e he => (h.mem e).2 he) x

theorem splits_same {n m : Nat} {es fs : List E} (h : Made n m es fs) : allS (splitsB n es) n n = allS (splitsB n fs) n n :=
  allS_congr (fun a b _ _ => partsB_congr (without_mem h _ _) (without_mem h _ _) (without_mem h _ _)) (Nat.le_refl _)

set_option maxRecDepth 100000 in
theorem splitPairs_none (n : Int) (oa : Option Addr) (len cap : Nat) (h : n < 0 ∨ 16 < n ∨ 60 < len) (w : World) :
    Calls Try.prog 4 #[.int .i64 n, .slice oa len cap] w fun e w' => e = .returned (.bool true) ∧ Keep Nb w w' := by
  have H := Lib.hid h
  clear h
  go_enter Try.func4, Try.ntmps4
  go_wp2_with fail
  refine (lmade_none n oa len cap H.out _).mono ?_
  rintro e1 w1 ⟨rfl, hk1⟩
  have HK1 := Lib.hid hk1
  clear hk1
  go_wp2_with fail
  go_ret
  exact ⟨rfl, HK1.out⟩

set_option maxRecDepth 100000 in
set_option maxHeartbeats 1000000 in
theorem splitPairs_some (n : Nat) (b off len cap : Nat) (oa : Option Addr) (hoa : 0 < len → oa = some ⟨b, off, none⟩) (A B : Nat → Int) (hn : n ≤ 16) (hlen : len ≤ 60) (hcap : len ≤ cap) (w : World) (hbw : 0 < len → b < w.heap.size) (hP : Prs w b off len A B) :
    Calls Try.prog 4 #[.int .i64 n, .slice oa len cap] w fun e w' => e = .returned (.bool true) ∧ Keep Nb w w' := by
  have H1 := Lib.hid hoa
  have H2 := Lib.hid hbw
  have H3 := Lib.hid hP
  clear hoa hbw hP
  go_enter Try.func4, Try.ntmps4
  go_wp2_with fail
  refine (lmade_any n b off len cap oa H1.out A B hn hlen hcap _ H2.out H3.out).mono ?_
  rintro e1 w1 ⟨gb, rb, rfl, F1, F2, m1, m2, m3, m4, m5, m6⟩
  have hM := made_made n A B len
  have HM := Lib.hid hM
  have M1 := Lib.hid m1
  have M2 := Lib.hid m2
  have M3 := Lib.hid m3
  have M6 := Lib.hid m6
  have HL : Hid ((madeG n A B len).length ≤ 1000 ∧ (madeR n A B len).length ≤ 1000) := Lib.hid ⟨by have := hM.le; omega, by have := hM.le; have := hM.len; omega⟩
  clear hM m1 m2 m3 m4 m5 m6
  go_wp2_with fail
  refine (pairs_any F1 _ gb n (madeG n A B len) M1.out (fun k hk => (M3.out k hk).2) (by omega) HL.out.1 HM.out.over).mono ?_
  rintro e1 w2 ⟨o2, c2, rfl, hS2, hk2⟩
  have HS2 := Lib.hid hS2
  have HK2 := Lib.hid hk2
  clear hS2 hk2
  go_wp2_with fail
  refine (rsplits_any F2 _ rb n (madeR n A B len) (M2.out.keep HK2.out (fun _ _ e => e)) (by omega) HL.out.2 (fun e he => HM.out.over e ((HM.out.mem e).2 he))).mono ?_
  rintro e1 w3 ⟨o3, c3, rfl, hS3, hk3⟩
  rw [← splits_same HM.out] at hS3 ⊢
  have HS3 := Lib.hid hS3
  have HK3 := Lib.hid hk3
  have HLen : Hid ((allS (splitsB n (madeG n A B len)) n n).length ≤ 100000) := Lib.hid (by
    have := allS_len (splitsB n (madeG n A B len)) n n
    have := Nat.mul_le_mul hn hn
    omega)
  clear hS3 hk3
  generalize allS (splitsB n (madeG n A B len)) n n = l at *
  go_wp2_with fail
  refine (samePairs_any (fun _ => True) _ o2 o3 c2 c3 l ((HS2.out.keep HK3.out (fun _ _ e => e)).mono (fun _ _ => trivial)) (HS3.out.mono (fun _ _ => trivial)) HLen.out).mono ?_
  rintro e1 w4 ⟨rfl, hk4⟩
  have HK4 := Lib.hid hk4
  clear hk4
  go_wp2_with fail
  go_ret
  exact ⟨rfl, ((M6.out.trans HK2.out).trans HK3.out).trans HK4.out⟩

end Go.Proofs.Ytkpoobnldgfapaa
