/- Part 48 of the proof: DkPcW. -/
import Derived.Test.YtfglkgkihafcpaaGreatDoorDp46
import Derived.Test.YtfglkgkihafcpaaGreatDoorDp47
set_option linter.unusedVariables false
set_option linter.unusedSimpArgs false
namespace Go.Proofs.YtfglkgkihafcpaaGreatDoor
open Go.RowKit Pl
def tIn : List UInt8 := [97, 100, 100, 32, 49, 32, 50, 32, 51, 10, 120, 10]
def tOut : List UInt8 := [116, 114, 117, 101, 10, 101, 114, 114, 111, 114, 32, 51, 10]
theorem first_line : (lineA [97, 100, 100, 32, 49, 32, 50, 32, 51] 10 []).txt = [116, 114, 117, 101] := by
 have h1 : lineW [97, 100, 100, 32, 49, 32, 50, 32, 51] = [[97, 100, 100], [49], [50], [51]] := by decide +kernel
 have h2 : cmdA [97, 100, 100] = aAdd := by
  unfold cmdA
  repeat rw [if_neg (by decide)]
  rw [if_pos rfl]
 have h3 : (aAdd [[49], [50], [51]] 10 []).out = .ok [116, 114, 117, 101] := by
  have e1 : numsD [[49], [50], [51]] = some [1, 2, 3] := by
   have a1 : Lib.atoiAll [49] = .ok 1 := by decide +kernel
   have a2 : Lib.atoiAll [50] = .ok 2 := by decide +kernel
   have a3 : Lib.atoiAll [51] = .ok 3 := by decide +kernel
   have b1 : Lib.itoa 1 = [49] := by decide +kernel
   have b2 : Lib.itoa 2 = [50] := by decide +kernel
   have b3 : Lib.itoa 3 = [51] := by decide +kernel
   simp [numsD, numA, a1, a2, a3, b1, b2, b3]
  have e2 : addErr 10 [] 1 2 3 = 0 := by decide +kernel
  have e3 : Lib.formatBool (!decide (Conn (ends []) (2 : Int).toNat (3 : Int).toNat)) = [116, 114, 117, 101] := by decide +kernel
  unfold aAdd
  rw [if_neg (by decide), e1]
  simp only
  rw [if_pos e2, e3]
 unfold lineA
 rw [h1]
 simp only
 rw [h2, h3]
theorem other_line (n : Nat) (es : List E) : (lineA [120] n es).txt = [101, 114, 114, 111, 114, 32, 51] := by
 have h1 : lineW [120] = [[120]] := by decide +kernel
 have h2 : cmdA [120] = fun _ n es => ⟨.error 3, n, es⟩ := by
  unfold cmdA
  repeat rw [if_neg (by decide)]
 have h3 : tErr ++ Lib.itoa 3 = [101, 114, 114, 111, 114, 32, 51] := by decide +kernel
 unfold lineA
 rw [h1]
 simp only
 rw [h2]
 exact h3
theorem ses_first : sesT tIn = tOut := by
 have h1 : pcz 10 (Lib.trimSuffix tIn [10]) = [[97, 100, 100, 32, 49, 32, 50, 32, 51], [120]] := by decide +kernel
 unfold sesT
 rw [if_neg (by decide), h1]
 simp only [sesA, first_line, other_line]
 rfl
theorem ses_more (a b : List UInt8) (h : a.length + b.length ≤ 1500) : ∃ t, sesT (a ++ [10] ++ b) = sesT (a ++ [10]) ++ t := by
 obtain ⟨l, hl⟩ := pcz_more a b
 unfold sesT
 rw [if_neg (by simp only [List.length_append, List.length_cons, List.length_nil]; omega), if_neg (by simp only [List.length_append, List.length_cons, List.length_nil]; omega), hl, sesA_app]
 exact ⟨_, rfl⟩
set_option maxRecDepth 100000 in
theorem deskpieces_long (a b : ByteArray) (h : 1500 < a.size + b.size) (ha : a.size ≤ 140737488355328) (hb : b.size ≤ 140737488355328) (w : World) :
  Calls Tryz.prog 3 #[.string a, .string b] w fun e w' => e = .returned (.bool true) ∧ Keep Nb w w' := by
 have h1 : (1500 : Int) < (a.size : Int) + (b.size : Int) := by omega
 have q : wrap64 ((a.size : Int) + (b.size : Int)) = (a.size : Int) + (b.size : Int) := by unfold wrap64; omega
 clear h ha hb
 go_enter Tryz.func3, Tryz.ntmps3
 go_wp2_with fail
 go_ret
 exact ⟨rfl, Keep.refl _ _⟩
set_option maxRecDepth 100000 in
set_option maxHeartbeats 4000000 in
theorem deskpieces_any (a b : List UInt8) (h : a.length + b.length ≤ 1500) (w : World) (hL : LibW w) (hE : ErrT w) :
  Calls Tryz.prog 3 #[.string (bstr a), .string (bstr b)] w fun e w' => e = .returned (.bool true) ∧ Keep Nb w w' := by
 have h1 : ¬ (1500 : Int) < (a.length : Int) + (b.length : Int) := by omega
 have q : wrap64 ((a.length : Int) + (b.length : Int)) = (a.length : Int) + (b.length : Int) := by unfold wrap64; omega
 have HS : Hid (∀ (w1 : World) (s : List UInt8), Keep Nb w w1 → s.length ≤ 100000 → Calls Tryz.prog 5 #[.string (bstr s)] w1 fun e w' => e = .returned (.string (bstr (sesT s))) ∧ Keep Nb w1 w') := Lib.hid (fun w1 s k hs => session_any w1 (hL.keep k) (hE.keep k (fun e => e)) s hs)
 obtain ⟨t, ht⟩ := ses_more a b h
 have e10 : a ++ [10] ++ b = a ++ 10 :: b := by simp
 rw [e10] at ht
 clear e10
 have c1 : bstr a ++ (⟨#[10]⟩ : ByteArray) = bstr (a ++ [10]) := bs_cat a [10]
 have c2 : bstr (a ++ [10]) ++ bstr b = bstr (a ++ 10 :: b) := (bs_cat _ _).trans (by simp)
 obtain ⟨x, hx⟩ : ∃ x, sesT (a ++ [10]) = x := ⟨_, rfl⟩
 rw [hx] at ht
 have HX := Lib.hid (And.intro hx ht)
 have hb := Lib.hid h
 have p1 : ¬ 9223372036854775807 < a.length + 1 := by omega
 have p2 : ¬ 9223372036854775807 < a.length + 1 + b.length := by omega
 clear hL hE h hx ht
 go_enter Tryz.func3, Tryz.ntmps3
 go_wp2_with fail
 refine (HS.out w tIn (Keep.refl _ _) (by decide)).mono ?_
 rintro e w1 ⟨rfl, hk1⟩
 rw [ses_first]
 have hcmp : (bstr tOut == (⟨#[116, 114, 117, 101, 10, 101, 114, 114, 111, 114, 32, 51, 10]⟩ : ByteArray)) = true := by decide +kernel
 have HK1 := Lib.hid hk1
 clear hk1
 go_wp2_with fail
 refine (HS.out w1 (a ++ [10]) HK1.out (by have := hb.out; simp; omega)).mono ?_
 rintro e w2 ⟨rfl, hk2⟩
 rw [HX.out.1]
 have HK2 := Lib.hid (HK1.out.trans hk2)
 clear hk2
 go_wp2_with fail
 refine (HS.out w2 (a ++ 10 :: b) HK2.out (by have := hb.out; simp; omega)).mono ?_
 rintro e w3 ⟨rfl, hk3⟩
 rw [HX.out.2]
 have HK3 := Lib.hid (HK2.out.trans hk3)
 have hle : (x.length : Int) ≤ ((x ++ t).length : Int) := by rw [List.length_append]; omega
 have hle2 : x.length ≤ (x ++ t).length := by simp
 have hcut : (bstr (x ++ t)).extract 0 x.length = bstr x := by rw [bstr_cut]; simp
 clear hk3
 go_wp2_with fail
 go_ret
 exact ⟨rfl, HK3.out⟩
end Go.Proofs.YtfglkgkihafcpaaGreatDoor

