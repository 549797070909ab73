/- Part 5 of the proof: A2. -/
import Derived.Test.YtfglkgkihafcpaaGreatDoorDp01
import Derived.Test.YtfglkgkihafcpaaGreatDoorDp04
import Derived.Test.YtfglkgkihafcpaaGreatDoorProg
import Derived.Deep.QuietTactic
import Derived.BigQuiet
import Derived.Deep.RegionWith
set_option linter.unusedVariables false
set_option linter.unusedSimpArgs false
namespace Go.Proofs.YtfglkgkihafcpaaGreatDoor
open Go.RowKit Pl
def fints (n : Nat) (f : Nat → Nat) : List Value := ints ((List.range n).map f)
theorem fints_length (n : Nat) (f : Nat → Nat) : (fints n f).length = n := by simp [fints]
theorem fints_get {n i : Nat} (f : Nat → Nat) (h : i < n) : (fints n f)[i]? = some (.int .i64 (f i)) := by simp [fints, ints, h]
theorem fints_set (n : Nat) (f : Nat → Nat) (i v : Nat) : (fints n f).set i (.int .i64 v) = fints n (upd f i v) := by
 apply List.ext_getElem?
 intro k
 rw [List.getElem?_set]
 by_cases hk : k < n
 ·rw [fints_get _ hk]
  by_cases e : i = k
  ·subst e; rw [fints_get _ hk]; simp [fints_length, hk, upd]
  ·have : k ≠ i := fun h => e h.symm
   simp [e, upd, this, fints_get _ hk]
 ·have h1 : (fints n f)[k]? = none := by simp [fints_length]; omega
  have h2 : (fints n (upd f i v))[k]? = none := by simp [fints_length]; omega
  rw [h2]
  by_cases e : i = k
  ·subst e; simp [fints_length, hk]
  ·simp [e, h1]
theorem fints_snoc (n : Nat) (f : Nat → Nat) : fints (n + 1) f = fints n f ++ [.int .i64 (f n)] := by simp [fints, ints, List.range_succ]
structure SetsMem (F : Nat → Prop) (w : World) (b n : Nat) (up size low : Nat → Nat) (many : Nat) (ou os ol : Option Addr) (cu cs cl : Nat) : Prop where
 head : Row w b 197 [.slice ou n cu, .slice os n cs, .slice ol n cl, .int .i64 many]
 hb : F b
 u : Sl F w 3 1 ou n cu (fints n up)
 s : Sl F w 3 1 os n cs (fints n size)
 l : Sl F w 3 1 ol n cl (fints n low)
 du : ∀ a, ou = some a → a.block ≠ b
 ds : ∀ a, os = some a → a.block ≠ b
 dl : ∀ a, ol = some a → a.block ≠ b
 dus : ∀ a c, ou = some a → os = some c → a.block ≠ c.block
 dul : ∀ a c, ou = some a → ol = some c → a.block ≠ c.block
 dsl : ∀ a c, os = some a → ol = some c → a.block ≠ c.block
namespace SetsMem
variable {F : Nat → Prop} {w : World} {b n : Nat} {up size low : Nat → Nat} {many : Nat} {ou os ol : Option Addr} {cu cs cl : Nat}
theorem drew (h : SetsMem F w b n up size low many ou os ol cu cs cl) : SetsMem F w.drew b n up size low many ou os ol cu cs cl :=
 ⟨h.head.drew, h.hb, h.u.drew, h.s.drew, h.l.drew, h.du, h.ds, h.dl, h.dus, h.dul, h.dsl⟩
theorem keep {G : Nat → Prop} {w' : World} (h : SetsMem F w b n up size low many ou os ol cu cs cl) (k : Keep G w w') (d : ∀ k, F k → ¬ G k) : SetsMem F w' b n up size low many ou os ol cu cs cl :=
 ⟨h.head.keep k (d b h.hb), h.hb, h.u.keep k d, h.s.keep k d, h.l.keep k d, h.du, h.ds, h.dl, h.dus, h.dul, h.dsl⟩
theorem alloc (h : SetsMem F w b n up size low many ou os ol cu cs cl) (o : Obj) : SetsMem F (w.alloc o) b n up size low many ou os ol cu cs cl :=
 ⟨h.head.alloc o, h.hb, h.u.alloc o, h.s.alloc o, h.l.alloc o, h.du, h.ds, h.dl, h.dus, h.dul, h.dsl⟩
theorem of_heap {w' : World} (h : SetsMem F w b n up size low many ou os ol cu cs cl) (e : ∀ k, k < w.heap.size → F k → w'.heap[k]? = w.heap[k]?) : SetsMem F w' b n up size low many ou os ol cu cs cl :=
 ⟨h.head.of_heap (e b h.head.lt h.hb), h.hb, h.u.of_heap e, h.s.of_heap e, h.l.of_heap e, h.du, h.ds, h.dl, h.dus, h.dul, h.dsl⟩
theorem setUp (h : SetsMem F w b n up size low many ou os ol cu cs cl) {g x : Nat} (ho : ou = some ⟨g, 0, none⟩) (hx : x < n) (v : Nat) :
  SetsMem F (w.setCell ⟨g, x, none⟩ (.int .i64 v)) b n (upd up x v) size low many ou os ol cu cs cl := by
 have hF : F g := h.u.foot _ ho
 have d := h.du _ ho
 refine ⟨h.head.set_other (by simpa using d) _, h.hb, ?_, ?_, ?_, h.du, h.ds, h.dl, h.dus, h.dul, h.dsl⟩
 ·rw [← fints_set]; exact h.u.set ho hx _
 ·exact h.s.set_ne (p := ⟨g, x, none⟩) (fun a ha e => h.dus _ _ ho ha e.symm) _
 ·exact h.l.set_ne (p := ⟨g, x, none⟩) (fun a ha e => h.dul _ _ ho ha e.symm) _
theorem setSize (h : SetsMem F w b n up size low many ou os ol cu cs cl) {g x : Nat} (ho : os = some ⟨g, 0, none⟩) (hx : x < n) (v : Nat) :
  SetsMem F (w.setCell ⟨g, x, none⟩ (.int .i64 v)) b n up (upd size x v) low many ou os ol cu cs cl := by
 have d := h.ds _ ho
 refine ⟨h.head.set_other (by simpa using d) _, h.hb, ?_, ?_, ?_, h.du, h.ds, h.dl, h.dus, h.dul, h.dsl⟩
 ·exact h.u.set_ne (p := ⟨g, x, none⟩) (fun a ha e => h.dus _ _ ha ho e) _
 ·rw [← fints_set]; exact h.s.set ho hx _
 ·exact h.l.set_ne (p := ⟨g, x, none⟩) (fun a ha e => h.dsl _ _ ho ha e.symm) _
theorem setLow (h : SetsMem F w b n up size low many ou os ol cu cs cl) {g x : Nat} (ho : ol = some ⟨g, 0, none⟩) (hx : x < n) (v : Nat) :
  SetsMem F (w.setCell ⟨g, x, none⟩ (.int .i64 v)) b n up size (upd low x v) many ou os ol cu cs cl := by
 have d := h.dl _ ho
 refine ⟨h.head.set_other (by simpa using d) _, h.hb, ?_, ?_, ?_, h.du, h.ds, h.dl, h.dus, h.dul, h.dsl⟩
 ·exact h.u.set_ne (p := ⟨g, x, none⟩) (fun a ha e => h.dul _ _ ha ho e) _
 ·exact h.s.set_ne (p := ⟨g, x, none⟩) (fun a ha e => h.dsl _ _ ha ho e) _
 ·rw [← fints_set]; exact h.l.set ho hx _
theorem setMany (h : SetsMem F w b n up size low many ou os ol cu cs cl) (v : Nat) :
  SetsMem F (w.setCell ⟨b, 3, none⟩ (.int .i64 v)) b n up size low v ou os ol cu cs cl :=
 ⟨h.head.set (by simp) _, h.hb, h.u.set_ne h.du _, h.s.set_ne h.ds _, h.l.set_ne h.dl _, h.du, h.ds, h.dl, h.dus, h.dul, h.dsl⟩
end SetsMem
def RootPost (F : Nat → Prop) (w : World) (b n : Nat) (up size low : Nat → Nat) (many : Nat) (ou os ol : Option Addr) (cu cs cl : Nat) (L : Nat → Nat) (x : Nat) (e : Ending) (w' : World) : Prop :=
 ∃ (r k : Nat) (up' : Nat → Nat), e = .returned (.int .i64 r) ∧ r < n ∧ Root up x r k ∧ SetsMem F w' b n up' size low many ou os ol cu cs cl ∧ SetsInv n up' size low many L ∧ SameRoots n up up' ∧ Keep F w w'
set_option maxHeartbeats 400000 in
theorem root_any (F : Nat → Prop) (w : World) (b n : Nat) (up size low : Nat → Nat) (many : Nat) (ou os ol : Option Addr) (cu cs cl : Nat) (L : Nat → Nat) (x : Nat) (hx : x < n) (hn : n ≤ 40)
  (hM : SetsMem F w b n up size low many ou os ol cu cs cl) (hI : SetsInv n up size low many L) :
  Calls Tryz.prog 150 #[.pointer (some ⟨b, 0, none⟩), .int .i64 x] w (RootPost F w b n up size low many ou os ol cu cs cl L x) := by
 obtain ⟨d, hd⟩ := hI.forest.deep
 obtain ⟨R, k, hRn, hR⟩ := hI.forest.root hx
 obtain ⟨g, hou, hFg, hgc, hrow⟩ := hM.u.pos (by omega)
 have Hou := Lib.hid hou
 subst hou
 have hc0 := hM.head.cell (i := 0) rfl
 have hP : ∀ r k up' w', r = R → Root up x r k → SetsMem F w' b n up' size low many (some ⟨g, 0, none⟩) os ol cu cs cl → SetsInv n up' size low many L → SameRoots n up up' → Keep F w w' → RootPost F w b n up size low many (some ⟨g, 0, none⟩) os ol cu cs cl L x (.returned (.int .i64 r)) w' :=
  fun r k up' w' e h1 h2 h3 h4 h5 => ⟨r, k, up', rfl, e ▸ hRn, h1, h2, h3, h4, h5⟩
 have HP := Lib.hid hP
 have HR := Lib.hid hR
 clear hP
 go_enter Tryz.func150, Tryz.ntmps150
 go_wp2
 go_loop [5] (fun r => ∃ z j : Nat, r = .int .i64 z ∧ z < n ∧ Root up z R j) (fun r => d (intOf r).toNat)
 case atStart => exact ⟨x, k, rfl, hx, hR⟩
 case round =>
  obtain ⟨z, j, rfl, hz, hzR⟩ := hrel
  have hcz := hrow.cell (fints_get up hz)
  have HzR := Lib.hid hzR
  clear hzR
  by_cases hne : up z = z
  ·have hne' : ((up z : Int) != (z : Int)) = false := by simp [hne]
   obtain rfl : z = R := ((HzR.out).unique (Root.here hne)).1
   have H := Lib.hid hne; clear hne
   go_wp2
   clear hne' hcz hc0
   go_loopw [1] (fun v wr => ∃ (z' j : Nat) (up' : Nat → Nat), v = .int .i64 z' ∧ z' < n ∧ SetsMem F wr b n up' size low many (some ⟨g, 0, none⟩) os ol cu cs cl ∧ SetsInv n up' size low many L ∧ SameRoots n up up' ∧ Root up' z' z j ∧ Keep F w wr ∧ (∀ y, y < n → up' y ≠ y → d (up' y) < d y)) (fun v _ => d (intOf v).toNat)
   case atStart => exact ⟨x, k, up, rfl, hx, hM, hI, SameRoots.refl n up, hR, Keep.refl F w, hd⟩
   case round =>
    obtain ⟨v, j, up', rfl, hv, hM', hI', hS', hR', hK', hd'⟩ := hrel
    have hc0 := hM'.head.cell (i := 0) rfl
    obtain ⟨g', e', hFg', _, hrow'⟩ := hM'.u.pos (by omega)
    obtain rfl : g = g' := by simpa using e'
    have hcv := hrow'.cell (fints_get up' hv)
    have hf := hrow'.frozen v none
    have hbg := hM'.du _ rfl
    clear e'
    have K1 := Lib.hid hR'
    have K2 := Lib.hid hd'
    clear hR' hd' hRn hR hd
    by_cases hne : up' v = z
    ·have hne' : ((up' v : Int) != (z : Int)) = false := by simp [hne]
     have H2 := Lib.hid hne; clear hne
     go_wp2
     go_ret
     exact HP.out _ _ _ _ rfl HR.out hM' hI' hS' hK'
    ·have hne' : ((up' v : Int) != (z : Int)) = true := by simp; omega
     have H2 := Lib.hid hne; clear hne
     have hlt : up' v < n := hI'.forest.lt v hv
     go_wp2
     go_region
     have hvz : up' v ≠ v ∧ ∃ j', Root up' (up' v) z j' := by
      have h1 := K1.out
      cases h1 with
      | here h => exact absurd h H2.out
      | step h t => exact ⟨h, _, t⟩
     obtain ⟨hvv, j', hj'⟩ := hvz
     obtain ⟨j2, hj2⟩ := K1.out.compress hj'
     have hdz := (K1.out.deeper hI'.forest.lt K2.out hv).2
     refine ⟨?_, by simpa [intOf] using K2.out v hv hvv⟩
     repeat apply Exists.intro
     refine ⟨⟨up' v, j2, upd up' v z, rfl, hlt, hM'.drew.setUp rfl hv z, hI'.compress hv K1.out, hS'.trans (fun a r k' _ hr => ?_), hj2, hK'.drew.setCell (.inl hFg) _, fun y hy hy2 => ?_⟩, rfl⟩
     ·exact K1.out.compress hr
     ·by_cases e : y = v
      ·subst e; rw [upd_same] at hy2 ⊢; exact hdz (fun e => hy2 e.symm)
      ·rw [upd_ne _ _ _ _ e] at hy2 ⊢; exact K2.out y hy hy2
  ·have hne' : ((up z : Int) != (z : Int)) = true := by simp; omega
   have H := Lib.hid hne; clear hne
   go_wp2
   go_round
   case rel =>
    refine ⟨up z, j - 1, rfl, hI.forest.lt z hz, ?_⟩
    have h1 := HzR.out
    cases h1 with
    | here h => exact absurd h H.out
    | step _ t => exact t
   case measure => simpa [intOf] using hd z hz H.out
end Go.Proofs.YtfglkgkihafcpaaGreatDoor
namespace Go.Proofs.YtfglkgkihafcpaaGreatDoor
open Go.RowKit Pl
def outB (n : Nat) (x : Int) : Bool := decide (x < 0) || decide ((n : Int) ≤ x)
theorem outB_true {n : Nat} {x : Int} : outB n x = true ↔ x < 0 ∨ (n : Int) ≤ x := by simp [outB]
theorem outB_false {n : Nat} {x : Int} : outB n x = false ↔ 0 ≤ x ∧ x < n := by
 have := @outB_true n x
 cases h : outB n x
 ·simp only [h] at this; constructor
  ·intro _; constructor <;> (false_or_by_contra; exact absurd (this.2 (by omega)) (by decide))
  ·intro _; rfl
 ·simp only [h] at this; constructor
  ·intro e; cases e
  ·intro h2; have := this.1 trivial; omega
theorem right1_any (w : World) (B b n cu : Nat) (ou : Option Addr) (x : Int) (hn : n ≤ 40) (hB : w.cell? ⟨B, 0, none⟩ = some (.pointer (some ⟨b, 0, none⟩))) (hc : w.cell? ⟨b, 0, none⟩ = some (.slice ou n cu)) :
  Calls Tryz.prog 188 #[.int .i64 x, .pointer (some ⟨B, 0, none⟩)] w fun e w' => e = .returned (.bool (outB n x)) ∧ w = w' := by
 by_cases h : x < 0
 ·have e : outB n x = true := outB_true.2 (.inl h)
  have he := Lib.hid e
  clear e
  go_enter Tryz.func188, Tryz.ntmps188
  go_wp2
  go_ret
  exact ⟨by rw [he.out]; rfl, rfl⟩
 ·by_cases h2 : (n : Int) ≤ x
  ·have e : outB n x = true := outB_true.2 (.inr h2)
   have he := Lib.hid e
   clear e
   go_enter Tryz.func188, Tryz.ntmps188
   go_wp2
   go_ret
   exact ⟨by rw [he.out]; rfl, rfl⟩
  ·have e : outB n x = false := outB_false.2 (by omega)
   have he := Lib.hid e
   clear e
   go_enter Tryz.func188, Tryz.ntmps188
   go_wp2
   go_ret
   exact ⟨by rw [he.out]; rfl, rfl⟩
def firstOut (n : Nat) (l : List Int) : Int := match l.findIdx? (outB n) with | some k => k | none => -1
theorem firstOut_some {n : Nat} {l : List Int} {k : Nat} (h : l.findIdx? (outB n) = some k) : firstOut n l = k := by simp [firstOut, h]
theorem firstOut_none {n : Nat} {l : List Int} (h : l.findIdx? (outB n) = none) : firstOut n l = -1 := by simp [firstOut, h]
theorem indexFunc_right (w : World) (B b n cu : Nat) (ou : Option Addr) (g : Nat) (l : List Int) (c : Nat) (hl : l.length ≤ 2) (hn : n ≤ 40) (hB : w.cell? ⟨B, 0, none⟩ = some (.pointer (some ⟨b, 0, none⟩))) (hc : w.cell? ⟨b, 0, none⟩ = some (.slice ou n cu))
  (hx : ∀ i x, l[i]? = some x → w.cell? ⟨g, i, none⟩ = some (.int .i64 x)) :
  Calls Tryz.prog 210 #[.slice (some ⟨g, 0, none⟩) l.length c, .func (.func 188) #[] #[.pointer (some ⟨B, 0, none⟩)]] w
   fun e w' => e = .returned (.int .i64 (firstOut n l)) ∧ w = w' := by
 go_enter Tryz.func210, Tryz.ntmps210
 go_wp2
 go_loop [8] (fun i => ∃ k : Nat, k ≤ l.length ∧ i = .int .i64 k ∧ ∀ j x, j < k → l[j]? = some x → outB n x = false) (fun i => l.length - (intOf i).toNat)
 case atStart => exact ⟨0, Nat.zero_le _, rfl, fun _ _ h => by omega⟩
 case round =>
  obtain ⟨k, hk, rfl, hall⟩ := hrel
  have Hall := Lib.hid hall
  clear hall
  by_cases hlt : k < l.length
  ·have hcx := hx k l[k] (by simp [hlt])
   have HX := Lib.hid hx
   clear hx
   cases ho : outB n l[k]
   ·go_wp2_with (go_at_call 188; refine (right1_any _ B b n cu ou _ hn hB hc).mono ?_; rintro e w' ⟨rfl, rfl⟩)
    go_round
    case rel =>
     refine ⟨k + 1, by omega, by go_num, fun j x hj hx => ?_⟩
     by_cases e : j = k
     ·subst e; simp [hlt] at hx; rw [← hx]; exact ho
     ·exact Hall.out j x (by omega) hx
    case measure => simp [intOf]; omega
   ·have hf : l.findIdx? (outB n) = some k := by
     rw [List.findIdx?_eq_some_iff_getElem]
     refine ⟨hlt, ho, fun j hj => ?_⟩
     rw [Hall.out j l[j] hj (by simp)]; decide
    have hff := Lib.hid (firstOut_some hf)
    clear hf
    go_wp2_with (go_at_call 188; refine (right1_any _ B b n cu ou _ hn hB hc).mono ?_; rintro e w' ⟨rfl, rfl⟩)
    go_ret
    exact ⟨by rw [hff.out]; rfl, rfl⟩
  ·have hf : l.findIdx? (outB n) = none := by
    rw [List.findIdx?_eq_none_iff]
    intro x hx
    obtain ⟨j, hj⟩ := List.mem_iff_getElem?.1 hx
    have := (List.getElem?_eq_some_iff.1 hj).1
    exact Hall.out j x (by omega) hj
   have hff := Lib.hid (firstOut_none hf)
   clear hf
   go_wp2
   go_ret
   exact ⟨by rw [hff.out]; rfl, rfl⟩
theorem firstOut_neg {n : Nat} {l : List Int} (h : ∀ x ∈ l, outB n x = false) : firstOut n l = -1 := firstOut_none (List.findIdx?_eq_none_iff.2 h)
theorem firstOut_pos {n : Nat} {l : List Int} {x : Int} (hx : x ∈ l) (h : outB n x = true) : ∃ k : Nat, firstOut n l = k := by
 cases e : l.findIdx? (outB n) with
 | some k => exact ⟨k, firstOut_some e⟩
 | none => rw [List.findIdx?_eq_none_iff] at e; rw [e x hx] at h; cases h
theorem right_yes (w : World) (b n cu : Nat) (ou : Option Addr) (g : Nat) (l : List Int) (m c : Nat) (hm : l.length = m) (hl : m ≤ 2) (hn : n ≤ 40) (hc : w.cell? ⟨b, 0, none⟩ = some (.slice ou n cu))
  (hx : ∀ i x, l[i]? = some x → w.cell? ⟨g, i, none⟩ = some (.int .i64 x)) (hin : ∀ x ∈ l, outB n x = false) :
  Calls Tryz.prog 149 #[.pointer (some ⟨b, 0, none⟩), .slice (some ⟨g, 0, none⟩) m c] w fun e w' => e = .returned (.bool true) ∧ Keep Nb w w' := by
 have hmf : ∀ (fn : Fn) (first cap : Array Value) (w : World), (Instr.makeFunc fn first cap).run Tryz.prog w = .ok (.func fn first cap) w := fun _ _ _ _ => rfl
 subst hm
 have hf := Lib.hid (firstOut_neg hin)
 have hb := World.block_lt_of_cell? w _ hc
 have hB : (w.alloc (.cells #[.pointer (some ⟨b, 0, none⟩)] 145)).cell? ⟨w.heap.size, 0, none⟩ = some (.pointer (some ⟨b, 0, none⟩)) := by
  rw [World.cell?_alloc_at _ _ _ _ rfl]; rfl
 have hc' : (w.alloc (.cells #[.pointer (some ⟨b, 0, none⟩)] 145)).cell? ⟨b, 0, none⟩ = some (.slice ou n cu) := by
  rw [World.cell?_alloc_past _ _ _ hb]; exact hc
 have hx' : ∀ i x, l[i]? = some x → (w.alloc (.cells #[.pointer (some ⟨b, 0, none⟩)] 145)).cell? ⟨g, i, none⟩ = some (.int .i64 x) := fun i x hi => by
  have h := hx i x hi
  rw [World.cell?_alloc_past _ _ _ (World.block_lt_of_cell? w _ h)]; exact h
 clear hx hin
 have HX := Lib.hid hx'
 clear hx'
 go_enter Tryz.func149, Tryz.ntmps149
 go_wp2_with (first | (go_at_call 210; refine (indexFunc_right _ w.heap.size b n cu ou g l c hl hn hB hc' HX.out).mono ?_; rintro e w' ⟨rfl, rfl⟩; rw [hf.out]) | go_in)
 go_ret
 exact ⟨rfl, (Keep.refl Nb w).alloc _⟩
theorem right_no (w : World) (b n cu : Nat) (ou : Option Addr) (g : Nat) (l : List Int) (m c : Nat) (hm : l.length = m) (hl : m ≤ 2) (hn : n ≤ 40) (hc : w.cell? ⟨b, 0, none⟩ = some (.slice ou n cu))
  (hx : ∀ i x, l[i]? = some x → w.cell? ⟨g, i, none⟩ = some (.int .i64 x)) (x : Int) (hxl : x ∈ l) (hout : outB n x = true) :
  Calls Tryz.prog 149 #[.pointer (some ⟨b, 0, none⟩), .slice (some ⟨g, 0, none⟩) m c] w fun e w' => e = .returned (.bool false) ∧ Keep Nb w w' := by
 have hmf : ∀ (fn : Fn) (first cap : Array Value) (w : World), (Instr.makeFunc fn first cap).run Tryz.prog w = .ok (.func fn first cap) w := fun _ _ _ _ => rfl
 subst hm
 obtain ⟨k, hk⟩ := firstOut_pos hxl hout
 have hf := Lib.hid hk
 have hb := World.block_lt_of_cell? w _ hc
 have hB : (w.alloc (.cells #[.pointer (some ⟨b, 0, none⟩)] 145)).cell? ⟨w.heap.size, 0, none⟩ = some (.pointer (some ⟨b, 0, none⟩)) := by
  rw [World.cell?_alloc_at _ _ _ _ rfl]; rfl
 have hc' : (w.alloc (.cells #[.pointer (some ⟨b, 0, none⟩)] 145)).cell? ⟨b, 0, none⟩ = some (.slice ou n cu) := by
  rw [World.cell?_alloc_past _ _ _ hb]; exact hc
 have hx' : ∀ i x, l[i]? = some x → (w.alloc (.cells #[.pointer (some ⟨b, 0, none⟩)] 145)).cell? ⟨g, i, none⟩ = some (.int .i64 x) := fun i x hi => by
  have h := hx i x hi
  rw [World.cell?_alloc_past _ _ _ (World.block_lt_of_cell? w _ h)]; exact h
 clear hx hk hout hxl
 have HX := Lib.hid hx'
 clear hx'
 go_enter Tryz.func149, Tryz.ntmps149
 go_wp2_with (first | (go_at_call 210; refine (indexFunc_right _ w.heap.size b n cu ou g l c hl hn hB hc' HX.out).mono ?_; rintro e w' ⟨rfl, rfl⟩; rw [hf.out]) | go_in)
 go_ret
 exact ⟨rfl, (Keep.refl Nb w).alloc _⟩
end Go.Proofs.YtfglkgkihafcpaaGreatDoor
namespace Go.Proofs.YtfglkgkihafcpaaGreatDoor
open Go.RowKit Pl
theorem two_get {w : World} {a b : Value} {T : TypeId} (l : List Int) (hl : l.map (Value.int .i64) = [a, b]) :
  ∀ i x, l[i]? = some x → (w.alloc (.cells #[a, b] T)).cell? ⟨w.heap.size, i, none⟩ = some (.int .i64 x) := by
 intro i x hi
 have h : (l.map (Value.int .i64))[i]? = some (.int .i64 x) := by simp [hi]
 rw [hl] at h
 rw [World.cell?_alloc_at _ _ _ _ rfl]
 simpa using h
theorem one_get {w : World} {a : Value} {T : TypeId} (l : List Int) (hl : l.map (Value.int .i64) = [a]) :
  ∀ i x, l[i]? = some x → (w.alloc (.cells #[a] T)).cell? ⟨w.heap.size, i, none⟩ = some (.int .i64 x) := by
 intro i x hi
 have h : (l.map (Value.int .i64))[i]? = some (.int .i64 x) := by simp [hi]
 rw [hl] at h
 rw [World.cell?_alloc_at _ _ _ _ rfl]
 simpa using h
def Sets (F : Nat → Prop) (w : World) (b n : Nat) (L : Nat → Nat) : Prop :=
 ∃ (up size low : Nat → Nat) (many : Nat) (ou os ol : Option Addr) (cu cs cl : Nat), SetsMem F w b n up size low many ou os ol cu cs cl ∧ SetsInv n up size low many L ∧ n ≤ 40
def JoinPost (F : Nat → Prop) (w : World) (b n : Nat) (L : Nat → Nat) (x y : Nat) (e : Ending) (w' : World) : Prop :=
 e = .returned (.tuple #[.bool (decide (L x ≠ L y)), .nilIface]) ∧ Sets F w' b n (joinL L x y) ∧ Keep F w w'
theorem join_post_comm (F : Nat → Prop) (w : World) (b n : Nat) (L : Nat → Nat) (x y : Nat) (e : Ending) (w' : World) (h : JoinPost F w b n L y x e w') : JoinPost F w b n L x y e w' := by
 obtain ⟨h1, h2, h3⟩ := h
 refine ⟨?_, ?_, h3⟩
 ·rw [h1]
  have : decide (L y ≠ L x) = decide (L x ≠ L y) := by simp [eq_comm]
  rw [this]
 ·rw [joinL_comm]; exact h2
theorem join_close (F : Nat → Prop) (w w3 : World) (b n gu gs gl cu cs cl : Nat) (up size low : Nat → Nat) (many : Nat) (L : Nat → Nat) (x y p q k1 k2 : Nat) (hx : x < n) (hy : y < n) (hp : p < n) (hq : q < n) (hn : n ≤ 40)
  (hM : SetsMem F w3 b n up size low many (some ⟨gu, 0, none⟩) (some ⟨gs, 0, none⟩) (some ⟨gl, 0, none⟩) cu cs cl) (hI : SetsInv n up size low many L)
  (hR1 : Root up x p k1) (hR2 : Root up y q k2) (hne : p ≠ q) (hK : Keep F w w3) (nq m : Nat) (hm : m = min (low p) (low q)) :
  JoinPost F w b n L x y (.returned (.tuple #[.bool true, .nilIface]))
   (((((w3.drewN nq).setCell ⟨gu, q, none⟩ (.int .i64 p)).setCell ⟨gs, p, none⟩ (.int .i64 ((size p : Int) + (size q : Int)))).setCell ⟨gl, p, none⟩ (.int .i64 m)).setCell ⟨b, 3, none⟩ (.int .i64 ((many : Int) - 1))).drew.drew := by
 obtain ⟨hI', hm1, hL⟩ := hI.link hx hy hR1 hR2 hne
 have e1 : ((size p : Int) + (size q : Int)) = ((size p + size q : Nat) : Int) := by omega
 have e2 : ((many : Int) - 1) = ((many - 1 : Nat) : Int) := by omega
 rw [e1, e2]
 have hM0 : SetsMem F (w3.drewN nq) b n up size low many (some ⟨gu, 0, none⟩) (some ⟨gs, 0, none⟩) (some ⟨gl, 0, none⟩) cu cs cl := hM.of_heap (fun _ _ _ => rfl)
 have hMm := (((hM0.setUp rfl hq p).setSize rfl hp (size p + size q)).setLow rfl hp m).setMany (many - 1)
 subst hm
 have hFu := hM.u.foot _ rfl
 have hFs := hM.s.foot _ rfl
 have hFl := hM.l.foot _ rfl
 have k1 := (hK.drewN nq).setCell (p := ⟨gu, q, none⟩) (.inl hFu) (.int .i64 p)
 have k2 := k1.setCell (p := ⟨gs, p, none⟩) (.inl hFs) (.int .i64 (size p + size q : Nat))
 have k3 := k2.setCell (p := ⟨gl, p, none⟩) (.inl hFl) (.int .i64 (min (low p) (low q) : Nat))
 have k4 := k3.setCell (p := ⟨b, 3, none⟩) (.inl hM.hb) (.int .i64 (many - 1 : Nat))
 refine ⟨by simp [hL], ⟨upd up q p, upd size p (size p + size q), upd low p (min (low p) (low q)), many - 1, some ⟨gu, 0, none⟩, some ⟨gs, 0, none⟩, some ⟨gl, 0, none⟩, cu, cs, cl, ?_, hI', hn⟩, ?_⟩
 ·exact hMm.drew.drew
 ·exact k4.drew.drew
set_option maxHeartbeats 4000000 in
theorem join_any (F : Nat → Prop) (w : World) (b n : Nat) (L : Nat → Nat) (x y : Nat) (hx : x < n) (hy : y < n) (hS : Sets F w b n L) :
  Calls Tryz.prog 111 #[.pointer (some ⟨b, 0, none⟩), .int .i64 x, .int .i64 y] w (JoinPost F w b n L x y) := by
 obtain ⟨up, size, low, many, ou, os, ol, cu, cs, cl, hM, hI, hn⟩ := hS
 have hc0 := hM.head.cell (i := 0) rfl
 have hb := hM.head.lt
 have hca : (w.alloc (.cells #[.int .i64 x, .int .i64 y] 3)).cell? ⟨b, 0, none⟩ = some (.slice ou n cu) := by rw [World.cell?_alloc_past _ _ _ hb]; exact hc0
 have hg2 := Lib.hid (two_get (w := w) (T := 3) [(x : Int), (y : Int)] rfl)
 have hin : ∀ z ∈ [(x : Int), (y : Int)], outB n z = false := by
  intro z hz
  simp at hz
  rcases hz with rfl | rfl <;> exact outB_false.2 (by omega)
 have Hin := Lib.hid hin
 clear hin hc0
 go_enter Tryz.func111, Tryz.ntmps111
 go_wp2_with fail
 refine (right_yes _ b n cu ou _ [(x : Int), (y : Int)] 2 2 rfl (Nat.le_refl _) hn hca hg2.out Hin.out).mono ?_
 rintro e w1 ⟨rfl, hk1⟩
 have hM1 := (hM.alloc (.cells #[.int .i64 x, .int .i64 y] 3)).keep hk1 (fun _ _ h => h)
 clear hca
 have HK1 := Lib.hid hk1
 clear hk1
 go_wp2_with fail
 refine (root_any F _ b n up size low many ou os ol cu cs cl L x hx hn hM1 hI).mono ?_
 rintro e w2 ⟨r1, k1, up1, rfl, hr1, hR1, hM2, hI2, hS2, hk2⟩
 have HK2 := Lib.hid hk2
 have HR1 := Lib.hid hR1
 clear hk2 hR1
 go_wp2_with fail
 refine (root_any F _ b n up1 size low many ou os ol cu cs cl L y hy hn hM2 hI2).mono ?_
 rintro e w3 ⟨r2, k2, up2, rfl, hr2, hR2, hM3, hI3, hS3, hk3⟩
 obtain ⟨k0, hR0⟩ := hS2 _ _ _ hx HR1.out
 obtain ⟨k1', hR1'⟩ := hS3 _ _ _ hx hR0
 obtain ⟨k2', hR2'⟩ := hS3 _ _ _ hy hR2
 have hKK : Keep F w w3 := (((Keep.refl F w).alloc _).trans HK1.out.of_nb).trans (HK2.out.trans hk3)
 by_cases hrr : r1 = r2
 ·have hLL : L x = L y := by rw [← hI3.lab _ _ _ hx hR1', ← hI3.lab _ _ _ hy hR2', hrr]
  have hfin : JoinPost F w b n L x y (.returned (.tuple #[.bool false, .nilIface])) w3 := by
   refine ⟨by simp [hLL], ?_, hKK⟩
   rw [joinL_same hLL]
   exact ⟨up2, size, low, many, ou, os, ol, cu, cs, cl, hM3, hI3, hn⟩
  have HF := Lib.hid hfin
  have hbe : ((r1 : Int) == (r2 : Int)) = true := by simp [hrr]
  clear hfin hLL hrr hKK hR0 hR1' hR2' hR2 hk3
  go_wp2_with fail
  go_ret2
  exact HF.out
 ·have hbe : ((r1 : Int) == (r2 : Int)) = false := by simp; omega
  obtain ⟨gu, hou, hFu, hcu', hru⟩ := hM3.u.pos (by omega)
  obtain ⟨gs, hos, hFs, hcs', hrs⟩ := hM3.s.pos (by omega)
  obtain ⟨gl, hol, hFl, hcl', hrl⟩ := hM3.l.pos (by omega)
  subst hou hos hol
  have hc0 := hM3.head.cell (i := 0) rfl
  have hc1 := hM3.head.cell (i := 1) rfl
  have hc2 := hM3.head.cell (i := 2) rfl
  have hc3 := hM3.head.cell (i := 3) rfl
  have hs1 := hrs.cell (fints_get size hr1)
  have hs2 := hrs.cell (fints_get size hr2)
  have hl1 := hrl.cell (fints_get low hr1)
  have hl2 := hrl.cell (fints_get low hr2)
  have hu1 := hru.cell (fints_get up2 hr1)
  have hu2 := hru.cell (fints_get up2 hr2)
  have f1 := hru.frozen r1 none
  have f2 := hru.frozen r2 none
  have f3 := hrs.frozen r1 none
  have f4 := hrs.frozen r2 none
  have f5 := hrl.frozen r1 none
  have f6 := hrl.frozen r2 none
  have f7 := hM3.head.frozen 3 none
  have d1 : gu ≠ b := hM3.du _ rfl
  have d2 : gs ≠ b := hM3.ds _ rfl
  have d3 : gl ≠ b := hM3.dl _ rfl
  have d4 : gu ≠ gs := hM3.dus _ _ rfl rfl
  have d5 : gu ≠ gl := hM3.dul _ _ rfl rfl
  have d6 : gs ≠ gl := hM3.dsl _ _ rfl rfl
  have d1' := d1.symm
  have d2' := d2.symm
  have d3' := d3.symm
  have d4' := d4.symm
  have d5' := d5.symm
  have d6' := d6.symm
  have hLne : L x ≠ L y := (hI3.link hx hy hR1' hR2' hrr).2.2
  have hmany := (hI3.link hx hy hR1' hR2' hrr).2.1
  have b1 : size r1 ≤ n := by rw [hI3.siz _ _ _ hx hR1']; exact cnt_le _ _
  have b2 : size r2 ≤ n := by rw [hI3.siz _ _ _ hy hR2']; exact cnt_le _ _
  have b3 : many ≤ n := by rw [hI3.man]; exact cnt_le _ _
  have H1 := Lib.hid hR1'
  have H2 := Lib.hid hR2'
  have H3 := Lib.hid hKK
  have H4 := Lib.hid hrr
  clear hR1' hR2' hKK hrr hR0 hR2 hk3 hru hrs hrl
  have hv1 := Lib.hid (join_close F w w3 b n gu gs gl cu cs cl up2 size low many L x y r1 r2 k1' k2' hx hy hr1 hr2 hn hM3 hI3 H1.out H2.out H4.out H3.out)
  have hv2 := Lib.hid (join_close F w w3 b n gu gs gl cu cs cl up2 size low many L y x r2 r1 k2' k1' hy hx hr2 hr1 hn hM3 hI3 H2.out H1.out (fun e => H4.out e.symm) H3.out)
  have hcm := Lib.hid (join_post_comm F w b n L x y)
  by_cases hlt : size r1 < size r2
  ·have hltb : decide ((size r1 : Int) < (size r2 : Int)) = true := by simpa using hlt
   go_wp2_with fail
   go_quiet (fail)
   go_wp2_with fail
   go_region
   go_wp2_with fail
   go_region
   all_goals (go_wp2_with fail)
   all_goals
    go_ret2
    exact hcm.out _ _ (hv2.out _ _ (by omega))
  ·have hltb : decide ((size r1 : Int) < (size r2 : Int)) = false := by simpa using hlt
   go_wp2_with fail
   go_quiet (fail)
   go_wp2_with fail
   go_region
   go_wp2_with fail
   go_region
   all_goals (go_wp2_with fail)
   all_goals
    go_ret2
    exact hv1.out _ _ (by omega)
end Go.Proofs.YtfglkgkihafcpaaGreatDoor
namespace Go.Proofs.YtfglkgkihafcpaaGreatDoor
open Go.RowKit Pl
theorem SetsMem.lowCell {F : Nat → Prop} {w : World} {b n : Nat} {up size low : Nat → Nat} {many : Nat} {ou os : Option Addr} {g : Nat} {cu cs cl : Nat} (h : SetsMem F w b n up size low many ou os (some ⟨g, 0, none⟩) cu cs cl) {r : Nat} (hr : r < n) :
  w.cell? ⟨g, r, none⟩ = some (.int .i64 (low r)) := by
 obtain ⟨g', e, _, _, hrow⟩ := h.l.pos (by omega)
 obtain rfl : g = g' := by simpa using e
 exact hrow.cell (fints_get low hr)
theorem SetsMem.sizeCell {F : Nat → Prop} {w : World} {b n : Nat} {up size low : Nat → Nat} {many : Nat} {ou ol : Option Addr} {g : Nat} {cu cs cl : Nat} (h : SetsMem F w b n up size low many ou (some ⟨g, 0, none⟩) ol cu cs cl) {r : Nat} (hr : r < n) :
  w.cell? ⟨g, r, none⟩ = some (.int .i64 (size r)) := by
 obtain ⟨g', e, _, _, hrow⟩ := h.s.pos (by omega)
 obtain rfl : g = g' := by simpa using e
 exact hrow.cell (fints_get size hr)
theorem read_fin {F : Nat → Prop} {w w1 w2 : World} {o : Obj} {b n : Nat} {up size low : Nat → Nat} {many : Nat} {ou os ol : Option Addr} {cu cs cl : Nat} {L : Nat → Nat} {p q : Nat}
  (h1 : Keep Nb (w.alloc o) w1) (h2 : Keep F w1.drew w2) (hM : SetsMem F w2 b n up size low many ou os ol cu cs cl) (hI : SetsInv n up size low many L) (hn : n ≤ 40) (he : p = q) :
  p = q ∧ Sets F w2 b n L ∧ Keep F w w2 :=
 ⟨he, ⟨_, _, _, _, _, _, _, _, _, _, hM, hI, hn⟩, ((((Keep.refl F w).alloc o).trans h1.of_nb).drew).trans h2⟩
def ReadPost (F : Nat → Prop) (w : World) (b n : Nat) (L : Nat → Nat) (v : Value) (e : Ending) (w' : World) : Prop :=
 e = .returned v ∧ Sets F w' b n L ∧ Keep F w w'
set_option maxHeartbeats 400000 in
theorem least_any (F : Nat → Prop) (w : World) (b n : Nat) (L : Nat → Nat) (x : Nat) (hx : x < n) (hS : Sets F w b n L) :
  Calls Tryz.prog 151 #[.pointer (some ⟨b, 0, none⟩), .int .i64 x] w (ReadPost F w b n L (.tuple #[.int .i64 (L x), .nilIface])) := by
 obtain ⟨up, size, low, many, ou, os, ol, cu, cs, cl, hM, hI, hn⟩ := hS
 have hc0 := hM.head.cell (i := 0) rfl
 have hb := hM.head.lt
 have hca : (w.alloc (.cells #[.int .i64 x] 3)).cell? ⟨b, 0, none⟩ = some (.slice ou n cu) := by rw [World.cell?_alloc_past _ _ _ hb]; exact hc0
 have hg2 := Lib.hid (one_get (w := w) (T := 3) [(x : Int)] rfl)
 have hin : ∀ z ∈ [(x : Int)], outB n z = false := by
  intro z hz
  simp at hz
  rw [hz]; exact outB_false.2 (by omega)
 have Hin := Lib.hid hin
 clear hin hc0
 go_enter Tryz.func151, Tryz.ntmps151
 go_wp2_with fail
 refine (right_yes _ b n cu ou _ [(x : Int)] 1 1 rfl (by omega) hn hca hg2.out Hin.out).mono ?_
 rintro e w1 ⟨rfl, hk1⟩
 have hM1 := (hM.alloc (.cells #[.int .i64 x] 3)).keep hk1 (fun _ _ h => h)
 clear hca
 have HK1 := Lib.hid hk1
 clear hk1
 obtain ⟨gl, hol, hFl, hcl', hrl⟩ := hM1.l.pos (by omega)
 subst hol
 have hc2 := hM1.head.cell (i := 2) rfl
 go_wp2_with fail
 go_region_with (go_at_call 150; refine (root_any F _ b n up size low many ou os _ cu cs cl L x hx hn hM1.drew hI).mono ?_; rintro e w2 ⟨r1, k1, up1, rfl, hr1, hR1, hM2, hI2, hS2, hk2⟩; have hc2' := hM2.head.cell (i := 2) rfl; have hcl2 := hM2.lowCell hr1; have HF := Lib.hid (read_fin HK1.out hk2 hM2 hI2 hn (hI.lab _ _ _ hx hR1)); clear hk2 hM2 hI2 hS2 hR1)
 all_goals (go_wp2_with fail)
 all_goals
  go_ret2
  exact ⟨by rw [← HF.out.1]; rfl, HF.out.2⟩
set_option maxHeartbeats 400000 in
theorem size_any (F : Nat → Prop) (w : World) (b n : Nat) (L : Nat → Nat) (x : Nat) (hx : x < n) (hS : Sets F w b n L) :
  Calls Tryz.prog 108 #[.pointer (some ⟨b, 0, none⟩), .int .i64 x] w (ReadPost F w b n L (.tuple #[.int .i64 (cnt n (fun z => decide (L z = L x)) : Nat), .nilIface])) := by
 obtain ⟨up, size, low, many, ou, os, ol, cu, cs, cl, hM, hI, hn⟩ := hS
 have hc0 := hM.head.cell (i := 0) rfl
 have hb := hM.head.lt
 have hca : (w.alloc (.cells #[.int .i64 x] 3)).cell? ⟨b, 0, none⟩ = some (.slice ou n cu) := by rw [World.cell?_alloc_past _ _ _ hb]; exact hc0
 have hg2 := Lib.hid (one_get (w := w) (T := 3) [(x : Int)] rfl)
 have hin : ∀ z ∈ [(x : Int)], outB n z = false := by
  intro z hz
  simp at hz
  rw [hz]; exact outB_false.2 (by omega)
 have Hin := Lib.hid hin
 clear hin hc0
 go_enter Tryz.func108, Tryz.ntmps108
 go_wp2_with fail
 refine (right_yes _ b n cu ou _ [(x : Int)] 1 1 rfl (by omega) hn hca hg2.out Hin.out).mono ?_
 rintro e w1 ⟨rfl, hk1⟩
 have hM1 := (hM.alloc (.cells #[.int .i64 x] 3)).keep hk1 (fun _ _ h => h)
 clear hca
 have HK1 := Lib.hid hk1
 clear hk1
 obtain ⟨gs, hos, hFs, hcs', hrs⟩ := hM1.s.pos (by omega)
 subst hos
 have hc1 := hM1.head.cell (i := 1) rfl
 go_wp2_with fail
 go_region_with (go_at_call 150; refine (root_any F _ b n up size low many ou _ ol cu cs cl L x hx hn hM1.drew hI).mono ?_; rintro e w2 ⟨r1, k1, up1, rfl, hr1, hR1, hM2, hI2, hS2, hk2⟩; have hc1' := hM2.head.cell (i := 1) rfl; have hcs2 := hM2.sizeCell hr1; have HF := Lib.hid (read_fin HK1.out hk2 hM2 hI2 hn (hI.siz _ _ _ hx hR1)); clear hk2 hM2 hI2 hS2 hR1)
 all_goals (go_wp2_with fail)
 all_goals
  go_ret2
  exact ⟨by rw [← HF.out.1]; rfl, HF.out.2⟩
theorem sets_fin {F : Nat → Prop} {w w1 w2 w3 : World} {o : Obj} {b n : Nat} {up size low : Nat → Nat} {many : Nat} {ou os ol : Option Addr} {cu cs cl : Nat} {L : Nat → Nat}
  (h1 : Keep Nb (w.alloc o) w1) (h2 : Keep F w1 w2) (h3 : Keep F w2 w3) (hM : SetsMem F w3 b n up size low many ou os ol cu cs cl) (hI : SetsInv n up size low many L) (hn : n ≤ 40) :
  Sets F w3 b n L ∧ Keep F w w3 :=
 ⟨⟨_, _, _, _, _, _, _, _, _, _, hM, hI, hn⟩, (((Keep.refl F w).alloc o).trans h1.of_nb).trans (h2.trans h3)⟩
set_option maxHeartbeats 400000 in
theorem same_any (F : Nat → Prop) (w : World) (b n : Nat) (L : Nat → Nat) (x y : Nat) (hx : x < n) (hy : y < n) (hS : Sets F w b n L) :
  Calls Tryz.prog 107 #[.pointer (some ⟨b, 0, none⟩), .int .i64 x, .int .i64 y] w (ReadPost F w b n L (.tuple #[.bool (decide (L x = L y)), .nilIface])) := by
 obtain ⟨up, size, low, many, ou, os, ol, cu, cs, cl, hM, hI, hn⟩ := hS
 have hc0 := hM.head.cell (i := 0) rfl
 have hb := hM.head.lt
 have hca : (w.alloc (.cells #[.int .i64 x, .int .i64 y] 3)).cell? ⟨b, 0, none⟩ = some (.slice ou n cu) := by rw [World.cell?_alloc_past _ _ _ hb]; exact hc0
 have hg2 := Lib.hid (two_get (w := w) (T := 3) [(x : Int), (y : Int)] rfl)
 have hin : ∀ z ∈ [(x : Int), (y : Int)], outB n z = false := by
  intro z hz
  simp at hz
  rcases hz with rfl | rfl <;> exact outB_false.2 (by omega)
 have Hin := Lib.hid hin
 clear hin hc0
 go_enter Tryz.func107, Tryz.ntmps107
 go_wp2_with fail
 refine (right_yes _ b n cu ou _ [(x : Int), (y : Int)] 2 2 rfl (Nat.le_refl _) hn hca hg2.out Hin.out).mono ?_
 rintro e w1 ⟨rfl, hk1⟩
 have hM1 := (hM.alloc (.cells #[.int .i64 x, .int .i64 y] 3)).keep hk1 (fun _ _ h => h)
 clear hca
 have HK1 := Lib.hid hk1
 clear hk1
 go_wp2_with fail
 refine (root_any F _ b n up size low many ou os ol cu cs cl L x hx hn hM1 hI).mono ?_
 rintro e w2 ⟨r1, k1, up1, rfl, hr1, hR1, hM2, hI2, hS2, hk2⟩
 have HK2 := Lib.hid hk2
 have HR1 := Lib.hid hR1
 clear hk2 hR1
 go_wp2_with fail
 refine (root_any F _ b n up1 size low many ou os ol cu cs cl L y hy hn hM2 hI2).mono ?_
 rintro e w3 ⟨r2, k2, up2, rfl, hr2, hR2, hM3, hI3, hS3, hk3⟩
 obtain ⟨k0, hR0⟩ := hS2 _ _ _ hx HR1.out
 have hiff : ((r1 : Int) == (r2 : Int)) = decide (L x = L y) := by
  rw [Bool.eq_iff_iff]
  simp only [beq_iff_eq, decide_eq_true_eq]
  have e1 := hI2.lab _ _ _ hx hR0
  have e2 := hI2.lab _ _ _ hy hR2
  constructor
  ·intro h
   have h' : r1 = r2 := by omega
   rw [← e1, ← e2, h']
  ·intro h
   have := hI2.sep _ _ _ _ _ _ hx hy hR0 hR2 h
   rw [this]
 have HF := Lib.hid (sets_fin HK1.out HK2.out hk3 hM3 hI3 hn)
 have HI := Lib.hid hiff
 clear hiff hR0 hk3 hR2
 go_wp2_with fail
 go_ret2
 exact ⟨by rw [HI.out]; rfl, HF.out⟩
end Go.Proofs.YtfglkgkihafcpaaGreatDoor
namespace Go.Proofs.YtfglkgkihafcpaaGreatDoor
open Go.RowKit Pl
theorem elem_int : ElemT Tryz.prog 3 (.int .i64 0) 1 8 := by unfold ElemT; kernel_rfl
theorem elem_ints : ElemT Tryz.prog 63 (.slice none 0 0) 1 24 := by unfold ElemT; kernel_rfl
theorem zero_int (w : World) : (zeroValue 3).run Tryz.prog w = .ok (.int .i64 0) w := by kernel_rfl
def AllPost (F : Nat → Prop) (w : World) (b n : Nat) (L : Nat → Nat) (e : Ending) (w' : World) : Prop :=
 ∃ (o : Option Addr) (m c : Nat) (rows : List Rw), e = .returned (.slice o m c) ∧ Mat (Iv w.heap.size w'.heap.size) w' 63 3 o m c rows (parts n L) ∧ Sets F w' b n L ∧ Keep F w w'
theorem SetsMem.tight {F : Nat → Prop} {w : World} {b n : Nat} {up size low : Nat → Nat} {many : Nat} {ou os ol : Option Addr} {cu cs cl : Nat} (h : SetsMem F w b n up size low many ou os ol cu cs cl) :
  SetsMem (fun k => F k ∧ k < w.heap.size) w b n up size low many ou os ol cu cs cl :=
 ⟨h.head, ⟨h.hb, h.head.lt⟩, h.u.tight, h.s.tight, h.l.tight, h.du, h.ds, h.dl, h.dus, h.dul, h.dsl⟩
theorem SetsMem.mono {F G : Nat → Prop} {w : World} {b n : Nat} {up size low : Nat → Nat} {many : Nat} {ou os ol : Option Addr} {cu cs cl : Nat} (h : SetsMem F w b n up size low many ou os ol cu cs cl) (hG : ∀ k, F k → G k) :
  SetsMem G w b n up size low many ou os ol cu cs cl :=
 ⟨h.head, hG _ h.hb, h.u.mono hG, h.s.mono hG, h.l.mono hG, h.du, h.ds, h.dl, h.dus, h.dul, h.dsl⟩
theorem parts_len_le (n : Nat) (L : Nat → Nat) : (parts n L).length ≤ n := by rw [parts_length]; exact cnt_le _ _
def AllRel (F : Nat → Prop) (w : World) (b n : Nat) (up size low : Nat → Nat) (many : Nat) (ou os ol : Option Addr) (cu cs cl : Nat) (L rt : Nat → Nat) (k : Nat) (o : Option Addr) (m c : Nat) (rows : List Rw) (mp : List (Nat × Value)) (up' : Nat → Nat) (wr : World) : Prop :=
 SetsMem F wr b n up' size low many ou os ol cu cs cl ∧ SetsInv n up' size low many L ∧ SameRoots n up up' ∧ Mat (fun j => w.heap.size < j) wr 63 3 o m c rows (parts k L) ∧ MapAt encN DN wr w.heap.size mp ∧
  (∀ x, x < n → mget mp (rt x) = if L x < k then some (.int .i64 (cnt (L x) (isRoot L) : Nat)) else none) ∧ Keep F w wr
theorem parts_get {k : Nat} {L : Nat → Nat} {r : Nat} (hr : r < k) (h : L r = r) : ∃ l, (parts k L)[cnt r (isRoot L)]? = some l := by
 have h1 : isRoot L r = true := by simp [isRoot, h]
 have := cnt_lt hr h1
 rw [← parts_length k] at this
 exact ⟨_, List.getElem?_eq_getElem this⟩
theorem parts_part_le {k : Nat} {L : Nat → Nat} {i : Nat} {l : List Nat} (h : (parts k L)[i]? = some l) : l.length ≤ k := by
 have := List.mem_of_getElem? h
 unfold parts at this
 obtain ⟨r, _, rfl⟩ := List.mem_map.1 this
 exact Nat.le_trans (List.length_filter_le _ _) (by simp)
theorem mat_at {F : Nat → Prop} {w : World} {T e : TypeId} {o : Option Addr} {n c : Nat} {rows : List Rw} {ll : List (List Nat)} (h : Mat F w T e o n c rows ll) {i : Nat} {l : List Nat} (hl : ll[i]? = some l) :
  ∃ go r, o = some ⟨go, 0, none⟩ ∧ rows[i]? = some r ∧ i < n ∧ n ≤ c ∧ w.cell? ⟨go, i, none⟩ = some (.slice r.o r.n r.c) ∧ w.frozen? ⟨go, i, none⟩ = false ∧ Sl F w e 1 r.o r.n r.c (ints l) ∧ r.n = l.length ∧ ¬ Bl r.o go := by
 have hi : i < ll.length := (List.getElem?_eq_some_iff.1 hl).1
 have hn := h.n_eq
 have hr : rows[i]? = some (rows[i]'(by rw [h.len]; exact hi)) := by simp
 obtain ⟨go, h1, h2, h3, h4⟩ := h.out.pos (by omega)
 refine ⟨go, _, h1, hr, by omega, h3, h4.cell (by simp [hr, Rw.val]), h4.frozen _ _, h.row _ _ _ hr hl, ?_, ?_⟩
 ·have := (h.row _ _ _ hr hl).len
  simp at this; omega
 ·rintro ⟨a, ha, hb⟩
  exact h.ne _ _ a hr ha ⟨_, h1, hb.symm⟩
theorem Pl.Canon.less {n k : Nat} {L : Nat → Nat} (C : Canon n L) (h : k ≤ n) : Canon k L := ⟨fun x hx => C.le x (by omega), fun x hx => C.idem x (by omega)⟩
theorem all_other {F : Nat → Prop} {w : World} {b n : Nat} {up size low : Nat → Nat} {many : Nat} {ou os ol : Option Addr} {cu cs cl : Nat} {L rt : Nat → Nat} {k go m c : Nat} {rows : List Rw} {mp : List (Nat × Value)} {up' : Nat → Nat} {wr : World}
  (hF : ∀ j, F j → j < w.heap.size) (h : AllRel F w b n up size low many ou os ol cu cs cl L rt k (some ⟨go, 0, none⟩) m c rows mp up' wr) (hk : k < n) (hroot : L k ≠ k) {r : Rw} (hr : rows[cnt (L k) (isRoot L)]? = some r)
  {l : List Nat} (hl : (parts k L)[cnt (L k) (isRoot L)]? = some l) {g c' : Nat} {w4 : World} (hS : Sl (fun j => w.heap.size < j ∨ j = wr.heap.size + 1) w4 3 1 (some ⟨g, 0, none⟩) (r.n + 1) c' (ints l ++ [.int .i64 k]))
  (hk4 : Keep (Bl r.o) wr w4) (hg : r.o = some ⟨g, 0, none⟩ ∨ g = wr.heap.size + 1) :
  AllRel F w b n up size low many ou os ol cu cs cl L rt (k + 1) (some ⟨go, 0, none⟩) m c (rows.set (cnt (L k) (isRoot L)) ⟨some ⟨g, 0, none⟩, r.n + 1, c'⟩) mp up'
   (w4.setCell ⟨go, cnt (L k) (isRoot L), none⟩ (.slice (some ⟨g, 0, none⟩) (r.n + 1) c')) := by
 obtain ⟨hM, hI, hSR, hMat, hMap, hget, hK⟩ := h
 have hsz : w.heap.size < wr.heap.size := hMap.lt
 have hgo : w.heap.size < go := hMat.out.foot _ rfl
 have hbl : ∀ j, Bl r.o j → w.heap.size < j := by
  rintro j ⟨a, ha, rfl⟩
  have := (hMat.row _ _ _ hr hl).foot a ha
  exact this
 have hM4 : SetsMem F w4 b n up' size low many ou os ol cu cs cl := hM.keep hk4 (fun j hj hb => by have := hF j hj; have := hbl j hb; omega)
 have hM5 : SetsMem F (w4.setCell ⟨go, cnt (L k) (isRoot L), none⟩ (.slice (some ⟨g, 0, none⟩) (r.n + 1) c')) b n up' size low many ou os ol cu cs cl :=
  hM4.of_heap (fun j _ hj => Below.heap_setCell w4 _ _ j (fun e => by have := hF j hj; simp at e; omega))
 refine ⟨hM5, hI, hSR, ?_, ?_, ?_, ?_⟩
 ·rw [parts_succ_other (hI.canon.less (by omega)) hroot]
  have e : (parts k L).modify (cnt (L k) (isRoot L)) (fun p => p ++ [k]) = (parts k L).set (cnt (L k) (isRoot L)) (l ++ [k]) := by
   rw [List.modify_eq_set]; rw [hl]; rfl
  rw [e]
  exact hMat.setRow hr hl (hS.mono (fun j hj => by rcases hj with h | h <;> omega)) hk4 hg
 ·refine (hMap.keep hk4 (fun hb => by have := hbl _ hb; omega)).setCell _ ?_ _
  show go ≠ w.heap.size
  omega
 ·intro x hx
  rw [hget x hx]
  by_cases h1 : L x < k
  ·rw [if_pos h1, if_pos (by omega)]
  ·have : L x ≠ k := fun e => hroot (by rw [← e]; exact hI.canon.idem x hx)
   rw [if_neg h1, if_neg (by omega)]
 ·refine (hK.trans' hk4 (H := fun j => F j) (fun _ _ h => h) (fun j hj hb => ?_)).setCell (.inr (by show w.heap.size ≤ go; omega)) _
  have := hbl j hb; omega
theorem mat_row_bl {F : Nat → Prop} {w : World} {T e : TypeId} {o : Option Addr} {n c : Nat} {rows : List Rw} {ll : List (List Nat)} (h : Mat F w T e o n c rows ll) : ∀ j, Bl o j → F j := by
 rintro j ⟨a, ha, rfl⟩
 exact h.out.foot a ha
theorem all_root {F : Nat → Prop} {w : World} {b n : Nat} {up size low : Nat → Nat} {many : Nat} {ou os ol : Option Addr} {cu cs cl : Nat} {L rt : Nat → Nat} {k m c : Nat} {o : Option Addr} {rows : List Rw} {mp : List (Nat × Value)} {up' : Nat → Nat} {wr w2 w3 w4 : World}
  (hF : ∀ j, F j → j < w.heap.size) (h : AllRel F w b n up size low many ou os ol cu cs cl L rt k o m c rows mp up' wr) (hk : k < n) (hroot : L k = k)
  (hrt : ∀ x y, x < n → y < n → (rt x = rt y ↔ L x = L y))
  (hm2 : MapAt encN DN w2 w.heap.size (mset mp (rt k) (.int .i64 m))) (hk2 : Keep (fun i => i = w.heap.size) wr w2)
  {go c1 : Nat} (hS3 : Sl (fun j => w.heap.size < j ∨ j = w2.heap.size + 1) w3 63 1 (some ⟨go, 0, none⟩) (m + 1) c1 (rows.map Rw.val ++ [.slice none 0 0])) (hk3 : Keep (Bl o) w2 w3) (hg3 : o = some ⟨go, 0, none⟩ ∨ go = w2.heap.size + 1)
  {g c' : Nat} (hS4 : Sl (fun j => w.heap.size < j ∨ j = w3.heap.size + 1) w4 3 1 (some ⟨g, 0, none⟩) 1 c' [.int .i64 k]) (hk4 : Keep Nb w3 w4) (hg4 : g = w3.heap.size + 1) :
  AllRel F w b n up size low many ou os ol cu cs cl L rt (k + 1) (some ⟨go, 0, none⟩) (m + 1) c1 ((rows ++ [(⟨none, 0, 0⟩ : Rw)]).set m ⟨some ⟨g, 0, none⟩, 1, c'⟩) (mset mp (rt k) (.int .i64 m)) up'
   (w4.setCell ⟨go, m, none⟩ (.slice (some ⟨g, 0, none⟩) 1 c')) := by
 obtain ⟨hM, hI, hSR, hMat, hMap, hget, hK⟩ := h
 have hsz : w.heap.size < wr.heap.size := hMap.lt
 have hsz2 : w.heap.size < w2.heap.size := hm2.lt
 have hn : m = (parts k L).length := hMat.n_eq
 have hbl : ∀ j, Bl o j → w.heap.size < j := mat_row_bl hMat
 have hsz3 := hk3.size
 have hMat2 : Mat (fun j => w.heap.size < j) w2 63 3 o m c rows (parts k L) := hMat.keep hk2 (fun j hj e => by omega)
 have hMat3 := Mat.push hMat2 (hS3.mono (G := fun j => w.heap.size < j) (fun j hj => by rcases hj with h | h <;> omega)) hk3 hg3
 have hMat4 := Mat.setRow (x := k) (l := []) (r := ⟨none, 0, 0⟩) (i := m) hMat3 (by rw [hn, ← hMat.len]; simp) (by rw [hn]; simp) (hS4.mono (G := fun j => w.heap.size < j) (fun j hj => by rcases hj with h | h <;> omega)) (hk4.of_nb) (.inr hg4)
 have hgo : w.heap.size < go := hMat3.out.foot _ rfl
 have hM2 : SetsMem F w2 b n up' size low many ou os ol cu cs cl := hM.keep hk2 (fun j hj e => by have := hF j hj; omega)
 have hM3 : SetsMem F w3 b n up' size low many ou os ol cu cs cl := hM2.keep hk3 (fun j hj e => by have := hF j hj; have := hbl j e; omega)
 have hM4 : SetsMem F w4 b n up' size low many ou os ol cu cs cl := hM3.keep hk4 (fun _ _ e => e)
 have hM5 : SetsMem F (w4.setCell ⟨go, m, none⟩ (.slice (some ⟨g, 0, none⟩) 1 c')) b n up' size low many ou os ol cu cs cl :=
  hM4.of_heap (fun j _ hj => Below.heap_setCell w4 _ _ j (fun e => by have := hF j hj; simp at e; omega))
 refine ⟨hM5, hI, hSR, ?_, ?_, ?_, ?_⟩
 ·rw [parts_succ_root (hI.canon.less (by omega)) hroot]
  have e : (parts k L ++ [[]]).set m ([] ++ [k]) = parts k L ++ [[k]] := by rw [hn]; simp
  rw [← e]
  exact hMat4
 ·refine ((hm2.keep hk3 (fun hb => by have := hbl _ hb; omega)).keep hk4 (fun e => e)).setCell _ ?_ _
  show go ≠ w.heap.size
  omega
 ·intro x hx
  rw [mget_mset]
  by_cases h1 : rt x = rt k
  ·have h2 : L x = k := by rw [(hrt x k hx hk).1 h1, hroot]
   rw [if_pos h1, if_pos (by omega), h2, hn, parts_length]
  ·have h2 : L x ≠ k := fun e => h1 ((hrt x k hx hk).2 (by rw [e, hroot]))
   rw [if_neg h1, hget x hx]
   by_cases h3 : L x < k
   ·rw [if_pos h3, if_pos (by omega)]
   ·rw [if_neg h3, if_neg (by omega)]
 ·have k2 : Keep F w w2 := hK.trans' hk2 (fun _ _ h => h) (fun j hj e => by omega)
  have k3 : Keep F w w3 := k2.trans' hk3 (fun _ _ h => h) (fun j hj e => by have := hbl j e; omega)
  exact (k3.trans hk4.of_nb).setCell (.inr (by show w.heap.size ≤ go; omega)) _
theorem roots_exist {n : Nat} {up size low : Nat → Nat} {many : Nat} {L : Nat → Nat} (I : SetsInv n up size low many L) :
  ∃ rt : Nat → Nat, (∀ x, x < n → rt x < n ∧ ∃ k, Root up x (rt x) k) ∧ ∀ x y, x < n → y < n → (rt x = rt y ↔ L x = L y) := by
 have h : ∀ x, ∃ r, x < n → r < n ∧ ∃ k, Root up x r k := fun x => by
  by_cases hx : x < n
  ·obtain ⟨r, k, h1, h2⟩ := I.forest.root hx
   exact ⟨r, fun _ => ⟨h1, k, h2⟩⟩
  ·exact ⟨0, fun h => absurd h hx⟩
 refine ⟨fun x => Classical.choose (h x), fun x hx => Classical.choose_spec (h x) hx, fun x y hx hy => ?_⟩
 obtain ⟨_, k1, h1⟩ := Classical.choose_spec (h x) hx
 obtain ⟨_, k2, h2⟩ := Classical.choose_spec (h y) hy
 constructor
 ·intro e
  rw [← I.lab _ _ _ hx h1, ← I.lab _ _ _ hy h2]
  show low (Classical.choose (h x)) = low (Classical.choose (h y))
  have e' : Classical.choose (h x) = Classical.choose (h y) := e
  rw [e']
 ·exact fun e => I.sep _ _ _ _ _ _ hx hy h1 h2 e
theorem all_called {F : Nat → Prop} {w : World} {b n : Nat} {up size low : Nat → Nat} {many : Nat} {ou os ol : Option Addr} {cu cs cl : Nat} {L rt : Nat → Nat} {k m c : Nat} {o : Option Addr} {rows : List Rw} {mp : List (Nat × Value)} {up' up1 : Nat → Nat} {wr w1 : World} {x r j : Nat}
  (hF : ∀ j, F j → j < w.heap.size) (hrt : ∀ x, x < n → rt x < n ∧ ∃ k, Root up x (rt x) k) (h : AllRel F w b n up size low many ou os ol cu cs cl L rt k o m c rows mp up' wr) (hx : x < n)
  (hR : Root up' x r j) (hM : SetsMem F w1 b n up1 size low many ou os ol cu cs cl) (hI1 : SetsInv n up1 size low many L) (hS : SameRoots n up' up1) (hk : Keep F wr w1) :
  r = rt x ∧ AllRel F w b n up size low many ou os ol cu cs cl L rt k o m c rows mp up1 w1 := by
 obtain ⟨_, hI, hSR, hMat, hMap, hget, hK⟩ := h
 obtain ⟨_, k0, h0⟩ := hrt x hx
 obtain ⟨k1, h1⟩ := hSR _ _ _ hx h0
 refine ⟨(h1.unique hR).1, hM, hI1, hSR.trans hS, hMat.keep hk (fun j hj e => by have := hF j e; omega), hMap.keep hk (fun e => by have := hF _ e; omega), hget, hK.trans hk⟩
theorem all_fin {F F' : Nat → Prop} {w : World} {b n : Nat} {up size low : Nat → Nat} {many : Nat} {ou os ol : Option Addr} {cu cs cl : Nat} {L rt : Nat → Nat} {k m c : Nat} {o : Option Addr} {rows : List Rw} {mp : List (Nat × Value)} {up' : Nat → Nat} {wr : World}
  (hF2 : ∀ j, F' j → F j) (hn : n ≤ 40) (h : AllRel F' w b n up size low many ou os ol cu cs cl L rt k o m c rows mp up' wr) (hk : k = n) : AllPost F w b n L (.returned (.slice o m c)) wr := by
 subst hk
 obtain ⟨hM, hI, hSR, hMat, hMap, hget, hK⟩ := h
 exact ⟨o, m, c, rows, rfl, hMat.tight.mono (fun j hj => ⟨by omega, hj.2⟩), ⟨_, _, _, _, _, _, _, _, _, _, hM.mono hF2, hI, hn⟩, hK.mono (fun j _ hj => hF2 j hj)⟩
theorem nat40 {x : Nat} (h : x < 40) : DN x := by unfold DN; omega
set_option maxHeartbeats 1000000 in
set_option maxRecDepth 20000 in
theorem all_any (F : Nat → Prop) (w : World) (b n : Nat) (L : Nat → Nat) (hS : Sets F w b n L) :
  Calls Tryz.prog 181 #[.pointer (some ⟨b, 0, none⟩)] w (AllPost F w b n L) := by
 obtain ⟨up, size, low, many, ou, os, ol, cu, cs, cl, hM0, hI, hn⟩ := hS
 have hM := hM0.tight
 obtain ⟨F', hF'⟩ : ∃ F' : Nat → Prop, F' = fun k => F k ∧ k < w.heap.size := ⟨_, rfl⟩
 rw [← hF'] at hM
 have hFF : ∀ j, F' j → j < w.heap.size := fun j hj => by rw [hF'] at hj; exact hj.2
 have hFF2 : ∀ j, F' j → F j := fun j hj => by rw [hF'] at hj; exact hj.1
 clear hF'
 obtain ⟨rt, hrt1, hrt2⟩ := roots_exist hI
 have hc0 := hM.head.cell (i := 0) rfl
 have hb := hM.head.lt
 have hc0' : (w.alloc (.map #[] 0)).cell? ⟨b, 0, none⟩ = some (.slice ou n cu) := by rw [World.cell?_alloc_past _ _ _ hb]; exact hc0
 have hmm := @run_makeMap Tryz.prog
 have H0 : AllRel F' w b n up size low many ou os ol cu cs cl L rt 0 none 0 0 [] [] up (w.alloc (.map #[] 0)) :=
  ⟨hM.alloc _, hI, SameRoots.refl n up, Mat.nil _ _ _ _, MapAt.made encN DN w, fun x _ => by simp [mget_nil], (Keep.refl F' w).alloc _⟩
 have HH := Lib.hid H0
 have HR1 := Lib.hid hrt1
 have HR2 := Lib.hid hrt2
 have HF1 := Lib.hid hFF
 have HF2 := Lib.hid hFF2
 clear H0 hrt1 hrt2 hFF hFF2 hc0
 go_enter Tryz.func181, Tryz.ntmps181
 go_wp2_with fail
 go_loopw [4, 15] (fun out i wr => ∃ (k : Nat) (o : Option Addr) (m c : Nat) (rows : List Rw) (mp : List (Nat × Value)) (up' : Nat → Nat), k ≤ n ∧ i = .int .i64 k ∧ out = .slice o m c ∧ AllRel F' w b n up size low many ou os ol cu cs cl L rt k o m c rows mp up' wr)
  (fun _ i _ => n - (intOf i).toNat)
 case atStart => exact ⟨0, none, 0, 0, [], [], up, Nat.zero_le _, rfl, rfl, HH.out⟩
 case round =>
  obtain ⟨k, o, m, c, rows, mp, up', hk, rfl, rfl, hrel⟩ := hrel
  have HREL := Lib.hid hrel
  clear hrel hc0' hmm
  by_cases hlt : k < n
  ·have hMr := HREL.out.1
   have hIr := HREL.out.2.1
   have hdn := Lib.hid (nat40 (show rt k < 40 from Nat.lt_of_lt_of_le (HR1.out k hlt).1 hn))
   have hcr := hMr.head.cell (i := 0) rfl
   go_wp2_with fail
   refine (root_any F' wr b n up' size low many ou os ol cu cs cl L k hlt hn hMr hIr).mono ?_
   rintro e w1 ⟨r, j, up1, rfl, hr, hR, hM1, hI1, hS1, hk1⟩
   obtain ⟨er, hrel1⟩ := all_called HF1.out HR1.out HREL.out hlt hR hM1 hI1 hS1 hk1
   subst er
   clear hR hMr hIr hM1 hI1 hS1 hk1 hcr HREL
   have hMat1 := hrel1.2.2.2.1
   have hMap1 := hrel1.2.2.2.2.1
   have hget1 := hrel1.2.2.2.2.2.1 k hlt
   have HREL := Lib.hid hrel1
   have hlook := hMap1.look (encN_enc Tryz.underlying3) Tryz.underlying230 (zero_int w1) hdn.out true
   rw [hget1] at hlook
   clear hget1 hrel1
   by_cases hroot : L k = k
   ·rw [if_neg (show ¬ L k < k by omega)] at hlook
    simp only [if_true, Option.getD_none, Option.isSome_none, encN] at hlook
    obtain ⟨w2, hrun2, hm2, hk2⟩ := hMap1.store (encN_enc Tryz.underlying3) Tryz.underlying230 hdn.out (.int .i64 m)
    have hsz1 := hMap1.lt
    have hMat2 : Mat (fun j => w.heap.size < j) w2 63 3 o m c rows (parts k L) := hMat1.keep hk2 (fun j hj e => by omega)
    have hmk := hMat1.n_eq
    have hmk2 := parts_len_le k L
    obtain ⟨go, c1, w3, happ3, hS3, hk3, hg3⟩ := run_app1 (P := Tryz.prog) 134 134 63 Tryz.underlying134 elem_ints rfl hMat2.out (.slice none 0 0) rfl (by omega) (by omega)
    obtain ⟨go', e3, hFg, hmc, hrow3⟩ := hS3.pos (by omega)
    obtain rfl : go = go' := by simpa using e3
    have hcell : w3.cell? ⟨go, m, none⟩ = some (.slice none 0 0) := hrow3.cell (by
     have : m = (rows.map Rw.val).length := by rw [List.length_map, hMat1.len]; exact hmk
     rw [this]; simp)
    have hfr := hrow3.frozen m none
    obtain ⟨g, c', w4, happ4, hS4, hk4, hg4⟩ := run_app_nil1 (P := Tryz.prog) (w := w3) (fun j => w.heap.size < j) 63 63 3 Tryz.underlying63 elem_int rfl (.int .i64 k) rfl (by omega)
    have hcell4 := hk4.cell hcell (fun e => e)
    have hfr4 := (hk4.frozen (p := ⟨go, m, none⟩) hrow3.lt (fun e => e)).trans hfr
    have hnext := Lib.hid (all_root HF1.out HREL.out hlt hroot HR2.out hm2 hk2 hS3 hk3 hg3 hS4 hk4 hg4)
    have hm40 : m < 1000 := by omega
    have H2 := Lib.hid hrun2
    have H3 := Lib.hid happ3
    have H4 := Lib.hid happ4
    clear hrun2 happ3 happ4 hMat1 hMap1 hroot hS4 hk4 hg4 hS3 hk3 hg3 hm2 hk2 hMat2 hmk hmk2 e3 hrow3 hsz1
    go_wp2_with (first | (at_mapUpdate; refine wpList_mapset rfl _ _ _ _ rfl rfl rfl rfl H2.out ?_) | (at_builtin; refine wpList_app rfl _ _ _ rfl rfl rfl H3.out ?_) | (at_builtin; refine wpList_app rfl _ _ _ rfl rfl rfl H4.out ?_))
    go_roundw
    case rel =>
     exact ⟨k + 1, _, _, _, _, _, up1, by omega, by go_num, rfl, hnext.out⟩
    case measure => simp [intOf]; omega
   ·have hle : L k < k := by have := HREL.out.2.1.canon.le k hlt; omega
    rw [if_pos hle] at hlook
    simp only [if_true, Option.getD_some, Option.isSome_some, encN] at hlook
    obtain ⟨l, hl⟩ := parts_get hle (HREL.out.2.1.canon.idem k hlt)
    obtain ⟨go, r0, rfl, hrow, him, hmc, hcell, hfr, hSl, hrn, hnb⟩ := mat_at hMat1 hl
    have hll := parts_part_le hl
    obtain ⟨g, c', w4, happ, hS4, hk4, hg4⟩ := run_app1 (P := Tryz.prog) 63 63 3 Tryz.underlying63 elem_int rfl hSl (.int .i64 k) rfl (by omega) (by omega)
    have hcell4 := hk4.cell hcell hnb
    have hfr4 := (hk4.frozen (p := ⟨go, cnt (L k) (isRoot L), none⟩) (World.block_lt_of_cell? w1 _ hcell) hnb).trans hfr
    have hnext := Lib.hid (all_other HF1.out HREL.out hlt hroot hrow hl hS4 hk4 hg4)
    have hg5 := Lib.hid hg4
    clear hMat1 hMap1 hle hroot hl hrow hS4 hk4 hnb hSl hg4 hrn
    generalize cnt (L k) (isRoot L) = idx at *
    have Happ := Lib.hid happ
    clear happ
    go_wp2_with (at_builtin; refine wpList_app rfl _ _ _ rfl rfl rfl Happ.out ?_)
    go_roundw
    case rel =>
     exact ⟨k + 1, _, m, c, _, mp, up1, by omega, by go_num, rfl, hnext.out⟩
    case measure => simp [intOf]; omega
  ·have hfin := Lib.hid (all_fin HF2.out hn HREL.out (show k = n by omega))
   have hcr := HREL.out.1.head.cell (i := 0) rfl
   go_wp2_with fail
   go_ret
   exact hfin.out
end Go.Proofs.YtfglkgkihafcpaaGreatDoor

