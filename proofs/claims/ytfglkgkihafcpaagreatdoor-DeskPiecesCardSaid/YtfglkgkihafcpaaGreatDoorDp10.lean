/- Part 10 of the proof: A7. -/
import Derived.Test.YtfglkgkihafcpaaGreatDoorDp01
import Derived.Test.YtfglkgkihafcpaaGreatDoorDp04
import Derived.Test.YtfglkgkihafcpaaGreatDoorDp07
import Derived.Test.YtfglkgkihafcpaaGreatDoorDp08
import Derived.Test.YtfglkgkihafcpaaGreatDoorDp09
import Derived.Deep.RegionHeld3
import Derived.Deep.DeepCutAuto
set_option linter.unusedVariables false
set_option linter.unusedSimpArgs false
namespace Go.Proofs.YtfglkgkihafcpaaGreatDoor
open Go.RowKit Pl Go.Maps
def stepV (s : Nat × Nat) : Value := .agg #[.int .i64 s.1, .int .i64 s.2]
structure BrMem (F : Nat → Prop) (w : World) (b n ws ts um im : Nat) (Fw Ft : Nat → Prop) (Lw T : Nat → Nat) (mU mI : List (Nat × Value)) : Prop where
 head : Row w b 151 [.pointer (some ⟨ws, 0, none⟩), .pointer (some ⟨ts, 0, none⟩), .map (some um), .map (some im)]
 sw : Sets Fw w ws n Lw
 st : Sets Ft w ts n T
 mu : MapAt encN DN w um mU
 mi : MapAt encN DN w im mI
 nb : ¬ Fw b ∧ ¬ Ft b ∧ b ≠ um ∧ b ≠ im
 nu : ¬ Fw um ∧ ¬ Ft um ∧ um ≠ im
 ni : ¬ Fw im ∧ ¬ Ft im
 nf : ∀ k, Fw k → ¬ Ft k
 sub : ∀ k, k = b ∨ k = um ∨ k = im ∨ Fw k ∨ Ft k → F k
theorem Sets.keepG {F G : Nat → Prop} {w w' : World} {b n : Nat} {L : Nat → Nat} (h : Sets F w b n L) (k : Keep G w w') (d : ∀ k, F k → ¬ G k) : Sets F w' b n L := by
 obtain ⟨up, size, low, many, ou, os, ol, cu, cs, cl, hM, hI, hn⟩ := h
 exact ⟨up, size, low, many, ou, os, ol, cu, cs, cl, hM.keep k d, hI, hn⟩
namespace BrMem
variable {F : Nat → Prop} {w : World} {b n ws ts um im : Nat} {Fw Ft : Nat → Prop} {Lw T : Nat → Nat} {mU mI : List (Nat × Value)}
theorem keep {G : Nat → Prop} {w' : World} (h : BrMem F w b n ws ts um im Fw Ft Lw T mU mI) (k : Keep G w w') (d : ∀ k, F k → ¬ G k) : BrMem F w' b n ws ts um im Fw Ft Lw T mU mI :=
 ⟨h.head.keep k (d b (h.sub b (.inl rfl))), h.sw.keepG k (fun j hj => d j (h.sub j (.inr (.inr (.inr (.inl hj)))))), h.st.keepG k (fun j hj => d j (h.sub j (.inr (.inr (.inr (.inr hj)))))),
  h.mu.keep k (d um (h.sub um (.inr (.inl rfl)))), h.mi.keep k (d im (h.sub im (.inr (.inr (.inl rfl))))), h.nb, h.nu, h.ni, h.nf, h.sub⟩
theorem alloc (h : BrMem F w b n ws ts um im Fw Ft Lw T mU mI) (o : Obj) : BrMem F (w.alloc o) b n ws ts um im Fw Ft Lw T mU mI := h.keep ((Keep.refl Nb w).alloc o) (fun _ _ e => e)
theorem drew (h : BrMem F w b n ws ts um im Fw Ft Lw T mU mI) : BrMem F w.drew b n ws ts um im Fw Ft Lw T mU mI := h.keep ((Keep.refl Nb w).drew) (fun _ _ e => e)
theorem mono {G : Nat → Prop} (h : BrMem F w b n ws ts um im Fw Ft Lw T mU mI) (hG : ∀ k, F k → G k) : BrMem G w b n ws ts um im Fw Ft Lw T mU mI :=
 ⟨h.head, h.sw, h.st, h.mu, h.mi, h.nb, h.nu, h.ni, h.nf, fun k hk => hG k (h.sub k hk)⟩
theorem setT {w' : World} {T' : Nat → Nat} (h : BrMem F w b n ws ts um im Fw Ft Lw T mU mI) (hS : Sets Ft w' ts n T') (k : Keep Ft w w') : BrMem F w' b n ws ts um im Fw Ft Lw T' mU mI :=
 ⟨h.head.keep k h.nb.2.1, h.sw.keepG k h.nf, hS, h.mu.keep k h.nu.2.1, h.mi.keep k h.ni.2, h.nb, h.nu, h.ni, h.nf, h.sub⟩
theorem setW {w' : World} {L' : Nat → Nat} (h : BrMem F w b n ws ts um im Fw Ft Lw T mU mI) (hS : Sets Fw w' ws n L') (k : Keep Fw w w') : BrMem F w' b n ws ts um im Fw Ft L' T mU mI :=
 ⟨h.head.keep k h.nb.1, hS, h.st.keepG k (fun j a b => h.nf j b a), h.mu.keep k h.nu.1, h.mi.keep k h.ni.1, h.nb, h.nu, h.ni, h.nf, h.sub⟩
theorem setU {w' : World} {mU' : List (Nat × Value)} (h : BrMem F w b n ws ts um im Fw Ft Lw T mU mI) (hm : MapAt encN DN w' um mU') (k : Keep (fun j => j = um) w w') : BrMem F w' b n ws ts um im Fw Ft Lw T mU' mI :=
 ⟨h.head.keep k h.nb.2.2.1, h.sw.keepG k (fun j a e => h.nu.1 (e ▸ a)), h.st.keepG k (fun j a e => h.nu.2.1 (e ▸ a)), hm, h.mi.keep k (fun e => h.nu.2.2 e.symm), h.nb, h.nu, h.ni, h.nf, h.sub⟩
theorem setI {w' : World} {mI' : List (Nat × Value)} (h : BrMem F w b n ws ts um im Fw Ft Lw T mU mI) (hm : MapAt encN DN w' im mI') (k : Keep (fun j => j = im) w w') : BrMem F w' b n ws ts um im Fw Ft Lw T mU mI' :=
 ⟨h.head.keep k h.nb.2.2.2, h.sw.keepG k (fun j a e => h.ni.1 (e ▸ a)), h.st.keepG k (fun j a e => h.ni.2 (e ▸ a)), h.mu.keep k h.nu.2.2, hm, h.nb, h.nu, h.ni, h.nf, h.sub⟩
theorem n40 (h : BrMem F w b n ws ts um im Fw Ft Lw T mU mI) : n ≤ 40 := by
 obtain ⟨_, _, _, _, _, _, _, _, _, _, _, _, hn⟩ := h.st; exact hn
end BrMem
def PartPost (F : Nat → Prop) (w : World) (b n ws ts um im : Nat) (Fw Ft : Nat → Prop) (Lw T : Nat → Nat) (mU mI : List (Nat × Value)) (x : Nat) (e : Ending) (w' : World) : Prop :=
 e = .returned (.int .i64 (T x : Nat)) ∧ BrMem F w' b n ws ts um im Fw Ft Lw T mU mI ∧ Keep Ft w w'
set_option maxRecDepth 100000 in
theorem part_any (F : Nat → Prop) (w : World) (b n ws ts um im : Nat) (Fw Ft : Nat → Prop) (Lw T : Nat → Nat) (mU mI : List (Nat × Value)) (x : Nat) (hx : x < n) (h : BrMem F w b n ws ts um im Fw Ft Lw T mU mI) :
  Calls Tryz.prog 110 #[.pointer (some ⟨b, 0, none⟩), .int .i64 x] w (PartPost F w b n ws ts um im Fw Ft Lw T mU mI x) := by
 have c1 := h.head.cell (i := 1) rfl
 have H := Lib.hid h
 clear h
 go_enter Tryz.func110, Tryz.ntmps110
 go_wp2_with fail
 refine (least_any Ft _ ts n T x hx H.out.st).mono ?_
 rintro e w1 ⟨rfl, hs, hk⟩
 have HP : Hid (PartPost F w b n ws ts um im Fw Ft Lw T mU mI x (.returned (.int .i64 (T x : Nat))) w1) := Lib.hid ⟨rfl, H.out.setT hs hk, hk⟩
 clear hs hk
 go_wp2_with fail
 go_ret
 exact HP.out
theorem zero_step (w : World) : (zeroValue 155).run Tryz.prog w = .ok (stepV (0, 0)) w := by kernel_rfl
def UpIs (mU : List (Nat × Value)) (up : Nat → Option (Nat × Nat)) : Prop := ∀ p, mget mU p = (up p).map stepV
theorem UpIs.set {mU : List (Nat × Value)} {up : Nat → Option (Nat × Nat)} (h : UpIs mU up) (p : Nat) (s : Nat × Nat) : UpIs (mset mU p (stepV s)) (upd up p (some s)) := fun q => by
 rw [mget_mset]
 by_cases e : q = p
 ·subst e; rw [if_pos rfl, upd_same]; rfl
 ·rw [if_neg e, upd_ne _ _ _ _ e]; exact h q
theorem UpIs.del {mU : List (Nat × Value)} {up : Nat → Option (Nat × Nat)} (h : UpIs mU up) (p : Nat) : UpIs (mdel mU p) (upd up p none) := fun q => by
 rw [mget_mdel]
 by_cases e : q = p
 ·subst e; rw [if_pos rfl, upd_same]; rfl
 ·rw [if_neg e, upd_ne _ _ _ _ e]; exact h q
def stepD (o : Option (Nat × Nat)) : Nat × Nat := o.getD (0, 0)
theorem BrMem.look {F : Nat → Prop} {w : World} {b n ws ts um im : Nat} {Fw Ft : Nat → Prop} {Lw T : Nat → Nat} {mU mI : List (Nat × Value)} {up : Nat → Option (Nat × Nat)} (h : BrMem F w b n ws ts um im Fw Ft Lw T mU mI) (hU : UpIs mU up) {p : Nat} (hp : p < 40) :
  (Instr.lookup 148 (.map (some um)) (.int .i64 p) true).run Tryz.prog w = .ok (.tuple #[.agg #[.int .i64 ((stepD (up p)).1 : Nat), .int .i64 ((stepD (up p)).2 : Nat)], .bool (up p).isSome]) w := by
 have hl := h.mu.look (encN_enc Tryz.underlying3) Tryz.underlying148 (zero_step w) (nat40 hp) true
 rw [hU p] at hl
 cases hup : up p with
 | none => rw [hup] at hl; exact hl
 | some s => rw [hup] at hl; exact hl
end Go.Proofs.YtfglkgkihafcpaaGreatDoor
namespace Go.Proofs.YtfglkgkihafcpaaGreatDoor
open Go.RowKit Pl Go.Maps
def AbRel (F : Nat → Prop) (w : World) (b n ws ts um im : Nat) (Fw Ft : Nat → Prop) (Lw T : Nat → Nat) (mU mI : List (Nat × Value)) (l : List Nat) (i : Nat) (o : Option Addr) (c : Nat) (wr : World) : Prop :=
 BrMem F wr b n ws ts um im Fw Ft Lw T mU mI ∧ Keep Ft w wr ∧ Sl (fun k => w.heap.size ≤ k) wr 3 1 o (i + 1) c (ints (l.take (i + 1)))
def AbPost (F : Nat → Prop) (w : World) (b n ws ts um im : Nat) (Fw Ft : Nat → Prop) (Lw T : Nat → Nat) (mU mI : List (Nat × Value)) (l : List Nat) (e : Ending) (w' : World) : Prop :=
 ∃ o c, e = .returned (.slice o l.length c) ∧ BrMem F w' b n ws ts um im Fw Ft Lw T mU mI ∧ Keep Ft w w' ∧ Sl (fun k => w.heap.size ≤ k) w' 3 1 o l.length c (ints l)
set_option maxRecDepth 100000 in
set_option maxHeartbeats 1000000 in
theorem above_any (F : Nat → Prop) (w : World) (b n ws ts um im : Nat) (Fw Ft : Nat → Prop) (Lw T : Nat → Nat) (mU mI : List (Nat × Value)) (up : Nat → Option (Nat × Nat)) (x : Nat) (l : List Nat) (hx : x < n)
  (h : BrMem F w b n ws ts um im Fw Ft Lw T mU mI) (hF : ∀ k, F k → k < w.heap.size) (hU : UpIs mU up) (hlt : ∀ p s, up p = some s → s.2 < n) (hl : Path T up (T x) l) (hln : l.length ≤ n) (hT : ∀ p, p ∈ l → p < n) :
  Calls Tryz.prog 112 #[.pointer (some ⟨b, 0, none⟩), .int .i64 x] w (AbPost F w b n ws ts um im Fw Ft Lw T mU mI l) := by
 have hn := h.n40
 have H := Lib.hid h
 have HF := Lib.hid hF
 have HU := Lib.hid hU
 have HLT := Lib.hid hlt
 have HL := Lib.hid hl
 have HT := Lib.hid hT
 clear h hF hU hlt hl hT
 go_enter Tryz.func112, Tryz.ntmps112
 go_wp2_with fail
 refine (part_any F _ b n ws ts um im Fw Ft Lw T mU mI x hx H.out).mono ?_
 rintro e w1 ⟨rfl, h1, k1⟩
 obtain ⟨l', hl'⟩ := HL.out.head
 have hpos : 0 < l.length := by rw [hl']; simp
 have HS : Hid (AbRel F w b n ws ts um im Fw Ft Lw T mU mI l 0 (some ⟨w1.heap.size, 0, none⟩) 1 (w1.alloc (.cells #[.int .i64 (T x : Nat)] 3))) := Lib.hid (by
  refine ⟨h1.alloc _, k1.alloc _, ?_⟩
  have e : ints (l.take (0 + 1)) = [Value.int .i64 (T x : Nat)] := by rw [hl']; rfl
  rw [e]
  have z := k1.size
  exact (Sl.built w1 3 1 1 [.int .i64 (T x : Nat)] rfl (by simp only [maxLen]; omega)).mono (fun k hk => by omega))
 have hp0 : l[0]? = some (T x) := by rw [hl']; rfl
 have HP0 := Lib.hid hp0
 clear h1 k1 hp0 hl'
 go_wp2_with fail
 go_loopg [5, 6] l.length (fun kx s5 s6 wr => ∃ (i p : Nat) (o : Option Addr) (c : Nat), s5 = .int .i64 p ∧ s6 = .slice o (i + 1) c ∧ i < l.length ∧ l.length - i ≤ kx ∧ Hid (l[i]? = some p) ∧ Hid (AbRel F w b n ws ts um im Fw Ft Lw T mU mI l i o c wr))
 case atStart => exact ⟨0, T x, _, 1, rfl, rfl, hpos, by omega, HP0, HS⟩
 case round =>
  clear HS HP0
  obtain ⟨i, p, o, c, rfl, rfl, hi, hg, HP, HR⟩ := hrel
  have hp40 : p < 40 := by have := HT.out p (List.mem_of_getElem? HP.out); omega
  have hlook := HR.out.1.look HU.out hp40
  have c2 := HR.out.1.head.cell (i := 2) rfl
  have hat := HL.out.at_ HP.out
  cases hup : up p with
  | none =>
   rw [hup] at hlook
   simp only [stepD, Option.getD_none, Option.isSome_none] at hlook
   have hend : i + 1 = l.length := by
    rcases hat with ⟨h1, _⟩ | ⟨s, h1, _⟩
    ·exact h1
    ·rw [hup] at h1; cases h1
   have HP2 : Hid (AbPost F w b n ws ts um im Fw Ft Lw T mU mI l (.returned (.slice o (i + 1) c)) (wr.alloc (.cells #[.int .i64 ((0 : Nat) : Int), .int .i64 ((0 : Nat) : Int)] 155))) := Lib.hid (by
    obtain ⟨r1, r2, r3⟩ := HR.out
    rw [List.take_of_length_le (by omega)] at r3
    rw [hend] at r3 ⊢
    exact ⟨o, c, rfl, r1.alloc _, r2.alloc _, r3.alloc _⟩)
   clear hat hup hend HR
   go_wp2_with fail
   go_ret
   exact HP2.out
  | some s =>
   rw [hup] at hlook
   simp only [stepD, Option.getD_some, Option.isSome_some] at hlook
   have hnext : l[i + 1]? = some (T s.2) := by
    rcases hat with ⟨_, h1⟩ | ⟨s', h1, h2⟩
    ·rw [hup] at h1; cases h1
    ·rw [hup] at h1; cases h1; exact h2
   have hs2 := HLT.out p s hup
   have HN := Lib.hid hnext
   have HA := Lib.hid (HR.out.1.alloc (.cells #[.int .i64 (s.1 : Nat), .int .i64 (s.2 : Nat)] 155))
   clear hat hup hnext
   go_wp2_with fail
   refine (part_any F _ b n ws ts um im Fw Ft Lw T mU mI s.2 hs2 HA.out).mono ?_
   rintro e w2 ⟨rfl, h2, k2⟩
   obtain ⟨r1, r2, r3⟩ := HR.out
   have hFt : ∀ k, Ft k → k < w.heap.size := fun k hk => HF.out k (h2.sub k (.inr (.inr (.inr (.inr hk)))))
   have r3' := (r3.alloc (.cells #[.int .i64 (s.1 : Nat), .int .i64 (s.2 : Nat)] 155)).keep k2 (fun k hk ht => by have := hFt k ht; have : w.heap.size ≤ k := hk; omega)
   obtain ⟨g, c', w3, q1, q2, q3, q4⟩ := run_app1 (P := Tryz.prog) 63 63 3 (by kernel_rfl) elem_int (by rfl) r3' (.int .i64 (T s.2 : Nat)) rfl (by omega) (by omega)
   have hi2 : i + 1 < l.length := (List.getElem?_eq_some_iff.1 HN.out).1
   have HR2 : Hid (AbRel F w b n ws ts um im Fw Ft Lw T mU mI l (i + 1) (some ⟨g, 0, none⟩) c' w3) := Lib.hid (by
    have z := (r2.alloc (.cells #[.int .i64 (s.1 : Nat), .int .i64 (s.2 : Nat)] 155)).size
    have z2 := k2.size
    have hbl : ∀ k, Bl o k → w.heap.size ≤ k := by
     rintro k ⟨y, hy, rfl⟩
     exact r3'.foot y hy
    refine ⟨h2.keep q3 (fun k hk hb => by have := HF.out k hk; have := hbl k hb; omega), ((r2.alloc _).trans k2).trans' q3 (fun _ _ h => h) (fun k hk hb => by have := hbl k hb; omega), ?_⟩
    rw [take_snoc' HN.out, ints_append]
    exact q2.mono (fun k hk => by rcases hk with h | h; exact h; omega))
   have Q1 := Lib.hid q1
   clear q1 q2 q3 q4 r1 r2 r3 r3' hFt h2 k2
   go_wp2_with ((at_builtin; refine wpList_app rfl _ _ _ rfl rfl rfl Q1.out ?_))
   go_roundg (l.length - (i + 1))
   case measure => omega
   case rel => exact ⟨i + 1, T s.2, _, c', rfl, rfl, hi2, Nat.le_refl _, HN, HR2⟩
end Go.Proofs.YtfglkgkihafcpaaGreatDoor
namespace Go.Proofs.YtfglkgkihafcpaaGreatDoor
open Go.RowKit Pl Go.Maps
def TuRel (F : Nat → Prop) (w : World) (b n ws ts um im : Nat) (Fw Ft : Nat → Prop) (Lw T : Nat → Nat) (mI : List (Nat × Value)) (es : List E) (up0 : Nat → Option (Nat × Nat)) (x q p fr : Nat) (o : Option (Nat × Nat)) (wr : World) : Prop :=
 ∃ up mU, TInv n es T up0 up x p fr o ∧ UpIs mU up ∧ BrMem F wr b n ws ts um im Fw Ft Lw T mU mI ∧ Row wr q 155 [.int .i64 ((stepD o).1 : Nat), .int .i64 ((stepD o).2 : Nat)] ∧ Keep (fun k => Ft k ∨ k = um) w wr ∧ w.heap.size ≤ q
def TurnPost (F : Nat → Prop) (w : World) (b n ws ts um im : Nat) (Fw Ft : Nat → Prop) (Lw T : Nat → Nat) (mI : List (Nat × Value)) (es : List E) (up0 : Nat → Option (Nat × Nat)) (x : Nat) (w' : World) : Prop :=
 ∃ up mU, Turned n es T up0 up x ∧ UpIs mU up ∧ BrMem F w' b n ws ts um im Fw Ft Lw T mU mI ∧ Keep (fun k => Ft k ∨ k = um) w w'
set_option maxRecDepth 100000 in
set_option maxHeartbeats 1000000 in
theorem turn_any (F : Nat → Prop) (w : World) (b n ws ts um im : Nat) (Fw Ft : Nat → Prop) (Lw T : Nat → Nat) (mU mI : List (Nat × Value)) (es : List E) (up : Nat → Option (Nat × Nat)) (x : Nat) (l : List Nat) (hx : x < n)
  (h : BrMem F w b n ws ts um im Fw Ft Lw T mU mI) (hF : ∀ k, F k → k < w.heap.size) (hU : UpIs mU up) (hB : BInv n es T up) (hl : Path T up (T x) l) :
  Calls Tryz.prog 109 #[.pointer (some ⟨b, 0, none⟩), .int .i64 x] w fun e w' => e = .returned (.tuple #[]) ∧ TurnPost F w b n ws ts um im Fw Ft Lw T mI es up x w' := by
 have hn := h.n40
 have H := Lib.hid h
 have HF := Lib.hid hF
 have HU := Lib.hid hU
 have HB := Lib.hid hB
 have HL := Lib.hid hl
 clear h hF hU hB hl
 go_enter Tryz.func109, Tryz.ntmps109
 go_wp2_with fail
 refine (part_any F _ b n ws ts um im Fw Ft Lw T mU mI x hx H.out).mono ?_
 rintro e w1 ⟨rfl, h1, k1⟩
 have hpx : T x < n := HB.out.tlt hx
 have hlook := h1.look HU.out (show T x < 40 by omega)
 have c2 := h1.head.cell (i := 2) rfl
 have hbx := h1.head.lt
 obtain ⟨p, hp⟩ : ∃ p, T x = p := ⟨_, rfl⟩
 obtain ⟨o, ho⟩ : ∃ o, up p = o := ⟨_, rfl⟩
 rw [hp, ho] at hlook
 obtain ⟨w2, hd1, hd2, hd3⟩ := (h1.alloc (.cells #[.int .i64 ((stepD o).1 : Nat), .int .i64 ((stepD o).2 : Nat)] 155)).mu.del (encN_enc Tryz.underlying3) Tryz.underlying148 (a := p) (nat40 (by omega)) 0
 simp only [encN] at hd1
 have HT0 : Hid (TuRel F w b n ws ts um im Fw Ft Lw T mI es up x w1.heap.size p x o w2) := Lib.hid (by
  have z1 := k1.size
  have z3 := hd3.size
  have t := HB.out.turn_start hx
  rw [hp, ho] at t
  refine ⟨_, _, t, ?_, (h1.alloc _).setU hd2 hd3, (Row.new w1 #[.int .i64 ((stepD o).1 : Nat), .int .i64 ((stepD o).2 : Nat)] 155).keep hd3 (fun e => ?_), ((k1.alloc _).mono (fun _ _ h => .inl h)).trans' hd3 (fun _ _ h => h) (fun _ _ h => .inr h), z1⟩
  ·exact HU.out.del p
  ·have := HF.out um (H.out.sub um (.inr (.inl rfl)))
   omega)
 have HP0 : Hid (l[0]? = some p) := Lib.hid (by obtain ⟨l', hl'⟩ := HL.out.head; rw [hl', hp]; rfl)
 have hpos : 0 < l.length := (List.getElem?_eq_some_iff.1 HP0.out).1
 have HK1 := Lib.hid k1
 have HD1 := Lib.hid hd1
 clear h1 k1 hd1 hd2 hd3 ho
 rw [hp]
 go_wp2_with ((refine wpList_mapdel rfl _ _ _ _ rfl rfl rfl HD1.out ?_))
 go_loopg [4, 6, 7] l.length (fun kx s4 s6 s7 wr => ∃ (i p fr : Nat) (o : Option (Nat × Nat)), s4 = .int .i64 p ∧ s6 = .bool o.isSome ∧ s7 = .int .i64 fr ∧ i < l.length ∧ l.length - i ≤ kx ∧ Hid (l[i]? = some p) ∧ Hid (TuRel F w b n ws ts um im Fw Ft Lw T mI es up x w1.heap.size p fr o wr))
 case atStart => exact ⟨0, p, x, o, rfl, rfl, rfl, hpos, by omega, HP0, HT0⟩
 case round =>
  clear HT0 HP0 hlook
  obtain ⟨i, p', fr, o', rfl, rfl, rfl, hi, hg, HP, HR⟩ := hrel
  cases o' with
  | none =>
   have HPO : Hid (TurnPost F w b n ws ts um im Fw Ft Lw T mI es up x wr) := Lib.hid (by
    obtain ⟨up', mU', t, r1, r2, r3, r4, _⟩ := HR.out
    exact ⟨up', mU', t.turned, r1, r2, r4⟩)
   clear HR
   simp only [Option.isSome_none]
   go_wp2_with fail
   go_end0
   exact ⟨rfl, HPO.out⟩
  | some s =>
   obtain ⟨up', mU', t, r1, r2, r3, r4, r5⟩ := HR.out
   simp only [Option.isSome_some, stepD, Option.getD_some] at r3 ⊢
   have hup0 : up p' = some s := t.pend.symm
   have hs2 : s.2 < n := (HB.out.key p' s hup0).2.2
   have d1 := r3.cell (i := 0) rfl
   have d2 := r3.cell (i := 1) rfl
   have d3 := r2.head.cell (i := 2) rfl
   have T1 := Lib.hid t
   have R1 := Lib.hid r1
   have R2 := Lib.hid r2
   have R3 := Lib.hid r3
   have R4 := Lib.hid r4
   clear t r1 r2 r3 r4 HR
   go_wp2_with fail
   refine (part_any F _ b n ws ts um im Fw Ft Lw T mU' mI s.2 hs2 R2.out).mono ?_
   rintro e w3 ⟨rfl, h3, k3⟩
   obtain ⟨o2, ho2⟩ : ∃ o2, up' (T s.2) = o2 := ⟨_, rfl⟩
   have hTs : T s.2 < n := HB.out.tlt hs2
   have hlook := h3.look R1.out (show T s.2 < 40 by omega)
   rw [ho2] at hlook
   have HO2 := Lib.hid ho2
   have hne : ¬ Ft w1.heap.size := fun hh => by
    have := HF.out _ (R2.out.sub _ (.inr (.inr (.inr (.inr hh)))))
    omega
   have e1 := k3.cell d1 hne
   have e2 := k3.cell d2 hne
   have e3 := h3.head.cell (i := 2) rfl
   have lq := World.block_lt_of_cell? w3 _ e1
   have lb := World.block_lt_of_cell? w3 _ e3
   obtain ⟨w4, hs1, hs2', hs3⟩ := ((h3.alloc (.cells #[.int .i64 ((stepD o2).1 : Nat), .int .i64 ((stepD o2).2 : Nat)] 155)).drew).mu.store (encN_enc Tryz.underlying3) Tryz.underlying148 (a := T s.2) (nat40 (by omega)) (stepV (s.1, fr))
   simp only [encN, stepV] at hs1
   have H3 := Lib.hid h3
   have K3 := Lib.hid k3
   have S2 := Lib.hid hs2'
   have S3 := Lib.hid hs3
   have hum : um < w.heap.size := HF.out um (R2.out.sub um (.inr (.inl rfl)))
   have hw1 := HK1.out.size
   have hw3 : w.heap.size ≤ w3.heap.size := Nat.le_trans R4.out.size k3.size
   have rb2 : Row w4 w3.heap.size 155 [.int .i64 ((stepD o2).1 : Nat), .int .i64 ((stepD o2).2 : Nat)] := ((Row.new w3 #[.int .i64 ((stepD o2).1 : Nat), .int .i64 ((stepD o2).2 : Nat)] 155).drew).keep hs3 (fun e => by omega)
   have rb1 : Row w4 w1.heap.size 155 [.int .i64 (s.1 : Nat), .int .i64 (s.2 : Nat)] := (((R3.out.keep K3.out hne).alloc _).drew).keep hs3 (fun e => by omega)
   have f1 := rb2.cell (i := 0) rfl
   have f2 := rb2.cell (i := 1) rfl
   have f3 := rb1.cell (i := 0) rfl
   have f4 := rb1.cell (i := 1) rfl
   have f5 := rb1.frozen 0 none
   have f6 := rb1.frozen 1 none
   have RB1 := Lib.hid rb1
   have hnext : l[i + 1]? = some (T s.2) := by
    rcases HL.out.at_ HP.out with ⟨_, h1⟩ | ⟨s', h1, h2⟩
    ·rw [hup0] at h1; cases h1
    ·rw [hup0] at h1; cases h1; exact h2
   have hi2 : i + 1 < l.length := (List.getElem?_eq_some_iff.1 hnext).1
   have HNX := Lib.hid hnext
   have HN : Hid (TuRel F w b n ws ts um im Fw Ft Lw T mI es up x w1.heap.size (T s.2) (T s.2) o2 ((w4.setCell ⟨w1.heap.size, 0, none⟩ (.int .i64 ((stepD o2).1 : Nat))).setCell ⟨w1.heap.size, 1, none⟩ (.int .i64 ((stepD o2).2 : Nat)))) := Lib.hid (by
    obtain ⟨_, t⟩ := T1.out.next
    rw [ho2] at t
    refine ⟨_, _, t, R1.out.set (T s.2) (s.1, fr), (((h3.alloc _).drew).setU S2.out hs3).keep (((Keep.refl (fun k => k = w1.heap.size) w4).setCell (.inl rfl) _).setCell (.inl rfl) _) (fun k hk e => by have := HF.out k hk; omega), ?_, ?_, r5⟩
    ·exact (RB1.out.set (i := 0) (by simp) _).set (i := 1) (by simp) _
    ·exact ((((R4.out.trans' k3 (fun _ _ h => h) (fun _ _ h => .inl h)).alloc _).drew.trans' hs3 (fun _ _ h => h) (fun _ _ h => .inr h)).setCell (.inr hw1) _).setCell (.inr hw1) _)
   clear h3 k3 hs2' hs3 d1 d2 d3 ho2 rb1 rb2 hnext
   go_wp2_with fail
   go_region
   go_wp2_with fail
   go_roundg (l.length - (i + 1))
   case measure => omega
   case rel => exact ⟨i + 1, T s.2, T s.2, o2, rfl, rfl, rfl, hi2, Nat.le_refl _, HNX, HN⟩
end Go.Proofs.YtfglkgkihafcpaaGreatDoor
namespace Go.Proofs.YtfglkgkihafcpaaGreatDoor
open Go.RowKit Pl Go.Maps
def IdIs (mI : List (Nat × Value)) (up : Nat → Option (Nat × Nat)) : Prop := (∀ id, (mget mI id).isSome = true ↔ Ids up id) ∧ ∀ q, q ∈ mI → q.2 = .bool true
theorem mem_mset {m : List (Nat × Value)} {a : Nat} {v : Value} {q : Nat × Value} (h : q ∈ mset m a v) : q ∈ m ∨ q = (a, v) := by
 unfold mset at h
 split at h
 ·obtain ⟨p, hp, rfl⟩ := List.mem_map.1 h
  split
  ·exact .inr rfl
  ·exact .inl hp
 ·rcases List.mem_append.1 h with h | h
  ·exact .inl h
  ·simp at h; exact .inr h
theorem IdIs.set {mI : List (Nat × Value)} {up up' : Nat → Option (Nat × Nat)} (h : IdIs mI up) {id : Nat} (hi : ∀ j, Ids up' j ↔ Ids up j ∨ id = j) : IdIs (mset mI id (.bool true)) up' := by
 refine ⟨fun j => ?_, fun q hq => ?_⟩
 ·rw [mget_mset, hi]
  by_cases e : j = id
  ·simp [e]
  ·rw [if_neg e, h.1 j]; simp [Ne.symm e]
 ·rcases mem_mset hq with hq | rfl
  ·exact h.2 q hq
  ·rfl
def Brs (F : Nat → Prop) (w : World) (b n : Nat) (es : List E) : Prop :=
 ∃ ws ts um im Fw Ft T mU mI up, BrMem F w b n ws ts um im Fw Ft (labs (ends es)) T mU mI ∧ UpIs mU up ∧ IdIs mI up ∧ BInv n es T up ∧ ∀ e, e ∈ es → e.id < 4611686018427387904
def BAddPost (F : Nat → Prop) (w : World) (b n : Nat) (es : List E) (id x y : Nat) (e : Ending) (w' : World) : Prop :=
 e = .returned (.tuple #[.bool (!decide (Conn (ends es) x y)), .nilIface]) ∧ Brs F w' b n (es ++ [⟨id, x, y⟩]) ∧ Keep F w w'
theorem joinL_comm (L : Nat → Nat) (x y : Nat) : joinL L x y = joinL L y x := by
 funext z; unfold joinL; rw [Nat.max_comm, Nat.min_comm]
theorem h6cell {F : Nat → Prop} {w : World} {b n ws ts um im : Nat} {Fw Ft : Nat → Prop} {Lw T : Nat → Nat} {mU mI : List (Nat × Value)} (h : BrMem F w b n ws ts um im Fw Ft Lw T mU mI) : w.cell? ⟨b, 3, none⟩ = some (.map (some im)) := h.head.cell (i := 3) rfl
def Swap (x y x' y' : Nat) : Prop := (x' = x ∧ y' = y) ∨ (x' = y ∧ y' = x)
theorem badd_fin {F : Nat → Prop} {w w' : World} {b n ws ts um im : Nat} {Fw Ft : Nat → Prop} {T : Nat → Nat} {mU' mI : List (Nat × Value)} {es : List E} {up up' : Nat → Option (Nat × Nat)} {id x y x' y' : Nat}
  (hor : Swap x y x' y') (hx' : x' < n) (hy' : y' < n) (hid2 : id < 4611686018427387904) (hsm : ∀ e, e ∈ es → e.id < 4611686018427387904) (hid : ∀ f, f ∈ es → f.id ≠ id) (hc : ¬ Conn (ends es) x y)
  (tt : Turned n es T up up' x') (u4 : UpIs mU' up') (hI : IdIs mI up)
  (h : BrMem F w' b n ws ts um im Fw Ft (joinL (labs (ends es)) x' y') T (mset mU' (T x') (stepV (id, y'))) (mset mI id (.bool true))) (k : Keep (fun k => (Ft k ∨ k = um) ∨ Fw k ∨ k = im) w w') :
  BAddPost F w b n es id x y (.returned (.tuple #[.bool true, .nilIface])) w' := by
 have hL : joinL (labs (ends es)) x' y' = labs (ends (es ++ [⟨id, x, y⟩])) := by
  rw [ends_snoc, labs_snoc]
  rcases hor with ⟨rfl, rfl⟩ | ⟨rfl, rfl⟩
  ·rfl
  ·exact joinL_comm _ _ _
 have hc' : ¬ Conn (ends es) x' y' := by
  rcases hor with ⟨rfl, rfl⟩ | ⟨rfl, rfl⟩
  ·exact hc
  ·exact fun h => hc h.symm
 obtain ⟨hB, hids⟩ := tt.bridge (e := ⟨id, x, y⟩) hx' hy' (by
  rcases hor with ⟨rfl, rfl⟩ | ⟨rfl, rfl⟩
  ·exact .inl ⟨rfl, rfl⟩
  ·exact .inr ⟨rfl, rfl⟩) hid hc'
 rw [hL] at h
 refine ⟨by rw [decide_eq_false hc]; rfl, ⟨ws, ts, um, im, Fw, Ft, T, _, _, _, h, u4.set (T x') (id, y'), hI.set hids, hB, fun e he => ?_⟩, k.mono (fun j _ hj => h.sub j ?_)⟩
 ·rcases List.mem_append.1 he with he | he
  ·exact hsm e he
  ·rw [List.mem_singleton] at he; subst he; exact hid2
 ·rcases hj with (hj | hj) | hj | hj
  ·exact .inr (.inr (.inr (.inr hj)))
  ·exact .inr (.inl hj)
  ·exact .inr (.inr (.inr (.inl hj)))
  ·exact .inr (.inr (.inl hj))
set_option maxRecDepth 100000 in
set_option maxHeartbeats 1000000 in
theorem badd_new (F : Nat → Prop) (w : World) (b n : Nat) (es : List E) (id x y : Nat) (hx : x < n) (hy : y < n) (hxy : x ≠ y) (hid : ∀ f, f ∈ es → f.id ≠ id) (hid2 : id < 4611686018427387904)
  (hB : Brs F w b n es) (hF : ∀ k, F k → k < w.heap.size) (hc : ¬ Conn (ends es) x y) :
  Calls Tryz.prog 79 #[.pointer (some ⟨b, 0, none⟩), .int .i64 id, .int .i64 x, .int .i64 y] w (BAddPost F w b n es id x y) := by
 obtain ⟨ws, ts, um, im, Fw, Ft, T, mU, mI, up, h, hU, hI, hInv, hsm⟩ := hB
 have hn := h.n40
 have hxy2 : ((x : Int) == (y : Int)) = false := by simp; omega
 have c0 := h.head.cell (i := 0) rfl
 have H := Lib.hid h
 have HU := Lib.hid hU
 have HI := Lib.hid hI
 have HInv := Lib.hid hInv
 have HF := Lib.hid hF
 have HSM := Lib.hid hsm
 have HID := Lib.hid hid
 have HC := Lib.hid hc
 have HXY := Lib.hid hxy
 clear h hU hI hInv hsm hF hid hc hxy
 go_enter Tryz.func79, Tryz.ntmps79
 go_wp2_with fail
 refine (same_any Fw _ ws n _ x y hx hy H.out.sw).mono ?_
 rintro e w1 ⟨rfl, s1, k1⟩
 rw [decide_eq_false (show ¬ labs (ends es) x = labs (ends es) y from HC.out)]
 have h1 := H.out.setW s1 k1
 have c1 := h1.head.cell (i := 0) rfl
 have H1 := Lib.hid h1
 have K1 := Lib.hid k1
 clear s1 k1 h1 c0
 go_wp2_with fail
 refine (size_any Fw _ ws n _ x hx H1.out.sw).mono ?_
 rintro e w2 ⟨rfl, s2, k2⟩
 obtain ⟨m1, hm1⟩ : ∃ m1, cnt n (fun z => decide (labs (ends es) z = labs (ends es) x)) = m1 := ⟨_, rfl⟩
 rw [hm1]
 have h2 := H1.out.setW s2 k2
 have c2 := h2.head.cell (i := 0) rfl
 have H2 := Lib.hid h2
 have K2 := Lib.hid (K1.out.trans k2)
 clear s2 k2 h2 c1 hm1
 go_wp2_with fail
 refine (size_any Fw _ ws n _ y hy H2.out.sw).mono ?_
 rintro e w3 ⟨rfl, s3, k3⟩
 obtain ⟨m2, hm2⟩ : ∃ m2, cnt n (fun z => decide (labs (ends es) z = labs (ends es) y)) = m2 := ⟨_, rfl⟩
 rw [hm2]
 have h3 := H2.out.setW s3 k3
 have H3 := Lib.hid h3
 have K3 := Lib.hid (K2.out.trans k3)
 clear s3 k3 h3 c2 hm2
 obtain ⟨x', y', hor, hx', hy', hor2⟩ : ∃ x' y' : Nat, ((x' = y ∧ y' = x ∧ m2 < m1) ∨ (x' = x ∧ y' = y ∧ ¬ m2 < m1)) ∧ x' < n ∧ y' < n ∧ Swap x y x' y' := by
  by_cases hlt : m2 < m1
  ·exact ⟨y, x, .inl ⟨rfl, rfl, hlt⟩, hy, hx, .inr ⟨rfl, rfl⟩⟩
  ·exact ⟨x, y, .inr ⟨rfl, rfl, hlt⟩, hx, hy, .inl ⟨rfl, rfl⟩⟩
 have HOR := Lib.hid hor2
 clear hor2
 obtain ⟨l, hl⟩ := HInv.out.path (T x')
 have HL := Lib.hid hl
 clear hl
 rcases hor with ⟨e1, e2, hlt⟩ | ⟨e1, e2, hlt⟩
 all_goals
  subst e1
  subst e2
  go_wp2_with fail
  refine (turn_any F _ b n ws ts um im Fw Ft _ T mU mI es up x' l hx' H3.out (fun k hk => Nat.lt_of_lt_of_le (HF.out k hk) K3.out.size) HU.out HInv.out HL.out).mono ?_
  rintro e w4 ⟨rfl, up', mU', tt, u4, h4, k4⟩
  have TT := Lib.hid tt
  have U4 := Lib.hid u4
  have H4 := Lib.hid h4
  have K4 := Lib.hid ((K3.out.mono (fun _ _ h => .inr h)).trans' k4 (H := fun k => (Ft k ∨ k = um) ∨ Fw k) (fun _ _ h => h) (fun _ _ h => .inl h))
  have c2 := h4.head.cell (i := 2) rfl
  clear tt u4 h4 k4
  go_wp2_with fail
  go_region_held3 (fun w' => w'.cell? ⟨b, 2, none⟩ = some (.map (some um))) (go_keep) ((first | (go_at_call 110; refine (part_any F _ b n ws ts um im Fw Ft _ T mU' mI x' hx' H4.out.drew).mono ?_; rintro e w5 ⟨rfl, h5, k5⟩; have c5 := h5.head.cell (i := 2) rfl; obtain ⟨w6, r1, r2, r3⟩ := h5.mu.store (encN_enc Tryz.underlying3) Tryz.underlying148 (a := T x') (nat40 (show T x' < 40 by have := HInv.out.tlt hx'; omega)) (stepV (id, y')); simp only [encN, stepV] at r1; have H6 := Lib.hid (h5.setU r2 r3); have K6 := Lib.hid ((K4.out.drew.trans' k5 (H := fun k => (Ft k ∨ k = um) ∨ Fw k) (fun _ _ h => h) (fun _ _ h => .inl (.inl h))).trans' r3 (H := fun k => (Ft k ∨ k = um) ∨ Fw k) (fun _ _ h => h) (fun _ _ h => .inl (.inr h))); have c6 := H6.out.head.cell (i := 2) rfl; clear h5 k5 r2 r3)))
  obtain ⟨w7, q1, q2, q3⟩ := H6.out.mi.store (encN_enc Tryz.underlying3) Tryz.underlying149 (a := id) (by unfold DN; omega) (.bool true)
  simp only [encN] at q1
  have h7 := H6.out.setI q2 q3
  have c7 := h6cell H6.out
  have c8 := h7.head.cell (i := 0) rfl
  have H7 := Lib.hid h7
  have K7 := Lib.hid (K6.out.trans' q3 (H := fun k => (Ft k ∨ k = um) ∨ Fw k ∨ k = im) (fun _ _ h => h.imp (fun h => h) .inl) (fun _ _ h => .inr (.inr h)))
  clear h7 q2 q3 c2
  go_wp2_with (first | (at_mapUpdate; refine wpList_mapset rfl _ _ _ _ rfl rfl rfl rfl q1 ?_))
  refine (join_any Fw _ ws n _ x' y' hx' hy' H7.out.sw).mono ?_
  rintro e w8 ⟨rfl, s8, k8⟩
  have HP : Hid (BAddPost F w b n es id _ _ (.returned (.tuple #[.bool true, .nilIface])) w8) := Lib.hid (badd_fin HOR.out hx' hy' hid2 HSM.out HID.out HC.out TT.out U4.out HI.out (H7.out.setW s8 k8) (K7.out.trans' k8 (H := fun k => (Ft k ∨ k = um) ∨ Fw k ∨ k = im) (fun _ _ h => h) (fun _ _ h => .inr (.inl h))))
  clear s8 k8
  go_wp2_with fail
  go_ret2
  exact HP.out
end Go.Proofs.YtfglkgkihafcpaaGreatDoor

