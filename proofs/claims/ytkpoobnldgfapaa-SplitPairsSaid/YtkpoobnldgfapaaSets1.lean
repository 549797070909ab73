/- sets: memory of a Sets; root. -/
import Derived.Test.YtkpoobnldgfapaaProg
import Derived.Test.YtkpoobnldgfapaaPlConn
import Derived.Test.YtkpoobnldgfapaaMem
namespace Go.Proofs.Ytkpoobnldgfapaa
open Go.RowKit Pl

def fints (n : Nat) (f : Nat → Nat) : List Value := ints ((List.range n).map f)

theorem fints_length (n : Nat) (f : Nat → Nat) : (fints n f).length = n := by simp [fints]
theorem fints_get {n i : Nat} (f : Nat → Nat) (h : i < n) : (fints n f)[i]? = some (.int .i64 (f i)) := by simp [fints, ints, h]
theorem fints_set (n : Nat) (f : Nat → Nat) (i v : Nat) : (fints n f).set i (.int .i64 v) = fints n (upd f i v) := by
  apply List.ext_getElem?
  intro k
  rw [List.getElem?_set]
  by_cases hk : k < n
  · rw [fints_get _ hk]
    by_cases e : i = k
    · subst e; rw [fints_get _ hk]; simp [fints_length, hk, upd]
    · have : k ≠ i := fun h => e h.symm
      simp [e, upd, this, fints_get _ hk]
  · have h1 : (fints n f)[k]? = none := by simp [fints_length]; omega
    have h2 : (fints n (upd f i v))[k]? = none := by simp [fints_length]; omega
    rw [h2]
    by_cases e : i = k
    · subst e; simp [fints_length, hk]
    · simp [e, h1]
theorem fints_snoc (n : Nat) (f : Nat → Nat) : fints (n + 1) f = fints n f ++ [.int .i64 (f n)] := by simp [fints, ints, List.range_succ]

structure SetsMem (F : Nat → Prop) (w : World) (b n : Nat) (up size low : Nat → Nat) (many : Nat) (ou os ol : Option Addr) (cu cs cl : Nat) : Prop where
  head : Row w b 77 [.slice ou n cu, .slice os n cs, .slice ol n cl, .int .i64 many]
  hb : F b
  u : Sl F w 3 1 ou n cu (fints n up)
  s : Sl F w 3 1 os n cs (fints n size)
  l : Sl F w 3 1 ol n cl (fints n low)
  du : ∀ a, ou = some a → a.block ≠ b
  ds : ∀ a, os = some a → a.block ≠ b
  dl : ∀ a, ol = some a → a.block ≠ b
  dus : ∀ a c, ou = some a → os = some c → a.block ≠ c.block
  dul : ∀ a c, ou = some a → ol = some c → a.block ≠ c.block
  dsl : ∀ a c, os = some a → ol = some c → a.block ≠ c.block

namespace SetsMem
variable {F : Nat → Prop} {w : World} {b n : Nat} {up size low : Nat → Nat} {many : Nat} {ou os ol : Option Addr} {cu cs cl : Nat}

theorem drew (h : SetsMem F w b n up size low many ou os ol cu cs cl) : SetsMem F w.drew b n up size low many ou os ol cu cs cl :=
  ⟨h.head.drew, h.hb, h.u.drew, h.s.drew, h.l.drew, h.du, h.ds, h.dl, h.dus, h.dul, h.dsl⟩

theorem keep {G : Nat → Prop} {w' : World} (h : SetsMem F w b n up size low many ou os ol cu cs cl) (k : Keep G w w') (d : ∀ k, F k → ¬ G k) : SetsMem F w' b n up size low many ou os ol cu cs cl :=
  ⟨h.head.keep k (d b h.hb), h.hb, h.u.keep k d, h.s.keep k d, h.l.keep k d, h.du, h.ds, h.dl, h.dus, h.dul, h.dsl⟩

theorem alloc (h : SetsMem F w b n up size low many ou os ol cu cs cl) (o : Obj) : SetsMem F (w.alloc o) b n up size low many ou os ol cu cs cl :=
  ⟨h.head.alloc o, h.hb, h.u.alloc o, h.s.alloc o, h.l.alloc o, h.du, h.ds, h.dl, h.dus, h.dul, h.dsl⟩

theorem of_heap {w' : World} (h : SetsMem F w b n up size low many ou os ol cu cs cl) (e : ∀ k, k < w.heap.size → F k → w'.heap[k]? = w.heap[k]?) : SetsMem F w' b n up size low many ou os ol cu cs cl :=
  ⟨h.head.of_heap (e b h.head.lt h.hb), h.hb, h.u.of_heap e, h.s.of_heap e, h.l.of_heap e, h.du, h.ds, h.dl, h.dus, h.dul, h.dsl⟩

theorem setUp (h : SetsMem F w b n up size low many ou os ol cu cs cl) {g x : Nat} (ho : ou = some ⟨g, 0, none⟩) (hx : x < n) (v : Nat) :
    SetsMem F (w.setCell ⟨g, x, none⟩ (.int .i64 v)) b n (upd up x v) size low many ou os ol cu cs cl := by
  have hF : F g := h.u.foot _ ho
  have d := h.du _ ho
  refine ⟨h.head.set_other (by simpa using d) _, h.hb, ?_, ?_, ?_, h.du, h.ds, h.dl, h.dus, h.dul, h.dsl⟩
  · rw [← fints_set]; exact h.u.set ho hx _
  · exact h.s.set_ne (p := ⟨g, x, none⟩) (fun a ha e => h.dus _ _ ho ha e.symm) _
  · exact h.l.set_ne (p := ⟨g, x, none⟩) (fun a ha e => h.dul _ _ ho ha e.symm) _

theorem setSize (h : SetsMem F w b n up size low many ou os ol cu cs cl) {g x : Nat} (ho : os = some ⟨g, 0, none⟩) (hx : x < n) (v : Nat) :
    SetsMem F (w.setCell ⟨g, x, none⟩ (.int .i64 v)) b n up (upd size x v) low many ou os ol cu cs cl := by
  have d := h.ds _ ho
  refine ⟨h.head.set_other (by simpa using d) _, h.hb, ?_, ?_, ?_, h.du, h.ds, h.dl, h.dus, h.dul, h.dsl⟩
  · exact h.u.set_ne (p := ⟨g, x, none⟩) (fun a ha e => h.dus _ _ ha ho e) _
  · rw [← fints_set]; exact h.s.set ho hx _
  · exact h.l.set_ne (p := ⟨g, x, none⟩) (fun a ha e => h.dsl _ _ ho ha e.symm) _

theorem setLow (h : SetsMem F w b n up size low many ou os ol cu cs cl) {g x : Nat} (ho : ol = some ⟨g, 0, none⟩) (hx : x < n) (v : Nat) :
    SetsMem F (w.setCell ⟨g, x, none⟩ (.int .i64 v)) b n up size (upd low x v) many ou os ol cu cs cl := by
  have d := h.dl _ ho
  refine ⟨h.head.set_other (by simpa using d) _, h.hb, ?_, ?_, ?_, h.du, h.ds, h.dl, h.dus, h.dul, h.dsl⟩
  · exact h.u.set_ne (p := ⟨g, x, none⟩) (fun a ha e => h.dul _ _ ha ho e) _
  · exact h.s.set_ne (p := ⟨g, x, none⟩) (fun a ha e => h.dsl _ _ ha ho e) _
  · rw [← fints_set]; exact h.l.set ho hx _

theorem setMany (h : SetsMem F w b n up size low many ou os ol cu cs cl) (v : Nat) :
    SetsMem F (w.setCell ⟨b, 3, none⟩ (.int .i64 v)) b n up size low v ou os ol cu cs cl :=
  ⟨h.head.set (by simp) _, h.hb, h.u.set_ne h.du _, h.s.set_ne h.ds _, h.l.set_ne h.dl _, h.du, h.ds, h.dl, h.dus, h.dul, h.dsl⟩
end SetsMem


/-- What root leaves: the root, and a forest of the same roots. -/
def RootPost (F : Nat → Prop) (w : World) (b n : Nat) (up size low : Nat → Nat) (many : Nat) (ou os ol : Option Addr) (cu cs cl : Nat) (L : Nat → Nat) (x : Nat) (e : Ending) (w' : World) : Prop :=
  ∃ (r k : Nat) (up' : Nat → Nat), e = .returned (.int .i64 r) ∧ r < n ∧ Root up x r k ∧ SetsMem F w' b n up' size low many ou os ol cu cs cl ∧ SetsInv n up' size low many L ∧ SameRoots n up up' ∧ Keep F w w'

set_option maxHeartbeats 400000 in
theorem root_any (F : Nat → Prop) (w : World) (b n : Nat) (up size low : Nat → Nat) (many : Nat) (ou os ol : Option Addr) (cu cs cl : Nat) (L : Nat → Nat) (x : Nat) (hx : x < n) (hn : n ≤ 40)
    (hM : SetsMem F w b n up size low many ou os ol cu cs cl) (hI : SetsInv n up size low many L) :
    Calls Try.prog 52 #[.pointer (some ⟨b, 0, none⟩), .int .i64 x] w (RootPost F w b n up size low many ou os ol cu cs cl L x) := by
  obtain ⟨d, hd⟩ := hI.forest.deep
  obtain ⟨R, k, hRn, hR⟩ := hI.forest.root hx
  obtain ⟨g, hou, hFg, hgc, hrow⟩ := hM.u.pos (by omega)
  have Hou := Lib.hid hou
  subst hou
  have hc0 := hM.head.cell (i := 0) rfl
  have hP : ∀ r k up' w', r = R → Root up x r k → SetsMem F w' b n up' size low many (some ⟨g, 0, none⟩) os ol cu cs cl → SetsInv n up' size low many L → SameRoots n up up' → Keep F w w' → RootPost F w b n up size low many (some ⟨g, 0, none⟩) os ol cu cs cl L x (.returned (.int .i64 r)) w' :=
    fun r k up' w' e h1 h2 h3 h4 h5 => ⟨r, k, up', rfl, e ▸ hRn, h1, h2, h3, h4, h5⟩
  have HP := Lib.hid hP
  have HR := Lib.hid hR
  clear hP
  go_enter Try.func52, Try.ntmps52
  go_wp2
  go_loop [5] (fun r => ∃ z j : Nat, r = .int .i64 z ∧ z < n ∧ Root up z R j) (fun r => d (intOf r).toNat)
  case atStart => exact ⟨x, k, rfl, hx, hR⟩
  case round =>
    obtain ⟨z, j, rfl, hz, hzR⟩ := hrel
    have hcz := hrow.cell (fints_get up hz)
    have HzR := Lib.hid hzR
    clear hzR
    by_cases hne : up z = z
    · have hne' : ((up z : Int) != (z : Int)) = false := by simp [hne]
      obtain rfl : z = R := ((HzR.out).unique (Root.here hne)).1
      have H := Lib.hid hne; clear hne
      go_wp2
      clear hne' hcz hc0
      go_loopw [1] (fun v wr => ∃ (z' j : Nat) (up' : Nat → Nat), v = .int .i64 z' ∧ z' < n ∧ SetsMem F wr b n up' size low many (some ⟨g, 0, none⟩) os ol cu cs cl ∧ SetsInv n up' size low many L ∧ SameRoots n up up' ∧ Root up' z' z j ∧ Keep F w wr ∧ (∀ y, y < n → up' y ≠ y → d (up' y) < d y)) (fun v _ => d (intOf v).toNat)
      case atStart => exact ⟨x, k, up, rfl, hx, hM, hI, SameRoots.refl n up, hR, Keep.refl F w, hd⟩
      case round =>
        obtain ⟨v, j, up', rfl, hv, hM', hI', hS', hR', hK', hd'⟩ := hrel
        have hc0 := hM'.head.cell (i := 0) rfl
        obtain ⟨g', e', hFg', _, hrow'⟩ := hM'.u.pos (by omega)
        obtain rfl : g = g' := by simpa using e'
        have hcv := hrow'.cell (fints_get up' hv)
        have hf := hrow'.frozen v none
        have hbg := hM'.du _ rfl
        clear e'
        have K1 := Lib.hid hR'
        have K2 := Lib.hid hd'
        clear hR' hd' hRn hR hd
        by_cases hne : up' v = z
        · have hne' : ((up' v : Int) != (z : Int)) = false := by simp [hne]
          have H2 := Lib.hid hne; clear hne
          go_wp2
          go_ret
          exact HP.out _ _ _ _ rfl HR.out hM' hI' hS' hK'
        · have hne' : ((up' v : Int) != (z : Int)) = true := by simp; omega
          have H2 := Lib.hid hne; clear hne
          have hlt : up' v < n := hI'.forest.lt v hv
          go_wp2
          go_region
          have hvz : up' v ≠ v ∧ ∃ j', Root up' (up' v) z j' := by
            have h1 := K1.out
            cases h1 with
            | here h => exact absurd h H2.out
            | step h t => exact ⟨h, _, t⟩
          obtain ⟨hvv, j', hj'⟩ := hvz
          obtain ⟨j2, hj2⟩ := K1.out.compress hj'
          have hdz := (K1.out.deeper hI'.forest.lt K2.out hv).2
          refine ⟨?_, by simpa [intOf] using K2.out v hv hvv⟩
          repeat apply Exists.intro
          refine ⟨⟨up' v, j2, upd up' v z, rfl, hlt, hM'.drew.setUp rfl hv z, hI'.compress hv K1.out, hS'.trans (fun a r k' _ hr => ?_), hj2, hK'.drew.setCell (.inl hFg) _, fun y hy hy2 => ?_⟩, rfl⟩
          · exact K1.out.compress hr
          · by_cases e : y = v
            · subst e; rw [upd_same] at hy2 ⊢; exact hdz (fun e => hy2 e.symm)
            · rw [upd_ne _ _ _ _ e] at hy2 ⊢; exact K2.out y hy hy2
    · have hne' : ((up z : Int) != (z : Int)) = true := by simp; omega
      have H := Lib.hid hne; clear hne
      go_wp2
      go_round
      case rel =>
        refine ⟨up z, j - 1, rfl, hI.forest.lt z hz, ?_⟩
        have h1 := HzR.out
        cases h1 with
        | here h => exact absurd h H.out
        | step _ t => exact t
      case measure => simpa [intOf] using hd z hz H.out

end Go.Proofs.Ytkpoobnldgfapaa
