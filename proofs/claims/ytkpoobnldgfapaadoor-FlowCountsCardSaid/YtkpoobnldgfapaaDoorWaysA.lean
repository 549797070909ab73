/- flow.Ways: what is left of a flow, and which way it goes; the search for the next edge. -/
import Derived.Test.YtkpoobnldgfapaaDoorA1
import Derived.Test.YtkpoobnldgfapaaDoorPlWays
import Derived.Test.YtkpoobnldgfapaaDoorA5
import Derived.BigRegion
import Derived.Deep.QuietTactic
import Derived.BigQuiet
set_option linter.unusedVariables false
set_option linter.unusedSimpArgs false
namespace Go.Proofs.YtkpoobnldgfapaaDoor
open Go.RowKit Pl Go.Maps

def edgeW (e : E) : Value := .agg #[.int .i64 e.id, .int .i64 e.a, .int .i64 e.b]
def edgeZ : Value := .agg #[.int .i64 0, .int .i64 0, .int .i64 0]
theorem zero_edgeZ (w : World) : (zeroValue 55).run Tryd.prog w = .ok edgeZ w := by kernel_rfl
theorem zero_boolZ (w : World) : (zeroValue 4).run Tryd.prog w = .ok (.bool false) w := by kernel_rfl

/-- What is left. -/
def LMap (w : World) (lm : Nat) (es : List E) (L : Nat → Bool) : Prop := ∃ m, MapAt encN DN w lm m ∧ ∀ i e, es[i]? = some e → mget m e.id = if L i = true then some (edgeW e) else none
/-- Which way. -/
def AMap (w : World) (am : Nat) (es : List E) (L0 x : Nat → Bool) : Prop := ∃ m, MapAt encN DN w am m ∧ ∀ i e, es[i]? = some e → mget m e.id = if L0 i = true then some (.bool (x i)) else none

theorem LMap.keep {G : Nat → Prop} {w w' : World} {lm : Nat} {es : List E} {L : Nat → Bool} (h : LMap w lm es L) (k : Keep G w w') (hn : ¬ G lm) : LMap w' lm es L := by
  obtain ⟨m, h1, h2⟩ := h; exact ⟨m, h1.keep k hn, h2⟩
theorem AMap.keep {G : Nat → Prop} {w w' : World} {am : Nat} {es : List E} {L0 x : Nat → Bool} (h : AMap w am es L0 x) (k : Keep G w w') (hn : ¬ G am) : AMap w' am es L0 x := by
  obtain ⟨m, h1, h2⟩ := h; exact ⟨m, h1.keep k hn, h2⟩

theorem LMap.lt' {w : World} {lm : Nat} {es : List E} {L : Nat → Bool} (h : LMap w lm es L) : lm < w.heap.size := by obtain ⟨m, h1, _⟩ := h; exact h1.lt
theorem LMap.congr {w : World} {lm : Nat} {es : List E} {L L' : Nat → Bool} (h : LMap w lm es L) (hl : ∀ i, i < es.length → L i = L' i) : LMap w lm es L' := by
  obtain ⟨m, h1, h2⟩ := h
  exact ⟨m, h1, fun i e he => by rw [h2 i e he, hl i (List.getElem?_eq_some_iff.1 he).1]⟩
theorem AMap.congr {w : World} {am : Nat} {es : List E} {L L' x : Nat → Bool} (h : AMap w am es L x) (hl : ∀ i, i < es.length → L i = L' i) : AMap w am es L' x := by
  obtain ⟨m, h1, h2⟩ := h
  exact ⟨m, h1, fun i e he => by rw [h2 i e he, hl i (List.getElem?_eq_some_iff.1 he).1]⟩

theorem ids_at {es : List E} (hs : Sorted es) {i j : Nat} {e f : E} (hi : es[i]? = some e) (hj : es[j]? = some f) (h : e.id = f.id) : i = j := by
  obtain ⟨h1, h2⟩ := List.getElem?_eq_some_iff.1 hi
  obtain ⟨h3, h4⟩ := List.getElem?_eq_some_iff.1 hj
  rcases Nat.lt_trichotomy i j with h5 | h5 | h5
  · have := (List.pairwise_iff_getElem.1 hs) i j h1 h3 h5
    rw [h2, h4] at this; omega
  · exact h5
  · have := (List.pairwise_iff_getElem.1 hs) j i h3 h1 h5
    rw [h2, h4] at this; omega

/-- One more is left. -/
theorem LMap.store {w : World} {lm : Nat} {es : List E} {L L' : Nat → Bool} (h : LMap w lm es L) (hs : Sorted es) {i : Nat} {e : E} (he : es[i]? = some e) (hd : DN e.id) (hL : ∀ j, j < es.length → L' j = if j = i then true else L j) :
    ∃ w', (Instr.mapUpdate 98 (.map (some lm)) (.int .i64 e.id) (.agg #[.int .i64 e.id, .int .i64 e.a, .int .i64 e.b])).run Tryd.prog w = .ok () w' ∧ LMap w' lm es L' ∧ Keep (fun k => k = lm) w w' := by
  obtain ⟨m, h1, h2⟩ := h
  obtain ⟨w', r1, r2, r3⟩ := h1.store (encN_enc Tryd.underlying3) Tryd.underlying98 hd (edgeW e)
  refine ⟨w', r1, ⟨_, r2, fun j f hj => ?_⟩, r3⟩
  rw [mget_mset, hL j (List.getElem?_eq_some_iff.1 hj).1]
  by_cases e1 : f.id = e.id
  · have : j = i := ids_at hs hj he e1
    subst this
    have : f = e := by rw [hj] at he; exact Option.some.inj he
    rw [this, if_pos rfl, if_pos rfl, if_pos rfl]
  · have : j ≠ i := fun h => by subst h; rw [hj] at he; exact e1 (by rw [Option.some.inj he])
    rw [if_neg e1, if_neg this]; exact h2 j f hj

theorem AMap.store {w : World} {am : Nat} {es : List E} {L L' x : Nat → Bool} (h : AMap w am es L x) (hs : Sorted es) {i : Nat} {e : E} (he : es[i]? = some e) (hd : DN e.id) (hL : ∀ j, j < es.length → L' j = if j = i then true else L j) {p : Bool} (hp : x i = p) :
    ∃ w', (Instr.mapUpdate 53 (.map (some am)) (.int .i64 e.id) (.bool p)).run Tryd.prog w = .ok () w' ∧ AMap w' am es L' x ∧ Keep (fun k => k = am) w w' := by
  obtain ⟨m, h1, h2⟩ := h
  obtain ⟨w', r1, r2, r3⟩ := h1.store (encN_enc Tryd.underlying3) Tryd.underlying53 hd (.bool p)
  refine ⟨w', r1, ⟨_, r2, fun j f hj => ?_⟩, r3⟩
  rw [mget_mset, hL j (List.getElem?_eq_some_iff.1 hj).1]
  by_cases e1 : f.id = e.id
  · have : j = i := ids_at hs hj he e1
    subst this
    rw [if_pos e1, if_pos rfl, if_pos rfl, hp]
  · have : j ≠ i := fun h => by subst h; rw [hj] at he; exact e1 (by rw [Option.some.inj he])
    rw [if_neg e1, if_neg this]; exact h2 j f hj

/-- One is taken. -/
theorem LMap.del {w : World} {lm : Nat} {es : List E} {L : Nat → Bool} (h : LMap w lm es L) (hs : Sorted es) {i : Nat} {e : E} (he : es[i]? = some e) (hd : DN e.id) (ty : TypeId) :
    ∃ w', (Builtin.delete_ #[98, 3] ty #[.map (some lm), .int .i64 e.id]).run Tryd.prog w = .ok (.tuple #[]) w' ∧ LMap w' lm es (upd L i false) ∧ Keep (fun k => k = lm) w w' := by
  obtain ⟨m, h1, h2⟩ := h
  obtain ⟨w', r1, r2, r3⟩ := h1.del (encN_enc Tryd.underlying3) Tryd.underlying98 hd ty
  refine ⟨w', r1, ⟨_, r2, fun j f hj => ?_⟩, r3⟩
  rw [mget_mdel]
  by_cases e1 : f.id = e.id
  · have : j = i := ids_at hs hj he e1
    subst this
    rw [if_pos e1, upd_same, if_neg (by simp)]
  · have : j ≠ i := fun h => by subst h; rw [hj] at he; exact e1 (by rw [Option.some.inj he])
    rw [if_neg e1, upd_ne _ _ _ _ this]; exact h2 j f hj

theorem LMap.look {w : World} {lm : Nat} {es : List E} {L : Nat → Bool} (h : LMap w lm es L) {i : Nat} {e : E} (he : es[i]? = some e) (hd : DN e.id) :
    (Instr.lookup 98 (.map (some lm)) (.int .i64 e.id) true).run Tryd.prog w = .ok (.tuple #[if L i = true then edgeW e else edgeZ, .bool (L i)]) w := by
  obtain ⟨m, h1, h2⟩ := h
  have hl := h1.look (encN_enc Tryd.underlying3) Tryd.underlying98 (zero_edgeZ w) hd true
  rw [if_pos rfl, h2 i e he] at hl
  cases hL : L i with
  | true => rw [hL, if_pos rfl] at hl; rw [if_pos rfl]; exact hl
  | false => rw [hL, if_neg (by simp)] at hl; rw [if_neg (by simp)]; exact hl

theorem AMap.look {w : World} {am : Nat} {es : List E} {L0 x : Nat → Bool} (h : AMap w am es L0 x) {i : Nat} {e : E} (he : es[i]? = some e) (hd : DN e.id) (hL : L0 i = true) :
    (Instr.lookup 53 (.map (some am)) (.int .i64 e.id) false).run Tryd.prog w = .ok (.bool (x i)) w := by
  obtain ⟨m, h1, h2⟩ := h
  have hl := h1.look (encN_enc Tryd.underlying3) Tryd.underlying53 (zero_boolZ w) hd false
  rw [if_neg (by simp), h2 i e he, hL, if_pos rfl] at hl
  exact hl

theorem nextP_at {es : List E} {x L : Nat → Bool} {y i : Nat} {e : E} (he : es[i]? = some e) : nextP es x L y i = (L i && ((decide (e.a = y) && x i) || (decide (e.b = y) && !x i))) := by
  unfold nextP srcW
  rw [eA_at he, eB_at he]
  cases x i <;> simp

set_option maxRecDepth 100000 in
set_option maxHeartbeats 1000000 in
theorem ways1_any (W : World) (lb lm xb ab am : Nat) (es : List E) (L L0 x : Nat → Bool) (y i : Nat) (e : E) (he : es[i]? = some e) (hd : DN e.id) (hLL : L i = true → L0 i = true)
    (hl : W.cell? ⟨lb, 0, none⟩ = some (.map (some lm))) (hx : W.cell? ⟨xb, 0, none⟩ = some (.int .i64 y)) (ha : W.cell? ⟨ab, 0, none⟩ = some (.map (some am))) (hLM : LMap W lm es L) (hAM : AMap W am es L0 x) :
    Calls Tryd.prog 50 #[.agg #[.int .i64 e.id, .int .i64 e.a, .int .i64 e.b], .pointer (some ⟨lb, 0, none⟩), .pointer (some ⟨xb, 0, none⟩), .pointer (some ⟨ab, 0, none⟩)] W fun e' w' => e' = .returned (.bool (nextP es x L y i)) ∧ Keep Nb W w' := by
  have hp := nextP_at (x := x) (L := L) (y := y) he
  obtain ⟨id, hid⟩ : ∃ id, e.id = id := ⟨_, rfl⟩
  obtain ⟨ea, hea⟩ : ∃ ea, e.a = ea := ⟨_, rfl⟩
  obtain ⟨eb, heb⟩ : ∃ eb, e.b = eb := ⟨_, rfl⟩
  have k1 : Keep Nb W (W.alloc (.cells #[.int .i64 id, .int .i64 ea, .int .i64 eb] 55)) := (Keep.refl Nb W).alloc _
  have k2 : ∀ o, Keep Nb W ((W.alloc (.cells #[.int .i64 id, .int .i64 ea, .int .i64 eb] 55)).alloc o) := fun o => k1.alloc o
  have look1 := (hLM.keep k1 (fun e => e)).look he hd
  have hb1 := World.block_lt_of_cell? _ _ hl
  have hb2 := World.block_lt_of_cell? _ _ hx
  have hb3 := World.block_lt_of_cell? _ _ ha
  rw [hea, heb] at hp
  rw [hid] at look1
  obtain ⟨r, hr⟩ : ∃ r, nextP es x L y i = r := ⟨_, rfl⟩
  rw [hr] at hp ⊢
  rw [hid, hea, heb]
  cases hLi : L i with
  | false =>
    rw [hLi, if_neg (by simp)] at look1
    rw [hLi, Bool.false_and] at hp
    subst hp
    unfold edgeZ at look1
    clear k1 k2 hLM hAM hLL hr hLi
    go_enter Tryd.func50, Tryd.ntmps50
    go_wp2_with fail
    go_ret
    exact ⟨rfl, by (repeat (first | exact Keep.refl _ _ | refine Keep.alloc ?_ _ | refine Keep.drew ?_))⟩
  | true =>
    rw [hLi, if_pos rfl] at look1
    unfold edgeW at look1
    rw [hid, hea, heb] at look1
    have look2 := (hAM.keep (k2 (.cells #[.int .i64 id, .int .i64 ea, .int .i64 eb] 55)) (fun e => e)).look he hd (hLL hLi)
    rw [hid] at look2
    rw [hLi, Bool.true_and] at hp
    obtain ⟨xi, hxi⟩ : ∃ xi, x i = xi := ⟨_, rfl⟩
    rw [hxi] at hp look2
    clear k1 k2 hLM hAM hLL hr hLi hxi
    by_cases h1 : ea = y
    · have b1 : ((ea : Int) == (y : Int)) = true := by simp; omega
      cases xi with
      | true =>
        obtain rfl : r = true := by rw [hp]; simp [h1]
        clear hp h1
        go_enter Tryd.func50, Tryd.ntmps50
        go_wp2_with fail
        go_ret
        exact ⟨rfl, by (repeat (first | exact Keep.refl _ _ | refine Keep.alloc ?_ _ | refine Keep.drew ?_))⟩
      | false =>
        by_cases h2 : eb = y
        · have b2 : ((eb : Int) == (y : Int)) = true := by simp; omega
          obtain rfl : r = true := by rw [hp]; simp [h2]
          clear hp h1 h2
          go_enter Tryd.func50, Tryd.ntmps50
          go_wp2_with fail
          go_ret
          exact ⟨rfl, by (repeat (first | exact Keep.refl _ _ | refine Keep.alloc ?_ _ | refine Keep.drew ?_))⟩
        · have b2 : ((eb : Int) == (y : Int)) = false := by simp; omega
          obtain rfl : r = false := by rw [hp]; simp [h2]
          clear hp h1 h2
          go_enter Tryd.func50, Tryd.ntmps50
          go_wp2_with fail
          go_ret
          exact ⟨rfl, by (repeat (first | exact Keep.refl _ _ | refine Keep.alloc ?_ _ | refine Keep.drew ?_))⟩
    · have b1 : ((ea : Int) == (y : Int)) = false := by simp; omega
      by_cases h2 : eb = y
      · have b2 : ((eb : Int) == (y : Int)) = true := by simp; omega
        obtain rfl : r = !xi := by rw [hp]; simp [h1, h2]
        clear hp h1 h2
        go_enter Tryd.func50, Tryd.ntmps50
        go_wp2_with fail
        go_ret
        exact ⟨rfl, by (repeat (first | exact Keep.refl _ _ | refine Keep.alloc ?_ _ | refine Keep.drew ?_))⟩
      · have b2 : ((eb : Int) == (y : Int)) = false := by simp; omega
        obtain rfl : r = false := by rw [hp]; simp [h1, h2]
        clear hp h1 h2
        go_enter Tryd.func50, Tryd.ntmps50
        go_wp2_with fail
        go_ret
        exact ⟨rfl, by (repeat (first | exact Keep.refl _ _ | refine Keep.alloc ?_ _ | refine Keep.drew ?_))⟩

set_option maxRecDepth 100000 in
set_option maxHeartbeats 1000000 in
theorem indexf_any (F : Nat → Prop) (W : World) (lb xb ab el c : Nat) (o : Option Addr) (es : List E) (hel : es.length = el) (hl : el ≤ 1000) (p : Nat → Bool) (hS : Sl F W 55 3 o el c (ecs es)) (hex : ∃ i, i < el ∧ p i = true)
    (hc : ∀ W', Keep Nb W W' → ∀ i e, es[i]? = some e → Calls Tryd.prog 50 #[.agg #[.int .i64 e.id, .int .i64 e.a, .int .i64 e.b], .pointer (some ⟨lb, 0, none⟩), .pointer (some ⟨xb, 0, none⟩), .pointer (some ⟨ab, 0, none⟩)] W' fun e' w' => e' = .returned (.bool (p i)) ∧ Keep Nb W' w') :
    Calls Tryd.prog 49 #[.slice o el c, .func (.func 50) #[] #[.pointer (some ⟨lb, 0, none⟩), .pointer (some ⟨xb, 0, none⟩), .pointer (some ⟨ab, 0, none⟩)]] W fun e' w' => ∃ i : Nat, i < el ∧ p i = true ∧ e' = .returned (.int .i64 i) ∧ Keep Nb W w' := by
  have HC := Lib.hid hc
  have HS := Lib.hid hS
  have HEX := Lib.hid hex
  have HEL := Lib.hid hel
  clear hc hS hex hel
  go_enter Tryd.func49, Tryd.ntmps49
  go_wp2_with fail
  go_loopg [8] el (fun kx s8 wr => ∃ (j : Nat), s8 = .int .i64 j ∧ j ≤ el ∧ el - j ≤ kx ∧ Hid (Keep Nb W wr ∧ ∀ i, i < j → p i = false))
  case atStart => exact ⟨0, rfl, Nat.zero_le _, by omega, Lib.hid ⟨Keep.refl _ _, fun i hi => absurd hi (by omega)⟩⟩
  case round =>
    obtain ⟨j, rfl, hj, hg, HR⟩ := hrel
    by_cases hlt : j < el
    · obtain ⟨g, rfl, _, hnc, hrow⟩ := (HS.out.keep HR.out.1 (fun _ _ e => e)).pos (by omega)
      obtain ⟨e, hy⟩ : ∃ e, es[j]? = some e := ⟨_, List.getElem?_eq_getElem (by rw [HEL.out]; exact hlt)⟩
      have d1 := hrow.edges.id _ _ hy
      have d2 := hrow.edges.a _ _ hy
      have d3 := hrow.edges.b _ _ hy
      have HCC := Lib.hid (HC.out _ HR.out.1 j e hy)
      obtain ⟨r, hr⟩ : ∃ r, p j = r := ⟨_, rfl⟩
      rw [hr] at HCC
      have HRR := Lib.hid hr
      clear hrow hy hr
      go_wp2_with fail
      refine HCC.out.mono ?_
      rintro e1 w1 ⟨rfl, hk⟩
      have HK := Lib.hid (HR.out.1.trans hk)
      clear hk d1 d2 d3 HCC
      cases r with
      | true =>
        go_wp2_with fail
        go_ret
        exact ⟨j, hlt, HRR.out, rfl, HK.out⟩
      | false =>
        have HN : Hid (Keep Nb W w1 ∧ ∀ i, i < j + 1 → p i = false) := Lib.hid ⟨HK.out, fun i hi => by
          by_cases e : i = j
          · subst e; exact HRR.out
          · exact HR.out.2 i (by omega)⟩
        clear HR HK
        go_wp2_with fail
        go_roundg (el - (j + 1))
        case measure => omega
        case rel => exact ⟨j + 1, rfl, by omega, Nat.le_refl _, HN⟩
    · exfalso
      obtain ⟨i, h1, h2⟩ := HEX.out
      have := HR.out.2 i (by omega)
      rw [h2] at this; cases this

end Go.Proofs.YtkpoobnldgfapaaDoor
