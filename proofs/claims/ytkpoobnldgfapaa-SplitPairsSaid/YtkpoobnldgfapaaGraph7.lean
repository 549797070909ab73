/- graph: slices.Insert of one edge; Add. -/
import Derived.Test.YtkpoobnldgfapaaGraph6
namespace Go.Proofs.Ytkpoobnldgfapaa
open Go.RowKit Go.Lib Pl

theorem insert_any (F : Nat → Prop) (w : World) (o : Option Addr) (c i : Nat) (es : List E) (vb : Nat) (e : E) (hS : Sl F w 54 3 o es.length c (ecs es)) (hn : es.length ≤ 1000)
    (hv : w.heap[vb]? = some (.cells (ecells e).toArray 54 (0, 0))) (hne : ¬ F vb) (hi : i ≤ es.length) :
    Calls Try.prog 82 #[.slice o es.length c, .int .i64 i, .slice (some ⟨vb, 0, none⟩) 1 1] w (InsPost F w o es i e) := by
  by_cases h : i = es.length
  · subst h; exact insert_end F w o c es vb e hS hn hv
  · obtain ⟨g, rfl, hF, _, _⟩ := hS.pos (by omega)
    by_cases hr : es.length + 1 ≤ c
    · exact insert_shift F w g c i es vb e hS hn hv (fun e => hne (e ▸ hF)) (by omega) hr
    · exact insert_grow F w g c i es vb e hS hn hv (by omega) hr

def errVal (r : Int) : Value := .iface 75 (.int .i64 r)

/-- Add's answer (0: none), and the edges then. -/
def addBad (n : Nat) (id a b : Int) : Prop := id < 0 ∨ 1099511627776 < id ∨ a < 0 ∨ (n : Int) ≤ a ∨ b < 0 ∨ (n : Int) ≤ b
instance (n : Nat) (id a b : Int) : Decidable (addBad n id a b) := by unfold addBad; infer_instance
def mkE (id a b : Int) : E := ⟨id.toNat, (min a b).toNat, (max a b).toNat⟩
def addEs (n : Nat) (es : List E) (id a b : Int) : List E :=
  if addBad n id a b ∨ a = b ∨ hasId es id = true ∨ 120 ≤ es.length then es else ins es (posOf es id) (mkE id a b)
def addErr (n : Nat) (es : List E) (id a b : Int) : Int :=
  if addBad n id a b then 2 else if a = b then 1 else if hasId es id = true then 9 else if 120 ≤ es.length then 12 else 0

def AddPost (F : Nat → Prop) (w : World) (g n : Nat) (es : List E) (id a b : Int) (e : Ending) (w' : World) : Prop :=
  e = .returned (if addErr n es id a b = 0 then .nilIface else errVal (addErr n es id a b)) ∧ Gr (fun k => F k ∨ w.heap.size ≤ k) w' g n (addEs n es id a b) ∧ Keep F w w'

theorem AddPost.err {F : Nat → Prop} {w w' : World} {g n : Nat} {es : List E} {id a b r : Int} (hG : Gr F w g n es) (hk : Keep Nb w w') (h1 : addErr n es id a b = r) (h2 : addEs n es id a b = es) (h0 : r ≠ 0) :
    AddPost F w g n es id a b (.returned (.iface 75 (.int .i64 r))) w' := by
  refine ⟨by rw [h1, if_neg h0]; rfl, ?_, hk.of_nb⟩
  rw [h2]
  exact (hG.keep hk (fun _ _ h => h)).mono (fun _ h => .inl h)

set_option maxRecDepth 100000 in
set_option maxHeartbeats 1000000 in
theorem add_bad (F : Nat → Prop) (w : World) (g n : Nat) (es : List E) (id a b : Int) (hG : Gr F w g n es) (hb : addBad n id a b) :
    Calls Try.prog 54 #[.pointer (some ⟨g, 0, none⟩), .int .i64 id, .int .i64 a, .int .i64 b] w (AddPost F w g n es id a b) := by
  have hP : AddPost F w g n es id a b (.returned (.iface 75 (.int .i64 2))) w :=
    AddPost.err hG (Keep.refl Nb w) (by unfold addErr; rw [if_pos hb]) (by unfold addEs; rw [if_pos (.inl hb)]) (by omega)
  obtain ⟨o, c, hM⟩ := hG
  have c0 := hM.head.cell (i := 0) rfl
  have HP := Lib.hid hP
  clear hP hM
  unfold addBad at hb
  by_cases h1 : id < 0
  · clear hb
    go_enter Try.func54, Try.ntmps54
    go_wp2
    go_ret
    exact HP.out
  · by_cases h2 : 1099511627776 < id
    · clear hb
      go_enter Try.func54, Try.ntmps54
      go_wp2
      go_ret
      exact HP.out
    · by_cases h3 : a < 0
      · clear hb
        go_enter Try.func54, Try.ntmps54
        go_wp2
        go_ret
        exact HP.out
      · by_cases h4 : (n : Int) ≤ a
        · clear hb
          go_enter Try.func54, Try.ntmps54
          go_wp2
          go_ret
          exact HP.out
        · by_cases h5 : b < 0
          · clear hb
            go_enter Try.func54, Try.ntmps54
            go_wp2
            go_ret
            exact HP.out
          · have h6 : (n : Int) ≤ b := by omega
            clear hb
            go_enter Try.func54, Try.ntmps54
            go_wp2
            go_ret
            exact HP.out

end Go.Proofs.Ytkpoobnldgfapaa
