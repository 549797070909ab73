/- append: what it leaves, as an equation on its run. Nothing of one program stands here. -/
import Derived.Test.YtkpoobnldgfapaaMem
namespace Go.Proofs.Ytkpoobnldgfapaa
open Go.RowKit

/-- The block of a slice's address. -/
def Bl (o : Option Addr) : Nat → Prop := fun k => ∃ a, o = some a ∧ a.block = k

/-- The row of an element type in the program's table. -/
def ElemT (P : Program) (e : TypeId) (z : Value) (size bytes : Nat) : Prop := (P.info? e).map (fun i => (i.zero, i.size, i.bytes)) = some (some z, size, bytes)

theorem Keep.of_grown {w w' : World} {o : Option Addr} {n c : Nat} (h : w.grownBy w' (Value.slice o n c).ownBlock) : Keep (Bl o) w w' := by
  refine ⟨h.os, h.tape, h.output, h.size, fun k hk hn => h.block k hk (fun e => hn ?_)⟩
  cases o with
  | none => simp [Value.ownBlock] at e
  | some a => simp [Value.ownBlock] at e; exact ⟨a, rfl, e.symm⟩

/-- 'append(s, x..)': the new value, where it lies, and that nothing but its old row has turned. -/
theorem run_app {P : Program} {w : World} {F : Nat → Prop} (t ty e : TypeId) {z : Value} {size bytes : Nat} (ht : P.underlying t = some (.slice e)) (hE : ElemT P e z size bytes)
    (hzs : z.cells.size = size) (hsz : 0 < size) {o : Option Addr} {n c : Nat} {xs : List Value} (hS : Sl F w e size o n c xs)
    (a : Addr) (m c2 : Nat) (news : List Value) (hl : news.length = m * size) (hnews : ∀ j u, news[j]? = some u → w.cell? (a.add j) = some u) (h1 : ∀ u ∈ news, u.oneCell' = true)
    (h63 : n + m ≤ maxLen) (hbytes : (n + m) * bytes ≤ 140737488355328) (hm : 0 < m) :
    ∃ g c' w', (Builtin.append_ #[t, t] ty #[.slice o n c, .slice (some a) m c2]).run P w = .ok (.slice (some ⟨g, 0, none⟩) (n + m) c') w' ∧
      Sl (fun k => F k ∨ k = w.heap.size) w' e size (some ⟨g, 0, none⟩) (n + m) c' (xs ++ news) ∧ Keep (Bl o) w w' ∧ (o = some ⟨g, 0, none⟩ ∨ g = w.heap.size) := by
  obtain ⟨i, hi, hz, hsize, hby⟩ := info_parts hE
  subst hsize
  subst hby
  have hown := hS.own
  have hsmall : n + m ≤ 9223372036854775807 := by simp only [maxLen] at h63; omega
  have hlen : (xs ++ news).length = (n + m) * i.size := by rw [List.length_append, hown.1, hl, Nat.add_mul]
  have grown : ∀ (old : Nat), old < n + m →
      Sl (fun k => F k ∨ k = w.heap.size) (w.drew.alloc (.cells (xs.toArray ++ news.toArray ++ Builtin.zeroCells z.cells (grownCap w (n + m) old e - (n + m))) e)) e i.size
        (some ⟨w.heap.size, 0, none⟩) (n + m) (grownCap w (n + m) old e) (xs ++ news) ∧
      Keep (Bl o) w (w.drew.alloc (.cells (xs.toArray ++ news.toArray ++ Builtin.zeroCells z.cells (grownCap w (n + m) old e - (n + m))) e)) := by
    intro old ho
    have hge := grownCap_ge w (n + m) old e
    have hcm : grownCap w (n + m) old e ≤ maxLen := grownCap_le_maxLen w (n + m) old e h63
    refine ⟨⟨⟨hlen, .inr ⟨w.heap.size, _, _, rfl, Nat.zero_le _, heap_alloc_new w.drew _, hge, hcm, ?_, ?_⟩⟩, fun a ha => by simp at ha; exact .inr (by rw [← ha])⟩, ((Keep.refl (Bl o) w).drew).alloc _⟩
    · simp only [Array.size_append, List.size_toArray, size_zeroCells, hzs, hown.1, hl, ← Nat.add_mul]
      congr 1
      omega
    · simp only [Array.toList_append, List.append_assoc]
      rw [← List.append_assoc, ← hlen]
      exact List.take_left
  rcases hown.2 with ⟨ev, hn⟩ | ⟨g, cap, cur, ev, _, hg, hnc, hcm, hcs, htake⟩
  · simp only [Value.slice.injEq] at ev
    obtain ⟨rfl, rfl, rfl⟩ := ev
    have hx : xs = [] := List.eq_nil_of_length_eq_zero (by simpa using hown.1)
    subst hx
    have hr := run_append_nil (P := P) w t ty e i z ht hi hz a m c2 news hl hnews hm (by omega) (by have hb := hbytes; simp only [Nat.zero_add] at hb; omega)
    have hgr := grown 0 (by omega)
    simp only [Nat.zero_add, List.nil_append, Array.empty_append] at hgr ⊢
    exact ⟨_, _, _, hr, hgr.1, hgr.2, .inr rfl⟩
  · simp only [Value.slice.injEq, true_and] at ev
    obtain ⟨rfl, rfl⟩ := ev
    by_cases hroom : n + m ≤ c
    · have hfit : n * i.size + news.length ≤ cur.size := by rw [hl, hcs, ← Nat.add_mul]; exact Nat.mul_le_mul_right _ hroom
      have hr := run_append_room (P := P) w t ty e i ht hi g n c cur hg a m c2 news hl hnews h1 hroom hfit
      refine ⟨_, _, _, hr, ⟨⟨hlen, .inr ⟨g, c, _, rfl, Nat.zero_le _, setRow_heap w g cur _ e _ hg, hroom, hcm, ?_, ?_⟩⟩, fun a ha => .inl (hS.foot a ha)⟩, ?_, .inl rfl⟩
      · simp only [List.size_toArray, List.length_append, List.length_take, List.length_drop, Array.length_toList]
        omega
      · rw [htake, ← hlen]
        exact List.take_left
      · exact ⟨rfl, rfl, rfl, by simp, fun k _ hk => setRow_other w g k _ (fun e => hk ⟨_, rfl, e.symm⟩)⟩
    · have holds : ∀ j u, xs[j]? = some u → w.cell? ((⟨g, 0, none⟩ : Addr).add j) = some u := hown.cells (g := g) rfl
      have hr := run_append_grow (P := P) w t ty e i z ht hi hz ⟨g, 0, none⟩ n c xs hown.1 holds a m c2 news hl hnews (by omega) (by omega) (growslice_fits (by omega) hbytes)
      have hgr := grown c (by omega)
      exact ⟨_, _, _, hr, hgr.1, hgr.2, .inr rfl⟩

/-- 'append(s, x)', x one cell: x lies in the block that buildSlice has just laid. -/
theorem run_app1 {P : Program} {w : World} {F : Nat → Prop} (t ty e : TypeId) {z : Value} {bytes : Nat} (ht : P.underlying t = some (.slice e)) (hE : ElemT P e z 1 bytes)
    (hzs : z.cells.size = 1) {o : Option Addr} {n c : Nat} {xs : List Value} (hS : Sl F w e 1 o n c xs) (x : Value) (hx : x.oneCell' = true)
    (h63 : n + 1 ≤ 1000000) (hbytes : bytes ≤ 1000000) :
    ∃ g c' w', (Builtin.append_ #[t, t] ty #[.slice o n c, .slice (some ⟨w.heap.size, 0, none⟩) 1 1]).run P (w.alloc (.cells #[x] e)) = .ok (.slice (some ⟨g, 0, none⟩) (n + 1) c') w' ∧
      Sl (fun k => F k ∨ k = w.heap.size + 1) w' e 1 (some ⟨g, 0, none⟩) (n + 1) c' (xs ++ [x]) ∧ Keep (Bl o) w w' ∧ (o = some ⟨g, 0, none⟩ ∨ g = w.heap.size + 1) := by
  have hcell : ∀ j u, [x][j]? = some u → (w.alloc (.cells #[x] e)).cell? ((⟨w.heap.size, 0, none⟩ : Addr).add j) = some u := by
    intro j u hj
    have : j = 0 := by
      have := (List.getElem?_eq_some_iff.1 hj).1
      simp at this; exact this
    subst this
    simp at hj; subst hj
    show (w.alloc (.cells #[x] e)).cell? ⟨w.heap.size, 0, none⟩ = _
    rw [World.cell?_alloc_at _ _ _ _ rfl]; rfl
  have hb : (n + 1) * bytes ≤ 140737488355328 := by
    have := Nat.mul_le_mul h63 hbytes
    omega
  obtain ⟨g, c', w', h1, h2, h3, h4⟩ := run_app (P := P) (w := w.alloc (.cells #[x] e)) t ty e ht hE hzs (by omega) (hS.alloc _) ⟨w.heap.size, 0, none⟩ 1 1 [x] rfl hcell
    (by intro u hu; simp at hu; rw [hu]; exact hx) (by simp only [maxLen]; omega) hb (by omega)
  simp only [World.size_alloc] at h2 h4
  exact ⟨g, c', w', h1, h2, ((Keep.refl (Bl o) w).alloc _).trans h3, h4⟩

/-- .. x of several cells. -/
theorem run_appN {P : Program} {w : World} {F : Nat → Prop} (t ty e : TypeId) {z : Value} {size bytes : Nat} (ht : P.underlying t = some (.slice e)) (hE : ElemT P e z size bytes)
    (hzs : z.cells.size = size) (hsz : 0 < size) {o : Option Addr} {n c : Nat} {xs : List Value} (hS : Sl F w e size o n c xs) (x : List Value) (m : Nat) (hx : ∀ u ∈ x, u.oneCell' = true) (hl : x.length = m * size) (hm : 0 < m)
    (h63 : n + m ≤ 1000000) (hbytes : bytes ≤ 1000000) :
    ∃ g c' w', (Builtin.append_ #[t, t] ty #[.slice o n c, .slice (some ⟨w.heap.size, 0, none⟩) m m]).run P (w.alloc (.cells x.toArray e)) = .ok (.slice (some ⟨g, 0, none⟩) (n + m) c') w' ∧
      Sl (fun k => F k ∨ k = w.heap.size + 1) w' e size (some ⟨g, 0, none⟩) (n + m) c' (xs ++ x) ∧ Keep (Bl o) w w' ∧ (o = some ⟨g, 0, none⟩ ∨ g = w.heap.size + 1) := by
  have hcell : ∀ j u, x[j]? = some u → (w.alloc (.cells x.toArray e)).cell? ((⟨w.heap.size, 0, none⟩ : Addr).add j) = some u := by
    intro j u hj
    rw [show (⟨w.heap.size, 0, none⟩ : Addr).add j = ⟨w.heap.size, j, none⟩ from by unfold Addr.add; split <;> simp_all]
    rw [World.cell?_alloc_at _ _ _ _ rfl]
    simpa using hj
  have hb : (n + m) * bytes ≤ 140737488355328 := by
    have := Nat.mul_le_mul h63 hbytes
    omega
  obtain ⟨g, c', w', h1, h2, h3, h4⟩ := run_app (P := P) (w := w.alloc (.cells x.toArray e)) t ty e ht hE hzs hsz (hS.alloc _) ⟨w.heap.size, 0, none⟩ m m x hl hcell
    hx (by simp only [maxLen]; omega) hb hm
  simp only [World.size_alloc] at h2 h4
  exact ⟨g, c', w', h1, h2, ((Keep.refl (Bl o) w).alloc _).trans h3, h4⟩

/-- At the operation, for the walk: 'append' by an equation on its run. -/
theorem wpList_app {P : Program} {w w' : World} {ops : Array Oper} {rest : List Oper} {o : Oper} {a : Act} {Q : Exit → Act → World → Prop} (hg : o.guard = none) (s x : Operand) (t : TypeId)
    (hop : o.op = Op.call { callee := Callee.builtin Builtin.append, args := #[s, x], argTypes := #[t, t] }) {v vx v' : Value} (hs : a.eval s = v) (hx : a.eval x = vx)
    (hrun : (Builtin.append_ #[t, t] o.type #[v, vx]).run P w = .ok v' w') (h : wpList P ops Q rest (a.put o.dst v') w') : wpList P ops Q (o :: rest) a w := by
  refine wpList_plain hg fun K' hK' => ?_
  unfold Oper.wp execOp
  simp only [hop, resolve, invoke, builtin, Sem.run_bind, Sem.run_pure, Result.andThen_ok, List.map_toArray, List.map_cons, List.map_nil, hs, hx, hrun]
  exact hK' _ _ h

theorem Bl_none (k : Nat) : ¬ Bl none k := by rintro ⟨a, ha, _⟩; cases ha
theorem Keep.of_none {w w' : World} (h : Keep (Bl none) w w') : Keep Nb w w' := h.mono (fun k _ hk => absurd hk (Bl_none k))

/-- 'append(nil, x)'. -/
theorem run_app_nil1 {P : Program} {w : World} (F : Nat → Prop) (t ty e : TypeId) {z : Value} {bytes : Nat} (ht : P.underlying t = some (.slice e)) (hE : ElemT P e z 1 bytes)
    (hzs : z.cells.size = 1) (x : Value) (hx : x.oneCell' = true) (hbytes : bytes ≤ 1000000) :
    ∃ g c' w', (Builtin.append_ #[t, t] ty #[.slice none 0 0, .slice (some ⟨w.heap.size, 0, none⟩) 1 1]).run P (w.alloc (.cells #[x] e)) = .ok (.slice (some ⟨g, 0, none⟩) 1 c') w' ∧
      Sl (fun k => F k ∨ k = w.heap.size + 1) w' e 1 (some ⟨g, 0, none⟩) 1 c' [x] ∧ Keep Nb w w' ∧ g = w.heap.size + 1 := by
  obtain ⟨g, c', w', h1, h2, h3, h4⟩ := run_app1 (P := P) t ty e ht hE hzs (Sl.nil F w e 1) x hx (by omega) hbytes
  refine ⟨g, c', w', h1, h2, h3.of_none, ?_⟩
  rcases h4 with h4 | h4
  · cases h4
  · exact h4

end Go.Proofs.Ytkpoobnldgfapaa
