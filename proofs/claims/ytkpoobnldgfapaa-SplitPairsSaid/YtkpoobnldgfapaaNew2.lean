/- sets.New. -/
import Derived.Test.YtkpoobnldgfapaaNew1
namespace Go.Proofs.Ytkpoobnldgfapaa
open Go.RowKit Pl

theorem step_value {P : Program} {ops : Array Oper} {K : Act → World → Prop} {Q : Exit → Act → World → Prop} {E : Prop} {o : Oper} {a : Act} {w w' : World} {v : Value} (hg : o.guard = none)
    (hrun : (execOp a.eval o).run P w = .ok (.value v) w') (h : K (a.put o.dst v) w') : if Region.wanted o (yielded ops a.tmps) = true then o.wp P a w K Q else E := by
  rw [if_pos (by simp [Region.wanted, hg])]
  unfold Oper.wp
  rw [hrun]
  exact h

theorem step_skip {P : Program} {ops : Array Oper} {K : Act → World → Prop} {Q : Exit → Act → World → Prop} {E : Prop} {o : Oper} {a : Act} {w w' : World} (hg : o.guard = none) (hd : o.dst = none)
    (hrun : (execOp a.eval o).run P w = .ok .skip w') (h : K a w') : if Region.wanted o (yielded ops a.tmps) = true then o.wp P a w K Q else E := by
  rw [if_pos (by simp [Region.wanted, hg])]
  unfold Oper.wp
  rw [hrun]
  show K (a.put o.dst undef) w'
  rw [hd]; exact h

section
variable (P : Program) (w : World) (ev : Operand → Value)
theorem run_move {o : Oper} {x : Operand} {v : Value} (ho : o.op = .move x) (hx : ev x = v) : (execOp ev o).run P w = .ok (.value v) w := by
  simp [execOp, ho, hx]
theorem run_nilCheck {o : Oper} {x : Operand} {a : Addr} (ho : o.op = .nilCheck x) (hx : ev x = .pointer (some a)) : (execOp ev o).run P w = .ok (.value (.pointer (some a))) w := by
  simp [execOp, ho, hx, go_sem]
end

section
variable (w : World) (ev : Operand → Value)
theorem run_field0 {o : Oper} {x : Operand} {b : Nat} (ho : o.op = .fieldAddr 77 x 0) (hx : ev x = .pointer (some ⟨b, 0, none⟩)) : (execOp ev o).run Try.prog w = .ok (.value (.pointer (some ⟨b, 0, none⟩))) w := by
  simp [execOp, ho, hx, go_sem]
theorem run_field1 {o : Oper} {x : Operand} {b : Nat} (ho : o.op = .fieldAddr 77 x 1) (hx : ev x = .pointer (some ⟨b, 0, none⟩)) : (execOp ev o).run Try.prog w = .ok (.value (.pointer (some ⟨b, 1, none⟩))) w := by
  simp [execOp, ho, hx, go_sem]
theorem run_field2 {o : Oper} {x : Operand} {b : Nat} (ho : o.op = .fieldAddr 77 x 2) (hx : ev x = .pointer (some ⟨b, 0, none⟩)) : (execOp ev o).run Try.prog w = .ok (.value (.pointer (some ⟨b, 2, none⟩))) w := by
  simp [execOp, ho, hx, go_sem]
theorem run_load_ints {o : Oper} {x : Operand} {a : Addr} {v : Value} (ho : o.op = .load 37 x) (hx : ev x = .pointer (some a)) (hc : w.cell? a = some v) : (execOp ev o).run Try.prog w = .ok (.value v) w := by
  simp [execOp, ho, hx, hc, go_sem]
theorem run_store_ints {o : Oper} {x y : Operand} {a : Addr} {v u : Value} {so : Option Addr} {n c : Nat} (ho : o.op = .store 37 x y) (hx : ev x = .pointer (some a)) (hy : ev y = v) (hv : v = .slice so n c) (hc : w.cell? a = some u) (hf : w.frozen? a = false) : (execOp ev o).run Try.prog w = .ok .skip (w.setCell a v) := by
  subst hv
  simp [execOp, ho, hx, hy, hc, hf, go_sem]
theorem run_build1 {o : Oper} {x : Operand} {v : Value} {k : Int} (ho : o.op = .buildSlice 37 1 #[(0, x)]) (hx : ev x = v) (hv : v = .int .i64 k) : (execOp ev o).run Try.prog w = .ok (.value (.slice (some ⟨w.heap.size, 0, none⟩) 1 1)) (w.alloc (.cells #[v] 3)) := by
  subst hv
  simp [execOp, ho, hx, go_sem]
end

/- GEN -/
/-- The operations of the region with that number. -/
def regionOf (id : Nat) : Code → Option (Array Oper)
  | .region i ops _ => if i == id then some ops else none
  | .seq a b => match regionOf id a with
    | some x => some x
    | none => regionOf id b
  | .cond _ a b => match regionOf id a with
    | some x => some x
    | none => regionOf id b
  | .block _ c => regionOf id c
  | .loop c => regionOf id c
  | .scope c => regionOf id c
  | _ => none

noncomputable def newOps : Array Oper := ((Try.f12.body.bind (regionOf 7)).getD #[])

theorem newOrd : Ordered newOps = true := by kernel_rfl
theorem newSize : newOps.size = 32 := by kernel_rfl
theorem newOp0 : (newOps[0]?).map (fun o => (o.dst, o.op, o.guard)) = some (some 20, .move (.tmp 4), none) := by kernel_rfl
theorem newOp1 : (newOps[1]?).map (fun o => (o.dst, o.op, o.guard)) = some (some 21, .move (.tmp 4), none) := by kernel_rfl
theorem newOp2 : (newOps[2]?).map (fun o => (o.dst, o.op, o.guard)) = some (some 22, .move (.tmp 4), none) := by kernel_rfl
theorem newOp3 : (newOps[3]?).map (fun o => (o.dst, o.op, o.guard)) = some (some 23, .move (.tmp 4), none) := by kernel_rfl
theorem newOp4 : (newOps[4]?).map (fun o => (o.dst, o.op, o.guard)) = some (some 24, .nilCheck (.tmp 23), none) := by kernel_rfl
theorem newOp5 : (newOps[5]?).map (fun o => (o.dst, o.op, o.guard)) = some (some 25, .fieldAddr 77 (.tmp 24) 0, none) := by kernel_rfl
theorem newOp6 : (newOps[6]?).map (fun o => (o.dst, o.op, o.guard)) = some (some 26, .load 37 (.tmp 25), none) := by kernel_rfl
theorem newOp7 : (newOps[7]?).map (fun o => (o.dst, o.op, o.guard)) = some (some 27, .move (.tmp 5), none) := by kernel_rfl
theorem newOp8 : (newOps[8]?).map (fun o => (o.dst, o.op, o.guard)) = some (some 28, .buildSlice 37 1 #[(0, (.tmp 27))], none) := by kernel_rfl
theorem newOp9 : (newOps[9]?).map (fun o => (o.dst, o.op, o.guard)) = some (some 29, .call { callee := .builtin .append, args := #[(.tmp 26), (.tmp 28)], argTypes := #[37, 37] }, none) := by kernel_rfl
theorem newOp10 : (newOps[10]?).map (fun o => (o.dst, o.op, o.guard)) = some (some 30, .move (.tmp 4), none) := by kernel_rfl
theorem newOp11 : (newOps[11]?).map (fun o => (o.dst, o.op, o.guard)) = some (some 31, .nilCheck (.tmp 30), none) := by kernel_rfl
theorem newOp12 : (newOps[12]?).map (fun o => (o.dst, o.op, o.guard)) = some (some 32, .fieldAddr 77 (.tmp 31) 1, none) := by kernel_rfl
theorem newOp13 : (newOps[13]?).map (fun o => (o.dst, o.op, o.guard)) = some (some 33, .load 37 (.tmp 32), none) := by kernel_rfl
theorem newOp14 : (newOps[14]?).map (fun o => (o.dst, o.op, o.guard)) = some (some 34, .buildSlice 37 1 #[(0, (.const (.int .i64 1)))], none) := by kernel_rfl
theorem newOp15 : (newOps[15]?).map (fun o => (o.dst, o.op, o.guard)) = some (some 35, .call { callee := .builtin .append, args := #[(.tmp 33), (.tmp 34)], argTypes := #[37, 37] }, none) := by kernel_rfl
theorem newOp16 : (newOps[16]?).map (fun o => (o.dst, o.op, o.guard)) = some (some 36, .move (.tmp 4), none) := by kernel_rfl
theorem newOp17 : (newOps[17]?).map (fun o => (o.dst, o.op, o.guard)) = some (some 37, .nilCheck (.tmp 36), none) := by kernel_rfl
theorem newOp18 : (newOps[18]?).map (fun o => (o.dst, o.op, o.guard)) = some (some 38, .fieldAddr 77 (.tmp 37) 2, none) := by kernel_rfl
theorem newOp19 : (newOps[19]?).map (fun o => (o.dst, o.op, o.guard)) = some (some 39, .load 37 (.tmp 38), none) := by kernel_rfl
theorem newOp20 : (newOps[20]?).map (fun o => (o.dst, o.op, o.guard)) = some (some 40, .move (.tmp 5), none) := by kernel_rfl
theorem newOp21 : (newOps[21]?).map (fun o => (o.dst, o.op, o.guard)) = some (some 41, .buildSlice 37 1 #[(0, (.tmp 40))], none) := by kernel_rfl
theorem newOp22 : (newOps[22]?).map (fun o => (o.dst, o.op, o.guard)) = some (some 42, .call { callee := .builtin .append, args := #[(.tmp 39), (.tmp 41)], argTypes := #[37, 37] }, none) := by kernel_rfl
theorem newOp23 : (newOps[23]?).map (fun o => (o.dst, o.op, o.guard)) = some (some 43, .nilCheck (.tmp 20), none) := by kernel_rfl
theorem newOp24 : (newOps[24]?).map (fun o => (o.dst, o.op, o.guard)) = some (some 44, .fieldAddr 77 (.tmp 43) 0, none) := by kernel_rfl
theorem newOp25 : (newOps[25]?).map (fun o => (o.dst, o.op, o.guard)) = some (none, .store 37 (.tmp 44) (.tmp 29), none) := by kernel_rfl
theorem newOp26 : (newOps[26]?).map (fun o => (o.dst, o.op, o.guard)) = some (some 45, .nilCheck (.tmp 21), none) := by kernel_rfl
theorem newOp27 : (newOps[27]?).map (fun o => (o.dst, o.op, o.guard)) = some (some 46, .fieldAddr 77 (.tmp 45) 1, none) := by kernel_rfl
theorem newOp28 : (newOps[28]?).map (fun o => (o.dst, o.op, o.guard)) = some (none, .store 37 (.tmp 46) (.tmp 35), none) := by kernel_rfl
theorem newOp29 : (newOps[29]?).map (fun o => (o.dst, o.op, o.guard)) = some (some 47, .nilCheck (.tmp 22), none) := by kernel_rfl
theorem newOp30 : (newOps[30]?).map (fun o => (o.dst, o.op, o.guard)) = some (some 48, .fieldAddr 77 (.tmp 47) 2, none) := by kernel_rfl
theorem newOp31 : (newOps[31]?).map (fun o => (o.dst, o.op, o.guard)) = some (none, .store 37 (.tmp 48) (.tmp 42), none) := by kernel_rfl
theorem newTab0 {b k cu cs cl : Nat} {ou os ol : Option Addr} : ∀ e ∈ newTab b k cu cs cl ou os ol, (e.1 = 0 ↔ e.2.1 = 20) ∧ (e.1 = 0 → e.2.2 = .pointer (some ⟨b, 0, none⟩)) := by
  intro e he
  simp only [newTab, List.mem_cons, List.not_mem_nil, or_false] at he
  rcases he with rfl | rfl | rfl | rfl | rfl | rfl | rfl | rfl | rfl | rfl | rfl | rfl | rfl | rfl | rfl | rfl | rfl | rfl | rfl | rfl | rfl | rfl | rfl <;> simp
theorem newTab1 {b k cu cs cl : Nat} {ou os ol : Option Addr} : ∀ e ∈ newTab b k cu cs cl ou os ol, (e.1 = 1 ↔ e.2.1 = 21) ∧ (e.1 = 1 → e.2.2 = .pointer (some ⟨b, 0, none⟩)) := by
  intro e he
  simp only [newTab, List.mem_cons, List.not_mem_nil, or_false] at he
  rcases he with rfl | rfl | rfl | rfl | rfl | rfl | rfl | rfl | rfl | rfl | rfl | rfl | rfl | rfl | rfl | rfl | rfl | rfl | rfl | rfl | rfl | rfl | rfl <;> simp
theorem newTab2 {b k cu cs cl : Nat} {ou os ol : Option Addr} : ∀ e ∈ newTab b k cu cs cl ou os ol, (e.1 = 2 ↔ e.2.1 = 22) ∧ (e.1 = 2 → e.2.2 = .pointer (some ⟨b, 0, none⟩)) := by
  intro e he
  simp only [newTab, List.mem_cons, List.not_mem_nil, or_false] at he
  rcases he with rfl | rfl | rfl | rfl | rfl | rfl | rfl | rfl | rfl | rfl | rfl | rfl | rfl | rfl | rfl | rfl | rfl | rfl | rfl | rfl | rfl | rfl | rfl <;> simp
theorem newTab3 {b k cu cs cl : Nat} {ou os ol : Option Addr} : ∀ e ∈ newTab b k cu cs cl ou os ol, (e.1 = 3 ↔ e.2.1 = 23) ∧ (e.1 = 3 → e.2.2 = .pointer (some ⟨b, 0, none⟩)) := by
  intro e he
  simp only [newTab, List.mem_cons, List.not_mem_nil, or_false] at he
  rcases he with rfl | rfl | rfl | rfl | rfl | rfl | rfl | rfl | rfl | rfl | rfl | rfl | rfl | rfl | rfl | rfl | rfl | rfl | rfl | rfl | rfl | rfl | rfl <;> simp
theorem newTab4 {b k cu cs cl : Nat} {ou os ol : Option Addr} : ∀ e ∈ newTab b k cu cs cl ou os ol, (e.1 = 4 ↔ e.2.1 = 24) ∧ (e.1 = 4 → e.2.2 = .pointer (some ⟨b, 0, none⟩)) := by
  intro e he
  simp only [newTab, List.mem_cons, List.not_mem_nil, or_false] at he
  rcases he with rfl | rfl | rfl | rfl | rfl | rfl | rfl | rfl | rfl | rfl | rfl | rfl | rfl | rfl | rfl | rfl | rfl | rfl | rfl | rfl | rfl | rfl | rfl <;> simp
theorem newTab5 {b k cu cs cl : Nat} {ou os ol : Option Addr} : ∀ e ∈ newTab b k cu cs cl ou os ol, (e.1 = 5 ↔ e.2.1 = 25) ∧ (e.1 = 5 → e.2.2 = .pointer (some ⟨b, 0, none⟩)) := by
  intro e he
  simp only [newTab, List.mem_cons, List.not_mem_nil, or_false] at he
  rcases he with rfl | rfl | rfl | rfl | rfl | rfl | rfl | rfl | rfl | rfl | rfl | rfl | rfl | rfl | rfl | rfl | rfl | rfl | rfl | rfl | rfl | rfl | rfl <;> simp
theorem newTab6 {b k cu cs cl : Nat} {ou os ol : Option Addr} : ∀ e ∈ newTab b k cu cs cl ou os ol, (e.1 = 6 ↔ e.2.1 = 26) ∧ (e.1 = 6 → e.2.2 = .slice ou k cu) := by
  intro e he
  simp only [newTab, List.mem_cons, List.not_mem_nil, or_false] at he
  rcases he with rfl | rfl | rfl | rfl | rfl | rfl | rfl | rfl | rfl | rfl | rfl | rfl | rfl | rfl | rfl | rfl | rfl | rfl | rfl | rfl | rfl | rfl | rfl <;> simp
theorem newTab7 {b k cu cs cl : Nat} {ou os ol : Option Addr} : ∀ e ∈ newTab b k cu cs cl ou os ol, (e.1 = 7 ↔ e.2.1 = 27) ∧ (e.1 = 7 → e.2.2 = .int .i64 k) := by
  intro e he
  simp only [newTab, List.mem_cons, List.not_mem_nil, or_false] at he
  rcases he with rfl | rfl | rfl | rfl | rfl | rfl | rfl | rfl | rfl | rfl | rfl | rfl | rfl | rfl | rfl | rfl | rfl | rfl | rfl | rfl | rfl | rfl | rfl <;> simp
theorem newTab10 {b k cu cs cl : Nat} {ou os ol : Option Addr} : ∀ e ∈ newTab b k cu cs cl ou os ol, (e.1 = 10 ↔ e.2.1 = 30) ∧ (e.1 = 10 → e.2.2 = .pointer (some ⟨b, 0, none⟩)) := by
  intro e he
  simp only [newTab, List.mem_cons, List.not_mem_nil, or_false] at he
  rcases he with rfl | rfl | rfl | rfl | rfl | rfl | rfl | rfl | rfl | rfl | rfl | rfl | rfl | rfl | rfl | rfl | rfl | rfl | rfl | rfl | rfl | rfl | rfl <;> simp
theorem newTab11 {b k cu cs cl : Nat} {ou os ol : Option Addr} : ∀ e ∈ newTab b k cu cs cl ou os ol, (e.1 = 11 ↔ e.2.1 = 31) ∧ (e.1 = 11 → e.2.2 = .pointer (some ⟨b, 0, none⟩)) := by
  intro e he
  simp only [newTab, List.mem_cons, List.not_mem_nil, or_false] at he
  rcases he with rfl | rfl | rfl | rfl | rfl | rfl | rfl | rfl | rfl | rfl | rfl | rfl | rfl | rfl | rfl | rfl | rfl | rfl | rfl | rfl | rfl | rfl | rfl <;> simp
theorem newTab12 {b k cu cs cl : Nat} {ou os ol : Option Addr} : ∀ e ∈ newTab b k cu cs cl ou os ol, (e.1 = 12 ↔ e.2.1 = 32) ∧ (e.1 = 12 → e.2.2 = .pointer (some ⟨b, 1, none⟩)) := by
  intro e he
  simp only [newTab, List.mem_cons, List.not_mem_nil, or_false] at he
  rcases he with rfl | rfl | rfl | rfl | rfl | rfl | rfl | rfl | rfl | rfl | rfl | rfl | rfl | rfl | rfl | rfl | rfl | rfl | rfl | rfl | rfl | rfl | rfl <;> simp
theorem newTab13 {b k cu cs cl : Nat} {ou os ol : Option Addr} : ∀ e ∈ newTab b k cu cs cl ou os ol, (e.1 = 13 ↔ e.2.1 = 33) ∧ (e.1 = 13 → e.2.2 = .slice os k cs) := by
  intro e he
  simp only [newTab, List.mem_cons, List.not_mem_nil, or_false] at he
  rcases he with rfl | rfl | rfl | rfl | rfl | rfl | rfl | rfl | rfl | rfl | rfl | rfl | rfl | rfl | rfl | rfl | rfl | rfl | rfl | rfl | rfl | rfl | rfl <;> simp
theorem newTab16 {b k cu cs cl : Nat} {ou os ol : Option Addr} : ∀ e ∈ newTab b k cu cs cl ou os ol, (e.1 = 16 ↔ e.2.1 = 36) ∧ (e.1 = 16 → e.2.2 = .pointer (some ⟨b, 0, none⟩)) := by
  intro e he
  simp only [newTab, List.mem_cons, List.not_mem_nil, or_false] at he
  rcases he with rfl | rfl | rfl | rfl | rfl | rfl | rfl | rfl | rfl | rfl | rfl | rfl | rfl | rfl | rfl | rfl | rfl | rfl | rfl | rfl | rfl | rfl | rfl <;> simp
theorem newTab17 {b k cu cs cl : Nat} {ou os ol : Option Addr} : ∀ e ∈ newTab b k cu cs cl ou os ol, (e.1 = 17 ↔ e.2.1 = 37) ∧ (e.1 = 17 → e.2.2 = .pointer (some ⟨b, 0, none⟩)) := by
  intro e he
  simp only [newTab, List.mem_cons, List.not_mem_nil, or_false] at he
  rcases he with rfl | rfl | rfl | rfl | rfl | rfl | rfl | rfl | rfl | rfl | rfl | rfl | rfl | rfl | rfl | rfl | rfl | rfl | rfl | rfl | rfl | rfl | rfl <;> simp
theorem newTab18 {b k cu cs cl : Nat} {ou os ol : Option Addr} : ∀ e ∈ newTab b k cu cs cl ou os ol, (e.1 = 18 ↔ e.2.1 = 38) ∧ (e.1 = 18 → e.2.2 = .pointer (some ⟨b, 2, none⟩)) := by
  intro e he
  simp only [newTab, List.mem_cons, List.not_mem_nil, or_false] at he
  rcases he with rfl | rfl | rfl | rfl | rfl | rfl | rfl | rfl | rfl | rfl | rfl | rfl | rfl | rfl | rfl | rfl | rfl | rfl | rfl | rfl | rfl | rfl | rfl <;> simp
theorem newTab19 {b k cu cs cl : Nat} {ou os ol : Option Addr} : ∀ e ∈ newTab b k cu cs cl ou os ol, (e.1 = 19 ↔ e.2.1 = 39) ∧ (e.1 = 19 → e.2.2 = .slice ol k cl) := by
  intro e he
  simp only [newTab, List.mem_cons, List.not_mem_nil, or_false] at he
  rcases he with rfl | rfl | rfl | rfl | rfl | rfl | rfl | rfl | rfl | rfl | rfl | rfl | rfl | rfl | rfl | rfl | rfl | rfl | rfl | rfl | rfl | rfl | rfl <;> simp
theorem newTab20 {b k cu cs cl : Nat} {ou os ol : Option Addr} : ∀ e ∈ newTab b k cu cs cl ou os ol, (e.1 = 20 ↔ e.2.1 = 40) ∧ (e.1 = 20 → e.2.2 = .int .i64 k) := by
  intro e he
  simp only [newTab, List.mem_cons, List.not_mem_nil, or_false] at he
  rcases he with rfl | rfl | rfl | rfl | rfl | rfl | rfl | rfl | rfl | rfl | rfl | rfl | rfl | rfl | rfl | rfl | rfl | rfl | rfl | rfl | rfl | rfl | rfl <;> simp
theorem newTab23 {b k cu cs cl : Nat} {ou os ol : Option Addr} : ∀ e ∈ newTab b k cu cs cl ou os ol, (e.1 = 23 ↔ e.2.1 = 43) ∧ (e.1 = 23 → e.2.2 = .pointer (some ⟨b, 0, none⟩)) := by
  intro e he
  simp only [newTab, List.mem_cons, List.not_mem_nil, or_false] at he
  rcases he with rfl | rfl | rfl | rfl | rfl | rfl | rfl | rfl | rfl | rfl | rfl | rfl | rfl | rfl | rfl | rfl | rfl | rfl | rfl | rfl | rfl | rfl | rfl <;> simp
theorem newTab24 {b k cu cs cl : Nat} {ou os ol : Option Addr} : ∀ e ∈ newTab b k cu cs cl ou os ol, (e.1 = 24 ↔ e.2.1 = 44) ∧ (e.1 = 24 → e.2.2 = .pointer (some ⟨b, 0, none⟩)) := by
  intro e he
  simp only [newTab, List.mem_cons, List.not_mem_nil, or_false] at he
  rcases he with rfl | rfl | rfl | rfl | rfl | rfl | rfl | rfl | rfl | rfl | rfl | rfl | rfl | rfl | rfl | rfl | rfl | rfl | rfl | rfl | rfl | rfl | rfl <;> simp
theorem newTab26 {b k cu cs cl : Nat} {ou os ol : Option Addr} : ∀ e ∈ newTab b k cu cs cl ou os ol, (e.1 = 26 ↔ e.2.1 = 45) ∧ (e.1 = 26 → e.2.2 = .pointer (some ⟨b, 0, none⟩)) := by
  intro e he
  simp only [newTab, List.mem_cons, List.not_mem_nil, or_false] at he
  rcases he with rfl | rfl | rfl | rfl | rfl | rfl | rfl | rfl | rfl | rfl | rfl | rfl | rfl | rfl | rfl | rfl | rfl | rfl | rfl | rfl | rfl | rfl | rfl <;> simp
theorem newTab27 {b k cu cs cl : Nat} {ou os ol : Option Addr} : ∀ e ∈ newTab b k cu cs cl ou os ol, (e.1 = 27 ↔ e.2.1 = 46) ∧ (e.1 = 27 → e.2.2 = .pointer (some ⟨b, 1, none⟩)) := by
  intro e he
  simp only [newTab, List.mem_cons, List.not_mem_nil, or_false] at he
  rcases he with rfl | rfl | rfl | rfl | rfl | rfl | rfl | rfl | rfl | rfl | rfl | rfl | rfl | rfl | rfl | rfl | rfl | rfl | rfl | rfl | rfl | rfl | rfl <;> simp
theorem newTab29 {b k cu cs cl : Nat} {ou os ol : Option Addr} : ∀ e ∈ newTab b k cu cs cl ou os ol, (e.1 = 29 ↔ e.2.1 = 47) ∧ (e.1 = 29 → e.2.2 = .pointer (some ⟨b, 0, none⟩)) := by
  intro e he
  simp only [newTab, List.mem_cons, List.not_mem_nil, or_false] at he
  rcases he with rfl | rfl | rfl | rfl | rfl | rfl | rfl | rfl | rfl | rfl | rfl | rfl | rfl | rfl | rfl | rfl | rfl | rfl | rfl | rfl | rfl | rfl | rfl <;> simp
theorem newTab30 {b k cu cs cl : Nat} {ou os ol : Option Addr} : ∀ e ∈ newTab b k cu cs cl ou os ol, (e.1 = 30 ↔ e.2.1 = 48) ∧ (e.1 = 30 → e.2.2 = .pointer (some ⟨b, 2, none⟩)) := by
  intro e he
  simp only [newTab, List.mem_cons, List.not_mem_nil, or_false] at he
  rcases he with rfl | rfl | rfl | rfl | rfl | rfl | rfl | rfl | rfl | rfl | rfl | rfl | rfl | rfl | rfl | rfl | rfl | rfl | rfl | rfl | rfl | rfl | rfl <;> simp

theorem opFacts {ops : Array Oper} {i : Nat} {o : Oper} {d : Option Tmp} {op : Op} {g : Option (Nat × Bool)} (ho : ops[i]? = some o) (h : (ops[i]?).map (fun o => (o.dst, o.op, o.guard)) = some (d, op, g)) : o.dst = d ∧ o.op = op ∧ o.guard = g := by
  rw [ho] at h
  simpa using h

theorem depFacts {ops : Array Oper} {done : Nat → Bool} {i j : Nat} {o : Oper} (ho : ops[i]? = some o) (hdeps : ∀ e ∈ o.after.toList, Region.binds .any e = true → done e.on = true)
    (h : (ops[i]?).map (fun o => o.after.toList.any fun e => Region.binds .any e && e.on == j) = some true) : done j = true := by
  rw [ho] at h
  simp only [Option.map_some, Option.some.injEq, List.any_eq_true, Bool.and_eq_true, beq_iff_eq] at h
  obtain ⟨e, he, hb, rfl⟩ := h
  exact hdeps e he hb

theorem closedDep {ops : Array Oper} {done : Nat → Bool} (hcl : Closed ops done) {i j : Nat} (h : (ops[i]?).map (fun o => o.after.toList.any fun e => Region.binds .any e && e.on == j) = some true) : done i = true → done j = true := by
  intro hd
  cases ho : ops[i]? with
  | none => rw [ho] at h; cases h
  | some o => exact depFacts ho (fun e he hb => hcl i o ho hd e he hb) h

theorem notYet {ops : Array Oper} {done : Nat → Bool} (hcl : Closed ops done) {i j : Nat} (h : (ops[i]?).map (fun o => o.after.toList.any fun e => Region.binds .any e && e.on == j) = some true) (hj : done j = false) : done i = false := by
  cases hd : done i with
  | false => rfl
  | true => rw [closedDep hcl h hd] at hj; cases hj

theorem run_append (w : World) (ev : Operand → Value) {o : Oper} {x y : Operand} {v vx v' : Value} {w' : World} (ho : o.op = .call { callee := .builtin .append, args := #[x, y], argTypes := #[37, 37] }) (hx : ev x = v) (hy : ev y = vx)
    (hrun : (Builtin.append_ #[37, 37] o.type #[v, vx]).run Try.prog w = .ok v' w') : (execOp ev o).run Try.prog w = .ok (.value v') w' := by
  unfold execOp
  simp only [ho, resolve, invoke, builtin, Sem.run_bind, Sem.run_pure, Result.andThen_ok, List.map_toArray, List.map_cons, List.map_nil, hx, hy, hrun]

set_option maxHeartbeats 1000000 in
theorem new_step {lo b k n cu cs cl : Nat} {ou os ol : Option Addr} {wr : World} {a0 : Act} (hk40 : k ≤ 40) (hlo : lo ≤ wr.heap.size) (h4 : a0.eval (.tmp 4) = .pointer (some ⟨b, 0, none⟩)) (h5 : a0.eval (.tmp 5) = .int .i64 k) (Q : Exit → Act → World → Prop)
    (done : Nat → Bool) (a : Act) (w : World) (i : Nat) (o : Oper) (ho : newOps[i]? = some o) (hu : done i = false) (hdeps : ∀ e ∈ o.after.toList, Region.binds .any e = true → done e.on = true) (hcl : Closed newOps done)
    (hI : NI lo b k n cu cs cl ou os ol wr a0 done a w) (K : Act → World → Prop) (hK : ∀ a' w', NI lo b k n cu cs cl ou os ol wr a0 (upd done i true) a' w' → K a' w') :
    if Region.wanted o (yielded newOps a.tmps) = true then o.wp Try.prog a w K Q else K (a.put o.dst undef) w := by
  have hI4 : ∀ a, NI lo b k n cu cs cl ou os ol wr a0 done a w → a.eval (.tmp 4) = .pointer (some ⟨b, 0, none⟩) := fun a h => (h.fr 4 (.inl (by omega))).trans h4
  have hI5 : ∀ a, NI lo b k n cu cs cl ou os ol wr a0 done a w → a.eval (.tmp 5) = .int .i64 k := fun a h => (h.fr 5 (.inl (by omega))).trans h5
  have hi : i < 32 := by have := (Array.getElem?_eq_some_iff.1 ho).1; rw [newSize] at this; exact this
  obtain rfl | rfl | rfl | rfl | rfl | rfl | rfl | rfl | rfl | rfl | rfl | rfl | rfl | rfl | rfl | rfl | rfl | rfl | rfl | rfl | rfl | rfl | rfl | rfl | rfl | rfl | rfl | rfl | rfl | rfl | rfl | rfl : i = 0 ∨ i = 1 ∨ i = 2 ∨ i = 3 ∨ i = 4 ∨ i = 5 ∨ i = 6 ∨ i = 7 ∨ i = 8 ∨ i = 9 ∨ i = 10 ∨ i = 11 ∨ i = 12 ∨ i = 13 ∨ i = 14 ∨ i = 15 ∨ i = 16 ∨ i = 17 ∨ i = 18 ∨ i = 19 ∨ i = 20 ∨ i = 21 ∨ i = 22 ∨ i = 23 ∨ i = 24 ∨ i = 25 ∨ i = 26 ∨ i = 27 ∨ i = 28 ∨ i = 29 ∨ i = 30 ∨ i = 31 := by omega
  · obtain ⟨hd, hop, hg⟩ := opFacts ho newOp0
    refine step_value hg (run_move _ _ _ hop (hI4 a hI)) ?_
    rw [hd]
    exact hK _ _ (hI.pure (by omega) (by omega) (by omega) (by omega) newTab0)
  · obtain ⟨hd, hop, hg⟩ := opFacts ho newOp1
    refine step_value hg (run_move _ _ _ hop (hI4 a hI)) ?_
    rw [hd]
    exact hK _ _ (hI.pure (by omega) (by omega) (by omega) (by omega) newTab1)
  · obtain ⟨hd, hop, hg⟩ := opFacts ho newOp2
    refine step_value hg (run_move _ _ _ hop (hI4 a hI)) ?_
    rw [hd]
    exact hK _ _ (hI.pure (by omega) (by omega) (by omega) (by omega) newTab2)
  · obtain ⟨hd, hop, hg⟩ := opFacts ho newOp3
    refine step_value hg (run_move _ _ _ hop (hI4 a hI)) ?_
    rw [hd]
    exact hK _ _ (hI.pure (by omega) (by omega) (by omega) (by omega) newTab3)
  · obtain ⟨hd, hop, hg⟩ := opFacts ho newOp4
    have h1 : a.eval (.tmp 23) = (.pointer (some ⟨b, 0, none⟩)) := hI.tab (3, 23, _) (by simp [newTab]) (depFacts ho hdeps (j := 3) (by kernel_rfl))
    refine step_value hg (run_nilCheck _ _ _ hop h1) ?_
    rw [hd]
    exact hK _ _ (hI.pure (by omega) (by omega) (by omega) (by omega) newTab4)
  · obtain ⟨hd, hop, hg⟩ := opFacts ho newOp5
    have h1 : a.eval (.tmp 24) = (.pointer (some ⟨b, 0, none⟩)) := hI.tab (4, 24, _) (by simp [newTab]) (depFacts ho hdeps (j := 4) (by kernel_rfl))
    refine step_value hg (run_field0 _ _ hop h1) ?_
    rw [hd]
    exact hK _ _ (hI.pure (by omega) (by omega) (by omega) (by omega) newTab5)
  · obtain ⟨hd, hop, hg⟩ := opFacts ho newOp6
    have h1 : a.eval (.tmp 25) = (.pointer (some ⟨b, 0, none⟩)) := hI.tab (5, 25, _) (by simp [newTab]) (depFacts ho hdeps (j := 5) (by kernel_rfl))
    have hs : done 25 = false := notYet hcl (i := 25) (j := 6) (by kernel_rfl) hu
    obtain ⟨own, _, _, _, hrow, _⟩ := hI.mem
    have hc := hrow.cell (i := 0) rfl
    rw [hs] at hc
    refine step_value hg (run_load_ints _ _ hop h1 hc) ?_
    rw [hd]
    exact hK _ _ (hI.pure (by omega) (by omega) (by omega) (by omega) newTab6)
  · obtain ⟨hd, hop, hg⟩ := opFacts ho newOp7
    refine step_value hg (run_move _ _ _ hop (hI5 a hI)) ?_
    rw [hd]
    exact hK _ _ (hI.pure (by omega) (by omega) (by omega) (by omega) newTab7)
  · obtain ⟨hd, hop, hg⟩ := opFacts ho newOp8
    have h1 : a.eval (.tmp 27) = (.int .i64 k) := hI.tab (7, 27, _) (by simp [newTab]) (depFacts ho hdeps (j := 7) (by kernel_rfl))
    refine step_value hg (run_build1 _ _ hop h1 rfl) ?_
    rw [hd]
    exact hK _ _ (hI.build (Nat.le_trans hlo hI.keep.size) (by simp) (closedDep hcl (i := 9) (j := 8) (by kernel_rfl)) (closedDep hcl (i := 15) (j := 14) (by kernel_rfl)) (closedDep hcl (i := 22) (j := 21) (by kernel_rfl)) hu)
  · obtain ⟨hd, hop, hg⟩ := opFacts ho newOp9
    have h1 : a.eval (.tmp 26) = (.slice ou k cu) := hI.tab (6, 26, _) (by simp [newTab]) (depFacts ho hdeps (j := 6) (by kernel_rfl))
    have hs : done 25 = false := notYet hcl (i := 25) (j := 9) (by kernel_rfl) hu
    obtain ⟨vx, v', w', hx, hrun, hnext⟩ := hI.append9 hk40 (Nat.le_trans hlo hI.keep.size) (depFacts ho hdeps (j := 8) (by kernel_rfl)) hu hs o.type
    refine step_value hg (run_append _ _ hop h1 hx hrun) ?_
    rw [hd]
    exact hK _ _ hnext
  · obtain ⟨hd, hop, hg⟩ := opFacts ho newOp10
    refine step_value hg (run_move _ _ _ hop (hI4 a hI)) ?_
    rw [hd]
    exact hK _ _ (hI.pure (by omega) (by omega) (by omega) (by omega) newTab10)
  · obtain ⟨hd, hop, hg⟩ := opFacts ho newOp11
    have h1 : a.eval (.tmp 30) = (.pointer (some ⟨b, 0, none⟩)) := hI.tab (10, 30, _) (by simp [newTab]) (depFacts ho hdeps (j := 10) (by kernel_rfl))
    refine step_value hg (run_nilCheck _ _ _ hop h1) ?_
    rw [hd]
    exact hK _ _ (hI.pure (by omega) (by omega) (by omega) (by omega) newTab11)
  · obtain ⟨hd, hop, hg⟩ := opFacts ho newOp12
    have h1 : a.eval (.tmp 31) = (.pointer (some ⟨b, 0, none⟩)) := hI.tab (11, 31, _) (by simp [newTab]) (depFacts ho hdeps (j := 11) (by kernel_rfl))
    refine step_value hg (run_field1 _ _ hop h1) ?_
    rw [hd]
    exact hK _ _ (hI.pure (by omega) (by omega) (by omega) (by omega) newTab12)
  · obtain ⟨hd, hop, hg⟩ := opFacts ho newOp13
    have h1 : a.eval (.tmp 32) = (.pointer (some ⟨b, 1, none⟩)) := hI.tab (12, 32, _) (by simp [newTab]) (depFacts ho hdeps (j := 12) (by kernel_rfl))
    have hs : done 28 = false := notYet hcl (i := 28) (j := 13) (by kernel_rfl) hu
    obtain ⟨own, _, _, _, hrow, _⟩ := hI.mem
    have hc := hrow.cell (i := 1) rfl
    rw [hs] at hc
    refine step_value hg (run_load_ints _ _ hop h1 hc) ?_
    rw [hd]
    exact hK _ _ (hI.pure (by omega) (by omega) (by omega) (by omega) newTab13)
  · obtain ⟨hd, hop, hg⟩ := opFacts ho newOp14
    have h1 : a.eval (.const (.int .i64 1)) = (.int .i64 1) := rfl
    refine step_value hg (run_build1 _ _ hop h1 rfl) ?_
    rw [hd]
    exact hK _ _ (hI.build (Nat.le_trans hlo hI.keep.size) (by simp) (closedDep hcl (i := 9) (j := 8) (by kernel_rfl)) (closedDep hcl (i := 15) (j := 14) (by kernel_rfl)) (closedDep hcl (i := 22) (j := 21) (by kernel_rfl)) hu)
  · obtain ⟨hd, hop, hg⟩ := opFacts ho newOp15
    have h1 : a.eval (.tmp 33) = (.slice os k cs) := hI.tab (13, 33, _) (by simp [newTab]) (depFacts ho hdeps (j := 13) (by kernel_rfl))
    have hs : done 28 = false := notYet hcl (i := 28) (j := 15) (by kernel_rfl) hu
    obtain ⟨vx, v', w', hx, hrun, hnext⟩ := hI.append15 hk40 (Nat.le_trans hlo hI.keep.size) (depFacts ho hdeps (j := 14) (by kernel_rfl)) hu hs o.type
    refine step_value hg (run_append _ _ hop h1 hx hrun) ?_
    rw [hd]
    exact hK _ _ hnext
  · obtain ⟨hd, hop, hg⟩ := opFacts ho newOp16
    refine step_value hg (run_move _ _ _ hop (hI4 a hI)) ?_
    rw [hd]
    exact hK _ _ (hI.pure (by omega) (by omega) (by omega) (by omega) newTab16)
  · obtain ⟨hd, hop, hg⟩ := opFacts ho newOp17
    have h1 : a.eval (.tmp 36) = (.pointer (some ⟨b, 0, none⟩)) := hI.tab (16, 36, _) (by simp [newTab]) (depFacts ho hdeps (j := 16) (by kernel_rfl))
    refine step_value hg (run_nilCheck _ _ _ hop h1) ?_
    rw [hd]
    exact hK _ _ (hI.pure (by omega) (by omega) (by omega) (by omega) newTab17)
  · obtain ⟨hd, hop, hg⟩ := opFacts ho newOp18
    have h1 : a.eval (.tmp 37) = (.pointer (some ⟨b, 0, none⟩)) := hI.tab (17, 37, _) (by simp [newTab]) (depFacts ho hdeps (j := 17) (by kernel_rfl))
    refine step_value hg (run_field2 _ _ hop h1) ?_
    rw [hd]
    exact hK _ _ (hI.pure (by omega) (by omega) (by omega) (by omega) newTab18)
  · obtain ⟨hd, hop, hg⟩ := opFacts ho newOp19
    have h1 : a.eval (.tmp 38) = (.pointer (some ⟨b, 2, none⟩)) := hI.tab (18, 38, _) (by simp [newTab]) (depFacts ho hdeps (j := 18) (by kernel_rfl))
    have hs : done 31 = false := notYet hcl (i := 31) (j := 19) (by kernel_rfl) hu
    obtain ⟨own, _, _, _, hrow, _⟩ := hI.mem
    have hc := hrow.cell (i := 2) rfl
    rw [hs] at hc
    refine step_value hg (run_load_ints _ _ hop h1 hc) ?_
    rw [hd]
    exact hK _ _ (hI.pure (by omega) (by omega) (by omega) (by omega) newTab19)
  · obtain ⟨hd, hop, hg⟩ := opFacts ho newOp20
    refine step_value hg (run_move _ _ _ hop (hI5 a hI)) ?_
    rw [hd]
    exact hK _ _ (hI.pure (by omega) (by omega) (by omega) (by omega) newTab20)
  · obtain ⟨hd, hop, hg⟩ := opFacts ho newOp21
    have h1 : a.eval (.tmp 40) = (.int .i64 k) := hI.tab (20, 40, _) (by simp [newTab]) (depFacts ho hdeps (j := 20) (by kernel_rfl))
    refine step_value hg (run_build1 _ _ hop h1 rfl) ?_
    rw [hd]
    exact hK _ _ (hI.build (Nat.le_trans hlo hI.keep.size) (by simp) (closedDep hcl (i := 9) (j := 8) (by kernel_rfl)) (closedDep hcl (i := 15) (j := 14) (by kernel_rfl)) (closedDep hcl (i := 22) (j := 21) (by kernel_rfl)) hu)
  · obtain ⟨hd, hop, hg⟩ := opFacts ho newOp22
    have h1 : a.eval (.tmp 39) = (.slice ol k cl) := hI.tab (19, 39, _) (by simp [newTab]) (depFacts ho hdeps (j := 19) (by kernel_rfl))
    have hs : done 31 = false := notYet hcl (i := 31) (j := 22) (by kernel_rfl) hu
    obtain ⟨vx, v', w', hx, hrun, hnext⟩ := hI.append22 hk40 (Nat.le_trans hlo hI.keep.size) (depFacts ho hdeps (j := 21) (by kernel_rfl)) hu hs o.type
    refine step_value hg (run_append _ _ hop h1 hx hrun) ?_
    rw [hd]
    exact hK _ _ hnext
  · obtain ⟨hd, hop, hg⟩ := opFacts ho newOp23
    have h1 : a.eval (.tmp 20) = (.pointer (some ⟨b, 0, none⟩)) := hI.tab (0, 20, _) (by simp [newTab]) (depFacts ho hdeps (j := 0) (by kernel_rfl))
    refine step_value hg (run_nilCheck _ _ _ hop h1) ?_
    rw [hd]
    exact hK _ _ (hI.pure (by omega) (by omega) (by omega) (by omega) newTab23)
  · obtain ⟨hd, hop, hg⟩ := opFacts ho newOp24
    have h1 : a.eval (.tmp 43) = (.pointer (some ⟨b, 0, none⟩)) := hI.tab (23, 43, _) (by simp [newTab]) (depFacts ho hdeps (j := 23) (by kernel_rfl))
    refine step_value hg (run_field0 _ _ hop h1) ?_
    rw [hd]
    exact hK _ _ (hI.pure (by omega) (by omega) (by omega) (by omega) newTab24)
  · obtain ⟨hd, hop, hg⟩ := opFacts ho newOp25
    have h1 : a.eval (.tmp 44) = (.pointer (some ⟨b, 0, none⟩)) := hI.tab (24, 44, _) (by simp [newTab]) (depFacts ho hdeps (j := 24) (by kernel_rfl))
    have h2 : done 9 = true := depFacts ho hdeps (j := 9) (by kernel_rfl)
    obtain ⟨own, _, _, _, hrow, hU, hS, hL⟩ := hI.mem
    obtain ⟨g, c', hv, _⟩ := hU.new h2
    refine step_skip hg hd (run_store_ints _ _ hop h1 rfl hv (hrow.cell (i := 0) rfl) (hrow.frozen 0 none)) ?_
    exact hK _ _ (hI.store25 hu)
  · obtain ⟨hd, hop, hg⟩ := opFacts ho newOp26
    have h1 : a.eval (.tmp 21) = (.pointer (some ⟨b, 0, none⟩)) := hI.tab (1, 21, _) (by simp [newTab]) (depFacts ho hdeps (j := 1) (by kernel_rfl))
    refine step_value hg (run_nilCheck _ _ _ hop h1) ?_
    rw [hd]
    exact hK _ _ (hI.pure (by omega) (by omega) (by omega) (by omega) newTab26)
  · obtain ⟨hd, hop, hg⟩ := opFacts ho newOp27
    have h1 : a.eval (.tmp 45) = (.pointer (some ⟨b, 0, none⟩)) := hI.tab (26, 45, _) (by simp [newTab]) (depFacts ho hdeps (j := 26) (by kernel_rfl))
    refine step_value hg (run_field1 _ _ hop h1) ?_
    rw [hd]
    exact hK _ _ (hI.pure (by omega) (by omega) (by omega) (by omega) newTab27)
  · obtain ⟨hd, hop, hg⟩ := opFacts ho newOp28
    have h1 : a.eval (.tmp 46) = (.pointer (some ⟨b, 1, none⟩)) := hI.tab (27, 46, _) (by simp [newTab]) (depFacts ho hdeps (j := 27) (by kernel_rfl))
    have h2 : done 15 = true := depFacts ho hdeps (j := 15) (by kernel_rfl)
    obtain ⟨own, _, _, _, hrow, hU, hS, hL⟩ := hI.mem
    obtain ⟨g, c', hv, _⟩ := hS.new h2
    refine step_skip hg hd (run_store_ints _ _ hop h1 rfl hv (hrow.cell (i := 1) rfl) (hrow.frozen 1 none)) ?_
    exact hK _ _ (hI.store28 hu)
  · obtain ⟨hd, hop, hg⟩ := opFacts ho newOp29
    have h1 : a.eval (.tmp 22) = (.pointer (some ⟨b, 0, none⟩)) := hI.tab (2, 22, _) (by simp [newTab]) (depFacts ho hdeps (j := 2) (by kernel_rfl))
    refine step_value hg (run_nilCheck _ _ _ hop h1) ?_
    rw [hd]
    exact hK _ _ (hI.pure (by omega) (by omega) (by omega) (by omega) newTab29)
  · obtain ⟨hd, hop, hg⟩ := opFacts ho newOp30
    have h1 : a.eval (.tmp 47) = (.pointer (some ⟨b, 0, none⟩)) := hI.tab (29, 47, _) (by simp [newTab]) (depFacts ho hdeps (j := 29) (by kernel_rfl))
    refine step_value hg (run_field2 _ _ hop h1) ?_
    rw [hd]
    exact hK _ _ (hI.pure (by omega) (by omega) (by omega) (by omega) newTab30)
  · obtain ⟨hd, hop, hg⟩ := opFacts ho newOp31
    have h1 : a.eval (.tmp 48) = (.pointer (some ⟨b, 2, none⟩)) := hI.tab (30, 48, _) (by simp [newTab]) (depFacts ho hdeps (j := 30) (by kernel_rfl))
    have h2 : done 22 = true := depFacts ho hdeps (j := 22) (by kernel_rfl)
    obtain ⟨own, _, _, _, hrow, hU, hS, hL⟩ := hI.mem
    obtain ⟨g, c', hv, _⟩ := hL.new h2
    refine step_skip hg hd (run_store_ints _ _ hop h1 rfl hv (hrow.cell (i := 2) rfl) (hrow.frozen 2 none)) ?_
    exact hK _ _ (hI.store31 hu)

theorem act_lit51 {a : Act} (h : a.tmps.size = 51) (hd : a.defers = []) : a = ⟨#[a.eval (.tmp 0), a.eval (.tmp 1), a.eval (.tmp 2), a.eval (.tmp 3), a.eval (.tmp 4), a.eval (.tmp 5), a.eval (.tmp 6), a.eval (.tmp 7), a.eval (.tmp 8), a.eval (.tmp 9), a.eval (.tmp 10), a.eval (.tmp 11), a.eval (.tmp 12), a.eval (.tmp 13), a.eval (.tmp 14), a.eval (.tmp 15), a.eval (.tmp 16), a.eval (.tmp 17), a.eval (.tmp 18), a.eval (.tmp 19), a.eval (.tmp 20), a.eval (.tmp 21), a.eval (.tmp 22), a.eval (.tmp 23), a.eval (.tmp 24), a.eval (.tmp 25), a.eval (.tmp 26), a.eval (.tmp 27), a.eval (.tmp 28), a.eval (.tmp 29), a.eval (.tmp 30), a.eval (.tmp 31), a.eval (.tmp 32), a.eval (.tmp 33), a.eval (.tmp 34), a.eval (.tmp 35), a.eval (.tmp 36), a.eval (.tmp 37), a.eval (.tmp 38), a.eval (.tmp 39), a.eval (.tmp 40), a.eval (.tmp 41), a.eval (.tmp 42), a.eval (.tmp 43), a.eval (.tmp 44), a.eval (.tmp 45), a.eval (.tmp 46), a.eval (.tmp 47), a.eval (.tmp 48), a.eval (.tmp 49), a.eval (.tmp 50)], []⟩ := by
  obtain ⟨t, d⟩ := a
  simp only at h hd
  subst hd
  have : t = ((List.range 51).map fun i => t.getD i undef).toArray := by
    apply Array.ext
    · simp [h]
    · intro i h1 h2
      simp [h1]
  conv => lhs; rw [this]
  rfl

end Go.Proofs.Ytkpoobnldgfapaa
