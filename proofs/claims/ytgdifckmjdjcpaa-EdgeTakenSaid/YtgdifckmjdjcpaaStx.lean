/- Steps of a drawn region: a new box, a value put into a box, the less and the greater of two; conditions: the operation has no guard. -/
import Derived.Test.YtgdifckmjdjcpaaStq
import Derived.Test.YtgdifckmjdjcpaaMem
namespace Go.Proofs.Ytgdifckmjdjcpaa
open Go.RowKit

theorem new_run26 (w : World) : (Instr.alloc 26 true (.tuple #[])).run Try.prog w = .ok (.pointer (some ⟨w.heap.size, 0, none⟩)) (w.alloc (.cells #[.int .i64 0, .int .i64 0, .int .i64 0, .int .i64 0, .int .i64 0] 26)) := by go_simp
theorem new_run52 (w : World) : (Instr.alloc 52 true (.tuple #[])).run Try.prog w = .ok (.pointer (some ⟨w.heap.size, 0, none⟩)) (w.alloc (.cells #[.int .i64 0, .int .i64 0] 52)) := by go_simp
theorem new_run24 (w : World) : (Instr.alloc 24 true (.tuple #[])).run Try.prog w = .ok (.pointer (some ⟨w.heap.size, 0, none⟩)) (w.alloc (.cells #[.int .i64 0, .int .i64 0, .slice none 0 0] 24)) := by go_simp

/-- A new box. -/
theorem step_new {ops : Array Oper} {o : Oper} {a : Act} {w : World} {K : Act → World → Prop} {Q : Exit → Act → World → Prop} {E : Prop} {e : TypeId} {d : Tmp} {cells : Array Value}
    (hg : o.guard = none) (ho : o.op = .alloc e) (hd : o.dst = some d) (hr : (Instr.alloc e true (.tuple #[])).run Try.prog w = .ok (.pointer (some ⟨w.heap.size, 0, none⟩)) (w.alloc (.cells cells e)))
    (h : K ⟨a.tmps.setIfInBounds d (.pointer (some ⟨w.heap.size, 0, none⟩)), a.defers⟩ (w.alloc (.cells cells e))) : if Region.wanted o (yielded ops a.tmps) = true then Oper.wp Try.prog o a w K Q else E := by
  rw [if_pos (by simp [Region.wanted, hg])]
  unfold Oper.wp execOp
  simp only [ho, Sem.run_bind, hr, Result.andThen_ok]
  show K (a.put o.dst _) _
  rw [hd]
  exact h
/-- A value put into a box. -/
theorem step_st {ops : Array Oper} {o : Oper} {a : Act} {w w2 : World} {K : Act → World → Prop} {Q : Exit → Act → World → Prop} {E : Prop} {t : TypeId} {x y : Operand} {p v : Value}
    (hg : o.guard = none) (ho : o.op = .store t x y) (hd : o.dst = none) (hr : (Instr.storeAt t p v).run Try.prog w = .ok () w2) (hx : a.eval x = p) (hy : a.eval y = v)
    (h : K ⟨a.tmps, a.defers⟩ w2) : if Region.wanted o (yielded ops a.tmps) = true then Oper.wp Try.prog o a w K Q else E := by
  rw [if_pos (by simp [Region.wanted, hg])]
  unfold Oper.wp execOp
  simp only [ho, hx, hy, Sem.run_bind, hr, Result.andThen_ok]
  show K (a.put o.dst _) _
  rw [hd]
  exact h
theorem st_run26 {w : World} {b : Nat} {z0 z1 z2 z3 z4 : Int} (h : Blk b #[.int .i64 z0, .int .i64 z1, .int .i64 z2, .int .i64 z3, .int .i64 z4] 26 w) (a0 a1 a2 a3 a4 : Int) :
    (Instr.storeAt 26 (.pointer (some ⟨b, 0, none⟩)) (.agg #[.int .i64 a0, .int .i64 a1, .int .i64 a2, .int .i64 a3, .int .i64 a4])).run Try.prog w = .ok () (((((w.setCell ⟨b, 0, none⟩ (.int .i64 a0)).setCell ⟨b, 1, none⟩ (.int .i64 a1)).setCell ⟨b, 2, none⟩ (.int .i64 a2)).setCell ⟨b, 3, none⟩ (.int .i64 a3)).setCell ⟨b, 4, none⟩ (.int .i64 a4)) := by
  have q0 := h.cell 0
  have q1 := h.cell 1
  have q2 := h.cell 2
  have q3 := h.cell 3
  have q4 := h.cell 4
  have f0 := h.free 0
  have f1 := h.free 1
  have f2 := h.free 2
  have f3 := h.free 3
  have f4 := h.free 4
  go_simp
theorem st_run52 {w : World} {b : Nat} {z0 z1 : Int} (h : Blk b #[.int .i64 z0, .int .i64 z1] 52 w) (a0 a1 : Int) :
    (Instr.storeAt 52 (.pointer (some ⟨b, 0, none⟩)) (.agg #[.int .i64 a0, .int .i64 a1])).run Try.prog w = .ok () ((w.setCell ⟨b, 0, none⟩ (.int .i64 a0)).setCell ⟨b, 1, none⟩ (.int .i64 a1)) := by
  have q0 := h.cell 0
  have q1 := h.cell 1
  have f0 := h.free 0
  have f1 := h.free 1
  go_simp
/-- The less, the greater of two. -/
theorem mix_min {ops : Array Oper} {Q : Exit → Act → World → Prop} {C : Bool → World → Prop} {z i : Nat} {rest : PlanC} {ph : Bool} {a : Act} {w : World} {o : Oper} (u v : Int) (hi : ops[i]? = some o) {x y : Operand} {ts : Array TypeId} {d : Tmp} (hg : o.guard = none)
    (ho : o.op = .call { callee := .builtin .min, args := #[x, y], argTypes := ts }) (hd : o.dst = some d) (hx : a.eval x = .int .i64 u) (hy : a.eval y = .int .i64 v)
    (h : wpMix2 Try.prog ops C z Q rest ph ⟨a.tmps.setIfInBounds d (.int .i64 (min u v)), a.defers⟩ w) : wpMix2 Try.prog ops C z Q (.pur i rest) ph a w := by
  refine mix_pur2 hi fun K hK => ?_
  rw [if_pos (by simp [Region.wanted, hg])]
  have e : (if v < u then v else u) = min u v := by omega
  refine ⟨.int .i64 (min u v), fun w' => ?_, hK _ ?_⟩
  · unfold execOp
    simp [ho, resolve, invoke, builtin, hx, hy, run_min_int2, e]
  · rw [hd]
    exact h
theorem mix_max {ops : Array Oper} {Q : Exit → Act → World → Prop} {C : Bool → World → Prop} {z i : Nat} {rest : PlanC} {ph : Bool} {a : Act} {w : World} {o : Oper} (u v : Int) (hi : ops[i]? = some o) {x y : Operand} {ts : Array TypeId} {d : Tmp} (hg : o.guard = none)
    (ho : o.op = .call { callee := .builtin .max, args := #[x, y], argTypes := ts }) (hd : o.dst = some d) (hx : a.eval x = .int .i64 u) (hy : a.eval y = .int .i64 v)
    (h : wpMix2 Try.prog ops C z Q rest ph ⟨a.tmps.setIfInBounds d (.int .i64 (max u v)), a.defers⟩ w) : wpMix2 Try.prog ops C z Q (.pur i rest) ph a w := by
  refine mix_pur2 hi fun K hK => ?_
  rw [if_pos (by simp [Region.wanted, hg])]
  have e : (if v > u then v else u) = max u v := by omega
  refine ⟨.int .i64 (max u v), fun w' => ?_, hK _ ?_⟩
  · unfold execOp
    simp [ho, resolve, invoke, builtin, hx, hy, run_max_int2, e]
  · rw [hd]
    exact h
end Go.Proofs.Ytgdifckmjdjcpaa
