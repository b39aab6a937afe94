/- Steps of a drawn region by laws of their own (calls, literals, appends), the frame left as it stands; conditions: the operation has no guard. -/
import Derived.Test.YtgdifckmjdjcpaaMix2
import Derived.Test.YtgdifckmjdjcpaaHand2
import Derived.Great.BuildSlice
namespace Go.Proofs.Ytgdifckmjdjcpaa
open Go.RowKit

theorem inf24 : (Try.prog.info? 24).map (fun i => (i.zero, i.size, i.bytes)) = some (some (.agg #[.int .i64 0, .int .i64 0, .slice none 0 0]), 3, 40) := by kernel_rfl
theorem inf44 : (Try.prog.info? 44).map (fun i => (i.zero, i.size, i.bytes)) = some (some (.slice none 0 0), 1, 24) := by kernel_rfl
/-- A function of the program that a call enters. -/
def Ent (f : FuncId) : Prop := ∃ fn, Try.prog.funcs[f]? = some fn ∧ fn.body.isNone = false ∧ (fn.name == "runtime.NumGoroutine") = false

theorem run_fn {a : Act} {o : Oper} {w : World} {c : Call} {f : FuncId} (ho : o.op = .call c) (hc : c.callee = .value (.func f)) (hf : Ent f) :
    (execOp a.eval o).run Try.prog w = .ok (.enter f (c.args.map a.eval)) w := by
  obtain ⟨fn, h1, h2, h3⟩ := hf
  have h4 : ¬ fn.name = "runtime.NumGoroutine" := by simpa using h3
  have h5 : ¬ fn.body = none := by intro e; rw [e] at h2; simp at h2
  simp [go_sem, execOp, ho, resolve, hc, Deferred.ofValue, invoke, callFunc, h1, h4, h5]

/-- A call of a function, by its contract. -/
theorem step_fn {ops : Array Oper} {o : Oper} {a : Act} {w : World} {K : Act → World → Prop} {Q : Exit → Act → World → Prop} {E : Prop} {c : Call} {f : FuncId} {d : Tmp} {args : Array Value}
    (hg : o.guard = none) (ho : o.op = .call c) (hc : c.callee = .value (.func f)) (hf : Ent f) (hd : o.dst = some d) {Post : Ending → World → Prop} (ha : c.args.map a.eval = args) (hcall : Calls Try.prog f args w Post)
    (h : ∀ e w', Post e w' → ∃ v, e = .returned v ∧ K ⟨a.tmps.setIfInBounds d v, a.defers⟩ w') : if Region.wanted o (yielded ops a.tmps) = true then Oper.wp Try.prog o a w K Q else E := by
  rw [if_pos (by simp [Region.wanted, hg])]
  unfold Oper.wp
  rw [run_fn ho hc hf, Oper.upon_enter, ha]
  refine hcall.mono ?_
  intro e w' hp
  obtain ⟨v, rfl, hk⟩ := h e w' hp
  show K (a.put o.dst v) w'
  rw [hd]
  exact hk

/-- A literal of a slice. -/
theorem step_lit {ops : Array Oper} {o : Oper} {a : Act} {w : World} {K : Act → World → Prop} {Q : Exit → Act → World → Prop} {E : Prop} (t e : TypeId) (len : Nat) {parts : Array (Nat × Operand)} {z : Value} {size bytes : Nat} {d : Tmp}
    (hg : o.guard = none) (ho : o.op = .buildSlice t len parts) (hd : o.dst = some d) (ht : Try.prog.underlying t = some (.slice e)) (hi : (Try.prog.info? e).map (fun i => (i.zero, i.size, i.bytes)) = some (some z, size, bytes))
    (hsz : len * size ≤ 1000 ∧ ¬ len * size = 0) {cells : Array Value}
    (hf : Instr.fill (fun i => some (i * size, size)) ((Array.range (len * size)).map (z.cells[· % z.cells.size]!)) (parts.map fun (i, x) => (i, a.eval x)).toList = some cells)
    (h : K ⟨a.tmps.setIfInBounds d (.slice (some ⟨w.heap.size, 0, none⟩) len len), a.defers⟩ (w.alloc (.cells cells e))) : if Region.wanted o (yielded ops a.tmps) = true then Oper.wp Try.prog o a w K Q else E := by
  rw [if_pos (by simp [Region.wanted, hg])]
  obtain ⟨i, hie, hz, hs, -⟩ := info_parts hi
  subst hs
  refine wp_buildSlice t e len parts ho cells i z ht hie hz (by have h1 := hsz.1; omega) hsz.2 hf ?_
  rw [hd]
  exact h

/-- An append to a row of the call's own. -/
theorem step_app {ops : Array Oper} {o : Oper} {a : Act} {w : World} {K : Act → World → Prop} {Q : Exit → Act → World → Prop} {E : Prop} {s x : Operand} {d : Tmp} (t : TypeId)
    (hg : o.guard = none) (ho : o.op = .call { callee := .builtin .append, args := #[s, x], argTypes := #[t, t] }) (hd : o.dst = some d)
    (e : TypeId) (z : Value) (size bytes : Nat) (ht : Try.prog.underlying t = some (.slice e)) (hi : (Try.prog.info? e).map (fun i => (i.zero, i.size, i.bytes)) = some (some z, size, bytes)) (hzs : z.cells.size = size) (hsz : 0 < size) (hby : bytes ≤ 64)
    {B : Nat} (hB : B ≤ w.heap.size) {A' : Nat → Prop} {v : Value} {n : Nat} {xs : List Value} (hown : Own B w e size v n xs)
    {vs : Value} {m : Nat} {news : List Value} (hsrc : Arr A' w vs m news) (hl : news.length = m * size) (h1 : ∀ u ∈ news, u.oneCell' = true)
    (hnm : n + m ≤ 1000000) (hs : a.eval s = v) (hx : a.eval x = vs)
    (h : ∀ v' w', Own B w' e size v' (n + m) (xs ++ news) → Turned w w' v v' → K ⟨a.tmps.setIfInBounds d v', a.defers⟩ w') : if Region.wanted o (yielded ops a.tmps) = true then Oper.wp Try.prog o a w K Q else E := by
  rw [if_pos (by simp [Region.wanted, hg])]
  refine wp_append_arr s x t ho e z size bytes ht hi hzs hsz hby hB hown hs hsrc hx hl h1 hnm fun v' w' h2 h3 => ?_
  rw [hd]
  exact h v' w' h2 h3

/-- A value handed on. -/
theorem mix_mv {ops : Array Oper} {Q : Exit → Act → World → Prop} {C : Bool → World → Prop} {z i : Nat} {rest : PlanC} {ph : Bool} {a : Act} {w : World} {o : Oper} (hi : ops[i]? = some o) {x : Operand} {d : Tmp} (hg : o.guard = none)
    (ho : o.op = .move x ∨ o.op = .assign x) (hd : o.dst = some d) {v : Value} (hv : a.eval x = v)
    (h : wpMix2 Try.prog ops C z Q rest ph ⟨a.tmps.setIfInBounds d v, a.defers⟩ w) : wpMix2 Try.prog ops C z Q (.pur i rest) ph a w := by
  refine mix_pur2 hi fun K hK => ?_
  rw [if_pos (by simp [Region.wanted, hg])]
  refine ⟨v, fun w' => ?_, hK _ ?_⟩
  · subst hv
    unfold execOp
    rcases ho with ho | ho <;> rw [ho] <;> rfl
  · rw [hd]
    exact h
end Go.Proofs.Ytgdifckmjdjcpaa
