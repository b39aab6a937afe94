/- Steps of a drawn region, the operands as lists (no array is mapped in the kernel); conditions: the operation has no guard. -/
import Derived.Test.YtgdifckmjdjcpaaStp
namespace Go.Proofs.Ytgdifckmjdjcpaa
open Go.RowKit

/-- A call of a function, by its contract. -/
theorem step_fn2 {ops : Array Oper} {o : Oper} {a : Act} {w : World} {K : Act → World → Prop} {Q : Exit → Act → World → Prop} {E : Prop} {c : Call} {f : FuncId} {d : Tmp} {xs : List Operand} {args : List Value}
    (hg : o.guard = none) (ho : o.op = .call c) (hc : c.callee = .value (.func f)) (hf : Ent f) (hd : o.dst = some d) (hx : c.args = xs.toArray) {Post : Ending → World → Prop} (ha : xs.map a.eval = args) (hcall : Calls Try.prog f args.toArray w Post)
    (h : ∀ e w', Post e w' → ∃ v, e = .returned v ∧ K ⟨a.tmps.setIfInBounds d v, a.defers⟩ w') : if Region.wanted o (yielded ops a.tmps) = true then Oper.wp Try.prog o a w K Q else E := by
  rw [if_pos (by simp [Region.wanted, hg])]
  unfold Oper.wp
  rw [run_fn ho hc hf, Oper.upon_enter, hx, List.map_toArray, ha]
  refine hcall.mono ?_
  intro e w' hp
  obtain ⟨v, rfl, hk⟩ := h e w' hp
  show K (a.put o.dst v) w'
  rw [hd]
  exact hk

/-- A literal of a slice. -/
theorem step_lit2 {ops : Array Oper} {o : Oper} {a : Act} {w : World} {K : Act → World → Prop} {Q : Exit → Act → World → Prop} {E : Prop} (t e : TypeId) (len : Nat) {parts : Array (Nat × Operand)} {ps : List (Nat × Operand)} {vs : List (Nat × Value)} {z : Value} {size bytes : Nat} {d : Tmp}
    (hg : o.guard = none) (ho : o.op = .buildSlice t len parts) (hd : o.dst = some d) (hps : parts = ps.toArray) (ht : Try.prog.underlying t = some (.slice e)) (hi : (Try.prog.info? e).map (fun i => (i.zero, i.size, i.bytes)) = some (some z, size, bytes))
    (hsz : len * size ≤ 1000 ∧ ¬ len * size = 0) {cells : Array Value}
    (hf : Instr.fill (fun i => some (i * size, size)) ((Array.range (len * size)).map (z.cells[· % z.cells.size]!)) vs = some cells) (hv : (ps.map fun (i, x) => (i, a.eval x)) = vs)
    (h : K ⟨a.tmps.setIfInBounds d (.slice (some ⟨w.heap.size, 0, none⟩) len len), a.defers⟩ (w.alloc (.cells cells e))) : if Region.wanted o (yielded ops a.tmps) = true then Oper.wp Try.prog o a w K Q else E := by
  rw [if_pos (by simp [Region.wanted, hg])]
  obtain ⟨i, hie, hz, hs, -⟩ := info_parts hi
  subst hs
  refine wp_buildSlice t e len parts ho cells i z ht hie hz (by have h1 := hsz.1; omega) hsz.2 (by rw [hps, Array.toList_map, hv]; exact hf) ?_
  rw [hd]
  exact h
abbrev edV (p b : Int) (a : Option Addr) (n c : Nat) : Value := .agg #[.int .i64 p, .int .i64 b, .slice a n c]
theorem fill_e3 (p1 b1 p2 b2 p3 b3 : Int) (a1 a2 a3 : Option Addr) (n1 c1 n2 c2 n3 c3 : Nat) :
    Instr.fill (fun i => some (i * 3, 3)) ((Array.range (3 * 3)).map ((Value.agg #[.int .i64 0, .int .i64 0, .slice none 0 0]).cells[· % (Value.agg #[.int .i64 0, .int .i64 0, .slice none 0 0]).cells.size]!)) [(0, edV p1 b1 a1 n1 c1), (1, edV p2 b2 a2 n2 c2), (2, edV p3 b3 a3 n3 c3)] =
      some #[.int .i64 p1, .int .i64 b1, .slice a1 n1 c1, .int .i64 p2, .int .i64 b2, .slice a2 n2 c2, .int .i64 p3, .int .i64 b3, .slice a3 n3 c3] := by kernel_rfl
theorem fill_e4 (p1 b1 p2 b2 p3 b3 p4 b4 : Int) (a1 a2 a3 a4 : Option Addr) (n1 c1 n2 c2 n3 c3 n4 c4 : Nat) :
    Instr.fill (fun i => some (i * 3, 3)) ((Array.range (4 * 3)).map ((Value.agg #[.int .i64 0, .int .i64 0, .slice none 0 0]).cells[· % (Value.agg #[.int .i64 0, .int .i64 0, .slice none 0 0]).cells.size]!)) [(0, edV p1 b1 a1 n1 c1), (1, edV p2 b2 a2 n2 c2), (2, edV p3 b3 a3 n3 c3), (3, edV p4 b4 a4 n4 c4)] =
      some #[.int .i64 p1, .int .i64 b1, .slice a1 n1 c1, .int .i64 p2, .int .i64 b2, .slice a2 n2 c2, .int .i64 p3, .int .i64 b3, .slice a3 n3 c3, .int .i64 p4, .int .i64 b4, .slice a4 n4 c4] := by kernel_rfl
theorem fill_s3 (a1 a2 a3 : Option Addr) (n1 c1 n2 c2 n3 c3 : Nat) : Instr.fill (fun i => some (i * 1, 1)) ((Array.range (3 * 1)).map ((Value.slice none 0 0).cells[· % (Value.slice none 0 0).cells.size]!)) [(0, .slice a1 n1 c1), (1, .slice a2 n2 c2), (2, .slice a3 n3 c3)] = some #[.slice a1 n1 c1, .slice a2 n2 c2, .slice a3 n3 c3] := by kernel_rfl
theorem fill_s4 (a1 a2 a3 a4 : Option Addr) (n1 c1 n2 c2 n3 c3 n4 c4 : Nat) : Instr.fill (fun i => some (i * 1, 1)) ((Array.range (4 * 1)).map ((Value.slice none 0 0).cells[· % (Value.slice none 0 0).cells.size]!)) [(0, .slice a1 n1 c1), (1, .slice a2 n2 c2), (2, .slice a3 n3 c3), (3, .slice a4 n4 c4)] = some #[.slice a1 n1 c1, .slice a2 n2 c2, .slice a3 n3 c3, .slice a4 n4 c4] := by kernel_rfl
theorem fill_i3 (a1 a2 a3 : Int) : Instr.fill (fun i => some (i * 1, 1)) ((Array.range (3 * 1)).map ((Value.int .i64 0).cells[· % (Value.int .i64 0).cells.size]!)) [(0, .int .i64 a1), (1, .int .i64 a2), (2, .int .i64 a3)] = some #[.int .i64 a1, .int .i64 a2, .int .i64 a3] := by kernel_rfl
theorem fill_i4 (a1 a2 a3 a4 : Int) : Instr.fill (fun i => some (i * 1, 1)) ((Array.range (4 * 1)).map ((Value.int .i64 0).cells[· % (Value.int .i64 0).cells.size]!)) [(0, .int .i64 a1), (1, .int .i64 a2), (2, .int .i64 a3), (3, .int .i64 a4)] = some #[.int .i64 a1, .int .i64 a2, .int .i64 a3, .int .i64 a4] := by kernel_rfl
theorem fill_f1 (a1 a2 a3 : Int) : Instr.fill (fun i => some (i * 3, 3)) ((Array.range (1 * 3)).map ((Value.agg #[.int .i64 0, .int .i64 0, .int .i64 0]).cells[· % (Value.agg #[.int .i64 0, .int .i64 0, .int .i64 0]).cells.size]!)) [(0, .agg #[.int .i64 a1, .int .i64 a2, .int .i64 a3])] = some #[.int .i64 a1, .int .i64 a2, .int .i64 a3] := by kernel_rfl

end Go.Proofs.Ytgdifckmjdjcpaa
