/- Veiled steps for a frame that is written out (no frame is doubled); conditions: the operation has no guard. -/
import Derived.Test.YtgdifckmjdjcpaaSti
namespace Go.Proofs.Ytgdifckmjdjcpaa
open Go.RowKit

section
variable {ops : Array Oper} {o : Oper} {T : Array Value} {D : List Deferred} {w : World} {K : Act → World → Prop} {Q : Exit → Act → World → Prop} {E : Prop}
theorem stz_fn {c : Call} {f : FuncId} {d : Tmp} {xs : List Operand} {args : List Value}
    (hg : o.guard = none) (ho : o.op = .call c) (hc : c.callee = .value (.func f)) (hf : Ent f) (hd : o.dst = some d) (hx : c.args = xs.toArray) {Post : Ending → World → Prop} (ha : xs.map (Act.mk T D).eval = args) (hcall : Calls Try.prog f args.toArray w Post)
    (h : ∀ e w', Post e w' → ∃ v, e = .returned v ∧ K ⟨T.setIfInBounds d v, D⟩ w') : StG ops o ⟨T, D⟩ w K Q E := stg_open (step_fn2 hg ho hc hf hd hx ha hcall h)
theorem stz_lit (t e : TypeId) (len : Nat) {parts : Array (Nat × Operand)} {ps : List (Nat × Operand)} {vs : List (Nat × Value)} {z : Value} {size bytes : Nat} {d : Tmp}
    (hg : o.guard = none) (ho : o.op = .buildSlice t len parts) (hd : o.dst = some d) (hps : parts = ps.toArray) (ht : Try.prog.underlying t = some (.slice e)) (hi : (Try.prog.info? e).map (fun i => (i.zero, i.size, i.bytes)) = some (some z, size, bytes))
    (hsz : len * size ≤ 1000 ∧ ¬ len * size = 0) {cells : Array Value}
    (hf : Instr.fill (fun i => some (i * size, size)) ((Array.range (len * size)).map (z.cells[· % z.cells.size]!)) vs = some cells) (hv : (ps.map fun (i, x) => (i, (Act.mk T D).eval x)) = vs)
    (h : K ⟨T.setIfInBounds d (.slice (some ⟨w.heap.size, 0, none⟩) len len), D⟩ (w.alloc (.cells cells e))) : StG ops o ⟨T, D⟩ w K Q E := stg_open (step_lit2 t e len hg ho hd hps ht hi hsz hf hv h)
theorem stz_new {e : TypeId} {d : Tmp} {cells : Array Value}
    (hg : o.guard = none) (ho : o.op = .alloc e) (hd : o.dst = some d) (hr : (Instr.alloc e true (.tuple #[])).run Try.prog w = .ok (.pointer (some ⟨w.heap.size, 0, none⟩)) (w.alloc (.cells cells e)))
    (h : K ⟨T.setIfInBounds d (.pointer (some ⟨w.heap.size, 0, none⟩)), D⟩ (w.alloc (.cells cells e))) : StG ops o ⟨T, D⟩ w K Q E := stg_open (step_new hg ho hd hr h)
theorem stz_st {w2 : World} {t : TypeId} {x y : Operand} {p v : Value}
    (hg : o.guard = none) (ho : o.op = .store t x y) (hd : o.dst = none) (hr : (Instr.storeAt t p v).run Try.prog w = .ok () w2) (hx : (Act.mk T D).eval x = p) (hy : (Act.mk T D).eval y = v)
    (h : K ⟨T, D⟩ w2) : StG ops o ⟨T, D⟩ w K Q E := stg_open (step_st hg ho hd hr hx hy h)
theorem stz_app {s x : Operand} {d : Tmp} (t : TypeId)
    (hg : o.guard = none) (ho : o.op = .call { callee := .builtin .append, args := #[s, x], argTypes := #[t, t] }) (hd : o.dst = some d)
    (e : TypeId) (z : Value) (size bytes : Nat) (ht : Try.prog.underlying t = some (.slice e)) (hi : (Try.prog.info? e).map (fun i => (i.zero, i.size, i.bytes)) = some (some z, size, bytes)) (hzs : z.cells.size = size) (hsz : 0 < size) (hby : bytes ≤ 64)
    {B : Nat} (hB : B ≤ w.heap.size) {A' : Nat → Prop} {v : Value} {n : Nat} {xs : List Value} (hown : Own B w e size v n xs)
    {vs : Value} {m : Nat} {news : List Value} (hsrc : Arr A' w vs m news) (hl : news.length = m * size) (h1 : ∀ u ∈ news, u.oneCell' = true)
    (hnm : n + m ≤ 1000000) (hs : (Act.mk T D).eval s = v) (hx : (Act.mk T D).eval x = vs)
    (h : ∀ v' w', Own B w' e size v' (n + m) (xs ++ news) → Turned w w' v v' → K ⟨T.setIfInBounds d v', D⟩ w') : StG ops o ⟨T, D⟩ w K Q E := stg_open (step_app t hg ho hd e z size bytes ht hi hzs hsz hby hB hown hsrc hl h1 hnm hs hx h)
theorem mix_mvv {C : Bool → World → Prop} {z i : Nat} {rest : PlanC} {ph : Bool} (hi : ops[i]? = some o) {x : Operand} {d : Tmp} (hg : o.guard = none)
    (ho : o.op = .move x ∨ o.op = .assign x) (hd : o.dst = some d) {v : Value} (hv : (Act.mk T D).eval x = v)
    (h : wpMix2 Try.prog ops C z Q rest ph ⟨T.setIfInBounds d v, D⟩ w) : wpMix2 Try.prog ops C z Q (.pur i rest) ph ⟨T, D⟩ w := mix_mv hi hg ho hd hv h
theorem mix_minv {C : Bool → World → Prop} {z i : Nat} {rest : PlanC} {ph : Bool} (u v : Int) (hi : ops[i]? = some o) {x y : Operand} {ts : Array TypeId} {d : Tmp} (hg : o.guard = none)
    (ho : o.op = .call { callee := .builtin .min, args := #[x, y], argTypes := ts }) (hd : o.dst = some d) (hx : (Act.mk T D).eval x = .int .i64 u) (hy : (Act.mk T D).eval y = .int .i64 v)
    (h : wpMix2 Try.prog ops C z Q rest ph ⟨T.setIfInBounds d (.int .i64 (min u v)), D⟩ w) : wpMix2 Try.prog ops C z Q (.pur i rest) ph ⟨T, D⟩ w := mix_min u v hi hg ho hd hx hy h
theorem mix_maxv {C : Bool → World → Prop} {z i : Nat} {rest : PlanC} {ph : Bool} (u v : Int) (hi : ops[i]? = some o) {x y : Operand} {ts : Array TypeId} {d : Tmp} (hg : o.guard = none)
    (ho : o.op = .call { callee := .builtin .max, args := #[x, y], argTypes := ts }) (hd : o.dst = some d) (hx : (Act.mk T D).eval x = .int .i64 u) (hy : (Act.mk T D).eval y = .int .i64 v)
    (h : wpMix2 Try.prog ops C z Q rest ph ⟨T.setIfInBounds d (.int .i64 (max u v)), D⟩ w) : wpMix2 Try.prog ops C z Q (.pur i rest) ph ⟨T, D⟩ w := mix_max u v hi hg ho hd hx hy h
end
end Go.Proofs.Ytgdifckmjdjcpaa
