/- Steps of a drawn region under a veil (what an operation does is not unfolded while a step is elaborated); conditions: the operation has no guard. -/
import Derived.Test.YtgdifckmjdjcpaaStx
namespace Go.Proofs.Ytgdifckmjdjcpaa
open Go.RowKit

@[irreducible] def StG (ops : Array Oper) (o : Oper) (a : Act) (w : World) (K : Act → World → Prop) (Q : Exit → Act → World → Prop) (E : Prop) : Prop := if Region.wanted o (yielded ops a.tmps) = true then Oper.wp Try.prog o a w K Q else E
theorem stg_open {ops : Array Oper} {o : Oper} {a : Act} {w : World} {K : Act → World → Prop} {Q : Exit → Act → World → Prop} {E : Prop} (h : if Region.wanted o (yielded ops a.tmps) = true then Oper.wp Try.prog o a w K Q else E) : StG ops o a w K Q E := by unfold StG; exact h
theorem stg_shut {ops : Array Oper} {o : Oper} {a : Act} {w : World} {K : Act → World → Prop} {Q : Exit → Act → World → Prop} {E : Prop} (h : StG ops o a w K Q E) : if Region.wanted o (yielded ops a.tmps) = true then Oper.wp Try.prog o a w K Q else E := by unfold StG at h; exact h
section
variable {ops : Array Oper} {Q : Exit → Act → World → Prop} {C : Bool → World → Prop} {z : Nat}
theorem mix_eff3 {i : Nat} {rest : PlanC} {ph : Bool} {a : Act} {w : World} {o : Oper} (hi : ops[i]? = some o) (ph' : Bool) (hp : (ph || i == z) = ph')
    (h : ∀ K : Act → World → Prop, (∀ a' w', C ph' w' → wpMix2 Try.prog ops C z Q rest ph' a' w' → K a' w') → StG ops o a w K Q (K (a.put o.dst undef) w)) : wpMix2 Try.prog ops C z Q (.act i rest) ph a w :=
  mix_eff2 hi ph' hp fun K hK => stg_shut (h K hK)
theorem mix_two3 {i j : Nat} {p q : PlanC} {ph : Bool} {a : Act} {w : World} {o o' : Oper} (hi : ops[i]? = some o) (hj : ops[j]? = some o') (pi pj : Bool) (hpi : (ph || i == z) = pi) (hpj : (ph || j == z) = pj)
    (h1 : ∀ K : Act → World → Prop, (∀ a' w', C pi w' → wpMix2 Try.prog ops C z Q p pi a' w' → K a' w') → StG ops o a w K Q (K (a.put o.dst undef) w))
    (h2 : ∀ K : Act → World → Prop, (∀ a' w', C pj w' → wpMix2 Try.prog ops C z Q q pj a' w' → K a' w') → StG ops o' a w K Q (K (a.put o'.dst undef) w)) :
    wpMix2 Try.prog ops C z Q (.two i p j q) ph a w :=
  mix_two2 hi hj pi pj hpi hpj (fun K hK => stg_shut (h1 K hK)) (fun K hK => stg_shut (h2 K hK))
theorem mix_three3 {i j k : Nat} {p q r : PlanC} {ph : Bool} {a : Act} {w : World} {o o' o'' : Oper} (hi : ops[i]? = some o) (hj : ops[j]? = some o') (hk : ops[k]? = some o'') (pi pj pk : Bool) (hpi : (ph || i == z) = pi) (hpj : (ph || j == z) = pj) (hpk : (ph || k == z) = pk)
    (h1 : ∀ K : Act → World → Prop, (∀ a' w', C pi w' → wpMix2 Try.prog ops C z Q p pi a' w' → K a' w') → StG ops o a w K Q (K (a.put o.dst undef) w))
    (h2 : ∀ K : Act → World → Prop, (∀ a' w', C pj w' → wpMix2 Try.prog ops C z Q q pj a' w' → K a' w') → StG ops o' a w K Q (K (a.put o'.dst undef) w))
    (h3 : ∀ K : Act → World → Prop, (∀ a' w', C pk w' → wpMix2 Try.prog ops C z Q r pk a' w' → K a' w') → StG ops o'' a w K Q (K (a.put o''.dst undef) w)) :
    wpMix2 Try.prog ops C z Q (.three i p j q k r) ph a w :=
  mix_three2 hi hj hk pi pj pk hpi hpj hpk (fun K hK => stg_shut (h1 K hK)) (fun K hK => stg_shut (h2 K hK)) (fun K hK => stg_shut (h3 K hK))
end
section
variable {ops : Array Oper} {o : Oper} {a : Act} {w : World} {K : Act → World → Prop} {Q : Exit → Act → World → Prop} {E : Prop}
theorem stq_fn {c : Call} {f : FuncId} {d : Tmp} {xs : List Operand} {args : List Value}
    (hg : o.guard = none) (ho : o.op = .call c) (hc : c.callee = .value (.func f)) (hf : Ent f) (hd : o.dst = some d) (hx : c.args = xs.toArray) {Post : Ending → World → Prop} (ha : xs.map a.eval = args) (hcall : Calls Try.prog f args.toArray w Post)
    (h : ∀ e w', Post e w' → ∃ v, e = .returned v ∧ K ⟨a.tmps.setIfInBounds d v, a.defers⟩ w') : StG ops o a w K Q E := stg_open (step_fn2 hg ho hc hf hd hx ha hcall h)
theorem stq_lit (t e : TypeId) (len : Nat) {parts : Array (Nat × Operand)} {ps : List (Nat × Operand)} {vs : List (Nat × Value)} {z : Value} {size bytes : Nat} {d : Tmp}
    (hg : o.guard = none) (ho : o.op = .buildSlice t len parts) (hd : o.dst = some d) (hps : parts = ps.toArray) (ht : Try.prog.underlying t = some (.slice e)) (hi : (Try.prog.info? e).map (fun i => (i.zero, i.size, i.bytes)) = some (some z, size, bytes))
    (hsz : len * size ≤ 1000 ∧ ¬ len * size = 0) {cells : Array Value}
    (hf : Instr.fill (fun i => some (i * size, size)) ((Array.range (len * size)).map (z.cells[· % z.cells.size]!)) vs = some cells) (hv : (ps.map fun (i, x) => (i, a.eval x)) = vs)
    (h : K ⟨a.tmps.setIfInBounds d (.slice (some ⟨w.heap.size, 0, none⟩) len len), a.defers⟩ (w.alloc (.cells cells e))) : StG ops o a w K Q E := stg_open (step_lit2 t e len hg ho hd hps ht hi hsz hf hv h)
theorem stq_new {e : TypeId} {d : Tmp} {cells : Array Value}
    (hg : o.guard = none) (ho : o.op = .alloc e) (hd : o.dst = some d) (hr : (Instr.alloc e true (.tuple #[])).run Try.prog w = .ok (.pointer (some ⟨w.heap.size, 0, none⟩)) (w.alloc (.cells cells e)))
    (h : K ⟨a.tmps.setIfInBounds d (.pointer (some ⟨w.heap.size, 0, none⟩)), a.defers⟩ (w.alloc (.cells cells e))) : StG ops o a w K Q E := stg_open (step_new hg ho hd hr h)
theorem stq_st {w2 : World} {t : TypeId} {x y : Operand} {p v : Value}
    (hg : o.guard = none) (ho : o.op = .store t x y) (hd : o.dst = none) (hr : (Instr.storeAt t p v).run Try.prog w = .ok () w2) (hx : a.eval x = p) (hy : a.eval y = v)
    (h : K ⟨a.tmps, a.defers⟩ w2) : StG ops o a w K Q E := stg_open (step_st hg ho hd hr hx hy h)
theorem stq_app {s x : Operand} {d : Tmp} (t : TypeId)
    (hg : o.guard = none) (ho : o.op = .call { callee := .builtin .append, args := #[s, x], argTypes := #[t, t] }) (hd : o.dst = some d)
    (e : TypeId) (z : Value) (size bytes : Nat) (ht : Try.prog.underlying t = some (.slice e)) (hi : (Try.prog.info? e).map (fun i => (i.zero, i.size, i.bytes)) = some (some z, size, bytes)) (hzs : z.cells.size = size) (hsz : 0 < size) (hby : bytes ≤ 64)
    {B : Nat} (hB : B ≤ w.heap.size) {A' : Nat → Prop} {v : Value} {n : Nat} {xs : List Value} (hown : Own B w e size v n xs)
    {vs : Value} {m : Nat} {news : List Value} (hsrc : Arr A' w vs m news) (hl : news.length = m * size) (h1 : ∀ u ∈ news, u.oneCell' = true)
    (hnm : n + m ≤ 1000000) (hs : a.eval s = v) (hx : a.eval x = vs)
    (h : ∀ v' w', Own B w' e size v' (n + m) (xs ++ news) → Turned w w' v v' → K ⟨a.tmps.setIfInBounds d v', a.defers⟩ w') : StG ops o a w K Q E := stg_open (step_app t hg ho hd e z size bytes ht hi hzs hsz hby hB hown hsrc hl h1 hnm hs hx h)
end
end Go.Proofs.Ytgdifckmjdjcpaa
