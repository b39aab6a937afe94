/- Steps that yield, for a frame that is written out, guarded or not; no frame is simplified; conditions: as said. -/
import Derived.Test.YtgdifckmjdjcpaaStj
namespace Go.Proofs.Ytgdifckmjdjcpaa
open Go.RowKit

/-- A frame that is written out, a slot set. -/
theorem set_lit (l : List Value) (d : Nat) (v : Value) : l.toArray.setIfInBounds d v = (l.set d v).toArray := by simp
section
variable {ops : Array Oper} {Q : Exit → Act → World → Prop} {C : Bool → World → Prop} {z i : Nat} {rest : PlanC} {ph : Bool} {T : Array Value} {D : List Deferred} {w : World} {o : Oper} {d : Tmp} {v : Value}
/-- Any operation that yields the same in every world. -/
theorem mix_val (hi : ops[i]? = some o) (hw : Region.wanted o (yielded ops T) = true) (hd : o.dst = some d) (hr : ∀ w', (execOp (Act.mk T D).eval o).run Try.prog w' = .ok (.value v) w')
    (h : wpMix2 Try.prog ops C z Q rest ph ⟨T.setIfInBounds d v, D⟩ w) : wpMix2 Try.prog ops C z Q (.pur i rest) ph ⟨T, D⟩ w := by
  refine mix_pur2 hi fun K hK => ?_
  rw [if_pos hw]
  refine ⟨v, hr, hK _ ?_⟩
  rw [hd]
  exact h
/-- One that is not wanted. -/
theorem mix_nil (hi : ops[i]? = some o) (hw : Region.wanted o (yielded ops T) = false) (hd : o.dst = some d)
    (h : wpMix2 Try.prog ops C z Q rest ph ⟨T.setIfInBounds d undef, D⟩ w) : wpMix2 Try.prog ops C z Q (.pur i rest) ph ⟨T, D⟩ w := by
  refine mix_pur2 hi fun K hK => ?_
  rw [if_neg (by rw [hw]; decide)]
  refine hK _ ?_
  rw [hd]
  exact h
theorem mix_mw {x : Operand} (hi : ops[i]? = some o) (hw : Region.wanted o (yielded ops T) = true) (hd : o.dst = some d) (ho : o.op = .move x ∨ o.op = .assign x) (hv : (Act.mk T D).eval x = v)
    (h : wpMix2 Try.prog ops C z Q rest ph ⟨T.setIfInBounds d v, D⟩ w) : wpMix2 Try.prog ops C z Q (.pur i rest) ph ⟨T, D⟩ w :=
  mix_val hi hw hd (fun w' => by
    subst hv
    unfold execOp
    rcases ho with ho | ho <;> rw [ho] <;> rfl) h
theorem mix_ix {t : TypeId} {x y : Operand} {p q : Value} (hi : ops[i]? = some o) (hw : Region.wanted o (yielded ops T) = true) (hd : o.dst = some d) (ho : o.op = .indexAddr t x y) (hr : ∀ w', (Instr.indexAt t p q).run Try.prog w' = .ok v w') (hx : (Act.mk T D).eval x = p) (hy : (Act.mk T D).eval y = q)
    (h : wpMix2 Try.prog ops C z Q rest ph ⟨T.setIfInBounds d v, D⟩ w) : wpMix2 Try.prog ops C z Q (.pur i rest) ph ⟨T, D⟩ w :=
  mix_val hi hw hd (fun w' => by
    subst hx
    subst hy
    unfold execOp
    simp only [ho, Sem.run_bind, hr, Result.andThen_ok, Sem.run_pure]) h
theorem mix_ext {x : Operand} {ix : Nat} {p : Value} (hi : ops[i]? = some o) (hw : Region.wanted o (yielded ops T) = true) (hd : o.dst = some d) (ho : o.op = .extract x ix) (hr : ∀ w', (Instr.extract p ix).run Try.prog w' = .ok v w') (hx : (Act.mk T D).eval x = p)
    (h : wpMix2 Try.prog ops C z Q rest ph ⟨T.setIfInBounds d v, D⟩ w) : wpMix2 Try.prog ops C z Q (.pur i rest) ph ⟨T, D⟩ w :=
  mix_val hi hw hd (fun w' => by
    subst hx
    unfold execOp
    simp only [ho, Sem.run_bind, hr, Result.andThen_ok, Sem.run_pure]) h
theorem mix_not {t : TypeId} {x : Operand} (b : Bool) (hi : ops[i]? = some o) (hw : Region.wanted o (yielded ops T) = true) (hd : o.dst = some d) (ho : o.op = .unOp .not t x) (hx : (Act.mk T D).eval x = .bool b)
    (h : wpMix2 Try.prog ops C z Q rest ph ⟨T.setIfInBounds d (.bool (!b)), D⟩ w) : wpMix2 Try.prog ops C z Q (.pur i rest) ph ⟨T, D⟩ w :=
  mix_val hi hw hd (fun w' => by
    unfold execOp
    rw [ho]
    simp only [hx]
    rfl) h
theorem mix_pick {c x y : Operand} (b : Bool) (hi : ops[i]? = some o) (hw : Region.wanted o (yielded ops T) = true) (hd : o.dst = some d) (ho : o.op = .pick c x y) (hc : (Act.mk T D).eval c = .bool b) (hv : (if b then (Act.mk T D).eval x else (Act.mk T D).eval y) = v)
    (h : wpMix2 Try.prog ops C z Q rest ph ⟨T.setIfInBounds d v, D⟩ w) : wpMix2 Try.prog ops C z Q (.pur i rest) ph ⟨T, D⟩ w :=
  mix_val hi hw hd (fun w' => by
    subst hv
    unfold execOp
    rw [ho]
    simp only [hc]
    rfl) h
theorem mix_bin {op : BinOp} {t t2 : TypeId} {x y : Operand} {p q : Value} (hi : ops[i]? = some o) (hw : Region.wanted o (yielded ops T) = true) (hd : o.dst = some d) (ho : o.op = .binOp op t x y t2) (hr : ∀ w', (do eqGuard op t x y p q; binOp op t p q : Sem Value).run Try.prog w' = .ok v w') (hx : (Act.mk T D).eval x = p) (hy : (Act.mk T D).eval y = q)
    (h : wpMix2 Try.prog ops C z Q rest ph ⟨T.setIfInBounds d v, D⟩ w) : wpMix2 Try.prog ops C z Q (.pur i rest) ph ⟨T, D⟩ w :=
  mix_val hi hw hd (fun w' => by
    subst hx
    subst hy
    unfold execOp
    have h := hr w'
    simp only [ho, Sem.run_bind, Sem.run_pure] at h ⊢
    rw [h]
    rfl) h
/-- A load, its value being one and the same in every world of the class. -/
theorem mix_ld {t : TypeId} {x : Operand} {p : Addr} (hi : ops[i]? = some o) (hw : Region.wanted o (yielded ops T) = true) (hd : o.dst = some d) (ho : o.op = .load t x) (hv : ∀ w', C ph w' → (loadVar t p).run Try.prog w' = .ok v w') (hx : (Act.mk T D).eval x = .pointer (some p))
    (h : wpMix2 Try.prog ops C z Q rest ph ⟨T.setIfInBounds d v, D⟩ w) : wpMix2 Try.prog ops C z Q (.one i rest) ph ⟨T, D⟩ w := by
  refine ⟨o, v, hi, .inl ⟨hw, fun w' hS => ?_⟩, ?_⟩
  · simp [execOp, ho, Instr.loadAt, hx, Instr.sureAddr, hv w' hS]
  · have e : (Act.mk T D).put o.dst v = ⟨T.setIfInBounds d v, D⟩ := by rw [hd]; rfl
    rw [e]
    exact h
end
/-- A call of a function that is wanted. -/
theorem stw_fn {ops : Array Oper} {o : Oper} {T : Array Value} {D : List Deferred} {w : World} {K : Act → World → Prop} {Q : Exit → Act → World → Prop} {E : Prop} {c : Call} {f : FuncId} {d : Tmp} {xs : List Operand} {args : List Value}
    (hw : Region.wanted o (yielded ops T) = true) (ho : o.op = .call c) (hc : c.callee = .value (.func f)) (hf : Ent f) (hd : o.dst = some d) (hx : c.args = xs.toArray) {Post : Ending → World → Prop} (ha : xs.map (Act.mk T D).eval = args) (hcall : Calls Try.prog f args.toArray w Post)
    (h : ∀ e w', Post e w' → ∃ v, e = .returned v ∧ K ⟨T.setIfInBounds d v, D⟩ w') : StG ops o ⟨T, D⟩ w K Q E := by
  refine stg_open ?_
  rw [if_pos hw]
  unfold Oper.wp
  rw [run_fn ho hc hf, Oper.upon_enter, hx, List.map_toArray, ha]
  refine hcall.mono ?_
  intro e w' hp
  obtain ⟨v, rfl, hk⟩ := h e w' hp
  show K ((Act.mk T D).put o.dst v) w'
  rw [hd]
  exact hk
theorem ix27 {b n c i : Nat} (h : i < n) (w : World) : (Instr.indexAt 27 (.slice (some ⟨b, 0, none⟩) n c) (.int .i64 (i : Int))).run Try.prog w = .ok (.pointer (some ⟨b, i, none⟩)) w := by go_simp
theorem ix29 {b n c i : Nat} (h : i < n) (w : World) : (Instr.indexAt 29 (.slice (some ⟨b, 0, none⟩) n c) (.int .i64 (i : Int))).run Try.prog w = .ok (.pointer (some ⟨b, i * 3, none⟩)) w := by go_simp
theorem ix48 {b n c i : Nat} (h : i < n) (w : World) : (Instr.indexAt 48 (.slice (some ⟨b, 0, none⟩) n c) (.int .i64 (i : Int))).run Try.prog w = .ok (.pointer (some ⟨b, i, none⟩)) w := by go_simp
theorem ex20 (a b : Value) (w : World) : (Instr.extract (.tuple #[a, b]) 0).run Try.prog w = .ok a w := by go_simp
theorem ex21 (a b : Value) (w : World) : (Instr.extract (.tuple #[a, b]) 1).run Try.prog w = .ok b w := by go_simp
theorem ex30 (a b c : Value) (w : World) : (Instr.extract (.tuple #[a, b, c]) 0).run Try.prog w = .ok a w := by go_simp
theorem ex31 (a b c : Value) (w : World) : (Instr.extract (.tuple #[a, b, c]) 1).run Try.prog w = .ok b w := by go_simp
theorem ex32 (a b c : Value) (w : World) : (Instr.extract (.tuple #[a, b, c]) 2).run Try.prog w = .ok c w := by go_simp
theorem ne34 (x y : Operand) (a : Int) (w : World) : (do eqGuard .neq 34 x y (.int .i64 a) (.int .i64 a); binOp .neq 34 (.int .i64 a) (.int .i64 a) : Sem Value).run Try.prog w = .ok (.bool false) w := by go_simp
theorem ne3 (x y : Operand) (a : Int) (w : World) : (do eqGuard .neq 3 x y (.int .i64 a) (.int .i64 a); binOp .neq 3 (.int .i64 a) (.int .i64 a) : Sem Value).run Try.prog w = .ok (.bool false) w := by go_simp
end Go.Proofs.Ytgdifckmjdjcpaa
