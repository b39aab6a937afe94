/- Regions that draw their order; conditions: as said. -/
import Derived.Test.YtbpfhoihfoojfaaGreatDoorBase
import Derived.Deep.RegionHeld3
import Derived.OrdersHeld
import Derived.OrdersIn
import Derived.RangeFuncBound
import Derived.RangeFuncCalls
import Derived.RangeFuncLeaves
import Derived.RangeFuncNested
import Derived.WalkKit
namespace Go.Proofs.YtbpfhoihfoojfaaGreatDoor


section
variable {P : Program} {ops : Array Oper} {Q : Exit → Act → World → Prop}

/-- The class that holds: till operation z has come up, and behind it. -/
def Cls (S T : World → Prop) : Bool → World → Prop
  | false => S
  | true => T

/-- Whatever comes up next. -/
def wpAnyZ (P : Program) (ops : Array Oper) (Q : Exit → Act → World → Prop) (C : Bool → World → Prop) (z : Nat) : Nat → Array Bool → Act → World → Prop
  | 0, listed, a, w => Region.ready .any ops listed = [] ∧ Q .normal a w
  | fuel + 1, listed, a, w =>
    (Region.ready .any ops listed = [] → Q .normal a w) ∧
    ∀ i ∈ Region.ready .any ops listed, wpOp P ops Q i (fun a' w' => C ((listed.setIfInBounds i true).getD z false) w' ∧ wpAnyZ P ops Q C z fuel (listed.setIfInBounds i true) a' w') a w

variable {C : Bool → World → Prop}

theorem any_of_z {z : Nat} : ∀ (fuel : Nat) (listed : Array Bool) (a : Act) (w : World), wpAnyZ P ops Q C z fuel listed a w → wpAny P .any ops Q fuel listed a w
  | 0, _, _, _, h => h
  | fuel + 1, _, _, _, h => ⟨h.1, fun i hi => wpOp_mono (fun a' w' h' => any_of_z fuel _ a' w' h'.2) (h.2 i hi)⟩

theorem getD_set_keep {listed : Array Bool} {i z : Nat} (h : listed.getD z false = true ∨ i ≠ z) : (listed.setIfInBounds i true).getD z false = listed.getD z false := by
  by_cases e : i = z
  · subst e
    rcases h with h | h
    · rw [h]; exact getD_set_true h
    · exact absurd rfl h
  · exact getD_set_ne false e

/-- What yields in every world of the class, and for which z waits or has come up, may be taken first. -/
theorem z_first {z i : Nat} {oi : Oper} {v : Value} (hi : ops[i]? = some oi) (hsel : ∀ (j : Nat) (o : Oper) cs b, ops[j]? = some o → o.op ≠ .select cs b)
    (hQ : ∀ c a w, Q (.panic c) (a.put oi.dst v) w → Q (.panic c) a w) (hzi : z ≠ i) :
    ∀ (fuel : Nat) (listed : Array Bool) (a : Act) (w : World), (listed.getD z false = true ∨ ∀ oz, ops[z]? = some oz → ∃ e ∈ oz.after, Region.binds .any e = true ∧ e.on = i) →
      (∀ j oj, ops[j]? = some oj → j ≠ i → listed.getD j true = false → (∀ e ∈ oj.after, Region.binds .any e = true → e.on ≠ i) → oi.apart ops oj = true) →
      i ∈ Region.ready .any ops listed → YieldsIf P ops (C (listed.getD z false)) oi v a → C (listed.getD z false) w →
      wpAnyZ P ops Q C z fuel (listed.setIfInBounds i true) (a.put oi.dst v) w → wpAnyZ P ops Q C z (fuel + 1) listed a w := by
  intro fuel
  induction fuel with
  | zero =>
    intro listed a w hzw _ hr hy hS H
    have hk : (listed.setIfInBounds i true).getD z false = listed.getD z false := getD_set_keep (.inr (Ne.symm hzi))
    refine ⟨fun h => (by rw [h] at hr; cases hr), fun j hj => ?_⟩
    by_cases hji : j = i
    · subst hji; exact hy.wpOp hi hS ⟨by rw [hk]; exact hS, H⟩
    · have h1 := ready_mono hj hji
      rw [H.1] at h1
      cases h1
  | succ fuel ih =>
    intro listed a w hzw hfree hr hy hS H
    have hk : (listed.setIfInBounds i true).getD z false = listed.getD z false := getD_set_keep (.inr (Ne.symm hzi))
    refine ⟨fun h => (by rw [h] at hr; cases hr), fun j hj => ?_⟩
    by_cases hji : j = i
    · subst hji; exact hy.wpOp hi hS ⟨by rw [hk]; exact hS, H⟩
    · have h1 := H.2 j (ready_mono hj hji)
      obtain ⟨hjun, oj, hoj, hall⟩ := mem_ready.1 hj
      have hnot : ∀ e ∈ oj.after, Region.binds .any e = true → e.on ≠ i := fun e he hb heq => by
        have h2 := hall e he hb
        have h0 := (mem_ready.1 hr).1
        rw [heq] at h2
        rcases Nat.lt_or_ge i listed.size with h' | h'
        · simp [h'] at h0 h2; rw [h0] at h2; cases h2
        · simp [Array.getElem?_eq_none h'] at h2
      have hjz : listed.getD z false = true ∨ j ≠ z := hzw.imp id fun hw e => by
        subst e
        obtain ⟨x, hx, hb, hon⟩ := hw oj hoj
        exact hnot x hx hb hon
      have hkj : (listed.setIfInBounds j true).getD z false = listed.getD z false := getD_set_keep hjz
      have hkij : ((listed.setIfInBounds i true).setIfInBounds j true).getD z false = listed.getD z false := by
        rw [getD_set_keep (by rw [hk]; exact hjz), hk]
      have h2 := wpOp_putIf hoj (hfree j oj hoj hji hjun hnot) (fun cs b => hsel i oi cs b hi) (fun cs b => hsel j oj cs b hoj) hQ hy h1
      have hfree' : ∀ k ok, ops[k]? = some ok → k ≠ i → (listed.setIfInBounds j true).getD k true = false →
          (∀ e ∈ ok.after, Region.binds .any e = true → e.on ≠ i) → oi.apart ops ok = true := fun k ok hk hki hun hno => by
        refine hfree k ok hk hki ?_ hno
        by_cases hjk : j = k
        · subst hjk; exact hjun
        · rw [getD_set_ne true hjk] at hun; exact hun
      refine wpOp_mono (fun a' w' h3 => ?_) h2
      have hS' : C (listed.getD z false) w' := by have := h3.2.1; rw [hkij] at this; exact this
      refine ⟨by rw [hkj]; exact hS', ih (listed.setIfInBounds j true) a' w' (by rw [hkj]; exact hzw) hfree' (ready_mono hr (Ne.symm hji)) (by rw [hkj]; exact h3.1) (by rw [hkj]; exact hS') ?_⟩
      rw [Array.setIfInBounds_comm _ _ hji]
      exact h3.2.2

theorem either {b : Bool} {w : World} (h : C b w) : C false w ∨ C true w := by
  cases b
  · exact .inl h
  · exact .inr h
/-- What yields in every world of both classes may be taken first. -/
theorem z_pure {z i : Nat} {oi : Oper} {v : Value} (hi : ops[i]? = some oi) (hsel : ∀ (j : Nat) (o : Oper) cs b, ops[j]? = some o → o.op ≠ .select cs b)
    (hQ : ∀ c a w, Q (.panic c) (a.put oi.dst v) w → Q (.panic c) a w) (hzi : z ≠ i) :
    ∀ (fuel : Nat) (listed : Array Bool) (a : Act) (w : World),
      (∀ j oj, ops[j]? = some oj → j ≠ i → listed.getD j true = false → (∀ e ∈ oj.after, Region.binds .any e = true → e.on ≠ i) → oi.apart ops oj = true) →
      i ∈ Region.ready .any ops listed → YieldsIf P ops (fun w => C false w ∨ C true w) oi v a → C (listed.getD z false) w →
      wpAnyZ P ops Q C z fuel (listed.setIfInBounds i true) (a.put oi.dst v) w → wpAnyZ P ops Q C z (fuel + 1) listed a w := by
  intro fuel
  induction fuel with
  | zero =>
    intro listed a w _ hr hy hS H
    have hk : (listed.setIfInBounds i true).getD z false = listed.getD z false := getD_set_keep (.inr (Ne.symm hzi))
    refine ⟨fun h => (by rw [h] at hr; cases hr), fun j hj => ?_⟩
    by_cases hji : j = i
    · subst hji; exact hy.wpOp hi (either hS) ⟨by rw [hk]; exact hS, H⟩
    · have h1 := ready_mono hj hji
      rw [H.1] at h1
      cases h1
  | succ fuel ih =>
    intro listed a w hfree hr hy hS H
    have hk : (listed.setIfInBounds i true).getD z false = listed.getD z false := getD_set_keep (.inr (Ne.symm hzi))
    refine ⟨fun h => (by rw [h] at hr; cases hr), fun j hj => ?_⟩
    by_cases hji : j = i
    · subst hji; exact hy.wpOp hi (either hS) ⟨by rw [hk]; exact hS, H⟩
    · have h1 := H.2 j (ready_mono hj hji)
      obtain ⟨hjun, oj, hoj, hall⟩ := mem_ready.1 hj
      have hnot : ∀ e ∈ oj.after, Region.binds .any e = true → e.on ≠ i := fun e he hb heq => by
        have h2 := hall e he hb
        have h0 := (mem_ready.1 hr).1
        rw [heq] at h2
        rcases Nat.lt_or_ge i listed.size with h' | h'
        · simp [h'] at h0 h2; rw [h0] at h2; cases h2
        · simp [Array.getElem?_eq_none h'] at h2
      have hkij : ((listed.setIfInBounds i true).setIfInBounds j true).getD z false = (listed.setIfInBounds j true).getD z false := by
        rw [← Array.setIfInBounds_comm _ _ hji]; exact getD_set_keep (.inr (Ne.symm hzi))
      have h2 := wpOp_putIf hoj (hfree j oj hoj hji hjun hnot) (fun cs b => hsel i oi cs b hi) (fun cs b => hsel j oj cs b hoj) hQ hy h1
      have hfree' : ∀ k ok, ops[k]? = some ok → k ≠ i → (listed.setIfInBounds j true).getD k true = false →
          (∀ e ∈ ok.after, Region.binds .any e = true → e.on ≠ i) → oi.apart ops ok = true := fun k ok hk hki hun hno => by
        refine hfree k ok hk hki ?_ hno
        by_cases hjk : j = k
        · subst hjk; exact hjun
        · rw [getD_set_ne true hjk] at hun; exact hun
      refine wpOp_mono (fun a' w' h3 => ?_) h2
      have hS' : C ((listed.setIfInBounds j true).getD z false) w' := by have := h3.2.1; rw [hkij] at this; exact this
      refine ⟨hS', ih (listed.setIfInBounds j true) a' w' hfree' (ready_mono hr (Ne.symm hji)) h3.1 hS' ?_⟩
      rw [Array.setIfInBounds_comm _ _ hji]
      exact h3.2.2

/-- An order of a region: 'one': the operation yields in every world of the class; 'pur': it yields in every world of both classes; 'act': it acts, and is the only one that may come up; 'two': two that act, either of which may come up. -/
inductive Plan where
  | fin
  | one (i : Nat) (p : Plan)
  | pur (i : Nat) (p : Plan)
  | act (i : Nat) (p : Plan)
  | two (i : Nat) (p : Plan) (j : Nat) (q : Plan)

def Plan.len : Plan → Nat
  | .fin => 0
  | .one _ p => p.len + 1
  | .pur _ p => p.len + 1
  | .act _ p => p.len + 1
  | .two _ p _ _ => p.len + 1

/-- The walk in the order of the plan; 'ph': has z come up? -/
def wpMix (P : Program) (ops : Array Oper) (C : Bool → World → Prop) (z : Nat) (Q : Exit → Act → World → Prop) : Plan → Bool → Act → World → Prop
  | .fin, _, a, w => Q .normal a w
  | .one i p, ph, a, w => ∃ o v, ops[i]? = some o ∧ YieldsIf P ops (C ph) o v a ∧ wpMix P ops C z Q p ph (a.put o.dst v) w
  | .pur i p, ph, a, w => ∃ o v, ops[i]? = some o ∧ YieldsIf P ops (fun w => C false w ∨ C true w) o v a ∧ wpMix P ops C z Q p ph (a.put o.dst v) w
  | .act i p, ph, a, w => wpOp P ops Q i (fun a' w' => C (ph || i == z) w' ∧ wpMix P ops C z Q p (ph || i == z) a' w') a w
  | .two i p j q, ph, a, w => wpOp P ops Q i (fun a' w' => C (ph || i == z) w' ∧ wpMix P ops C z Q p (ph || i == z) a' w') a w ∧
      wpOp P ops Q j (fun a' w' => C (ph || j == z) w' ∧ wpMix P ops C z Q q (ph || j == z) a' w') a w

def waitsB (ops : Array Oper) (z i : Nat) : Bool :=
  match ops[z]? with
  | some oz => oz.after.any fun e => Region.binds .any e && e.on == i
  | none => true

/-- The order is one that may be taken: what yields is apart from what may come before it, and z waits for it or has come up; what acts is all that may come up. -/
def mixB (ops : Array Oper) (z : Nat) : Plan → Array Bool → Bool
  | .fin, listed => Region.ready .any ops listed == []
  | .one i p, listed => Region.free .any ops listed i && (Region.ready .any ops listed).contains i && (z != i && (listed.getD z false || waitsB ops z i)) && mixB ops z p (listed.setIfInBounds i true)
  | .pur i p, listed => Region.free .any ops listed i && (Region.ready .any ops listed).contains i && z != i && mixB ops z p (listed.setIfInBounds i true)
  | .act i p, listed => Region.ready .any ops listed == [i] && ((listed.setIfInBounds i true).getD z false == (listed.getD z false || i == z)) && mixB ops z p (listed.setIfInBounds i true)
  | .two i p j q, listed => Region.ready .any ops listed == [i, j] && ((listed.setIfInBounds i true).getD z false == (listed.getD z false || i == z)) && ((listed.setIfInBounds j true).getD z false == (listed.getD z false || j == z)) && p.len == q.len &&
      mixB ops z p (listed.setIfInBounds i true) && mixB ops z q (listed.setIfInBounds j true)

theorem mix_any {z : Nat} (hs : Region.noSelect ops = true) : ∀ (l : Plan) (listed : Array Bool) (a : Act) (w : World), mixB ops z l listed = true → C (listed.getD z false) w →
    wpMix P ops C z (NoPanic Q) l (listed.getD z false) a w → wpAnyZ P ops (NoPanic Q) C z l.len listed a w
  | .fin, listed, a, w, hb, _, h => by
    simp only [mixB, beq_iff_eq] at hb
    exact ⟨hb, h⟩
  | .one i rest, listed, a, w, hb, hS, h => by
    simp only [mixB, Bool.and_eq_true, Bool.or_eq_true] at hb
    obtain ⟨⟨⟨hb1, hb2⟩, hb3, hb4⟩, hb6⟩ := hb
    obtain ⟨o, v, hi, hy, h⟩ := h
    have hzi : z ≠ i := by simpa using hb3
    have hk : (listed.setIfInBounds i true).getD z false = listed.getD z false := getD_set_keep (.inr (Ne.symm hzi))
    refine z_first hi (Region.noSelect_spec hs) (fun _ _ _ h => h) hzi _ listed a w (hb4.imp id fun hb4 oz hoz => ?_) (Region.free_spec hi hb1) (by simpa using hb2) hy hS (mix_any hs rest _ _ _ hb6 (by rw [hk]; exact hS) (by rw [hk]; exact h))
    unfold waitsB at hb4
    rw [hoz] at hb4
    obtain ⟨e, he, hbe⟩ := Array.any_eq_true'.1 hb4
    simp only [Bool.and_eq_true, beq_iff_eq] at hbe
    exact ⟨e, he, hbe.1, hbe.2⟩
  | .pur i rest, listed, a, w, hb, hS, h => by
    simp only [mixB, Bool.and_eq_true] at hb
    obtain ⟨⟨⟨hb1, hb2⟩, hb3⟩, hb6⟩ := hb
    obtain ⟨o, v, hi, hy, h⟩ := h
    have hzi : z ≠ i := by simpa using hb3
    have hk : (listed.setIfInBounds i true).getD z false = listed.getD z false := getD_set_keep (.inr (Ne.symm hzi))
    exact z_pure hi (Region.noSelect_spec hs) (fun _ _ _ h => h) hzi _ listed a w (Region.free_spec hi hb1) (by simpa using hb2) hy hS (mix_any hs rest _ _ _ hb6 (by rw [hk]; exact hS) (by rw [hk]; exact h))
  | .act i rest, listed, a, w, hb, hS, h => by
    simp only [mixB, Bool.and_eq_true, beq_iff_eq] at hb
    obtain ⟨⟨hb1, hb2⟩, hb3⟩ := hb
    refine ⟨fun h0 => (by rw [h0] at hb1; cases hb1), fun j hj => ?_⟩
    rw [hb1, List.mem_singleton] at hj
    subst hj
    refine wpOp_mono (fun a' w' h' => ?_) h
    rw [← hb2] at h'
    exact ⟨h'.1, mix_any hs rest _ _ _ hb3 h'.1 h'.2⟩
  | .two i p j q, listed, a, w, hb, hS, h => by
    simp only [mixB, Bool.and_eq_true, beq_iff_eq] at hb
    obtain ⟨⟨⟨⟨⟨hb1, hbi⟩, hbj⟩, hl⟩, hb2⟩, hb3⟩ := hb
    refine ⟨fun h0 => (by rw [h0] at hb1; cases hb1), fun k hk => ?_⟩
    rw [hb1] at hk
    simp only [List.mem_cons, List.not_mem_nil, or_false] at hk
    rcases hk with rfl | rfl
    · refine wpOp_mono (fun a' w' h' => ?_) h.1
      rw [← hbi] at h'
      exact ⟨h'.1, mix_any hs p _ _ _ hb2 h'.1 h'.2⟩
    · refine wpOp_mono (fun a' w' h' => ?_) h.2
      rw [← hbj] at h'
      have := mix_any hs q _ _ _ hb3 h'.1 h'.2
      rw [← hl] at this
      exact ⟨h'.1, this⟩

theorem getD_replicate (n z : Nat) : (Array.replicate n false).getD z false = false := by
  rcases Nat.lt_or_ge z n with h | h
  · simp [h]
  · simp [h]

/-- The beginning: from the world behind the draw. z: the operation behind which the class T holds in S's place. -/
theorem wp_region_mix {id : Nat} {a : Act} {w : World} (l : Plan) (z : Nat) (S T : World → Prop) (hm : P.follows .mixedOrders = true) (hs : Region.noSelect ops = true) (hn : l.len = ops.size)
    (hb : mixB ops z l (Array.replicate ops.size false) = true) (hS : S w.drew) (h : ∀ w1, Qt w w1 → S w1 → wpMix P ops (Cls S T) z (NoPanic Q) l false a w1) : (Code.region id ops true).wp P Q a w := by
  refine wp_region_noPanic (wp_region_any hm (any_of_z (C := Cls S T) (z := z) _ _ _ _ ?_))
  rw [← hn]
  exact mix_any hs l _ _ _ (by rw [hn]; exact hb) (by rw [getD_replicate]; exact hS) (by rw [getD_replicate]; exact h _ ⟨1, rfl⟩ hS)

theorem mix_pure {z i : Nat} {rest : Plan} {ph : Bool} {a : Act} {w : World} {o : Oper} (hi : ops[i]? = some o)
    (h : ∀ K : Act → Prop, (∀ a, wpMix P ops C z Q rest ph a w → K a) →
      if Region.wanted o (yielded ops a.tmps) then ∃ v, (∀ w', C ph w' → (execOp a.eval o).run P w' = .ok (.value v) w') ∧ K (a.put o.dst v) else K (a.put o.dst undef)) :
    wpMix P ops C z Q (.one i rest) ph a w := by
  have h1 := h (fun a => wpMix P ops C z Q rest ph a w) (fun _ h => h)
  by_cases hw : Region.wanted o (yielded ops a.tmps) = true
  · rw [if_pos hw] at h1
    obtain ⟨v, h2, h3⟩ := h1
    exact ⟨o, v, hi, .inl ⟨hw, h2⟩, h3⟩
  · rw [if_neg hw] at h1
    exact ⟨o, undef, hi, .inr ⟨by simpa using hw, rfl⟩, h1⟩

theorem mix_pur {z i : Nat} {rest : Plan} {ph : Bool} {a : Act} {w : World} {o : Oper} (hi : ops[i]? = some o)
    (h : ∀ K : Act → Prop, (∀ a, wpMix P ops C z Q rest ph a w → K a) →
      if Region.wanted o (yielded ops a.tmps) then ∃ v, (∀ w', (execOp a.eval o).run P w' = .ok (.value v) w') ∧ K (a.put o.dst v) else K (a.put o.dst undef)) :
    wpMix P ops C z Q (.pur i rest) ph a w := by
  have h1 := h (fun a => wpMix P ops C z Q rest ph a w) (fun _ h => h)
  by_cases hw : Region.wanted o (yielded ops a.tmps) = true
  · rw [if_pos hw] at h1
    obtain ⟨v, h2, h3⟩ := h1
    exact ⟨o, v, hi, .inl ⟨hw, fun w' _ => h2 w'⟩, h3⟩
  · rw [if_neg hw] at h1
    exact ⟨o, undef, hi, .inr ⟨by simpa using hw, rfl⟩, h1⟩

/-- A load, its value being one and the same in every world of both classes. -/
theorem mix_pload {z i : Nat} {rest : Plan} {ph : Bool} {a : Act} {w : World} {o : Oper} (hi : ops[i]? = some o) (hg : o.guard = none) {t : TypeId} {x : Operand} (ho : o.op = .load t x) {p : Addr} (v : Value)
    (hv : ∀ w', (C false w' ∨ C true w') → (loadVar t p).run P w' = .ok v w') (hx : a.eval x = .pointer (some p)) (h : wpMix P ops C z Q rest ph (a.put o.dst v) w) : wpMix P ops C z Q (.pur i rest) ph a w := by
  refine ⟨o, v, hi, .inl ⟨by simp [Region.wanted, hg], fun w' hS => ?_⟩, h⟩
  simp [execOp, ho, Instr.loadAt, hx, Instr.sureAddr, hv w' hS]

/-- A load, its value being one and the same in every world of the class. -/
theorem mix_load {z i : Nat} {rest : Plan} {ph : Bool} {a : Act} {w : World} {o : Oper} (hi : ops[i]? = some o) (hg : o.guard = none) {t : TypeId} {x : Operand} (ho : o.op = .load t x) {p : Addr} (v : Value)
    (hv : ∀ w', C ph w' → (loadVar t p).run P w' = .ok v w') (hx : a.eval x = .pointer (some p)) (h : wpMix P ops C z Q rest ph (a.put o.dst v) w) : wpMix P ops C z Q (.one i rest) ph a w := by
  refine ⟨o, v, hi, .inl ⟨by simp [Region.wanted, hg], fun w' hS => ?_⟩, h⟩
  simp [execOp, ho, Instr.loadAt, hx, Instr.sureAddr, hv w' hS]

theorem mix_eff {z i : Nat} {rest : Plan} {ph : Bool} {a : Act} {w : World} {o : Oper} (hi : ops[i]? = some o) (ph' : Bool) (hp : (ph || i == z) = ph')
    (h : ∀ K : Act → World → Prop, (∀ a' w', C ph' w' → wpMix P ops C z Q rest ph' a' w' → K a' w') →
      if Region.wanted o (yielded ops a.tmps) then o.wp P a w K Q else K (a.put o.dst undef) w) :
    wpMix P ops C z Q (.act i rest) ph a w := by
  have h1 := h (fun a' w' => C ph' w' ∧ wpMix P ops C z Q rest ph' a' w') (fun _ _ h1 h2 => ⟨h1, h2⟩)
  simp only [wpMix, wpOp, hi, hp]
  by_cases hw : Region.wanted o (yielded ops a.tmps) = true
  · rw [if_pos hw] at h1 ⊢
    exact .inl h1
  · rw [if_neg hw] at h1 ⊢
    exact h1

/-- Two that act, either of which may come up. -/
theorem mix_two {z i j : Nat} {p q : Plan} {ph : Bool} {a : Act} {w : World} {o o' : Oper} (hi : ops[i]? = some o) (hj : ops[j]? = some o') (pi pj : Bool) (hpi : (ph || i == z) = pi) (hpj : (ph || j == z) = pj)
    (h1 : ∀ K : Act → World → Prop, (∀ a' w', C pi w' → wpMix P ops C z Q p pi a' w' → K a' w') → if Region.wanted o (yielded ops a.tmps) then o.wp P a w K Q else K (a.put o.dst undef) w)
    (h2 : ∀ K : Act → World → Prop, (∀ a' w', C pj w' → wpMix P ops C z Q q pj a' w' → K a' w') → if Region.wanted o' (yielded ops a.tmps) then o'.wp P a w K Q else K (a.put o'.dst undef) w) :
    wpMix P ops C z Q (.two i p j q) ph a w :=
  ⟨mix_eff (rest := p) hi pi hpi h1, mix_eff (rest := q) hj pj hpj h2⟩

theorem mix_done {z : Nat} {ph : Bool} {a : Act} {w : World} (h : Q .normal a w) : wpMix P ops C z (NoPanic Q) .fin ph a w := h
end


section
variable {P : Program} {ops : Array Oper} {Q : Exit → Act → World → Prop}

def noDefer (ops : Array Oper) : Bool := ops.all fun o => match o.op with | .defer .. => false | _ => true
theorem noDefer_spec (h : noDefer ops = true) (j : Nat) (o : Oper) (ho : ops[j]? = some o) (c : Call) : o.op ≠ .defer c := by
  intro e
  have h1 := Array.all_eq_true'.1 h o (Array.mem_of_getElem? ho)
  rw [e] at h1
  cases h1

theorem opIn_of_op {l n : Nat} {o : Oper} {a : Act} {w : World} {K : Act → World → Prop} (hd : ∀ c, o.op ≠ .defer c) (h : o.wp P a w K Q) : o.wpIn (Fence.wide.inRound l) n P a w K Q := by
  unfold Oper.wp at h
  unfold Oper.wpIn
  refine ⟨fun _ _ => trivial, ?_⟩
  rw [Fence.inRound_round, Oper.semAt_some l _ _ hd]
  generalize (execOp a.eval o).run P w = r at *
  cases r with
  | ok x w' =>
    cases x <;> simp only [Oper.upon, Oper.uponIn] at h ⊢
    case value => exact h
    case skip => exact h
    case defer => exact h
    case enter f args => exact ⟨fun h => by simp [Fence.wide] at h, CallsIn.inRound l (callsIn_wide.2 h)⟩
    case row row args => exact ⟨fun h => by simp [Fence.wide] at h, fun c cs _ => let ⟨v, w', r, s⟩ := h c cs; ⟨v, w', r, stepsIn_wide.2 s⟩⟩
  | halt x w' => cases x <;> simp only [Oper.upon, Oper.uponIn] at h ⊢ <;> exact h

theorem wpOpIn_of {l n i : Nat} {a : Act} {w : World} {K K' : Act → World → Prop} (hd : noDefer ops = true) (hl : ¬ LetsOut Q) (hk : ∀ a w, K a w → K' a w) (h : wpOp P ops Q i K a w) : wpOpIn (Fence.wide.inRound l) n P ops Q i K' a w := by
  unfold wpOp at h
  unfold wpOpIn
  split at h
  · rename_i ho; rw [ho]; exact hk _ _ h
  · rename_i o ho
    rw [ho]
    simp only
    split at h
    · rename_i hw
      rw [if_pos hw]
      rcases h with h | h
      · exact Oper.wpIn_mono hk (opIn_of_op (noDefer_spec hd i o ho) h)
      · exact absurd h.2 hl
    · rename_i hw
      rw [if_neg hw]
      exact ⟨fun _ _ => trivial, hk _ _ h⟩

theorem wpAnyIn_of {l n : Nat} {md : Region.Mode} (hd : noDefer ops = true) (hl : ¬ LetsOut Q) : ∀ (fuel : Nat) (listed : Array Bool) (a : Act) (w : World), wpAny P md ops Q fuel listed a w → wpAnyIn (Fence.wide.inRound l) n P md ops Q fuel listed a w
  | 0, _, _, _, h => h
  | fuel + 1, _, _, _, h => ⟨h.1, fun i hi => wpOpIn_of hd hl (fun a w => wpAnyIn_of hd hl fuel _ a w) (h.2 i hi)⟩

/-- A region that draws its order, within a round. -/
theorem wpIn_region_mix {id : Nat} {a : Act} {w : World} {lr nr : Nat} (l : Plan) (z : Nat) (S T : World → Prop) (hm : P.follows .mixedOrders = true) (hs : Region.noSelect ops = true) (hd : noDefer ops = true) (hlo : ∀ a w, ¬ Q .outgrown a w) (hn : l.len = ops.size)
    (hb : mixB ops z l (Array.replicate ops.size false) = true) (hS : S w.drew) (h : ∀ w1, Qt w w1 → S w1 → wpMix P ops (Cls S T) z (NoPanic Q) l false a w1) : (Code.region id ops true).wpIn (Fence.wide.inRound lr) nr P Q a w := by
  refine wpIn_mono ?_ NoPanic.imp
  refine wpIn_region_any hm (wpAnyIn_of (Q := NoPanic Q) hd (fun ⟨a, w, h⟩ => hlo a w (NoPanic.imp _ _ _ h)) _ _ _ _ (any_of_z (C := Cls S T) (z := z) _ _ _ _ ?_))
  rw [← hn]
  exact mix_any hs l _ _ _ (by rw [hn]; exact hb) (by rw [getD_replicate]; exact hS) (by rw [getD_replicate]; exact h _ ⟨1, rfl⟩ hS)

/-- The walk of a region that draws, within the wide fence: what acts is all that may come up, or one of two. -/
def wpActs (P : Program) (ops : Array Oper) (Q : Exit → Act → World → Prop) : Plan → Act → World → Prop
  | .fin, a, w => Q .normal a w
  | .one i p, a, w => wpOpIn Fence.wide 9 P ops Q i (wpActs P ops Q p) a w
  | .pur i p, a, w => wpOpIn Fence.wide 9 P ops Q i (wpActs P ops Q p) a w
  | .act i p, a, w => wpOpIn Fence.wide 9 P ops Q i (wpActs P ops Q p) a w
  | .two i p j q, a, w => wpOpIn Fence.wide 9 P ops Q i (wpActs P ops Q p) a w ∧ wpOpIn Fence.wide 9 P ops Q j (wpActs P ops Q q) a w
def actsB (ops : Array Oper) : Plan → Array Bool → Bool
  | .fin, listed => Region.ready .any ops listed == []
  | .one i p, listed => Region.ready .any ops listed == [i] && actsB ops p (listed.setIfInBounds i true)
  | .pur i p, listed => Region.ready .any ops listed == [i] && actsB ops p (listed.setIfInBounds i true)
  | .act i p, listed => Region.ready .any ops listed == [i] && actsB ops p (listed.setIfInBounds i true)
  | .two i p j q, listed => Region.ready .any ops listed == [i, j] && p.len == q.len && actsB ops p (listed.setIfInBounds i true) && actsB ops q (listed.setIfInBounds j true)
theorem acts_any : ∀ (l : Plan) (listed : Array Bool) (a : Act) (w : World), actsB ops l listed = true → wpActs P ops Q l a w → wpAnyIn Fence.wide 9 P .any ops Q l.len listed a w
  | .fin, listed, a, w, hb, h => by
    simp only [actsB, beq_iff_eq] at hb
    exact ⟨hb, h⟩
  | .one i p, listed, a, w, hb, h => by
    simp only [actsB, Bool.and_eq_true, beq_iff_eq] at hb
    refine ⟨fun h0 => (by rw [h0] at hb; cases hb.1), fun j hj => ?_⟩
    rw [hb.1, List.mem_singleton] at hj
    subst hj
    exact wpOpIn_mono (fun a' w' h' => acts_any p _ _ _ hb.2 h') h
  | .pur i p, listed, a, w, hb, h => by
    simp only [actsB, Bool.and_eq_true, beq_iff_eq] at hb
    refine ⟨fun h0 => (by rw [h0] at hb; cases hb.1), fun j hj => ?_⟩
    rw [hb.1, List.mem_singleton] at hj
    subst hj
    exact wpOpIn_mono (fun a' w' h' => acts_any p _ _ _ hb.2 h') h
  | .act i p, listed, a, w, hb, h => by
    simp only [actsB, Bool.and_eq_true, beq_iff_eq] at hb
    refine ⟨fun h0 => (by rw [h0] at hb; cases hb.1), fun j hj => ?_⟩
    rw [hb.1, List.mem_singleton] at hj
    subst hj
    exact wpOpIn_mono (fun a' w' h' => acts_any p _ _ _ hb.2 h') h
  | .two i p j q, listed, a, w, hb, h => by
    simp only [actsB, Bool.and_eq_true, beq_iff_eq] at hb
    obtain ⟨⟨⟨hb1, hl⟩, hb2⟩, hb3⟩ := hb
    refine ⟨fun h0 => (by rw [h0] at hb1; cases hb1), fun k hk => ?_⟩
    rw [hb1] at hk
    simp only [List.mem_cons, List.not_mem_nil, or_false] at hk
    rcases hk with rfl | rfl
    · exact wpOpIn_mono (fun a' w' h' => acts_any p _ _ _ hb2 h') h.1
    · refine wpOpIn_mono (fun a' w' h' => ?_) h.2
      have := acts_any q _ _ _ hb3 h'
      rw [← hl] at this
      exact this
theorem wp_region_acts {id : Nat} {a : Act} {w : World} (l : Plan) (hm : P.follows .mixedOrders = true) (hn : l.len = ops.size) (hb : actsB ops l (Array.replicate ops.size false) = true)
    (h : ∀ w1, Qt w w1 → wpActs P ops Q l a w1) : (Code.region id ops true).wp P Q a w := by
  refine (wpIn_wide (n := 9)).1 (wpIn_region_any hm ?_)
  rw [← hn]
  exact acts_any l _ _ _ (by rw [hn]; exact hb) (h _ ⟨1, rfl⟩)
theorem wpOpIn_at {i : Nat} {o : Oper} {K : Act → World → Prop} {a : Act} {w : World} (ho : ops[i]? = some o) (hg : o.guard = none)
    (h : o.uponIn Fence.wide 9 P a K Q ((execOp a.eval o).run P w)) : wpOpIn Fence.wide 9 P ops Q i K a w := by
  unfold wpOpIn
  rw [ho]
  simp only [Region.wanted, hg]
  exact ⟨fun _ _ => trivial, h⟩
theorem opIn_step {i : Nat} {o : Oper} {K : Act → World → Prop} {a : Act} {w : World} (ho : ops[i]? = some o) (hg : o.guard = none)
    (h : ∀ K' : Act → World → Prop, (∀ a w, K a w → K' a w) → o.uponIn Fence.wide 9 P a K' Q ((execOp a.eval o).run P w)) : wpOpIn Fence.wide 9 P ops Q i K a w :=
  wpOpIn_at ho hg (h K (fun _ _ h => h))
end


section
variable {P : Program} {ops : Array Oper} {Q : Exit → Act → World → Prop}

/-- z waits for i, by a chain of at most so many. -/
def reachB (ops : Array Oper) : Nat → Nat → Nat → Bool
  | 0, _, _ => false
  | f + 1, z, i => match ops[z]? with
    | some oz => oz.after.any fun e => Region.binds .any e && (e.on == i || reachB ops f e.on i)
    | none => false
/-- What is listed has all that it waits for listed. -/
def closedL (ops : Array Oper) (listed : Array Bool) : Prop := ∀ x ox, ops[x]? = some ox → listed.getD x false = true → ∀ e ∈ ox.after, Region.binds .any e = true → listed.getD e.on false = true
theorem closedL_start (n : Nat) : closedL ops (Array.replicate n false) := fun x ox _ h => by
  rw [getD_replicate] at h; cases h
theorem closedL_set {listed : Array Bool} {j : Nat} (h : closedL ops listed) (hj : j ∈ Region.ready .any ops listed) : closedL ops (listed.setIfInBounds j true) := fun x ox hx hl e he hb => by
  by_cases hxj : x = j
  · subst hxj
    obtain ⟨_, oj, hoj, hall⟩ := mem_ready.1 hj
    rw [hx] at hoj
    injection hoj with hoj
    subst hoj
    exact getD_set_true (hall e he hb)
  · rw [getD_set_ne false (Ne.symm hxj)] at hl
    exact getD_set_true (h x ox hx hl e he hb)
theorem reachB_spec {listed : Array Bool} (hc : closedL ops listed) : ∀ (f z i : Nat), reachB ops f z i = true → ∀ oz, ops[z]? = some oz → (∀ e ∈ oz.after, Region.binds .any e = true → listed.getD e.on false = true) → listed.getD i false = true
  | 0, _, _, h, _, _, _ => by cases h
  | f + 1, z, i, h, oz, hoz, hall => by
    rw [reachB, hoz] at h
    obtain ⟨e, he, hbe⟩ := Array.any_eq_true'.1 h
    simp only [Bool.and_eq_true, Bool.or_eq_true, beq_iff_eq] at hbe
    have hl := hall e he hbe.1
    rcases hbe.2 with h2 | h2
    · rw [← h2]; exact hl
    · cases ho : ops[e.on]? with
      | none =>
        cases f with
        | zero => cases h2
        | succ f => rw [reachB, ho] at h2; cases h2
      | some o => exact reachB_spec hc f e.on i h2 o ho (hc e.on o ho hl)

variable {C : Bool → World → Prop}

/-- What yields in every world of the class, and for which z waits or has come up, may be taken first. -/
theorem z_first2 {z i : Nat} {oi : Oper} {v : Value} (hi : ops[i]? = some oi) (hsel : ∀ (j : Nat) (o : Oper) cs b, ops[j]? = some o → o.op ≠ .select cs b)
    (hQ : ∀ c a w, Q (.panic c) (a.put oi.dst v) w → Q (.panic c) a w) (hzi : z ≠ i) :
    ∀ (fuel : Nat) (listed : Array Bool) (a : Act) (w : World), (listed.getD z false = true ∨ ∀ oz, ops[z]? = some oz → ∃ f, reachB ops f z i = true) → closedL ops listed →
      (∀ j oj, ops[j]? = some oj → j ≠ i → listed.getD j true = false → (∀ e ∈ oj.after, Region.binds .any e = true → e.on ≠ i) → oi.apart ops oj = true) →
      i ∈ Region.ready .any ops listed → YieldsIf P ops (C (listed.getD z false)) oi v a → C (listed.getD z false) w →
      wpAnyZ P ops Q C z fuel (listed.setIfInBounds i true) (a.put oi.dst v) w → wpAnyZ P ops Q C z (fuel + 1) listed a w := by
  intro fuel
  induction fuel with
  | zero =>
    intro listed a w hzw hcl _ hr hy hS H
    have hk : (listed.setIfInBounds i true).getD z false = listed.getD z false := getD_set_keep (.inr (Ne.symm hzi))
    refine ⟨fun h => (by rw [h] at hr; cases hr), fun j hj => ?_⟩
    by_cases hji : j = i
    · subst hji; exact hy.wpOp hi hS ⟨by rw [hk]; exact hS, H⟩
    · have h1 := ready_mono hj hji
      rw [H.1] at h1
      cases h1
  | succ fuel ih =>
    intro listed a w hzw hcl hfree hr hy hS H
    have hk : (listed.setIfInBounds i true).getD z false = listed.getD z false := getD_set_keep (.inr (Ne.symm hzi))
    refine ⟨fun h => (by rw [h] at hr; cases hr), fun j hj => ?_⟩
    by_cases hji : j = i
    · subst hji; exact hy.wpOp hi hS ⟨by rw [hk]; exact hS, H⟩
    · have h1 := H.2 j (ready_mono hj hji)
      obtain ⟨hjun, oj, hoj, hall⟩ := mem_ready.1 hj
      have hnot : ∀ e ∈ oj.after, Region.binds .any e = true → e.on ≠ i := fun e he hb heq => by
        have h2 := hall e he hb
        have h0 := (mem_ready.1 hr).1
        rw [heq] at h2
        rcases Nat.lt_or_ge i listed.size with h' | h'
        · simp [h'] at h0 h2; rw [h0] at h2; cases h2
        · simp [Array.getElem?_eq_none h'] at h2
      have hjz : listed.getD z false = true ∨ j ≠ z := hzw.imp id fun hw e => by
        subst e
        obtain ⟨f, hf⟩ := hw oj hoj
        have h1 := reachB_spec hcl f j i hf oj hoj hall
        have h0 := (mem_ready.1 hr).1
        rcases Nat.lt_or_ge i listed.size with h' | h'
        · simp [h'] at h0 h1; rw [h0] at h1; cases h1
        · simp [Array.getElem?_eq_none h'] at h1
      have hkj : (listed.setIfInBounds j true).getD z false = listed.getD z false := getD_set_keep hjz
      have hkij : ((listed.setIfInBounds i true).setIfInBounds j true).getD z false = listed.getD z false := by
        rw [getD_set_keep (by rw [hk]; exact hjz), hk]
      have h2 := wpOp_putIf hoj (hfree j oj hoj hji hjun hnot) (fun cs b => hsel i oi cs b hi) (fun cs b => hsel j oj cs b hoj) hQ hy h1
      have hfree' : ∀ k ok, ops[k]? = some ok → k ≠ i → (listed.setIfInBounds j true).getD k true = false →
          (∀ e ∈ ok.after, Region.binds .any e = true → e.on ≠ i) → oi.apart ops ok = true := fun k ok hk hki hun hno => by
        refine hfree k ok hk hki ?_ hno
        by_cases hjk : j = k
        · subst hjk; exact hjun
        · rw [getD_set_ne true hjk] at hun; exact hun
      refine wpOp_mono (fun a' w' h3 => ?_) h2
      have hS' : C (listed.getD z false) w' := by have := h3.2.1; rw [hkij] at this; exact this
      refine ⟨by rw [hkj]; exact hS', ih (listed.setIfInBounds j true) a' w' (by rw [hkj]; exact hzw) (closedL_set hcl hj) hfree' (ready_mono hr (Ne.symm hji)) (by rw [hkj]; exact h3.1) (by rw [hkj]; exact hS') ?_⟩
      rw [Array.setIfInBounds_comm _ _ hji]
      exact h3.2.2

/-- An order of a region: 'one': the operation yields in every world of the class; 'pur': it yields in every world of both classes; 'act': it acts, and is the only one that may come up; 'two': two that act, either of which may come up. -/
inductive PlanC where
  | fin
  | one (i : Nat) (p : PlanC)
  | pur (i : Nat) (p : PlanC)
  | act (i : Nat) (p : PlanC)
  | two (i : Nat) (p : PlanC) (j : Nat) (q : PlanC)
  | three (i : Nat) (p : PlanC) (j : Nat) (q : PlanC) (k : Nat) (r : PlanC)

def PlanC.len : PlanC → Nat
  | .fin => 0
  | .one _ p => p.len + 1
  | .pur _ p => p.len + 1
  | .act _ p => p.len + 1
  | .two _ p _ _ => p.len + 1
  | .three _ p _ _ _ _ => p.len + 1

/-- The walk in the order of the plan; 'ph': has z come up? -/
def wpMix2 (P : Program) (ops : Array Oper) (C : Bool → World → Prop) (z : Nat) (Q : Exit → Act → World → Prop) : PlanC → Bool → Act → World → Prop
  | .fin, _, a, w => Q .normal a w
  | .one i p, ph, a, w => ∃ o v, ops[i]? = some o ∧ YieldsIf P ops (C ph) o v a ∧ wpMix2 P ops C z Q p ph (a.put o.dst v) w
  | .pur i p, ph, a, w => ∃ o v, ops[i]? = some o ∧ YieldsIf P ops (fun w => C false w ∨ C true w) o v a ∧ wpMix2 P ops C z Q p ph (a.put o.dst v) w
  | .act i p, ph, a, w => wpOp P ops Q i (fun a' w' => C (ph || i == z) w' ∧ wpMix2 P ops C z Q p (ph || i == z) a' w') a w
  | .two i p j q, ph, a, w => wpOp P ops Q i (fun a' w' => C (ph || i == z) w' ∧ wpMix2 P ops C z Q p (ph || i == z) a' w') a w ∧
      wpOp P ops Q j (fun a' w' => C (ph || j == z) w' ∧ wpMix2 P ops C z Q q (ph || j == z) a' w') a w
  | .three i p j q k r, ph, a, w => wpOp P ops Q i (fun a' w' => C (ph || i == z) w' ∧ wpMix2 P ops C z Q p (ph || i == z) a' w') a w ∧
      wpOp P ops Q j (fun a' w' => C (ph || j == z) w' ∧ wpMix2 P ops C z Q q (ph || j == z) a' w') a w ∧
      wpOp P ops Q k (fun a' w' => C (ph || k == z) w' ∧ wpMix2 P ops C z Q r (ph || k == z) a' w') a w

def waitsB2 (ops : Array Oper) (z i : Nat) : Bool :=
  match ops[z]? with
  | some _ => reachB ops ops.size z i
  | none => true

/-- The order is one that may be taken: what yields is apart from what may come before it, and z waits for it or has come up; what acts is all that may come up. -/
def mixB2 (ops : Array Oper) (z : Nat) : PlanC → Array Bool → Bool
  | .fin, listed => Region.ready .any ops listed == []
  | .one i p, listed => Region.free .any ops listed i && (Region.ready .any ops listed).contains i && (z != i && (listed.getD z false || waitsB2 ops z i)) && mixB2 ops z p (listed.setIfInBounds i true)
  | .pur i p, listed => Region.free .any ops listed i && (Region.ready .any ops listed).contains i && z != i && mixB2 ops z p (listed.setIfInBounds i true)
  | .act i p, listed => Region.ready .any ops listed == [i] && ((listed.setIfInBounds i true).getD z false == (listed.getD z false || i == z)) && mixB2 ops z p (listed.setIfInBounds i true)
  | .two i p j q, listed => Region.ready .any ops listed == [i, j] && ((listed.setIfInBounds i true).getD z false == (listed.getD z false || i == z)) && ((listed.setIfInBounds j true).getD z false == (listed.getD z false || j == z)) && p.len == q.len &&
      mixB2 ops z p (listed.setIfInBounds i true) && mixB2 ops z q (listed.setIfInBounds j true)
  | .three i p j q k r, listed => Region.ready .any ops listed == [i, j, k] && ((listed.setIfInBounds i true).getD z false == (listed.getD z false || i == z)) && ((listed.setIfInBounds j true).getD z false == (listed.getD z false || j == z)) && ((listed.setIfInBounds k true).getD z false == (listed.getD z false || k == z)) && p.len == q.len && p.len == r.len &&
      mixB2 ops z p (listed.setIfInBounds i true) && mixB2 ops z q (listed.setIfInBounds j true) && mixB2 ops z r (listed.setIfInBounds k true)

theorem mix_any2 {z : Nat} (hs : Region.noSelect ops = true) : ∀ (l : PlanC) (listed : Array Bool) (a : Act) (w : World), mixB2 ops z l listed = true → closedL ops listed → C (listed.getD z false) w →
    wpMix2 P ops C z (NoPanic Q) l (listed.getD z false) a w → wpAnyZ P ops (NoPanic Q) C z l.len listed a w
  | .fin, listed, a, w, hb, _, _, h => by
    simp only [mixB2, beq_iff_eq] at hb
    exact ⟨hb, h⟩
  | .one i rest, listed, a, w, hb, hcl, hS, h => by
    simp only [mixB2, Bool.and_eq_true, Bool.or_eq_true] at hb
    obtain ⟨⟨⟨hb1, hb2⟩, hb3, hb4⟩, hb6⟩ := hb
    obtain ⟨o, v, hi, hy, h⟩ := h
    have hzi : z ≠ i := by simpa using hb3
    have hk : (listed.setIfInBounds i true).getD z false = listed.getD z false := getD_set_keep (.inr (Ne.symm hzi))
    have hri : i ∈ Region.ready .any ops listed := by simpa using hb2
    refine z_first2 hi (Region.noSelect_spec hs) (fun _ _ _ h => h) hzi _ listed a w (hb4.imp id fun hb4 oz hoz => ?_) hcl (Region.free_spec hi hb1) hri hy hS (mix_any2 hs rest _ _ _ hb6 (closedL_set hcl hri) (by rw [hk]; exact hS) (by rw [hk]; exact h))
    unfold waitsB2 at hb4
    rw [hoz] at hb4
    exact ⟨_, hb4⟩
  | .pur i rest, listed, a, w, hb, hcl, hS, h => by
    simp only [mixB2, Bool.and_eq_true] at hb
    obtain ⟨⟨⟨hb1, hb2⟩, hb3⟩, hb6⟩ := hb
    obtain ⟨o, v, hi, hy, h⟩ := h
    have hzi : z ≠ i := by simpa using hb3
    have hk : (listed.setIfInBounds i true).getD z false = listed.getD z false := getD_set_keep (.inr (Ne.symm hzi))
    exact z_pure hi (Region.noSelect_spec hs) (fun _ _ _ h => h) hzi _ listed a w (Region.free_spec hi hb1) (by simpa using hb2) hy hS (mix_any2 hs rest _ _ _ hb6 (closedL_set hcl (by simpa using hb2)) (by rw [hk]; exact hS) (by rw [hk]; exact h))
  | .act i rest, listed, a, w, hb, hcl, hS, h => by
    simp only [mixB2, Bool.and_eq_true, beq_iff_eq] at hb
    obtain ⟨⟨hb1, hb2⟩, hb3⟩ := hb
    refine ⟨fun h0 => (by rw [h0] at hb1; cases hb1), fun j hj => ?_⟩
    rw [hb1, List.mem_singleton] at hj
    subst hj
    refine wpOp_mono (fun a' w' h' => ?_) h
    rw [← hb2] at h'
    exact ⟨h'.1, mix_any2 hs rest _ _ _ hb3 (closedL_set hcl (by rw [hb1]; simp)) h'.1 h'.2⟩
  | .two i p j q, listed, a, w, hb, hcl, hS, h => by
    simp only [mixB2, Bool.and_eq_true, beq_iff_eq] at hb
    obtain ⟨⟨⟨⟨⟨hb1, hbi⟩, hbj⟩, hl⟩, hb2⟩, hb3⟩ := hb
    refine ⟨fun h0 => (by rw [h0] at hb1; cases hb1), fun k hk => ?_⟩
    rw [hb1] at hk
    simp only [List.mem_cons, List.not_mem_nil, or_false] at hk
    rcases hk with rfl | rfl
    · refine wpOp_mono (fun a' w' h' => ?_) h.1
      rw [← hbi] at h'
      exact ⟨h'.1, mix_any2 hs p _ _ _ hb2 (closedL_set hcl (by rw [hb1]; simp)) h'.1 h'.2⟩
    · refine wpOp_mono (fun a' w' h' => ?_) h.2
      rw [← hbj] at h'
      have := mix_any2 hs q _ _ _ hb3 (closedL_set hcl (by rw [hb1]; simp)) h'.1 h'.2
      rw [← hl] at this
      exact ⟨h'.1, this⟩
  | .three i p j q k r, listed, a, w, hb, hcl, hS, h => by
    simp only [mixB2, Bool.and_eq_true, beq_iff_eq] at hb
    obtain ⟨⟨⟨⟨⟨⟨⟨⟨hb1, hbi⟩, hbj⟩, hbk⟩, hl⟩, hl2⟩, hb2⟩, hb3⟩, hb4⟩ := hb
    refine ⟨fun h0 => (by rw [h0] at hb1; cases hb1), fun m hm => ?_⟩
    have hmr := hm
    rw [hb1] at hm
    simp only [List.mem_cons, List.not_mem_nil, or_false] at hm
    rcases hm with rfl | rfl | rfl
    · refine wpOp_mono (fun a' w' h' => ?_) h.1
      rw [← hbi] at h'
      exact ⟨h'.1, mix_any2 hs p _ _ _ hb2 (closedL_set hcl hmr) h'.1 h'.2⟩
    · refine wpOp_mono (fun a' w' h' => ?_) h.2.1
      rw [← hbj] at h'
      have := mix_any2 hs q _ _ _ hb3 (closedL_set hcl hmr) h'.1 h'.2
      rw [← hl] at this
      exact ⟨h'.1, this⟩
    · refine wpOp_mono (fun a' w' h' => ?_) h.2.2
      rw [← hbk] at h'
      have := mix_any2 hs r _ _ _ hb4 (closedL_set hcl hmr) h'.1 h'.2
      rw [← hl2] at this
      exact ⟨h'.1, this⟩

/-- The beginning: from the world behind the draw. z: the operation behind which the class T holds in S's place. -/
theorem wp_region_mix2 {id : Nat} {a : Act} {w : World} (l : PlanC) (z : Nat) (S T : World → Prop) (hm : P.follows .mixedOrders = true) (hs : Region.noSelect ops = true) (hn : l.len = ops.size)
    (hb : mixB2 ops z l (Array.replicate ops.size false) = true) (hS : S w.drew) (h : ∀ w1, Qt w w1 → S w1 → wpMix2 P ops (Cls S T) z (NoPanic Q) l false a w1) : (Code.region id ops true).wp P Q a w := by
  refine wp_region_noPanic (wp_region_any hm (any_of_z (C := Cls S T) (z := z) _ _ _ _ ?_))
  rw [← hn]
  exact mix_any2 hs l _ _ _ (by rw [hn]; exact hb) (closedL_start _) (by rw [getD_replicate]; exact hS) (by rw [getD_replicate]; exact h _ ⟨1, rfl⟩ hS)

theorem mix_pure2 {z i : Nat} {rest : PlanC} {ph : Bool} {a : Act} {w : World} {o : Oper} (hi : ops[i]? = some o)
    (h : ∀ K : Act → Prop, (∀ a, wpMix2 P ops C z Q rest ph a w → K a) →
      if Region.wanted o (yielded ops a.tmps) then ∃ v, (∀ w', C ph w' → (execOp a.eval o).run P w' = .ok (.value v) w') ∧ K (a.put o.dst v) else K (a.put o.dst undef)) :
    wpMix2 P ops C z Q (.one i rest) ph a w := by
  have h1 := h (fun a => wpMix2 P ops C z Q rest ph a w) (fun _ h => h)
  by_cases hw : Region.wanted o (yielded ops a.tmps) = true
  · rw [if_pos hw] at h1
    obtain ⟨v, h2, h3⟩ := h1
    exact ⟨o, v, hi, .inl ⟨hw, h2⟩, h3⟩
  · rw [if_neg hw] at h1
    exact ⟨o, undef, hi, .inr ⟨by simpa using hw, rfl⟩, h1⟩

theorem mix_pur2 {z i : Nat} {rest : PlanC} {ph : Bool} {a : Act} {w : World} {o : Oper} (hi : ops[i]? = some o)
    (h : ∀ K : Act → Prop, (∀ a, wpMix2 P ops C z Q rest ph a w → K a) →
      if Region.wanted o (yielded ops a.tmps) then ∃ v, (∀ w', (execOp a.eval o).run P w' = .ok (.value v) w') ∧ K (a.put o.dst v) else K (a.put o.dst undef)) :
    wpMix2 P ops C z Q (.pur i rest) ph a w := by
  have h1 := h (fun a => wpMix2 P ops C z Q rest ph a w) (fun _ h => h)
  by_cases hw : Region.wanted o (yielded ops a.tmps) = true
  · rw [if_pos hw] at h1
    obtain ⟨v, h2, h3⟩ := h1
    exact ⟨o, v, hi, .inl ⟨hw, fun w' _ => h2 w'⟩, h3⟩
  · rw [if_neg hw] at h1
    exact ⟨o, undef, hi, .inr ⟨by simpa using hw, rfl⟩, h1⟩

/-- A load, its value being one and the same in every world of both classes. -/
theorem mix_pload2 {z i : Nat} {rest : PlanC} {ph : Bool} {a : Act} {w : World} {o : Oper} (hi : ops[i]? = some o) (hg : o.guard = none) {t : TypeId} {x : Operand} (ho : o.op = .load t x) {p : Addr} (v : Value)
    (hv : ∀ w', (C false w' ∨ C true w') → (loadVar t p).run P w' = .ok v w') (hx : a.eval x = .pointer (some p)) (h : wpMix2 P ops C z Q rest ph (a.put o.dst v) w) : wpMix2 P ops C z Q (.pur i rest) ph a w := by
  refine ⟨o, v, hi, .inl ⟨by simp [Region.wanted, hg], fun w' hS => ?_⟩, h⟩
  simp [execOp, ho, Instr.loadAt, hx, Instr.sureAddr, hv w' hS]

/-- A load, its value being one and the same in every world of the class. -/
theorem mix_load2 {z i : Nat} {rest : PlanC} {ph : Bool} {a : Act} {w : World} {o : Oper} (hi : ops[i]? = some o) (hg : o.guard = none) {t : TypeId} {x : Operand} (ho : o.op = .load t x) {p : Addr} (v : Value)
    (hv : ∀ w', C ph w' → (loadVar t p).run P w' = .ok v w') (hx : a.eval x = .pointer (some p)) (h : wpMix2 P ops C z Q rest ph (a.put o.dst v) w) : wpMix2 P ops C z Q (.one i rest) ph a w := by
  refine ⟨o, v, hi, .inl ⟨by simp [Region.wanted, hg], fun w' hS => ?_⟩, h⟩
  simp [execOp, ho, Instr.loadAt, hx, Instr.sureAddr, hv w' hS]

theorem mix_eff2 {z i : Nat} {rest : PlanC} {ph : Bool} {a : Act} {w : World} {o : Oper} (hi : ops[i]? = some o) (ph' : Bool) (hp : (ph || i == z) = ph')
    (h : ∀ K : Act → World → Prop, (∀ a' w', C ph' w' → wpMix2 P ops C z Q rest ph' a' w' → K a' w') →
      if Region.wanted o (yielded ops a.tmps) then o.wp P a w K Q else K (a.put o.dst undef) w) :
    wpMix2 P ops C z Q (.act i rest) ph a w := by
  have h1 := h (fun a' w' => C ph' w' ∧ wpMix2 P ops C z Q rest ph' a' w') (fun _ _ h1 h2 => ⟨h1, h2⟩)
  simp only [wpMix2, wpOp, hi, hp]
  by_cases hw : Region.wanted o (yielded ops a.tmps) = true
  · rw [if_pos hw] at h1 ⊢
    exact .inl h1
  · rw [if_neg hw] at h1 ⊢
    exact h1

/-- Two that act, either of which may come up. -/
theorem mix_two2 {z i j : Nat} {p q : PlanC} {ph : Bool} {a : Act} {w : World} {o o' : Oper} (hi : ops[i]? = some o) (hj : ops[j]? = some o') (pi pj : Bool) (hpi : (ph || i == z) = pi) (hpj : (ph || j == z) = pj)
    (h1 : ∀ K : Act → World → Prop, (∀ a' w', C pi w' → wpMix2 P ops C z Q p pi a' w' → K a' w') → if Region.wanted o (yielded ops a.tmps) then o.wp P a w K Q else K (a.put o.dst undef) w)
    (h2 : ∀ K : Act → World → Prop, (∀ a' w', C pj w' → wpMix2 P ops C z Q q pj a' w' → K a' w') → if Region.wanted o' (yielded ops a.tmps) then o'.wp P a w K Q else K (a.put o'.dst undef) w) :
    wpMix2 P ops C z Q (.two i p j q) ph a w :=
  ⟨mix_eff2 (rest := p) hi pi hpi h1, mix_eff2 (rest := q) hj pj hpj h2⟩

/-- Three that act. -/
theorem mix_three2 {z i j k : Nat} {p q r : PlanC} {ph : Bool} {a : Act} {w : World} {o o' o'' : Oper} (hi : ops[i]? = some o) (hj : ops[j]? = some o') (hk : ops[k]? = some o'') (pi pj pk : Bool) (hpi : (ph || i == z) = pi) (hpj : (ph || j == z) = pj) (hpk : (ph || k == z) = pk)
    (h1 : ∀ K : Act → World → Prop, (∀ a' w', C pi w' → wpMix2 P ops C z Q p pi a' w' → K a' w') → if Region.wanted o (yielded ops a.tmps) then o.wp P a w K Q else K (a.put o.dst undef) w)
    (h2 : ∀ K : Act → World → Prop, (∀ a' w', C pj w' → wpMix2 P ops C z Q q pj a' w' → K a' w') → if Region.wanted o' (yielded ops a.tmps) then o'.wp P a w K Q else K (a.put o'.dst undef) w)
    (h3 : ∀ K : Act → World → Prop, (∀ a' w', C pk w' → wpMix2 P ops C z Q r pk a' w' → K a' w') → if Region.wanted o'' (yielded ops a.tmps) then o''.wp P a w K Q else K (a.put o''.dst undef) w) :
    wpMix2 P ops C z Q (.three i p j q k r) ph a w :=
  ⟨mix_eff2 (rest := p) hi pi hpi h1, mix_eff2 (rest := q) hj pj hpj h2, mix_eff2 (rest := r) hk pk hpk h3⟩

theorem mix_done2 {z : Nat} {ph : Bool} {a : Act} {w : World} (h : Q .normal a w) : wpMix2 P ops C z (NoPanic Q) .fin ph a w := h
/-- The same, within a round. -/
theorem wpIn_region_mix2 {id : Nat} {a : Act} {w : World} {lr nr : Nat} (l : PlanC) (z : Nat) (S T : World → Prop) (hm : P.follows .mixedOrders = true) (hs : Region.noSelect ops = true) (hd : noDefer ops = true) (hlo : ∀ a w, ¬ Q .outgrown a w) (hn : l.len = ops.size)
    (hb : mixB2 ops z l (Array.replicate ops.size false) = true) (hS : S w.drew) (h : ∀ w1, Qt w w1 → S w1 → wpMix2 P ops (Cls S T) z (NoPanic Q) l false a w1) : (Code.region id ops true).wpIn (Fence.wide.inRound lr) nr P Q a w := by
  refine wpIn_mono ?_ NoPanic.imp
  refine wpIn_region_any hm (wpAnyIn_of (Q := NoPanic Q) hd (fun ⟨a, w, h⟩ => hlo a w (NoPanic.imp _ _ _ h)) _ _ _ _ (any_of_z (C := Cls S T) (z := z) _ _ _ _ ?_))
  rw [← hn]
  exact mix_any2 hs l _ _ _ (by rw [hn]; exact hb) (closedL_start _) (by rw [getD_replicate]; exact hS) (by rw [getD_replicate]; exact h _ ⟨1, rfl⟩ hS)
end

end Go.Proofs.YtbpfhoihfoojfaaGreatDoor
