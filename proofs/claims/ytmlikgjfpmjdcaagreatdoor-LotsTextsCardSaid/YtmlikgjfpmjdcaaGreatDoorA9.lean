/- Regions that draw within a round; divisions in plain words; conditions: as said at each. -/
import Derived.Test.YtmlikgjfpmjdcaaGreatDoorA1
import Derived.Test.YtmlikgjfpmjdcaaGreatDoorA8
import Derived.OrdersIn
import Derived.RangeFuncNested
import Derived.RangeFuncBound
import Derived.RangeFuncCalls
import Derived.RangeFuncLeaves
import Derived.Recover
import Derived.IntWalk
/- A region that draws its order, within a round of a range over a function; a region that calls yield; conditions: no deferred call among the operations. -/
namespace Go.Proofs.YtmlikgjfpmjdcaaGreatDoor

section
variable {P : Program} {ops : Array Oper} {Q : Exit → Act → World → Prop}

def noDefer (ops : Array Oper) : Bool := ops.all fun o => match o.op with | .defer .. => false | _ => true
theorem noDefer_spec (h : noDefer ops = true) (j : Nat) (o : Oper) (ho : ops[j]? = some o) (c : Call) : o.op ≠ .defer c := by
  intro e
  have h1 := Array.all_eq_true'.1 h o (Array.mem_of_getElem? ho)
  rw [e] at h1
  cases h1

theorem opIn_of_op {l n : Nat} {o : Oper} {a : Act} {w : World} {K : Act → World → Prop} (hd : ∀ c, o.op ≠ .defer c) (h : o.wp P a w K Q) : o.wpIn (Fence.wide.inRound l) n P a w K Q := by
  unfold Oper.wp at h
  unfold Oper.wpIn
  refine ⟨fun _ _ => trivial, ?_⟩
  rw [Fence.inRound_round, Oper.semAt_some l _ _ hd]
  generalize (execOp a.eval o).run P w = r at *
  cases r with
  | ok x w' =>
    cases x <;> simp only [Oper.upon, Oper.uponIn] at h ⊢
    case value => exact h
    case skip => exact h
    case defer => exact h
    case enter f args => exact ⟨fun h => by simp [Fence.wide] at h, CallsIn.inRound l (callsIn_wide.2 h)⟩
    case row row args => exact ⟨fun h => by simp [Fence.wide] at h, fun c cs _ => let ⟨v, w', r, s⟩ := h c cs; ⟨v, w', r, stepsIn_wide.2 s⟩⟩
  | halt x w' => cases x <;> simp only [Oper.upon, Oper.uponIn] at h ⊢ <;> exact h

theorem wpOpIn_of {l n i : Nat} {a : Act} {w : World} {K K' : Act → World → Prop} (hd : noDefer ops = true) (hl : ¬ LetsOut Q) (hk : ∀ a w, K a w → K' a w) (h : wpOp P ops Q i K a w) : wpOpIn (Fence.wide.inRound l) n P ops Q i K' a w := by
  unfold wpOp at h
  unfold wpOpIn
  split at h
  · rename_i ho; rw [ho]; exact hk _ _ h
  · rename_i o ho
    rw [ho]
    simp only
    split at h
    · rename_i hw
      rw [if_pos hw]
      rcases h with h | h
      · exact Oper.wpIn_mono hk (opIn_of_op (noDefer_spec hd i o ho) h)
      · exact absurd h.2 hl
    · rename_i hw
      rw [if_neg hw]
      exact ⟨fun _ _ => trivial, hk _ _ h⟩

theorem wpAnyIn_of {l n : Nat} {md : Region.Mode} (hd : noDefer ops = true) (hl : ¬ LetsOut Q) : ∀ (fuel : Nat) (listed : Array Bool) (a : Act) (w : World), wpAny P md ops Q fuel listed a w → wpAnyIn (Fence.wide.inRound l) n P md ops Q fuel listed a w
  | 0, _, _, _, h => h
  | fuel + 1, _, _, _, h => ⟨h.1, fun i hi => wpOpIn_of hd hl (fun a w => wpAnyIn_of hd hl fuel _ a w) (h.2 i hi)⟩

/-- A region that draws its order, within a round. -/
theorem wpIn_region_mix {id : Nat} {a : Act} {w : World} {lr nr : Nat} (l : Plan) (z : Nat) (S T : World → Prop) (hm : P.follows .mixedOrders = true) (hs : Region.noSelect ops = true) (hd : noDefer ops = true) (hlo : ∀ a w, ¬ Q .outgrown a w) (hn : l.len = ops.size)
    (hb : mixB ops z l (Array.replicate ops.size false) = true) (hS : S w.drew) (h : ∀ w1, Qt w w1 → S w1 → wpMix P ops (Cls S T) z (NoPanic Q) l false a w1) : (Code.region id ops true).wpIn (Fence.wide.inRound lr) nr P Q a w := by
  refine wpIn_mono ?_ NoPanic.imp
  refine wpIn_region_any hm (wpAnyIn_of (Q := NoPanic Q) hd (fun ⟨a, w, h⟩ => hlo a w (NoPanic.imp _ _ _ h)) _ _ _ _ (any_of_z (C := Cls S T) (z := z) _ _ _ _ ?_))
  rw [← hn]
  exact mix_any hs l _ _ _ (by rw [hn]; exact hb) (by rw [getD_replicate]; exact hS) (by rw [getD_replicate]; exact h _ ⟨1, rfl⟩ hS)

/-- The walk of a region that draws, within the wide fence: what acts is all that may come up, or one of two. -/
def wpActs (P : Program) (ops : Array Oper) (Q : Exit → Act → World → Prop) : Plan → Act → World → Prop
  | .fin, a, w => Q .normal a w
  | .one i p, a, w => wpOpIn Fence.wide 9 P ops Q i (wpActs P ops Q p) a w
  | .pur i p, a, w => wpOpIn Fence.wide 9 P ops Q i (wpActs P ops Q p) a w
  | .act i p, a, w => wpOpIn Fence.wide 9 P ops Q i (wpActs P ops Q p) a w
  | .two i p j q, a, w => wpOpIn Fence.wide 9 P ops Q i (wpActs P ops Q p) a w ∧ wpOpIn Fence.wide 9 P ops Q j (wpActs P ops Q q) a w
def actsB (ops : Array Oper) : Plan → Array Bool → Bool
  | .fin, listed => Region.ready .any ops listed == []
  | .one i p, listed => Region.ready .any ops listed == [i] && actsB ops p (listed.setIfInBounds i true)
  | .pur i p, listed => Region.ready .any ops listed == [i] && actsB ops p (listed.setIfInBounds i true)
  | .act i p, listed => Region.ready .any ops listed == [i] && actsB ops p (listed.setIfInBounds i true)
  | .two i p j q, listed => Region.ready .any ops listed == [i, j] && p.len == q.len && actsB ops p (listed.setIfInBounds i true) && actsB ops q (listed.setIfInBounds j true)
theorem acts_any : ∀ (l : Plan) (listed : Array Bool) (a : Act) (w : World), actsB ops l listed = true → wpActs P ops Q l a w → wpAnyIn Fence.wide 9 P .any ops Q l.len listed a w
  | .fin, listed, a, w, hb, h => by
    simp only [actsB, beq_iff_eq] at hb
    exact ⟨hb, h⟩
  | .one i p, listed, a, w, hb, h => by
    simp only [actsB, Bool.and_eq_true, beq_iff_eq] at hb
    refine ⟨fun h0 => (by rw [h0] at hb; cases hb.1), fun j hj => ?_⟩
    rw [hb.1, List.mem_singleton] at hj
    subst hj
    exact wpOpIn_mono (fun a' w' h' => acts_any p _ _ _ hb.2 h') h
  | .pur i p, listed, a, w, hb, h => by
    simp only [actsB, Bool.and_eq_true, beq_iff_eq] at hb
    refine ⟨fun h0 => (by rw [h0] at hb; cases hb.1), fun j hj => ?_⟩
    rw [hb.1, List.mem_singleton] at hj
    subst hj
    exact wpOpIn_mono (fun a' w' h' => acts_any p _ _ _ hb.2 h') h
  | .act i p, listed, a, w, hb, h => by
    simp only [actsB, Bool.and_eq_true, beq_iff_eq] at hb
    refine ⟨fun h0 => (by rw [h0] at hb; cases hb.1), fun j hj => ?_⟩
    rw [hb.1, List.mem_singleton] at hj
    subst hj
    exact wpOpIn_mono (fun a' w' h' => acts_any p _ _ _ hb.2 h') h
  | .two i p j q, listed, a, w, hb, h => by
    simp only [actsB, Bool.and_eq_true, beq_iff_eq] at hb
    obtain ⟨⟨⟨hb1, hl⟩, hb2⟩, hb3⟩ := hb
    refine ⟨fun h0 => (by rw [h0] at hb1; cases hb1), fun k hk => ?_⟩
    rw [hb1] at hk
    simp only [List.mem_cons, List.not_mem_nil, or_false] at hk
    rcases hk with rfl | rfl
    · exact wpOpIn_mono (fun a' w' h' => acts_any p _ _ _ hb2 h') h.1
    · refine wpOpIn_mono (fun a' w' h' => ?_) h.2
      have := acts_any q _ _ _ hb3 h'
      rw [← hl] at this
      exact this
theorem wp_region_acts {id : Nat} {a : Act} {w : World} (l : Plan) (hm : P.follows .mixedOrders = true) (hn : l.len = ops.size) (hb : actsB ops l (Array.replicate ops.size false) = true)
    (h : ∀ w1, Qt w w1 → wpActs P ops Q l a w1) : (Code.region id ops true).wp P Q a w := by
  refine (wpIn_wide (n := 9)).1 (wpIn_region_any hm ?_)
  rw [← hn]
  exact acts_any l _ _ _ (by rw [hn]; exact hb) (h _ ⟨1, rfl⟩)
theorem wpOpIn_at {i : Nat} {o : Oper} {K : Act → World → Prop} {a : Act} {w : World} (ho : ops[i]? = some o) (hg : o.guard = none)
    (h : o.uponIn Fence.wide 9 P a K Q ((execOp a.eval o).run P w)) : wpOpIn Fence.wide 9 P ops Q i K a w := by
  unfold wpOpIn
  rw [ho]
  simp only [Region.wanted, hg]
  exact ⟨fun _ _ => trivial, h⟩
theorem opIn_step {i : Nat} {o : Oper} {K : Act → World → Prop} {a : Act} {w : World} (ho : ops[i]? = some o) (hg : o.guard = none)
    (h : ∀ K' : Act → World → Prop, (∀ a w, K a w → K' a w) → o.uponIn Fence.wide 9 P a K' Q ((execOp a.eval o).run P w)) : wpOpIn Fence.wide 9 P ops Q i K a w :=
  wpOpIn_at ho hg (h K (fun _ _ h => h))
end

end Go.Proofs.YtmlikgjfpmjdcaaGreatDoor

/- Regions that draw their order, once more: what z waits for by a chain; three that act; conditions: as said. -/
namespace Go.Proofs.YtmlikgjfpmjdcaaGreatDoor

section
variable {P : Program} {ops : Array Oper} {Q : Exit → Act → World → Prop}

/-- z waits for i, by a chain of at most so many. -/
def reachB (ops : Array Oper) : Nat → Nat → Nat → Bool
  | 0, _, _ => false
  | f + 1, z, i => match ops[z]? with
    | some oz => oz.after.any fun e => Region.binds .any e && (e.on == i || reachB ops f e.on i)
    | none => false
/-- What is listed has all that it waits for listed. -/
def closedL (ops : Array Oper) (listed : Array Bool) : Prop := ∀ x ox, ops[x]? = some ox → listed.getD x false = true → ∀ e ∈ ox.after, Region.binds .any e = true → listed.getD e.on false = true
theorem closedL_start (n : Nat) : closedL ops (Array.replicate n false) := fun x ox _ h => by
  rw [getD_replicate] at h; cases h
theorem closedL_set {listed : Array Bool} {j : Nat} (h : closedL ops listed) (hj : j ∈ Region.ready .any ops listed) : closedL ops (listed.setIfInBounds j true) := fun x ox hx hl e he hb => by
  by_cases hxj : x = j
  · subst hxj
    obtain ⟨_, oj, hoj, hall⟩ := mem_ready.1 hj
    rw [hx] at hoj
    injection hoj with hoj
    subst hoj
    exact getD_set_true (hall e he hb)
  · rw [getD_set_ne false (Ne.symm hxj)] at hl
    exact getD_set_true (h x ox hx hl e he hb)
theorem reachB_spec {listed : Array Bool} (hc : closedL ops listed) : ∀ (f z i : Nat), reachB ops f z i = true → ∀ oz, ops[z]? = some oz → (∀ e ∈ oz.after, Region.binds .any e = true → listed.getD e.on false = true) → listed.getD i false = true
  | 0, _, _, h, _, _, _ => by cases h
  | f + 1, z, i, h, oz, hoz, hall => by
    rw [reachB, hoz] at h
    obtain ⟨e, he, hbe⟩ := Array.any_eq_true'.1 h
    simp only [Bool.and_eq_true, Bool.or_eq_true, beq_iff_eq] at hbe
    have hl := hall e he hbe.1
    rcases hbe.2 with h2 | h2
    · rw [← h2]; exact hl
    · cases ho : ops[e.on]? with
      | none =>
        cases f with
        | zero => cases h2
        | succ f => rw [reachB, ho] at h2; cases h2
      | some o => exact reachB_spec hc f e.on i h2 o ho (hc e.on o ho hl)

variable {C : Bool → World → Prop}

/-- What yields in every world of the class, and for which z waits or has come up, may be taken first. -/
theorem z_first2 {z i : Nat} {oi : Oper} {v : Value} (hi : ops[i]? = some oi) (hsel : ∀ (j : Nat) (o : Oper) cs b, ops[j]? = some o → o.op ≠ .select cs b)
    (hQ : ∀ c a w, Q (.panic c) (a.put oi.dst v) w → Q (.panic c) a w) (hzi : z ≠ i) :
    ∀ (fuel : Nat) (listed : Array Bool) (a : Act) (w : World), (listed.getD z false = true ∨ ∀ oz, ops[z]? = some oz → ∃ f, reachB ops f z i = true) → closedL ops listed →
      (∀ j oj, ops[j]? = some oj → j ≠ i → listed.getD j true = false → (∀ e ∈ oj.after, Region.binds .any e = true → e.on ≠ i) → oi.apart ops oj = true) →
      i ∈ Region.ready .any ops listed → YieldsIf P ops (C (listed.getD z false)) oi v a → C (listed.getD z false) w →
      wpAnyZ P ops Q C z fuel (listed.setIfInBounds i true) (a.put oi.dst v) w → wpAnyZ P ops Q C z (fuel + 1) listed a w := by
  intro fuel
  induction fuel with
  | zero =>
    intro listed a w hzw hcl _ hr hy hS H
    have hk : (listed.setIfInBounds i true).getD z false = listed.getD z false := getD_set_keep (.inr (Ne.symm hzi))
    refine ⟨fun h => (by rw [h] at hr; cases hr), fun j hj => ?_⟩
    by_cases hji : j = i
    · subst hji; exact hy.wpOp hi hS ⟨by rw [hk]; exact hS, H⟩
    · have h1 := ready_mono hj hji
      rw [H.1] at h1
      cases h1
  | succ fuel ih =>
    intro listed a w hzw hcl hfree hr hy hS H
    have hk : (listed.setIfInBounds i true).getD z false = listed.getD z false := getD_set_keep (.inr (Ne.symm hzi))
    refine ⟨fun h => (by rw [h] at hr; cases hr), fun j hj => ?_⟩
    by_cases hji : j = i
    · subst hji; exact hy.wpOp hi hS ⟨by rw [hk]; exact hS, H⟩
    · have h1 := H.2 j (ready_mono hj hji)
      obtain ⟨hjun, oj, hoj, hall⟩ := mem_ready.1 hj
      have hnot : ∀ e ∈ oj.after, Region.binds .any e = true → e.on ≠ i := fun e he hb heq => by
        have h2 := hall e he hb
        have h0 := (mem_ready.1 hr).1
        rw [heq] at h2
        rcases Nat.lt_or_ge i listed.size with h' | h'
        · simp [h'] at h0 h2; rw [h0] at h2; cases h2
        · simp [Array.getElem?_eq_none h'] at h2
      have hjz : listed.getD z false = true ∨ j ≠ z := hzw.imp id fun hw e => by
        subst e
        obtain ⟨f, hf⟩ := hw oj hoj
        have h1 := reachB_spec hcl f j i hf oj hoj hall
        have h0 := (mem_ready.1 hr).1
        rcases Nat.lt_or_ge i listed.size with h' | h'
        · simp [h'] at h0 h1; rw [h0] at h1; cases h1
        · simp [Array.getElem?_eq_none h'] at h1
      have hkj : (listed.setIfInBounds j true).getD z false = listed.getD z false := getD_set_keep hjz
      have hkij : ((listed.setIfInBounds i true).setIfInBounds j true).getD z false = listed.getD z false := by
        rw [getD_set_keep (by rw [hk]; exact hjz), hk]
      have h2 := wpOp_putIf hoj (hfree j oj hoj hji hjun hnot) (fun cs b => hsel i oi cs b hi) (fun cs b => hsel j oj cs b hoj) hQ hy h1
      have hfree' : ∀ k ok, ops[k]? = some ok → k ≠ i → (listed.setIfInBounds j true).getD k true = false →
          (∀ e ∈ ok.after, Region.binds .any e = true → e.on ≠ i) → oi.apart ops ok = true := fun k ok hk hki hun hno => by
        refine hfree k ok hk hki ?_ hno
        by_cases hjk : j = k
        · subst hjk; exact hjun
        · rw [getD_set_ne true hjk] at hun; exact hun
      refine wpOp_mono (fun a' w' h3 => ?_) h2
      have hS' : C (listed.getD z false) w' := by have := h3.2.1; rw [hkij] at this; exact this
      refine ⟨by rw [hkj]; exact hS', ih (listed.setIfInBounds j true) a' w' (by rw [hkj]; exact hzw) (closedL_set hcl hj) hfree' (ready_mono hr (Ne.symm hji)) (by rw [hkj]; exact h3.1) (by rw [hkj]; exact hS') ?_⟩
      rw [Array.setIfInBounds_comm _ _ hji]
      exact h3.2.2

/-- An order of a region: 'one': the operation yields in every world of the class; 'pur': it yields in every world of both classes; 'act': it acts, and is the only one that may come up; 'two': two that act, either of which may come up. -/
inductive PlanC where
  | fin
  | one (i : Nat) (p : PlanC)
  | pur (i : Nat) (p : PlanC)
  | act (i : Nat) (p : PlanC)
  | two (i : Nat) (p : PlanC) (j : Nat) (q : PlanC)
  | three (i : Nat) (p : PlanC) (j : Nat) (q : PlanC) (k : Nat) (r : PlanC)

def PlanC.len : PlanC → Nat
  | .fin => 0
  | .one _ p => p.len + 1
  | .pur _ p => p.len + 1
  | .act _ p => p.len + 1
  | .two _ p _ _ => p.len + 1
  | .three _ p _ _ _ _ => p.len + 1

/-- The walk in the order of the plan; 'ph': has z come up? -/
def wpMix2 (P : Program) (ops : Array Oper) (C : Bool → World → Prop) (z : Nat) (Q : Exit → Act → World → Prop) : PlanC → Bool → Act → World → Prop
  | .fin, _, a, w => Q .normal a w
  | .one i p, ph, a, w => ∃ o v, ops[i]? = some o ∧ YieldsIf P ops (C ph) o v a ∧ wpMix2 P ops C z Q p ph (a.put o.dst v) w
  | .pur i p, ph, a, w => ∃ o v, ops[i]? = some o ∧ YieldsIf P ops (fun w => C false w ∨ C true w) o v a ∧ wpMix2 P ops C z Q p ph (a.put o.dst v) w
  | .act i p, ph, a, w => wpOp P ops Q i (fun a' w' => C (ph || i == z) w' ∧ wpMix2 P ops C z Q p (ph || i == z) a' w') a w
  | .two i p j q, ph, a, w => wpOp P ops Q i (fun a' w' => C (ph || i == z) w' ∧ wpMix2 P ops C z Q p (ph || i == z) a' w') a w ∧
      wpOp P ops Q j (fun a' w' => C (ph || j == z) w' ∧ wpMix2 P ops C z Q q (ph || j == z) a' w') a w
  | .three i p j q k r, ph, a, w => wpOp P ops Q i (fun a' w' => C (ph || i == z) w' ∧ wpMix2 P ops C z Q p (ph || i == z) a' w') a w ∧
      wpOp P ops Q j (fun a' w' => C (ph || j == z) w' ∧ wpMix2 P ops C z Q q (ph || j == z) a' w') a w ∧
      wpOp P ops Q k (fun a' w' => C (ph || k == z) w' ∧ wpMix2 P ops C z Q r (ph || k == z) a' w') a w

def waitsB2 (ops : Array Oper) (z i : Nat) : Bool :=
  match ops[z]? with
  | some _ => reachB ops ops.size z i
  | none => true

/-- The order is one that may be taken: what yields is apart from what may come before it, and z waits for it or has come up; what acts is all that may come up. -/
def mixB2 (ops : Array Oper) (z : Nat) : PlanC → Array Bool → Bool
  | .fin, listed => Region.ready .any ops listed == []
  | .one i p, listed => Region.free .any ops listed i && (Region.ready .any ops listed).contains i && (z != i && (listed.getD z false || waitsB2 ops z i)) && mixB2 ops z p (listed.setIfInBounds i true)
  | .pur i p, listed => Region.free .any ops listed i && (Region.ready .any ops listed).contains i && z != i && mixB2 ops z p (listed.setIfInBounds i true)
  | .act i p, listed => Region.ready .any ops listed == [i] && ((listed.setIfInBounds i true).getD z false == (listed.getD z false || i == z)) && mixB2 ops z p (listed.setIfInBounds i true)
  | .two i p j q, listed => Region.ready .any ops listed == [i, j] && ((listed.setIfInBounds i true).getD z false == (listed.getD z false || i == z)) && ((listed.setIfInBounds j true).getD z false == (listed.getD z false || j == z)) && p.len == q.len &&
      mixB2 ops z p (listed.setIfInBounds i true) && mixB2 ops z q (listed.setIfInBounds j true)
  | .three i p j q k r, listed => Region.ready .any ops listed == [i, j, k] && ((listed.setIfInBounds i true).getD z false == (listed.getD z false || i == z)) && ((listed.setIfInBounds j true).getD z false == (listed.getD z false || j == z)) && ((listed.setIfInBounds k true).getD z false == (listed.getD z false || k == z)) && p.len == q.len && p.len == r.len &&
      mixB2 ops z p (listed.setIfInBounds i true) && mixB2 ops z q (listed.setIfInBounds j true) && mixB2 ops z r (listed.setIfInBounds k true)

theorem mix_any2 {z : Nat} (hs : Region.noSelect ops = true) : ∀ (l : PlanC) (listed : Array Bool) (a : Act) (w : World), mixB2 ops z l listed = true → closedL ops listed → C (listed.getD z false) w →
    wpMix2 P ops C z (NoPanic Q) l (listed.getD z false) a w → wpAnyZ P ops (NoPanic Q) C z l.len listed a w
  | .fin, listed, a, w, hb, _, _, h => by
    simp only [mixB2, beq_iff_eq] at hb
    exact ⟨hb, h⟩
  | .one i rest, listed, a, w, hb, hcl, hS, h => by
    simp only [mixB2, Bool.and_eq_true, Bool.or_eq_true] at hb
    obtain ⟨⟨⟨hb1, hb2⟩, hb3, hb4⟩, hb6⟩ := hb
    obtain ⟨o, v, hi, hy, h⟩ := h
    have hzi : z ≠ i := by simpa using hb3
    have hk : (listed.setIfInBounds i true).getD z false = listed.getD z false := getD_set_keep (.inr (Ne.symm hzi))
    have hri : i ∈ Region.ready .any ops listed := by simpa using hb2
    refine z_first2 hi (Region.noSelect_spec hs) (fun _ _ _ h => h) hzi _ listed a w (hb4.imp id fun hb4 oz hoz => ?_) hcl (Region.free_spec hi hb1) hri hy hS (mix_any2 hs rest _ _ _ hb6 (closedL_set hcl hri) (by rw [hk]; exact hS) (by rw [hk]; exact h))
    unfold waitsB2 at hb4
    rw [hoz] at hb4
    exact ⟨_, hb4⟩
  | .pur i rest, listed, a, w, hb, hcl, hS, h => by
    simp only [mixB2, Bool.and_eq_true] at hb
    obtain ⟨⟨⟨hb1, hb2⟩, hb3⟩, hb6⟩ := hb
    obtain ⟨o, v, hi, hy, h⟩ := h
    have hzi : z ≠ i := by simpa using hb3
    have hk : (listed.setIfInBounds i true).getD z false = listed.getD z false := getD_set_keep (.inr (Ne.symm hzi))
    exact z_pure hi (Region.noSelect_spec hs) (fun _ _ _ h => h) hzi _ listed a w (Region.free_spec hi hb1) (by simpa using hb2) hy hS (mix_any2 hs rest _ _ _ hb6 (closedL_set hcl (by simpa using hb2)) (by rw [hk]; exact hS) (by rw [hk]; exact h))
  | .act i rest, listed, a, w, hb, hcl, hS, h => by
    simp only [mixB2, Bool.and_eq_true, beq_iff_eq] at hb
    obtain ⟨⟨hb1, hb2⟩, hb3⟩ := hb
    refine ⟨fun h0 => (by rw [h0] at hb1; cases hb1), fun j hj => ?_⟩
    rw [hb1, List.mem_singleton] at hj
    subst hj
    refine wpOp_mono (fun a' w' h' => ?_) h
    rw [← hb2] at h'
    exact ⟨h'.1, mix_any2 hs rest _ _ _ hb3 (closedL_set hcl (by rw [hb1]; simp)) h'.1 h'.2⟩
  | .two i p j q, listed, a, w, hb, hcl, hS, h => by
    simp only [mixB2, Bool.and_eq_true, beq_iff_eq] at hb
    obtain ⟨⟨⟨⟨⟨hb1, hbi⟩, hbj⟩, hl⟩, hb2⟩, hb3⟩ := hb
    refine ⟨fun h0 => (by rw [h0] at hb1; cases hb1), fun k hk => ?_⟩
    rw [hb1] at hk
    simp only [List.mem_cons, List.not_mem_nil, or_false] at hk
    rcases hk with rfl | rfl
    · refine wpOp_mono (fun a' w' h' => ?_) h.1
      rw [← hbi] at h'
      exact ⟨h'.1, mix_any2 hs p _ _ _ hb2 (closedL_set hcl (by rw [hb1]; simp)) h'.1 h'.2⟩
    · refine wpOp_mono (fun a' w' h' => ?_) h.2
      rw [← hbj] at h'
      have := mix_any2 hs q _ _ _ hb3 (closedL_set hcl (by rw [hb1]; simp)) h'.1 h'.2
      rw [← hl] at this
      exact ⟨h'.1, this⟩
  | .three i p j q k r, listed, a, w, hb, hcl, hS, h => by
    simp only [mixB2, Bool.and_eq_true, beq_iff_eq] at hb
    obtain ⟨⟨⟨⟨⟨⟨⟨⟨hb1, hbi⟩, hbj⟩, hbk⟩, hl⟩, hl2⟩, hb2⟩, hb3⟩, hb4⟩ := hb
    refine ⟨fun h0 => (by rw [h0] at hb1; cases hb1), fun m hm => ?_⟩
    have hmr := hm
    rw [hb1] at hm
    simp only [List.mem_cons, List.not_mem_nil, or_false] at hm
    rcases hm with rfl | rfl | rfl
    · refine wpOp_mono (fun a' w' h' => ?_) h.1
      rw [← hbi] at h'
      exact ⟨h'.1, mix_any2 hs p _ _ _ hb2 (closedL_set hcl hmr) h'.1 h'.2⟩
    · refine wpOp_mono (fun a' w' h' => ?_) h.2.1
      rw [← hbj] at h'
      have := mix_any2 hs q _ _ _ hb3 (closedL_set hcl hmr) h'.1 h'.2
      rw [← hl] at this
      exact ⟨h'.1, this⟩
    · refine wpOp_mono (fun a' w' h' => ?_) h.2.2
      rw [← hbk] at h'
      have := mix_any2 hs r _ _ _ hb4 (closedL_set hcl hmr) h'.1 h'.2
      rw [← hl2] at this
      exact ⟨h'.1, this⟩

/-- The beginning: from the world behind the draw. z: the operation behind which the class T holds in S's place. -/
theorem wp_region_mix2 {id : Nat} {a : Act} {w : World} (l : PlanC) (z : Nat) (S T : World → Prop) (hm : P.follows .mixedOrders = true) (hs : Region.noSelect ops = true) (hn : l.len = ops.size)
    (hb : mixB2 ops z l (Array.replicate ops.size false) = true) (hS : S w.drew) (h : ∀ w1, Qt w w1 → S w1 → wpMix2 P ops (Cls S T) z (NoPanic Q) l false a w1) : (Code.region id ops true).wp P Q a w := by
  refine wp_region_noPanic (wp_region_any hm (any_of_z (C := Cls S T) (z := z) _ _ _ _ ?_))
  rw [← hn]
  exact mix_any2 hs l _ _ _ (by rw [hn]; exact hb) (closedL_start _) (by rw [getD_replicate]; exact hS) (by rw [getD_replicate]; exact h _ ⟨1, rfl⟩ hS)

theorem mix_pure2 {z i : Nat} {rest : PlanC} {ph : Bool} {a : Act} {w : World} {o : Oper} (hi : ops[i]? = some o)
    (h : ∀ K : Act → Prop, (∀ a, wpMix2 P ops C z Q rest ph a w → K a) →
      if Region.wanted o (yielded ops a.tmps) then ∃ v, (∀ w', C ph w' → (execOp a.eval o).run P w' = .ok (.value v) w') ∧ K (a.put o.dst v) else K (a.put o.dst undef)) :
    wpMix2 P ops C z Q (.one i rest) ph a w := by
  have h1 := h (fun a => wpMix2 P ops C z Q rest ph a w) (fun _ h => h)
  by_cases hw : Region.wanted o (yielded ops a.tmps) = true
  · rw [if_pos hw] at h1
    obtain ⟨v, h2, h3⟩ := h1
    exact ⟨o, v, hi, .inl ⟨hw, h2⟩, h3⟩
  · rw [if_neg hw] at h1
    exact ⟨o, undef, hi, .inr ⟨by simpa using hw, rfl⟩, h1⟩

theorem mix_pur2 {z i : Nat} {rest : PlanC} {ph : Bool} {a : Act} {w : World} {o : Oper} (hi : ops[i]? = some o)
    (h : ∀ K : Act → Prop, (∀ a, wpMix2 P ops C z Q rest ph a w → K a) →
      if Region.wanted o (yielded ops a.tmps) then ∃ v, (∀ w', (execOp a.eval o).run P w' = .ok (.value v) w') ∧ K (a.put o.dst v) else K (a.put o.dst undef)) :
    wpMix2 P ops C z Q (.pur i rest) ph a w := by
  have h1 := h (fun a => wpMix2 P ops C z Q rest ph a w) (fun _ h => h)
  by_cases hw : Region.wanted o (yielded ops a.tmps) = true
  · rw [if_pos hw] at h1
    obtain ⟨v, h2, h3⟩ := h1
    exact ⟨o, v, hi, .inl ⟨hw, fun w' _ => h2 w'⟩, h3⟩
  · rw [if_neg hw] at h1
    exact ⟨o, undef, hi, .inr ⟨by simpa using hw, rfl⟩, h1⟩

/-- A load, its value being one and the same in every world of both classes. -/
theorem mix_pload2 {z i : Nat} {rest : PlanC} {ph : Bool} {a : Act} {w : World} {o : Oper} (hi : ops[i]? = some o) (hg : o.guard = none) {t : TypeId} {x : Operand} (ho : o.op = .load t x) {p : Addr} (v : Value)
    (hv : ∀ w', (C false w' ∨ C true w') → (loadVar t p).run P w' = .ok v w') (hx : a.eval x = .pointer (some p)) (h : wpMix2 P ops C z Q rest ph (a.put o.dst v) w) : wpMix2 P ops C z Q (.pur i rest) ph a w := by
  refine ⟨o, v, hi, .inl ⟨by simp [Region.wanted, hg], fun w' hS => ?_⟩, h⟩
  simp [execOp, ho, Instr.loadAt, hx, Instr.sureAddr, hv w' hS]

/-- A load, its value being one and the same in every world of the class. -/
theorem mix_load2 {z i : Nat} {rest : PlanC} {ph : Bool} {a : Act} {w : World} {o : Oper} (hi : ops[i]? = some o) (hg : o.guard = none) {t : TypeId} {x : Operand} (ho : o.op = .load t x) {p : Addr} (v : Value)
    (hv : ∀ w', C ph w' → (loadVar t p).run P w' = .ok v w') (hx : a.eval x = .pointer (some p)) (h : wpMix2 P ops C z Q rest ph (a.put o.dst v) w) : wpMix2 P ops C z Q (.one i rest) ph a w := by
  refine ⟨o, v, hi, .inl ⟨by simp [Region.wanted, hg], fun w' hS => ?_⟩, h⟩
  simp [execOp, ho, Instr.loadAt, hx, Instr.sureAddr, hv w' hS]

theorem mix_eff2 {z i : Nat} {rest : PlanC} {ph : Bool} {a : Act} {w : World} {o : Oper} (hi : ops[i]? = some o) (ph' : Bool) (hp : (ph || i == z) = ph')
    (h : ∀ K : Act → World → Prop, (∀ a' w', C ph' w' → wpMix2 P ops C z Q rest ph' a' w' → K a' w') →
      if Region.wanted o (yielded ops a.tmps) then o.wp P a w K Q else K (a.put o.dst undef) w) :
    wpMix2 P ops C z Q (.act i rest) ph a w := by
  have h1 := h (fun a' w' => C ph' w' ∧ wpMix2 P ops C z Q rest ph' a' w') (fun _ _ h1 h2 => ⟨h1, h2⟩)
  simp only [wpMix2, wpOp, hi, hp]
  by_cases hw : Region.wanted o (yielded ops a.tmps) = true
  · rw [if_pos hw] at h1 ⊢
    exact .inl h1
  · rw [if_neg hw] at h1 ⊢
    exact h1

/-- Two that act, either of which may come up. -/
theorem mix_two2 {z i j : Nat} {p q : PlanC} {ph : Bool} {a : Act} {w : World} {o o' : Oper} (hi : ops[i]? = some o) (hj : ops[j]? = some o') (pi pj : Bool) (hpi : (ph || i == z) = pi) (hpj : (ph || j == z) = pj)
    (h1 : ∀ K : Act → World → Prop, (∀ a' w', C pi w' → wpMix2 P ops C z Q p pi a' w' → K a' w') → if Region.wanted o (yielded ops a.tmps) then o.wp P a w K Q else K (a.put o.dst undef) w)
    (h2 : ∀ K : Act → World → Prop, (∀ a' w', C pj w' → wpMix2 P ops C z Q q pj a' w' → K a' w') → if Region.wanted o' (yielded ops a.tmps) then o'.wp P a w K Q else K (a.put o'.dst undef) w) :
    wpMix2 P ops C z Q (.two i p j q) ph a w :=
  ⟨mix_eff2 (rest := p) hi pi hpi h1, mix_eff2 (rest := q) hj pj hpj h2⟩

/-- Three that act. -/
theorem mix_three2 {z i j k : Nat} {p q r : PlanC} {ph : Bool} {a : Act} {w : World} {o o' o'' : Oper} (hi : ops[i]? = some o) (hj : ops[j]? = some o') (hk : ops[k]? = some o'') (pi pj pk : Bool) (hpi : (ph || i == z) = pi) (hpj : (ph || j == z) = pj) (hpk : (ph || k == z) = pk)
    (h1 : ∀ K : Act → World → Prop, (∀ a' w', C pi w' → wpMix2 P ops C z Q p pi a' w' → K a' w') → if Region.wanted o (yielded ops a.tmps) then o.wp P a w K Q else K (a.put o.dst undef) w)
    (h2 : ∀ K : Act → World → Prop, (∀ a' w', C pj w' → wpMix2 P ops C z Q q pj a' w' → K a' w') → if Region.wanted o' (yielded ops a.tmps) then o'.wp P a w K Q else K (a.put o'.dst undef) w)
    (h3 : ∀ K : Act → World → Prop, (∀ a' w', C pk w' → wpMix2 P ops C z Q r pk a' w' → K a' w') → if Region.wanted o'' (yielded ops a.tmps) then o''.wp P a w K Q else K (a.put o''.dst undef) w) :
    wpMix2 P ops C z Q (.three i p j q k r) ph a w :=
  ⟨mix_eff2 (rest := p) hi pi hpi h1, mix_eff2 (rest := q) hj pj hpj h2, mix_eff2 (rest := r) hk pk hpk h3⟩

theorem mix_done2 {z : Nat} {ph : Bool} {a : Act} {w : World} (h : Q .normal a w) : wpMix2 P ops C z (NoPanic Q) .fin ph a w := h
/-- The same, within a round. -/
theorem wpIn_region_mix2 {id : Nat} {a : Act} {w : World} {lr nr : Nat} (l : PlanC) (z : Nat) (S T : World → Prop) (hm : P.follows .mixedOrders = true) (hs : Region.noSelect ops = true) (hd : noDefer ops = true) (hlo : ∀ a w, ¬ Q .outgrown a w) (hn : l.len = ops.size)
    (hb : mixB2 ops z l (Array.replicate ops.size false) = true) (hS : S w.drew) (h : ∀ w1, Qt w w1 → S w1 → wpMix2 P ops (Cls S T) z (NoPanic Q) l false a w1) : (Code.region id ops true).wpIn (Fence.wide.inRound lr) nr P Q a w := by
  refine wpIn_mono ?_ NoPanic.imp
  refine wpIn_region_any hm (wpAnyIn_of (Q := NoPanic Q) hd (fun ⟨a, w, h⟩ => hlo a w (NoPanic.imp _ _ _ h)) _ _ _ _ (any_of_z (C := Cls S T) (z := z) _ _ _ _ ?_))
  rw [← hn]
  exact mix_any2 hs l _ _ _ (by rw [hn]; exact hb) (closedL_start _) (by rw [getD_replicate]; exact hS) (by rw [getD_replicate]; exact h _ ⟨1, rfl⟩ hS)
end

end Go.Proofs.YtmlikgjfpmjdcaaGreatDoor

/- Divisions in plain words, and what an iterator over them keeps in memory; conditions: as said. -/
namespace Go.Proofs.YtmlikgjfpmjdcaaGreatDoor
open Go.RowKit

/-- Only own blocks may have turned; and there may be new ones. -/
structure Keep (own : Nat → Prop) (w w' : World) : Prop where
  os : w'.os = w.os
  tape : w'.tape = w.tape
  output : w'.output = w.output
  size : w.heap.size ≤ w'.heap.size
  block : ∀ k, k < w.heap.size → ¬ own k → w'.heap[k]? = w.heap[k]?

theorem Keep.refl (own : Nat → Prop) (w : World) : Keep own w w := ⟨rfl, rfl, rfl, Nat.le_refl _, fun _ _ _ => rfl⟩
theorem Keep.trans {own : Nat → Prop} {a b c : World} (h : Keep own a b) (k : Keep own b c) : Keep own a c :=
  ⟨k.os.trans h.os, k.tape.trans h.tape, k.output.trans h.output, Nat.le_trans h.size k.size, fun i hi ho => (k.block i (Nat.lt_of_lt_of_le hi h.size) ho).trans (h.block i hi ho)⟩
theorem Keep.mono {own own' : Nat → Prop} {a b : World} (h : Keep own a b) (hm : ∀ k, k < a.heap.size → own k → own' k) : Keep own' a b :=
  ⟨h.os, h.tape, h.output, h.size, fun i hi ho => h.block i hi (fun e => ho (hm i hi e))⟩
theorem Keep.of_below {B : Nat} {own : Nat → Prop} {a b : World} (h : Below B a b) (hB : ∀ k, k < a.heap.size → ¬ own k → k < B) : Keep own a b :=
  ⟨h.os, h.tape, h.output, h.size, fun k hk ho => h.block k (hB k hk ho)⟩
theorem Keep.call {own : Nat → Prop} {a b : World} (h : Below a.heap.size a b) : Keep own a b := Keep.of_below h fun _ hk _ => hk
theorem Keep.qt {own : Nat → Prop} {a b : World} (h : Qt a b) : Keep own a b := Keep.call (h.below _)
theorem Keep.drewN {own : Nat → Prop} {a b : World} (h : Keep own a b) (n : Nat) : Keep own a (b.drewN n) := ⟨h.os, h.tape, h.output, h.size, h.block⟩
theorem Keep.alloc {own : Nat → Prop} (w : World) (o : Obj) : Keep own w (w.alloc o) := Keep.call ((Below.refl _ w).alloc (Nat.le_refl _) o)
theorem Keep.setCell {own : Nat → Prop} (w : World) (a : Addr) (u : Value) (h : own a.block) : Keep own w (w.setCell a u) :=
  ⟨rfl, rfl, rfl, by simp [World.setCell], fun k _ ho => Below.heap_setCell w a u k (fun e => ho (e ▸ h))⟩
theorem Keep.turned {own : Nat → Prop} {w w' : World} {v v' : Value} (h : Turned w w' v v') (ho : ∀ k, v.ownBlock = some k → own k) : Keep own w w' :=
  ⟨h.os, h.tape, h.output, h.size, fun k hk hn => h.block k hk (fun e => hn (ho k e))⟩
theorem Keep.putObj {own : Nat → Prop} (w : World) (r : Nat) (o : Obj) (h : own r) : Keep own w (w.putObj r o) :=
  ⟨rfl, rfl, rfl, by simp, fun k _ ho => World.putObj_heap_other (fun e => ho (e ▸ h))⟩
theorem Keep.below {own : Nat → Prop} {B : Nat} {a b : World} (h : Keep own a b) (hB : B ≤ a.heap.size) (ho : ∀ k, k < B → ¬ own k) : Below B a b :=
  ⟨h.os, h.tape, h.output, h.size, fun k hk => h.block k (by omega) (ho k hk)⟩

/-- All divisions that go on from some, in lexicographic order. -/
def exts (n : Nat) : Nat → List Int → List (List Int)
  | 0, cur => [cur]
  | r + 1, cur => (iota n).flatMap fun m => if m ∈ cur then [] else exts n r (cur ++ [m])
def extsTo (n r : Nat) (cur : List Int) (k : Nat) : List (List Int) := (iota k).flatMap fun m => if m ∈ cur then [] else exts n r (cur ++ [m])
theorem extsTo_zero (n r : Nat) (cur : List Int) : extsTo n r cur 0 = [] := rfl
theorem extsTo_succ (n r : Nat) (cur : List Int) (k : Nat) : extsTo n r cur (k + 1) = extsTo n r cur k ++ (if (k : Int) ∈ cur then [] else exts n r (cur ++ [(k : Int)])) := by
  rw [extsTo, iota_succ, List.flatMap_append, ← extsTo]; simp
theorem exts_succ (n r : Nat) (cur : List Int) : exts n (r + 1) cur = extsTo n r cur n := rfl
theorem extsTo_all (n r : Nat) (cur : List Int) (k : Nat) (hk : k < n) : ∃ rest, exts n (r + 1) cur = extsTo n r cur k ++ (if (k : Int) ∈ cur then [] else exts n r (cur ++ [(k : Int)])) ++ rest := by
  rw [exts_succ, ← extsTo_succ]
  have : ∀ d, ∃ rest, extsTo n r cur (k + 1 + d) = extsTo n r cur (k + 1) ++ rest := by
    intro d
    induction d with
    | zero => exact ⟨[], by simp⟩
    | succ d ih =>
      obtain ⟨rest, h⟩ := ih
      exact ⟨rest ++ (if ((k + 1 + d : Nat) : Int) ∈ cur then [] else exts n r (cur ++ [((k + 1 + d : Nat) : Int)])), by rw [← List.append_assoc, ← h, ← extsTo_succ]; rfl⟩
  obtain ⟨rest, h⟩ := this (n - (k + 1))
  rw [show k + 1 + (n - (k + 1)) = n by omega] at h
  exact ⟨rest, h⟩
def divs (n : Nat) : List (List Int) := exts n n []

def orB (m i : Nat) : Nat := m ||| 2 ^ i
theorem orB_wo : ∀ m, m < 16 → ∀ i, i < 4 → hasB m i = true → orB (woB m i) i = m := by decide
theorem MaskOf.congr {n m : Nat} {a b : List Int} (h : MaskOf n m a) (e : ∀ x, x ∈ a ↔ x ∈ b) : MaskOf n m b := ⟨h.1, fun j hj => by rw [h.2 j hj, Bool.eq_iff_iff]; simp [e]⟩

/-- A row that is shortened by one. -/
theorem Own.pop {B : Nat} {w : World} {v : Value} {l : List Int} {x : Int} {n : Nat} (h : Own B w 3 1 v (n + 1) (I64 (l ++ [x]))) :
    ∃ g cap, v = .slice (some ⟨g, 0, none⟩) (n + 1) cap ∧ n + 1 ≤ cap ∧ cap ≤ maxLen ∧ Own B w 3 1 (.slice (some ⟨g, 0, none⟩) n cap) n (I64 l) := by
  obtain ⟨hl, h1⟩ := h
  have hln : l.length = n := by rw [I64_len] at hl; simp at hl; exact hl
  rcases h1 with ⟨rfl, h0⟩ | ⟨g, cap, cur, rfl, hb, hg, hc, hm, hs, ht⟩
  · simp at h0
  · refine ⟨g, cap, rfl, hc, hm, by rw [I64_len, Nat.mul_one]; exact hln, .inr ⟨g, cap, cur, rfl, hb, hg, by omega, hm, hs, ?_⟩⟩
    rw [I64_append] at ht
    have : cur.toList.take (n * 1) = (cur.toList.take ((n + 1) * 1)).take n := by rw [List.take_take]; congr 1; omega
    rw [this, ht, List.take_append_of_le_length (by rw [I64_len]; omega), List.take_of_length_le (by rw [I64_len]; omega)]

/-- What the iterator keeps: its boxes (from s on: yield, l, free, take, grow; and that of n), the row of l. -/
structure ItS (s n lr nb : Nat) (own : Nat → Prop) (vl : Value) (cur : List Int) (m : Nat) (W : World) : Prop where
  ns : nb < s
  bn : Blk nb #[.int .i64 n] 3 W
  by_ : Blk s #[.func (.yield lr) #[] #[]] 123 W
  bl : Blk (s + 1) #[vl] 22 W
  bf : Blk (s + 2) #[.int .u8 m] 89 W
  bt : Blk (s + 3) #[.func (.func 72) #[] #[.pointer (some ⟨s + 1, 0, none⟩), .pointer (some ⟨s + 2, 0, none⟩), .pointer (some ⟨s + 4, 0, none⟩)]] 91 W
  bg : Blk (s + 4) #[.func (.func 74) #[] #[.pointer (some ⟨s + 1, 0, none⟩), .pointer (some ⟨nb, 0, none⟩), .pointer (some ⟨s, 0, none⟩), .pointer (some ⟨s + 2, 0, none⟩), .pointer (some ⟨s + 3, 0, none⟩)]] 27 W
  row : Own (s + 5) W 3 1 vl cur.length (I64 cur)
  mask : MaskOf n m cur
  n0 : ¬ own nb
  n1 : ∀ k, s ≤ k → k < s + 5 → ¬ own k
  n2 : ∀ k, vl.ownBlock = some k → ¬ own k

/-- What an iterator's step leaves as it was. -/
structure Lv (s : Nat) (own own' : Nat → Prop) (vl vl' : Value) (W W' : World) : Prop where
  size : W.heap.size ≤ W'.heap.size
  keep : ∀ k, k < W.heap.size → ¬ own k → k ≠ s + 1 → k ≠ s + 2 → vl.ownBlock ≠ some k → W'.heap[k]? = W.heap[k]? ∧ ¬ own' k ∧ vl'.ownBlock ≠ some k
theorem Lv.refl (s : Nat) (own : Nat → Prop) (vl : Value) (W : World) : Lv s own own vl vl W W := ⟨Nat.le_refl _, fun _ _ h _ _ h' => ⟨rfl, h, h'⟩⟩
theorem Lv.trans {s : Nat} {o1 o2 o3 : Nat → Prop} {v1 v2 v3 : Value} {a b c : World} (h : Lv s o1 o2 v1 v2 a b) (k : Lv s o2 o3 v2 v3 b c) : Lv s o1 o3 v1 v3 a c :=
  ⟨Nat.le_trans h.size k.size, fun i hi h1 h2 h3 h4 => by
    obtain ⟨e1, e2, e3⟩ := h.keep i hi h1 h2 h3 h4
    obtain ⟨f1, f2, f3⟩ := k.keep i (Nat.lt_of_lt_of_le hi h.size) e2 h2 h3 e3
    exact ⟨f1.trans e1, f2, f3⟩⟩

/-- The callers' side: an invariant over the blocks that are theirs and over what has come. -/
structure Side (J : (Nat → Prop) → List (List Int) → World → Prop) : Prop where
  lt : ∀ own pre W, J own pre W → ∀ k, own k → k < W.heap.size
  step : ∀ own pre W W', J own pre W → Keep (fun k => ¬ own k) W W' → J own pre W'

/-- What is asked of a round. -/
def Rnd (lr : Nat) (all : List (List Int)) (J Jx : (Nat → Prop) → List (List Int) → World → Prop) : Prop :=
  ∀ own pre x v W h, J own pre W → (∀ k, own k → k < h) → h ≤ W.heap.size → Ints (fun k => h ≤ k) W v x → pre ++ [x] <+: all →
    YieldAt Fence.wide 8 Tryz.prog lr #[v] W fun e W' => ∃ own', (∀ k, k < h → own' k → own k) ∧ (∀ k, k < h → ¬ own k → W'.heap[k]? = W.heap[k]?) ∧ W.heap.size ≤ W'.heap.size ∧
      ((e = .returned (.bool true) ∧ J own' (pre ++ [x]) W') ∨ (e = .returned (.bool false) ∧ Jx own' (pre ++ [x]) W'))

/-- How a call of grow or take ends. -/
def GrowEnd (s n lr nb : Nat) (J Jx : (Nat → Prop) → List (List Int) → World → Prop) (own : Nat → Prop) (vl : Value) (cur : List Int) (m : Nat) (pre xs : List (List Int)) (W : World) (e : Ending) (W' : World) : Prop :=
  ∃ own' vl' b, e = .returned (.bool b) ∧ ItS s n lr nb own' vl' cur m W' ∧ Lv s own own' vl vl' W W' ∧
    (if b then J own' (pre ++ xs) W' else ∃ q, q <+: xs ∧ Jx own' (pre ++ q) W')

end Go.Proofs.YtmlikgjfpmjdcaaGreatDoor

/- The contracts of the closures of divisions that end and begin a step (the deferred one, take); conditions: as said. -/
namespace Go.Proofs.YtmlikgjfpmjdcaaGreatDoor
open Go.RowKit

def PopS (lb fb mb : Nat) (v : Value) (fr x : Nat) (w : World) : Prop := Blk lb #[v] 22 w ∧ Blk fb #[.int .u8 fr] 89 w ∧ Blk mb #[.int .i64 x] 3 w
theorem PopS.drewN {lb fb mb : Nat} {v : Value} {fr x : Nat} {w : World} (h : PopS lb fb mb v fr x w) (n : Nat) : PopS lb fb mb v fr x (w.drewN n) := h
def PopW (lb fb g k cap fr x : Nat) (w w' : World) : Prop := ∃ w1, Qt w w1 ∧ w' = (w1.setCell ⟨lb, 0, none⟩ (.slice (some ⟨g, 0, none⟩) k cap)).setCell ⟨fb, 0, none⟩ (.int .u8 (orB fr x))

set_option maxRecDepth 100000 in
set_option maxHeartbeats 1000000 in
theorem pop_d0 {lb fb mb g k cap fr : Nat} (hfr : fr < 16) (u : FrameMode) {w : World} (hS : PopS lb fb mb (.slice (some ⟨g, 0, none⟩) (k + 1) cap) fr 0 w) (hlf : lb ≠ fb) (hkc : k + 1 ≤ cap) (hcm : cap ≤ maxLen) :
    CallsD Tryz.prog 73 #[.pointer (some ⟨lb, 0, none⟩), .pointer (some ⟨fb, 0, none⟩), .pointer (some ⟨mb, 0, none⟩)] u w fun e u' w' => u' = u ∧ (e = .returned (.tuple #[]) ∧ PopW lb fb g k cap fr 0 w w') := by
  unfold maxLen at hcm
  have hS0 : PopS lb fb mb (.slice (some ⟨g, 0, none⟩) (k + 1) cap) fr 0 w.drew := hS.drewN 1
  have hwk : IntKind.i64.wrap (k : Int) = k := IntWalk.i64_in _ (by omega)
  have hk0 : (0 : Int) ≤ k := by omega
  have hkc' : (k : Int) ≤ cap := by omega
  clear hS
  go_enter_d Tryz.func73, Tryz.ntmps73
  refine wp_region_mix (.one 0 (.one 1 (.pur 2 (.pur 3 (.pur 4 (.one 5 (.one 6 (.pur 7 (.pur 8 (.pur 9 (.act 10 (.act 11 .fin)))))))))))) 10 (PopS lb fb mb (.slice (some ⟨g, 0, none⟩) (k + 1) cap) fr 0) (fun _ => True) (by kernel_rfl) (by kernel_rfl) rfl (by kernel_rfl) hS0 (fun w1 hq1 hS1 => ?_)
  skip
  have hF1 := hS1.2.1.other (a := ⟨lb, 0, none⟩) (by simpa using Ne.symm hlf) (.slice (some ⟨g, 0, none⟩) k cap)
  refine mix_load rfl rfl rfl (.slice (some ⟨g, 0, none⟩) (k + 1) cap) (fun w' h => by have h : (PopS lb fb mb (.slice (some ⟨g, 0, none⟩) (k + 1) cap) fr 0) w' := h; have h := h.1.cell 0; go_simp) rfl ?_
  refine mix_load rfl rfl rfl (.slice (some ⟨g, 0, none⟩) (k + 1) cap) (fun w' h => by have h : (PopS lb fb mb (.slice (some ⟨g, 0, none⟩) (k + 1) cap) fr 0) w' := h; have h := h.1.cell 0; go_simp) rfl ?_
  refine mix_pur rfl (fun K hK => ?_)
  go_simp
  first | refine ⟨_, fun _ => rfl, hK _ ?_⟩ | refine hK _ ?_
  clear hK K
  refine mix_pur rfl (fun K hK => ?_)
  go_simp
  first | refine ⟨_, fun _ => rfl, hK _ ?_⟩ | refine hK _ ?_
  clear hK K
  refine mix_pur rfl (fun K hK => ?_)
  go_simp
  first | refine ⟨_, fun _ => rfl, hK _ ?_⟩ | refine hK _ ?_
  clear hK K
  refine mix_load rfl rfl rfl (.int .u8 fr) (fun w' h => by have h : (PopS lb fb mb (.slice (some ⟨g, 0, none⟩) (k + 1) cap) fr 0) w' := h; have h := h.2.1.cell 0; go_simp) rfl ?_
  refine mix_load rfl rfl rfl (.int .i64 0) (fun w' h => by have h : (PopS lb fb mb (.slice (some ⟨g, 0, none⟩) (k + 1) cap) fr 0) w' := h; have h := h.2.2.cell 0; go_simp) rfl ?_
  refine mix_pur rfl (fun K hK => ?_)
  go_simp
  first | refine ⟨_, fun _ => rfl, hK _ ?_⟩ | refine hK _ ?_
  clear hK K
  refine mix_pur rfl (fun K hK => ?_)
  go_simp
  first | refine ⟨_, fun _ => rfl, hK _ ?_⟩ | refine hK _ ?_
  clear hK K
  refine mix_pur rfl (fun K hK => ?_)
  go_simp
  first | refine ⟨_, fun _ => rfl, hK _ ?_⟩ | refine hK _ ?_
  clear hK K
  refine mix_eff rfl true rfl (fun K hK => ?_)
  have h0 := hS1.1.cell 0
  have f0 := hS1.1.free 0
  go_simp
  refine hK _ _ trivial ?_
  clear hK K h0 f0
  refine mix_eff rfl true rfl (fun K hK => ?_)
  have h0 := hF1.cell 0
  have f0 := hF1.free 0
  go_simp
  refine hK _ _ trivial ?_
  clear hK K
  refine mix_done ?_
  have hor : ∀ m, m < 16 → bits BinOp.or IntKind.u8 ((m : Nat) : Int) (IntKind.u8.wrap (2 ^ min (IntKind.u64.wrap 0).toNat 8)) = ((orB m 0 : Nat) : Int) := by decide
  have HOR := Lib.hid (hor fr hfr)
  clear hor
  go_wp2
  go_end0
  exact ⟨rfl, w1, hq1, by rw [HOR.out]⟩

set_option maxRecDepth 100000 in
set_option maxHeartbeats 1000000 in
theorem pop_d1 {lb fb mb g k cap fr : Nat} (hfr : fr < 16) (u : FrameMode) {w : World} (hS : PopS lb fb mb (.slice (some ⟨g, 0, none⟩) (k + 1) cap) fr 1 w) (hlf : lb ≠ fb) (hkc : k + 1 ≤ cap) (hcm : cap ≤ maxLen) :
    CallsD Tryz.prog 73 #[.pointer (some ⟨lb, 0, none⟩), .pointer (some ⟨fb, 0, none⟩), .pointer (some ⟨mb, 0, none⟩)] u w fun e u' w' => u' = u ∧ (e = .returned (.tuple #[]) ∧ PopW lb fb g k cap fr 1 w w') := by
  unfold maxLen at hcm
  have hS0 : PopS lb fb mb (.slice (some ⟨g, 0, none⟩) (k + 1) cap) fr 1 w.drew := hS.drewN 1
  have hwk : IntKind.i64.wrap (k : Int) = k := IntWalk.i64_in _ (by omega)
  have hk0 : (0 : Int) ≤ k := by omega
  have hkc' : (k : Int) ≤ cap := by omega
  clear hS
  go_enter_d Tryz.func73, Tryz.ntmps73
  refine wp_region_mix (.one 0 (.one 1 (.pur 2 (.pur 3 (.pur 4 (.one 5 (.one 6 (.pur 7 (.pur 8 (.pur 9 (.act 10 (.act 11 .fin)))))))))))) 10 (PopS lb fb mb (.slice (some ⟨g, 0, none⟩) (k + 1) cap) fr 1) (fun _ => True) (by kernel_rfl) (by kernel_rfl) rfl (by kernel_rfl) hS0 (fun w1 hq1 hS1 => ?_)
  skip
  have hF1 := hS1.2.1.other (a := ⟨lb, 0, none⟩) (by simpa using Ne.symm hlf) (.slice (some ⟨g, 0, none⟩) k cap)
  refine mix_load rfl rfl rfl (.slice (some ⟨g, 0, none⟩) (k + 1) cap) (fun w' h => by have h : (PopS lb fb mb (.slice (some ⟨g, 0, none⟩) (k + 1) cap) fr 1) w' := h; have h := h.1.cell 0; go_simp) rfl ?_
  refine mix_load rfl rfl rfl (.slice (some ⟨g, 0, none⟩) (k + 1) cap) (fun w' h => by have h : (PopS lb fb mb (.slice (some ⟨g, 0, none⟩) (k + 1) cap) fr 1) w' := h; have h := h.1.cell 0; go_simp) rfl ?_
  refine mix_pur rfl (fun K hK => ?_)
  go_simp
  first | refine ⟨_, fun _ => rfl, hK _ ?_⟩ | refine hK _ ?_
  clear hK K
  refine mix_pur rfl (fun K hK => ?_)
  go_simp
  first | refine ⟨_, fun _ => rfl, hK _ ?_⟩ | refine hK _ ?_
  clear hK K
  refine mix_pur rfl (fun K hK => ?_)
  go_simp
  first | refine ⟨_, fun _ => rfl, hK _ ?_⟩ | refine hK _ ?_
  clear hK K
  refine mix_load rfl rfl rfl (.int .u8 fr) (fun w' h => by have h : (PopS lb fb mb (.slice (some ⟨g, 0, none⟩) (k + 1) cap) fr 1) w' := h; have h := h.2.1.cell 0; go_simp) rfl ?_
  refine mix_load rfl rfl rfl (.int .i64 1) (fun w' h => by have h : (PopS lb fb mb (.slice (some ⟨g, 0, none⟩) (k + 1) cap) fr 1) w' := h; have h := h.2.2.cell 0; go_simp) rfl ?_
  refine mix_pur rfl (fun K hK => ?_)
  go_simp
  first | refine ⟨_, fun _ => rfl, hK _ ?_⟩ | refine hK _ ?_
  clear hK K
  refine mix_pur rfl (fun K hK => ?_)
  go_simp
  first | refine ⟨_, fun _ => rfl, hK _ ?_⟩ | refine hK _ ?_
  clear hK K
  refine mix_pur rfl (fun K hK => ?_)
  go_simp
  first | refine ⟨_, fun _ => rfl, hK _ ?_⟩ | refine hK _ ?_
  clear hK K
  refine mix_eff rfl true rfl (fun K hK => ?_)
  have h0 := hS1.1.cell 0
  have f0 := hS1.1.free 0
  go_simp
  refine hK _ _ trivial ?_
  clear hK K h0 f0
  refine mix_eff rfl true rfl (fun K hK => ?_)
  have h0 := hF1.cell 0
  have f0 := hF1.free 0
  go_simp
  refine hK _ _ trivial ?_
  clear hK K
  refine mix_done ?_
  have hor : ∀ m, m < 16 → bits BinOp.or IntKind.u8 ((m : Nat) : Int) (IntKind.u8.wrap (2 ^ min (IntKind.u64.wrap 1).toNat 8)) = ((orB m 1 : Nat) : Int) := by decide
  have HOR := Lib.hid (hor fr hfr)
  clear hor
  go_wp2
  go_end0
  exact ⟨rfl, w1, hq1, by rw [HOR.out]⟩

set_option maxRecDepth 100000 in
set_option maxHeartbeats 1000000 in
theorem pop_d2 {lb fb mb g k cap fr : Nat} (hfr : fr < 16) (u : FrameMode) {w : World} (hS : PopS lb fb mb (.slice (some ⟨g, 0, none⟩) (k + 1) cap) fr 2 w) (hlf : lb ≠ fb) (hkc : k + 1 ≤ cap) (hcm : cap ≤ maxLen) :
    CallsD Tryz.prog 73 #[.pointer (some ⟨lb, 0, none⟩), .pointer (some ⟨fb, 0, none⟩), .pointer (some ⟨mb, 0, none⟩)] u w fun e u' w' => u' = u ∧ (e = .returned (.tuple #[]) ∧ PopW lb fb g k cap fr 2 w w') := by
  unfold maxLen at hcm
  have hS0 : PopS lb fb mb (.slice (some ⟨g, 0, none⟩) (k + 1) cap) fr 2 w.drew := hS.drewN 1
  have hwk : IntKind.i64.wrap (k : Int) = k := IntWalk.i64_in _ (by omega)
  have hk0 : (0 : Int) ≤ k := by omega
  have hkc' : (k : Int) ≤ cap := by omega
  clear hS
  go_enter_d Tryz.func73, Tryz.ntmps73
  refine wp_region_mix (.one 0 (.one 1 (.pur 2 (.pur 3 (.pur 4 (.one 5 (.one 6 (.pur 7 (.pur 8 (.pur 9 (.act 10 (.act 11 .fin)))))))))))) 10 (PopS lb fb mb (.slice (some ⟨g, 0, none⟩) (k + 1) cap) fr 2) (fun _ => True) (by kernel_rfl) (by kernel_rfl) rfl (by kernel_rfl) hS0 (fun w1 hq1 hS1 => ?_)
  skip
  have hF1 := hS1.2.1.other (a := ⟨lb, 0, none⟩) (by simpa using Ne.symm hlf) (.slice (some ⟨g, 0, none⟩) k cap)
  refine mix_load rfl rfl rfl (.slice (some ⟨g, 0, none⟩) (k + 1) cap) (fun w' h => by have h : (PopS lb fb mb (.slice (some ⟨g, 0, none⟩) (k + 1) cap) fr 2) w' := h; have h := h.1.cell 0; go_simp) rfl ?_
  refine mix_load rfl rfl rfl (.slice (some ⟨g, 0, none⟩) (k + 1) cap) (fun w' h => by have h : (PopS lb fb mb (.slice (some ⟨g, 0, none⟩) (k + 1) cap) fr 2) w' := h; have h := h.1.cell 0; go_simp) rfl ?_
  refine mix_pur rfl (fun K hK => ?_)
  go_simp
  first | refine ⟨_, fun _ => rfl, hK _ ?_⟩ | refine hK _ ?_
  clear hK K
  refine mix_pur rfl (fun K hK => ?_)
  go_simp
  first | refine ⟨_, fun _ => rfl, hK _ ?_⟩ | refine hK _ ?_
  clear hK K
  refine mix_pur rfl (fun K hK => ?_)
  go_simp
  first | refine ⟨_, fun _ => rfl, hK _ ?_⟩ | refine hK _ ?_
  clear hK K
  refine mix_load rfl rfl rfl (.int .u8 fr) (fun w' h => by have h : (PopS lb fb mb (.slice (some ⟨g, 0, none⟩) (k + 1) cap) fr 2) w' := h; have h := h.2.1.cell 0; go_simp) rfl ?_
  refine mix_load rfl rfl rfl (.int .i64 2) (fun w' h => by have h : (PopS lb fb mb (.slice (some ⟨g, 0, none⟩) (k + 1) cap) fr 2) w' := h; have h := h.2.2.cell 0; go_simp) rfl ?_
  refine mix_pur rfl (fun K hK => ?_)
  go_simp
  first | refine ⟨_, fun _ => rfl, hK _ ?_⟩ | refine hK _ ?_
  clear hK K
  refine mix_pur rfl (fun K hK => ?_)
  go_simp
  first | refine ⟨_, fun _ => rfl, hK _ ?_⟩ | refine hK _ ?_
  clear hK K
  refine mix_pur rfl (fun K hK => ?_)
  go_simp
  first | refine ⟨_, fun _ => rfl, hK _ ?_⟩ | refine hK _ ?_
  clear hK K
  refine mix_eff rfl true rfl (fun K hK => ?_)
  have h0 := hS1.1.cell 0
  have f0 := hS1.1.free 0
  go_simp
  refine hK _ _ trivial ?_
  clear hK K h0 f0
  refine mix_eff rfl true rfl (fun K hK => ?_)
  have h0 := hF1.cell 0
  have f0 := hF1.free 0
  go_simp
  refine hK _ _ trivial ?_
  clear hK K
  refine mix_done ?_
  have hor : ∀ m, m < 16 → bits BinOp.or IntKind.u8 ((m : Nat) : Int) (IntKind.u8.wrap (2 ^ min (IntKind.u64.wrap 2).toNat 8)) = ((orB m 2 : Nat) : Int) := by decide
  have HOR := Lib.hid (hor fr hfr)
  clear hor
  go_wp2
  go_end0
  exact ⟨rfl, w1, hq1, by rw [HOR.out]⟩

set_option maxRecDepth 100000 in
set_option maxHeartbeats 1000000 in
theorem pop_d3 {lb fb mb g k cap fr : Nat} (hfr : fr < 16) (u : FrameMode) {w : World} (hS : PopS lb fb mb (.slice (some ⟨g, 0, none⟩) (k + 1) cap) fr 3 w) (hlf : lb ≠ fb) (hkc : k + 1 ≤ cap) (hcm : cap ≤ maxLen) :
    CallsD Tryz.prog 73 #[.pointer (some ⟨lb, 0, none⟩), .pointer (some ⟨fb, 0, none⟩), .pointer (some ⟨mb, 0, none⟩)] u w fun e u' w' => u' = u ∧ (e = .returned (.tuple #[]) ∧ PopW lb fb g k cap fr 3 w w') := by
  unfold maxLen at hcm
  have hS0 : PopS lb fb mb (.slice (some ⟨g, 0, none⟩) (k + 1) cap) fr 3 w.drew := hS.drewN 1
  have hwk : IntKind.i64.wrap (k : Int) = k := IntWalk.i64_in _ (by omega)
  have hk0 : (0 : Int) ≤ k := by omega
  have hkc' : (k : Int) ≤ cap := by omega
  clear hS
  go_enter_d Tryz.func73, Tryz.ntmps73
  refine wp_region_mix (.one 0 (.one 1 (.pur 2 (.pur 3 (.pur 4 (.one 5 (.one 6 (.pur 7 (.pur 8 (.pur 9 (.act 10 (.act 11 .fin)))))))))))) 10 (PopS lb fb mb (.slice (some ⟨g, 0, none⟩) (k + 1) cap) fr 3) (fun _ => True) (by kernel_rfl) (by kernel_rfl) rfl (by kernel_rfl) hS0 (fun w1 hq1 hS1 => ?_)
  skip
  have hF1 := hS1.2.1.other (a := ⟨lb, 0, none⟩) (by simpa using Ne.symm hlf) (.slice (some ⟨g, 0, none⟩) k cap)
  refine mix_load rfl rfl rfl (.slice (some ⟨g, 0, none⟩) (k + 1) cap) (fun w' h => by have h : (PopS lb fb mb (.slice (some ⟨g, 0, none⟩) (k + 1) cap) fr 3) w' := h; have h := h.1.cell 0; go_simp) rfl ?_
  refine mix_load rfl rfl rfl (.slice (some ⟨g, 0, none⟩) (k + 1) cap) (fun w' h => by have h : (PopS lb fb mb (.slice (some ⟨g, 0, none⟩) (k + 1) cap) fr 3) w' := h; have h := h.1.cell 0; go_simp) rfl ?_
  refine mix_pur rfl (fun K hK => ?_)
  go_simp
  first | refine ⟨_, fun _ => rfl, hK _ ?_⟩ | refine hK _ ?_
  clear hK K
  refine mix_pur rfl (fun K hK => ?_)
  go_simp
  first | refine ⟨_, fun _ => rfl, hK _ ?_⟩ | refine hK _ ?_
  clear hK K
  refine mix_pur rfl (fun K hK => ?_)
  go_simp
  first | refine ⟨_, fun _ => rfl, hK _ ?_⟩ | refine hK _ ?_
  clear hK K
  refine mix_load rfl rfl rfl (.int .u8 fr) (fun w' h => by have h : (PopS lb fb mb (.slice (some ⟨g, 0, none⟩) (k + 1) cap) fr 3) w' := h; have h := h.2.1.cell 0; go_simp) rfl ?_
  refine mix_load rfl rfl rfl (.int .i64 3) (fun w' h => by have h : (PopS lb fb mb (.slice (some ⟨g, 0, none⟩) (k + 1) cap) fr 3) w' := h; have h := h.2.2.cell 0; go_simp) rfl ?_
  refine mix_pur rfl (fun K hK => ?_)
  go_simp
  first | refine ⟨_, fun _ => rfl, hK _ ?_⟩ | refine hK _ ?_
  clear hK K
  refine mix_pur rfl (fun K hK => ?_)
  go_simp
  first | refine ⟨_, fun _ => rfl, hK _ ?_⟩ | refine hK _ ?_
  clear hK K
  refine mix_pur rfl (fun K hK => ?_)
  go_simp
  first | refine ⟨_, fun _ => rfl, hK _ ?_⟩ | refine hK _ ?_
  clear hK K
  refine mix_eff rfl true rfl (fun K hK => ?_)
  have h0 := hS1.1.cell 0
  have f0 := hS1.1.free 0
  go_simp
  refine hK _ _ trivial ?_
  clear hK K h0 f0
  refine mix_eff rfl true rfl (fun K hK => ?_)
  have h0 := hF1.cell 0
  have f0 := hF1.free 0
  go_simp
  refine hK _ _ trivial ?_
  clear hK K
  refine mix_done ?_
  have hor : ∀ m, m < 16 → bits BinOp.or IntKind.u8 ((m : Nat) : Int) (IntKind.u8.wrap (2 ^ min (IntKind.u64.wrap 3).toNat 8)) = ((orB m 3 : Nat) : Int) := by decide
  have HOR := Lib.hid (hor fr hfr)
  clear hor
  go_wp2
  go_end0
  exact ⟨rfl, w1, hq1, by rw [HOR.out]⟩

theorem pop_d {lb fb mb g k cap fr x : Nat} (hx : x < 4) (hfr : fr < 16) (u : FrameMode) {w : World} (hS : PopS lb fb mb (.slice (some ⟨g, 0, none⟩) (k + 1) cap) fr x w) (hlf : lb ≠ fb) (hkc : k + 1 ≤ cap) (hcm : cap ≤ maxLen) :
    CallsD Tryz.prog 73 #[.pointer (some ⟨lb, 0, none⟩), .pointer (some ⟨fb, 0, none⟩), .pointer (some ⟨mb, 0, none⟩)] u w fun e u' w' => u' = u ∧ (e = .returned (.tuple #[]) ∧ PopW lb fb g k cap fr x w w') := by
  have h4 : x = 0 ∨ x = 1 ∨ x = 2 ∨ x = 3 := by omega
  rcases h4 with rfl | rfl | rfl | rfl
  · exact pop_d0 hfr u hS hlf hkc hcm
  · exact pop_d1 hfr u hS hlf hkc hcm
  · exact pop_d2 hfr u hS hlf hkc hcm
  · exact pop_d3 hfr u hS hlf hkc hcm

end Go.Proofs.YtmlikgjfpmjdcaaGreatDoor

