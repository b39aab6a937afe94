/- Regions that draw their order and may panic; the end of lots.take where a line is not as said; conditions: as said at each. -/
import Derived.Test.YtmlikgjfpmjdcaaGreatDoorRd3
namespace Go.Proofs.YtmlikgjfpmjdcaaGreatDoor
open Go.RowKit

section
variable {P : Program} {ops : Array Oper} {Q : Exit → Act → World → Prop} {C : Bool → World → Prop}
theorem mix_anyR {z : Nat} (hput : ∀ (i : Nat) (o : Oper), ops[i]? = some o → ∀ (v : Value) c (a : Act) (w : World), Q (.panic c) (a.put o.dst v) w → Q (.panic c) a w) (hs : Region.noSelect ops = true) : ∀ (l : PlanC) (listed : Array Bool) (a : Act) (w : World), mixB2 ops z l listed = true → closedL ops listed → C (listed.getD z false) w →
    wpMix2 P ops C z Q l (listed.getD z false) a w → wpAnyZ P ops Q C z l.len listed a w
  | .fin, listed, a, w, hb, _, _, h => by
    simp only [mixB2, beq_iff_eq] at hb
    exact ⟨hb, h⟩
  | .one i rest, listed, a, w, hb, hcl, hS, h => by
    simp only [mixB2, Bool.and_eq_true, Bool.or_eq_true] at hb
    obtain ⟨⟨⟨hb1, hb2⟩, hb3, hb4⟩, hb6⟩ := hb
    obtain ⟨o, v, hi, hy, h⟩ := h
    have hzi : z ≠ i := by simpa using hb3
    have hk : (listed.setIfInBounds i true).getD z false = listed.getD z false := getD_set_keep (.inr (Ne.symm hzi))
    have hri : i ∈ Region.ready .any ops listed := by simpa using hb2
    refine z_first2 hi (Region.noSelect_spec hs) (hput _ _ hi _) hzi _ listed a w (hb4.imp id fun hb4 oz hoz => ?_) hcl (Region.free_spec hi hb1) hri hy hS (mix_anyR hput hs rest _ _ _ hb6 (closedL_set hcl hri) (by rw [hk]; exact hS) (by rw [hk]; exact h))
    unfold waitsB2 at hb4
    rw [hoz] at hb4
    exact ⟨_, hb4⟩
  | .pur i rest, listed, a, w, hb, hcl, hS, h => by
    simp only [mixB2, Bool.and_eq_true] at hb
    obtain ⟨⟨⟨hb1, hb2⟩, hb3⟩, hb6⟩ := hb
    obtain ⟨o, v, hi, hy, h⟩ := h
    have hzi : z ≠ i := by simpa using hb3
    have hk : (listed.setIfInBounds i true).getD z false = listed.getD z false := getD_set_keep (.inr (Ne.symm hzi))
    exact z_pure hi (Region.noSelect_spec hs) (hput _ _ hi _) hzi _ listed a w (Region.free_spec hi hb1) (by simpa using hb2) hy hS (mix_anyR hput hs rest _ _ _ hb6 (closedL_set hcl (by simpa using hb2)) (by rw [hk]; exact hS) (by rw [hk]; exact h))
  | .act i rest, listed, a, w, hb, hcl, hS, h => by
    simp only [mixB2, Bool.and_eq_true, beq_iff_eq] at hb
    obtain ⟨⟨hb1, hb2⟩, hb3⟩ := hb
    refine ⟨fun h0 => (by rw [h0] at hb1; cases hb1), fun j hj => ?_⟩
    rw [hb1, List.mem_singleton] at hj
    subst hj
    refine wpOp_mono (fun a' w' h' => ?_) h
    rw [← hb2] at h'
    exact ⟨h'.1, mix_anyR hput hs rest _ _ _ hb3 (closedL_set hcl (by rw [hb1]; simp)) h'.1 h'.2⟩
  | .two i p j q, listed, a, w, hb, hcl, hS, h => by
    simp only [mixB2, Bool.and_eq_true, beq_iff_eq] at hb
    obtain ⟨⟨⟨⟨⟨hb1, hbi⟩, hbj⟩, hl⟩, hb2⟩, hb3⟩ := hb
    refine ⟨fun h0 => (by rw [h0] at hb1; cases hb1), fun k hk => ?_⟩
    rw [hb1] at hk
    simp only [List.mem_cons, List.not_mem_nil, or_false] at hk
    rcases hk with rfl | rfl
    · refine wpOp_mono (fun a' w' h' => ?_) h.1
      rw [← hbi] at h'
      exact ⟨h'.1, mix_anyR hput hs p _ _ _ hb2 (closedL_set hcl (by rw [hb1]; simp)) h'.1 h'.2⟩
    · refine wpOp_mono (fun a' w' h' => ?_) h.2
      rw [← hbj] at h'
      have := mix_anyR hput hs q _ _ _ hb3 (closedL_set hcl (by rw [hb1]; simp)) h'.1 h'.2
      rw [← hl] at this
      exact ⟨h'.1, this⟩
  | .three i p j q k r, listed, a, w, hb, hcl, hS, h => by
    simp only [mixB2, Bool.and_eq_true, beq_iff_eq] at hb
    obtain ⟨⟨⟨⟨⟨⟨⟨⟨hb1, hbi⟩, hbj⟩, hbk⟩, hl⟩, hl2⟩, hb2⟩, hb3⟩, hb4⟩ := hb
    refine ⟨fun h0 => (by rw [h0] at hb1; cases hb1), fun m hm => ?_⟩
    have hmr := hm
    rw [hb1] at hm
    simp only [List.mem_cons, List.not_mem_nil, or_false] at hm
    rcases hm with rfl | rfl | rfl
    · refine wpOp_mono (fun a' w' h' => ?_) h.1
      rw [← hbi] at h'
      exact ⟨h'.1, mix_anyR hput hs p _ _ _ hb2 (closedL_set hcl hmr) h'.1 h'.2⟩
    · refine wpOp_mono (fun a' w' h' => ?_) h.2.1
      rw [← hbj] at h'
      have := mix_anyR hput hs q _ _ _ hb3 (closedL_set hcl hmr) h'.1 h'.2
      rw [← hl] at this
      exact ⟨h'.1, this⟩
    · refine wpOp_mono (fun a' w' h' => ?_) h.2.2
      rw [← hbk] at h'
      have := mix_anyR hput hs r _ _ _ hb4 (closedL_set hcl hmr) h'.1 h'.2
      rw [← hl2] at this
      exact ⟨h'.1, this⟩

/-- What is asked, with R of a panic. -/
def QP (R : List PanicEntry → Act → World → Prop) (Q : Exit → Act → World → Prop) : Exit → Act → World → Prop
  | .panic c, a, w => R c a w
  | e, a, w => Q e a w
theorem QP.imp {R : List PanicEntry → Act → World → Prop} (hR : ∀ c a w, R c a w → Q (.panic c) a w) : ∀ (e : Exit) (a : Act) (w : World), QP R Q e a w → Q e a w := fun e a w h => by
  cases e <;> first | exact hR _ _ _ h | exact h
theorem wp_region_mixR {id : Nat} {a : Act} {w : World} (l : PlanC) (z : Nat) (S T : World → Prop) (R : List PanicEntry → Act → World → Prop)
    (hm : P.follows .mixedOrders = true) (hs : Region.noSelect ops = true) (hn : l.len = ops.size)
    (hb : mixB2 ops z l (Array.replicate ops.size false) = true) (hS : S w.drew) (h : ∀ w1, Qt w w1 → S w1 → wpMix2 P ops (Cls S T) z (QP R Q) l false a w1)
    (hR : ∀ c a w, R c a w → Q (.panic c) a w) (hput : ∀ (i : Nat) (o : Oper), ops[i]? = some o → ∀ (v : Value) c (a : Act) (w : World), R c (a.put o.dst v) w → R c a w) : (Code.region id ops true).wp P Q a w := by
  refine Code.wp_mono (QP.imp hR) (wp_region_any hm (any_of_z (C := Cls S T) (z := z) _ _ _ _ ?_))
  rw [← hn]
  exact mix_anyR (Q := QP R Q) hput hs l _ _ _ (by rw [hn]; exact hb) (closedL_start _) (by rw [getD_replicate]; exact hS) (by rw [getD_replicate]; exact h _ ⟨1, rfl⟩ hS)
theorem mix_doneR {R : List PanicEntry → Act → World → Prop} {z : Nat} {ph : Bool} {a : Act} {w : World} (h : Q .normal a w) : wpMix2 P ops C z (QP R Q) .fin ph a w := h
end

/-- What take hands back. -/
def TkPost (ws : List (List UInt8)) (w : World) (e : Ending) (w' : World) : Prop :=
  ((∃ n, takeR ws = .error n ∧ e = .returned (.tuple #[.agg #[.slice none 0 0, .slice none 0 0], .int .i64 (n : Int)])) ∨ (∃ c vm vv, takeR ws = .ok c ∧ e = .returned (.tuple #[.agg #[vm, vv], .int .i64 0]) ∧ Cm (fun q => w.heap.size ≤ q) w' vm vv c)) ∧ Below w.heap.size w w'
set_option maxRecDepth 100000 in
theorem take_panic {ws : List (List UInt8)} {w w' : World} {bc bl : Nat} {c : Com} {vm vv : Value} {ls : List Value} {n : Nat} (T : Array Value) (h2 : T.getD 2 undef = .pointer (some ⟨bc, 0, none⟩)) (h3 : T.getD 3 undef = .pointer (some ⟨bl, 0, none⟩)) (hT : TS w bc bl c vm vv ls w') (hR : takeR ws = .error n) :
    bodyPostD Tryz.prog Tryz.f35 (fun e w' => TkPost ws w e w') (.panic [{ v := .iface 114 (.agg #[.int .i64 (n : Int)]), recovered := false }]) { tmps := T, defers := [{ target := .fn (.func 64) #[.pointer (some ⟨bc, 0, none⟩), .pointer (some ⟨bl, 0, none⟩)], args := #[] }] } w' := by
  have ho := hT.o
  refine leaves_cons (f := 64) (args := #[.pointer (some ⟨bc, 0, none⟩), .pointer (some ⟨bl, 0, none⟩)]) (by simp) (by simp [go_sem]) ?_
  refine (catch_panicking bc bl n _ _ _ [] w' hT.box hT.line (by omega)).mono ?_
  rintro e u' w'' ⟨rfl, rfl, hc2, hl2, hB⟩
  have x0 := hc2.cell 0
  have x1 := hc2.cell 1
  have y0 := hl2.cell 0
  have hP : TkPost ws w (.returned (.tuple #[.agg #[.slice none 0 0, .slice none 0 0], .int .i64 (n : Int)])) w'' := ⟨.inl ⟨n, hR, rfl⟩, hT.bel.trans (hB w.heap.size ho.1 (by omega))⟩
  have HP := Lib.hid hP
  clear hP
  have g2 : T[2]?.getD undef = .pointer (some ⟨bc, 0, none⟩) := by simpa using h2
  have g3 : T[3]?.getD undef = .pointer (some ⟨bl, 0, none⟩) := by simpa using h3
  simp [Leaves, settle, results, Tryz.results35, go_sem, g2, g3, x0, x1, y0]
  exact HP.out

set_option maxRecDepth 100000 in
theorem take_ret {ws : List (List UInt8)} {w w' : World} {bc bl : Nat} {c : Com} {vm vv : Value} {ls : List Value} (T : Array Value) (h2 : T.getD 2 undef = .pointer (some ⟨bc, 0, none⟩)) (h3 : T.getD 3 undef = .pointer (some ⟨bl, 0, none⟩)) (hT : TS w bc bl c vm vv ls w') (hR : takeR ws = .ok c) :
    bodyPostD Tryz.prog Tryz.f35 (fun e w' => TkPost ws w e w') .ret { tmps := T, defers := [{ target := .fn (.func 64) #[.pointer (some ⟨bc, 0, none⟩), .pointer (some ⟨bl, 0, none⟩)], args := #[] }] } w' := by
  refine leaves_cons (f := 64) (args := #[.pointer (some ⟨bc, 0, none⟩), .pointer (some ⟨bl, 0, none⟩)]) (by simp) (by simp [go_sem]) ?_
  refine (catch_idle _ _ w').mono ?_
  rintro e u' w'' ⟨rfl, rfl, rfl⟩
  have x0 := hT.box.cell 0
  have x1 := hT.box.cell 1
  have y0 := hT.line.cell 0
  have hP : TkPost ws w (.returned (.tuple #[.agg #[vm, vv], .int .i64 0])) w'' := ⟨.inr ⟨c, vm, vv, hR, rfl, hT.cm⟩, hT.bel⟩
  have HP := Lib.hid hP
  clear hP
  have g2 : T[2]?.getD undef = .pointer (some ⟨bc, 0, none⟩) := by simpa using h2
  have g3 : T[3]?.getD undef = .pointer (some ⟨bl, 0, none⟩) := by simpa using h3
  simp [Leaves, settle, results, Tryz.results35, go_sem, g2, g3, x0, x1, y0]
  exact HP.out
/-- What stands at a panic in take. -/
def RP (ws : List (List UInt8)) (w : World) (bc bl : Nat) (c : List PanicEntry) (a : Act) (w' : World) : Prop :=
  (∃ n : Nat, c = [{ v := .iface 114 (.agg #[.int .i64 (n : Int)]), recovered := false }] ∧ takeR ws = .error n) ∧ a.tmps.getD 2 undef = .pointer (some ⟨bc, 0, none⟩) ∧ a.tmps.getD 3 undef = .pointer (some ⟨bl, 0, none⟩) ∧ a.defers = [{ target := .fn (.func 64) #[.pointer (some ⟨bc, 0, none⟩), .pointer (some ⟨bl, 0, none⟩)], args := #[] }] ∧ ∃ c vm vv ls, TS w bc bl c vm vv ls w'
theorem RP.end {ws : List (List UInt8)} {w : World} {bc bl : Nat} {c : List PanicEntry} {a : Act} {w' : World} (h : RP ws w bc bl c a w') : bodyPostD Tryz.prog Tryz.f35 (fun e w' => TkPost ws w e w') (.panic c) a w' := by
  obtain ⟨⟨n, rfl, hR⟩, h2, h3, h4, cc, vm, vv, ls, hT⟩ := h
  obtain ⟨T, D⟩ := a
  have h4 : D = _ := h4
  subst h4
  exact take_panic T h2 h3 hT hR
theorem RP.put {ops : Array Oper} (hd : (ops.all fun o => o.dst != some 2 && o.dst != some 3) = true) {ws : List (List UInt8)} {w : World} {bc bl : Nat} (i : Nat) (o : Oper) (hi : ops[i]? = some o) (v : Value) (c : List PanicEntry) (a : Act) (w' : World) (h : RP ws w bc bl c (a.put o.dst v) w') : RP ws w bc bl c a w' := by
  have hm : (o.dst != some 2 && o.dst != some 3) = true := by
    obtain ⟨hlt, e⟩ := Array.getElem?_eq_some_iff.1 hi
    rw [← e]
    exact Array.all_eq_true.1 hd i hlt
  simp only [Bool.and_eq_true, bne_iff_ne, ne_eq] at hm
  obtain ⟨h1, h2, h3, h4, h5⟩ := h
  cases hdst : o.dst with
  | none => rw [hdst] at h2 h3 h4; exact ⟨h1, h2, h3, h4, h5⟩
  | some d =>
    rw [hdst] at h2 h3 h4 hm
    have d2 : d ≠ 2 := fun e => hm.1 (by rw [e])
    have d3 : d ≠ 3 := fun e => hm.2 (by rw [e])
    refine ⟨h1, ?_, ?_, h4, h5⟩
    · rw [← h2]
      show a.tmps.getD 2 undef = (a.tmps.setIfInBounds d v).getD 2 undef
      simp [d2]
    · rw [← h3]
      show a.tmps.getD 3 undef = (a.tmps.setIfInBounds d v).getD 3 undef
      simp [d3]

end Go.Proofs.YtmlikgjfpmjdcaaGreatDoor
