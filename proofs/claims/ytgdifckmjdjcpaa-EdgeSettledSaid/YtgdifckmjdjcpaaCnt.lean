/- Contract of count (edge); conditions: a valid edge whose claims read as a list. -/
import Derived.Test.YtgdifckmjdjcpaaTru3
import Derived.Test.YtgdifckmjdjcpaaRga
import Derived.ChangeKeysEq
namespace Go.Proofs.Ytgdifckmjdjcpaa
open Go.RowKit
attribute [local go_sem] Oper.semAt_some

/-- The truth that came last. -/
def lastT (rs : List (List Int)) : Nat → List Int
  | 0 => [-1]
  | k + 1 => rs.getD k []
theorem tvA_eq {a b : List Int} (h : ∀ i < 4, atL a i = atL b i) : tvA a = tvA b := by
  unfold tvA
  rw [h 0 (by decide), h 1 (by decide), h 2 (by decide), h 3 (by decide)]
theorem ne_run (a b : List Int) (w : World) : (binOp .neq 126 (.agg (tvA a)) (.agg (tvA b))).run Try.prog w = .ok (.bool (!(atL a 0 == atL b 0 && (atL a 1 == atL b 1 && (atL a 2 == atL b 2 && (atL a 3 == atL b 3)))))) w := by
  obtain ⟨i, hi⟩ : ∃ i, Try.prog.info? 3 = some i := by
    have := Try.info3
    cases h : Try.prog.info? 3 with
    | none => rw [h] at this; cases this
    | some i => exact ⟨i, rfl⟩
  have hc : Try.prog.cellsOf 3 = 1 := by kernel_rfl
  rw [run_neq_struct, run_equalIn_array w 9999 _ _ Try.underlying126 hi, hc]
  by_cases h0 : atL a 0 = atL b 0 <;> by_cases h1 : atL a 1 = atL b 1 <;> by_cases h2 : atL a 2 = atL b 2 <;> by_cases h3 : atL a 3 = atL b 3 <;> simp [go_sem, tvA, Op.eqItems, List.range_succ, h0, h1, h2, h3]
theorem truth_len {x : Edg} {t : List Int} (h : t ∈ truthsF x) : t.length = x.n := (mem_truthsF.1 h).len
theorem flat_len_le {α β : Type} {f : α → List β} {m : Nat} : ∀ l : List α, (∀ a ∈ l, (f a).length ≤ m) → (l.flatMap f).length ≤ l.length * m
  | [], _ => by simp
  | a :: l, h => by
    have h1 := h a (List.mem_cons_self ..)
    have h2 := flat_len_le l fun b hb => h b (List.mem_cons_of_mem _ hb)
    rw [List.flatMap_cons, List.length_append, List.length_cons, Nat.succ_mul]
    omega
theorem gen_len {cand : List Int → List Int} {keep : List Int → Bool} (hc : ∀ t, (cand t).length ≤ 10) : ∀ {k : Nat} {t : List Int}, (gen cand keep k t).length ≤ 10 ^ k
  | 0, t => by unfold gen; split <;> simp
  | k + 1, t => by
    unfold gen
    refine Nat.le_trans (flat_len_le (m := 10 ^ k) _ fun a _ => gen_len hc) ?_
    rw [Nat.pow_succ, Nat.mul_comm]
    exact Nat.mul_le_mul_left _ (hc t)
theorem truths_len {x : Edg} (hx : x.Ok) : (truthsF x).length ≤ 10000 := by
  have hn : x.n ≤ 4 := by have := hx.p; unfold Edg.n; omega
  refine Nat.le_trans (gen_len fun _ => by simp [rng]) ?_
  exact Nat.pow_le_pow_right (by decide) hn (n := 10)
theorem last_ne {x : Edg} (hx : x.Ok) {k : Nat} (hk : k < (truthsF x).length) : (atL (truthsF x)[k] 0 == atL (lastT (truthsF x) k) 0 && (atL (truthsF x)[k] 1 == atL (lastT (truthsF x) k) 1 && (atL (truthsF x)[k] 2 == atL (lastT (truthsF x) k) 2 && (atL (truthsF x)[k] 3 == atL (lastT (truthsF x) k) 3)))) = false := by
  rw [Bool.eq_false_iff]
  intro h
  simp only [Bool.and_eq_true, beq_iff_eq] at h
  obtain ⟨h0, h1, h2, h3⟩ := h
  have ht := mem_truthsF.1 (List.getElem_mem hk)
  have hn : 1 ≤ x.n ∧ x.n ≤ 4 := by have := hx.p; unfold Edg.n; omega
  cases k with
  | zero =>
    have := ht.reach 0 (by omega)
    rw [h0] at this
    exact absurd this.1 (by show ¬ (0 : Int) ≤ -1; omega)
  | succ k =>
    have hk1 : k < (truthsF x).length := by omega
    have hu := mem_truthsF.1 (List.getElem_mem hk1)
    have e : lastT (truthsF x) (k + 1) = (truthsF x)[k] := by
      show (truthsF x).getD k [] = _
      rw [List.getD_eq_getElem?_getD, List.getElem?_eq_getElem hk1]; rfl
    rw [e] at h0 h1 h2 h3
    have hl := ht.len
    have heq := atL_ext (ht.len.trans hu.len.symm) fun p hp => by
      have hp4 : p = 0 ∨ p = 1 ∨ p = 2 ∨ p = 3 := by omega
      rcases hp4 with rfl | rfl | rfl | rfl <;> assumption
    have := (List.getElem_inj (truthsF_nodup x)).1 heq
    omega

/-- What the count has come to. -/
def CG (x : Edg) (bn bl : Nat) (k : Nat) (W : World) : Prop := Blk bn #[.int .i64 (k : Int)] 3 W ∧ Blk bl (tvA (lastT (truthsF x) k)) 126 W

set_option maxRecDepth 100000 in
set_option maxHeartbeats 2000000 in
theorem count_c {A : Nat → Prop} {w : World} {x : Edg} {v : Value} (h : ClsM A w v x.claims) (hx : x.Ok) :
    Calls Try.prog 76 #[.agg #[.int .i64 x.points, .int .i64 x.bend, v]] w fun e w' => e = .returned (.int .i64 ((truthsF x).length : Int)) ∧ Below w.heap.size w w' := by
  obtain ⟨a1, c1, rfl, _, _⟩ := h.shape
  obtain ⟨w3, hw3⟩ : ∃ w3, w3 = ((w.alloc (.cells #[.int .i64 x.points, .int .i64 x.bend, .slice a1 x.claims.length c1] 24)).alloc (.cells #[.int .i64 0] 3)).alloc (.cells #[.int .i64 (-1), .int .i64 0, .int .i64 0, .int .i64 0] 126) := ⟨_, rfl⟩
  obtain ⟨b1, hb1⟩ : ∃ b, b = w.heap.size := ⟨_, rfl⟩
  have hX3 : Blk b1 #[.int .i64 x.points, .int .i64 x.bend, .slice a1 x.claims.length c1] 24 w3 := by rw [hw3, hb1]; exact ((Blk.new w _ _).alloc _).alloc _
  have hN3 : Blk (b1 + 1) #[.int .i64 0] 3 w3 := by rw [hw3, hb1]; exact (blk_at (by simp) _ _).alloc _
  have hL3 : Blk (b1 + 2) #[.int .i64 (-1), .int .i64 0, .int .i64 0, .int .i64 0] 126 w3 := by rw [hw3, hb1]; exact blk_at (by simp) _ _
  have hz3 : b1 + 3 ≤ w3.heap.size := by rw [hw3, hb1]; simp
  have hz3' : w3.heap.size ≤ b1 + 3 := by rw [hw3, hb1]; simp
  have hB3 : Below w.heap.size w w3 := by rw [hw3]; exact bal2 (bal2 ((Below.refl _ w).alloc (Nat.le_refl _) _))
  have h3 := h.call hB3
  refine (callsIn_wide (n := 9)).1 (callsIn_of_wp_marks Try.func76 rfl trivial (wpIn_wide.2 ?_))
  simp only [Try.ntmps76, List.size_toArray, List.length_cons, List.length_nil, Nat.reduceAdd, Nat.reduceSub, Array.replicate_succ, Array.replicate_zero, List.push_toArray, List.append_toArray, List.nil_append, List.cons_append]
  go_upto_region 3 with fail
  rw [← hw3, ← hb1]
  have hbw : w.heap.size ≤ b1 := Nat.le_of_eq hb1.symm
  clear hw3 hb1
  have c0 := hX3.cell 0
  have c1' := hX3.cell 1
  have c2 := hX3.cell 2
  go_wp2_with (go_at_call 100; refine truths_c.mono ?_; rintro e wz ⟨rfl, rfl⟩)
  clear c0 c1' c2
  obtain ⟨W0, hW0⟩ : ∃ W0, W0 = w3.alloc (.cells #[.int .i64 x.points, .int .i64 x.bend, .slice a1 x.claims.length c1] 24) := ⟨_, rfl⟩
  obtain ⟨nb, hnb⟩ : ∃ nb, nb = w3.heap.size := ⟨_, rfl⟩
  have hNb : Blk nb #[.int .i64 x.points, .int .i64 x.bend, .slice a1 x.claims.length c1] 24 W0 := by rw [hW0, hnb]; exact Blk.new _ _ _
  have hzn : b1 + 3 ≤ nb := by omega
  have hB0 : Below w3.heap.size w3 W0 := by rw [hW0]; exact (Below.refl _ w3).alloc (Nat.le_refl _) _
  rw [← hW0, ← hnb]
  have hN0 := hN3.call hB0
  have hL0 := hL3.call hB0
  have h0 := h3.call hB0
  have hBw := bnx hB3 hB0
  have hnl := hNb.lt
  clear hW0 hnb
  have hF : ∀ q, (q = b1 + 1 ∨ q = b1 + 2) → q < W0.heap.size ∧ q ≠ nb := fun q h => by omega
  have hG : ∀ pre (W W' : World), CG x (b1 + 1) (b1 + 2) pre W → W.heap.size ≤ W'.heap.size → (∀ q, (q = b1 + 1 ∨ q = b1 + 2) → W'.heap[q]? = W.heap[q]?) → CG x (b1 + 1) (b1 + 2) pre W' :=
    fun pre W W' h _ hk => ⟨h.1.keep (hk _ (.inl rfl)), h.2.keep (hk _ (.inr rfl))⟩
  have hI0 : RI W0 nb (fun q => q = b1 + 1 ∨ q = b1 + 2) (CG x (b1 + 1) (b1 + 2)) (fun q => q < W0.heap.size ∧ q ≠ nb) 0 W0 :=
    ⟨Keep.refl _ _, fun q h1 h2 => ⟨h1, h2⟩, fun q h => h.1, hN0, hL0⟩
  have hfn : ∀ args w, (callFunc 119 args).run Try.prog w = .ok (.enter 119 args) w := fun args w => by go_simp
  refine wp_rangeA (f := 119) (nb := nb) (f₀ := tv) (L := truthsF x) (a₁ := ?a1) (o₁ := fun r => .cells (tvA r) 126) rfl rfl hfn hNb.lt (truths_it hx h0 hNb) (RI W0 nb (fun q => q = b1 + 1 ∨ q = b1 + 2) (CG x (b1 + 1) (b1 + 2))) (RI.side hF hG) (fun h => h.2 rfl) hI0 ?assign ?body ?done
  case assign =>
    intro l r W b K hb hK
    unfold tvA at hK
    unfold tv
    gi_wp2
    rw [← hb]
    exact hK
  case body =>
    intro l own k hk W h b hI hoh hh hob hbk
    refine wpIn_block ?_
    have hne := last_ne hx hk
    have hT : Blk b (tvA (truthsF x)[k]) 126 W := hbk
    have hCn := hI.g.1
    have hCl := hI.g.2
    have hnr := fun w => ne_run (truthsF x)[k] (lastT (truthsF x) k) w
    have hb1 : b ≠ b1 + 1 := fun e => hob (hI.low _ (by omega) (by omega))
    have hb2 : b ≠ b1 + 2 := fun e => hob (hI.low _ (by omega) (by omega))
    rw [hne] at hnr
    obtain ⟨r, hr⟩ : ∃ r, r = (truthsF x)[k] := ⟨_, rfl⟩
    obtain ⟨u, hu⟩ : ∃ u, u = lastT (truthsF x) k := ⟨_, rfl⟩
    rw [← hr] at hT hnr ⊢
    rw [← hu] at hCl hnr
    have HR := Lib.hid hr
    have bk : IntKind.i64.wrap ((k : Int) + 1) = (k : Int) + 1 := IntWalk.i64_in _ (by have := truths_len hx; omega)
    clear hr hu hne
    unfold tvA at hnr
    have n0 := hCn.cell 0
    have fn0 := hCn.free 0
    have t0 : W.cell? ⟨b, 0, none⟩ = some (.int .i64 (atL r 0)) := hT.cell 0
    have t1 : W.cell? ⟨b, 1, none⟩ = some (.int .i64 (atL r 1)) := hT.cell 1
    have t2 : W.cell? ⟨b, 2, none⟩ = some (.int .i64 (atL r 2)) := hT.cell 2
    have t3 : W.cell? ⟨b, 3, none⟩ = some (.int .i64 (atL r 3)) := hT.cell 3
    have l0 : W.cell? ⟨b1 + 2, 0, none⟩ = some (.int .i64 (atL u 0)) := hCl.cell 0
    have l1 : W.cell? ⟨b1 + 2, 1, none⟩ = some (.int .i64 (atL u 1)) := hCl.cell 1
    have l2 : W.cell? ⟨b1 + 2, 2, none⟩ = some (.int .i64 (atL u 2)) := hCl.cell 2
    have l3 : W.cell? ⟨b1 + 2, 3, none⟩ = some (.int .i64 (atL u 3)) := hCl.cell 3
    have g0 := hCl.free 0
    have g1 := hCl.free 1
    have g2 := hCl.free 2
    have g3 := hCl.free 3
    gi_wp2_with fail
    have h12 : b1 + 1 ≠ b1 + 2 := by omega
    have h21 : b1 + 2 ≠ b1 + 1 := by omega
    have hA := ((((hCn.set 0 (.int .i64 ((k : Int) + 1))).other (a := ⟨b1 + 2, 0, none⟩) h12 (.int .i64 (atL r 0))).other (a := ⟨b1 + 2, 1, none⟩) h12 (.int .i64 (atL r 1))).other (a := ⟨b1 + 2, 2, none⟩) h12 (.int .i64 (atL r 2))).other (a := ⟨b1 + 2, 3, none⟩) h12 (.int .i64 (atL r 3))
    have hBB := ((((hCl.other (a := ⟨b1 + 1, 0, none⟩) h21 (.int .i64 ((k : Int) + 1))).set 0 (.int .i64 (atL r 0))).set 1 (.int .i64 (atL r 1))).set 2 (.int .i64 (atL r 2))).set 3 (.int .i64 (atL r 3))
    have hKp := ((((Keep.setCell (own := fun q => q = b1 + 1 ∨ q = b1 + 2) W ⟨b1 + 1, 0, none⟩ (.int .i64 ((k : Int) + 1)) (.inl rfl)).trans (Keep.setCell _ ⟨b1 + 2, 0, none⟩ (.int .i64 (atL r 0)) (.inr rfl))).trans (Keep.setCell _ ⟨b1 + 2, 1, none⟩ (.int .i64 (atL r 1)) (.inr rfl))).trans (Keep.setCell _ ⟨b1 + 2, 2, none⟩ (.int .i64 (atL r 2)) (.inr rfl))).trans (Keep.setCell _ ⟨b1 + 2, 3, none⟩ (.int .i64 (atL r 3)) (.inr rfl))
    have hla : lastT (truthsF x) (k + 1) = r := by
      show (truthsF x).getD k [] = r
      rw [List.getD_eq_getElem?_getD, List.getElem?_eq_getElem hk, HR.out]; rfl
    obtain ⟨k1, k2⟩ := RI.next (G' := CG x (b1 + 1) (b1 + 2)) hF hI (pre' := k + 1) hKp ⟨by simpa using hA, by rw [hla]; simpa [tvA] using hBB⟩
    exact ⟨own, fun q _ h => h, k1, rfl, k2⟩
  case done =>
    intro D own W hI hD hDl hDo
    obtain ⟨h1, h2⟩ := hI.g
    have hBW : Below w.heap.size w W := hBw.trans ⟨hI.keep.os, hI.keep.tape, hI.keep.output, hI.keep.size, fun q hq => hI.keep.block q (by omega) (by omega)⟩
    have hBE : Below w.heap.size w (W.putObj D (.deferred none)) := hBW.trans ⟨rfl, rfl, rfl, by simp, fun q hq => World.putObj_heap_other (by omega)⟩
    have y0 := h1.cell 0
    go_wp2_with fail
    refine ⟨by simp, .inl ⟨_, _, rfl, run_takeDeferred hD, ?_⟩⟩
    exact ⟨_, results_tmp rfl _ _ _, rfl, hBE⟩

set_option maxHeartbeats 1000000 in
theorem count25_c {A : Nat → Prop} {w : World} {x : Edg} {v : Value} (h : ClsM A w v x.claims) :
    Calls Try.prog 25 #[.agg #[.int .i64 x.points, .int .i64 x.bend, v]] w fun e w' => e = .returned (.tuple #[.int .i64 (countX x).1, .int .i64 (countX x).2]) ∧ Below w.heap.size w w' := by
  obtain ⟨a1, c1, rfl, hc1, hm1⟩ := h.shape
  obtain ⟨w1, hw1⟩ : ∃ w1, w1 = w.alloc (.cells #[.int .i64 x.points, .int .i64 x.bend, .slice a1 x.claims.length c1] 24) := ⟨_, rfl⟩
  obtain ⟨b1, hb1⟩ : ∃ b, b = w.heap.size := ⟨_, rfl⟩
  have hX : Blk b1 #[.int .i64 x.points, .int .i64 x.bend, .slice a1 x.claims.length c1] 24 w1 := by rw [hw1, hb1]; exact blk_at rfl _ _
  have hB : Below w.heap.size w w1 := by rw [hw1]; exact (Below.refl _ w).alloc (Nat.le_refl _) _
  have h1 := h.call (hB)
  go_enter Try.func25, Try.ntmps25
  go_upto_region 1 with fail
  rw [← hw1, ← hb1]
  clear hw1 hb1
  have c0 := hX.cell 0
  have c1' := hX.cell 1
  have c2 := hX.cell 2
  go_wp2_with fail
  refine (check_c h1).mono ?_
  rintro e w2 ⟨rfl, hB2⟩
  have hX2 := hX.call hB2
  have h2 := h1.call hB2
  clear c0 c1' c2
  have c0 := hX2.cell 0
  have c1' := hX2.cell 1
  have c2 := hX2.cell 2
  by_cases hck : checkX x = 0
  · have hx := checkX_zero.1 hck
    have hb : (checkX x != 0) = false := by rw [hck]; rfl
    have he : countX x = (((truthsF x).length : Int), 0) := by unfold countX; rw [if_neg (not_not_intro hck)]
    have HE := Lib.hid he
    clear he hck
    go_wp2_with fail
    refine (count_c h2 hx).mono ?_
    rintro e w3 ⟨rfl, hB3⟩
    go_wp2_with fail
    go_ret2
    rw [HE.out]
    exact ⟨rfl, bnx (bnx hB hB2) hB3⟩
  · have hb : (checkX x != 0) = true := by simpa using hck
    have he : countX x = (0, checkX x) := by unfold countX; rw [if_pos hck]
    have HE := Lib.hid he
    clear he hck
    go_wp2_with fail
    go_ret2
    rw [HE.out]
    exact ⟨rfl, bnx hB hB2⟩

set_option maxRecDepth 100000 in
set_option maxHeartbeats 1000000 in
theorem bounds27_c {A : Nat → Prop} {w : World} {x : Edg} {v : Value} (h : ClsM A w v x.claims) :
    Calls Try.prog 27 #[.agg #[.int .i64 x.points, .int .i64 x.bend, v]] w fun e w' => ∃ v', e = .returned (.tuple #[v', .int .i64 (boundsX x).2]) ∧ RgsM (fun q => w.heap.size ≤ q) w' v' (boundsX x).1 ∧ Below w.heap.size w w' := by
  obtain ⟨a1, c1, rfl, hc1, hm1⟩ := h.shape
  obtain ⟨w1, hw1⟩ : ∃ w1, w1 = w.alloc (.cells #[.int .i64 x.points, .int .i64 x.bend, .slice a1 x.claims.length c1] 24) := ⟨_, rfl⟩
  obtain ⟨b1, hb1⟩ : ∃ b, b = w.heap.size := ⟨_, rfl⟩
  have hX : Blk b1 #[.int .i64 x.points, .int .i64 x.bend, .slice a1 x.claims.length c1] 24 w1 := by rw [hw1, hb1]; exact blk_at rfl _ _
  have hB : Below w.heap.size w w1 := by rw [hw1]; exact (Below.refl _ w).alloc (Nat.le_refl _) _
  have h1 := h.call (hB)
  go_enter Try.func27, Try.ntmps27
  go_upto_region 1 with fail
  rw [← hw1, ← hb1]
  clear hw1 hb1
  have c0 := hX.cell 0
  have c1' := hX.cell 1
  have c2 := hX.cell 2
  go_wp2_with fail
  refine (check_c h1).mono ?_
  rintro e w2 ⟨rfl, hB2⟩
  have hX2 := hX.call hB2
  have h2 := h1.call hB2
  clear c0 c1' c2
  have c0 := hX2.cell 0
  have c1' := hX2.cell 1
  have c2 := hX2.cell 2
  by_cases hck : checkX x = 0
  · have hx := checkX_zero.1 hck
    have hb : (checkX x != 0) = false := by rw [hck]; rfl
    have HCK := Lib.hid hck
    clear hck
    go_wp2_with fail
    refine (bounds_z h2 hx).mono ?_
    rintro e w3 ⟨v', b, rfl, hB3, (⟨rfl, rfl, hno⟩ | ⟨rfl, s, g, hs, rfl, hgs, hE⟩)⟩
    · have he : boundsX x = ([], 12) := by unfold boundsX; rw [if_neg (not_not_intro HCK.out), hno]
      have HE := Lib.hid he
      clear he hno
      go_wp2_with fail
      go_ret2
      rw [HE.out]
      exact ⟨_, rfl, rgs_nil _ _, bnx (bnx hB hB2) hB3⟩
    · have he : boundsX x = (s, 0) := by unfold boundsX; rw [if_neg (not_not_intro HCK.out), hs.eq]
      have HE := Lib.hid he
      have hsl := hs.len
      have hBa := bnx (bnx hB hB2) hB3
      obtain ⟨n, hn⟩ : ∃ n, n = x.n := ⟨_, rfl⟩
      have hn4 : n ≤ 4 := by have := hx.p; rw [hn]; unfold Edg.n; omega
      rw [← hn] at hsl ⊢
      have hsl1 : s.length ≤ n := by omega
      have hsl2 : n ≤ s.length := by omega
      have HSL := Lib.hid hsl
      obtain ⟨N, hN⟩ : ∃ N, N = w3.heap.size := ⟨_, rfl⟩
      have hgN : g < N := by rw [hN]; exact Blk.lt hE
      have hNs : N ≤ w3.heap.size := Nat.le_of_eq hN
      have hNw : w.heap.size ≤ N := by have := hBa.size; omega
      clear he hn hsl hN
      go_wp2_with fail
      go_loopw [7, 24] (fun vo vi wr => ∃ j : Nat, j ≤ n ∧ vi = .int .i64 j ∧ Own N wr 52 2 vo j ((s.take j).flatMap rcells) ∧ Below N w3 wr ∧ N ≤ wr.heap.size) (fun _ vi _ => n - (intOf vi).toNat)
      case atStart => exact ⟨0, Nat.zero_le _, rfl, Own.nil, Below.refl _ _, hNs⟩
      case round =>
        obtain ⟨j, hj, rfl, hO, hBr, hz⟩ := hrel
        by_cases hlt : j < n
        · have hEr : EB g s wr := Blk.below hE hBr hgN
          obtain ⟨d0, d1⟩ := hEr.cells (p := j) (by omega)
          obtain ⟨av, cv, rfl⟩ := own_slice hO
          obtain ⟨w5, hw5⟩ : ∃ w5, w5 = wr.alloc (.cells #[.int .i64 (gl s j), .int .i64 (gh s j)] 99) := ⟨_, rfl⟩
          obtain ⟨b9, hb9⟩ : ∃ b, b = wr.heap.size := ⟨_, rfl⟩
          have hT : Blk b9 #[.int .i64 (gl s j), .int .i64 (gh s j)] 99 w5 := by rw [hw5, hb9]; exact Blk.new _ _ _
          have hO5 : Own N w5 52 2 (.slice av j cv) j ((s.take j).flatMap rcells) := by rw [hw5]; exact hO.alloc _
          have hB5 : Below N w3 w5 := by rw [hw5]; exact hBr.alloc hz _
          have hz5 : N ≤ w5.heap.size := by rw [hw5]; simp; omega
          go_upto_region 11 with fail
          rw [← hw5, ← hb9]
          clear hw5 hb9 d0 d1 hO
          have e0 := hT.cell 0
          have e1 := hT.cell 1
          have ha := Own.arr (own_lit w5 52 2 #[.int .i64 (gl s j), .int .i64 (gh s j)] 1 rfl (by omega))
          go_wp2_with (at_builtin; go_loud (refine wpList_append_arr rfl _ _ 37 rfl 52 _ 2 16 Try.underlying37 Try.info52 rfl (by decide) (by decide) (by simp; omega) (hO5.alloc _) rfl ha rfl rfl (rcells_one (gl s j, gh s j)) (by omega) ?_; intro v' w7 hown hT7))
          have hB7 := hT7.below2 (B' := N) (hO5.alloc _) (hB5.alloc (by omega) _) (by simp; omega) (Nat.le_refl _)
          go_roundw
          case rel =>
            refine ⟨j + 1, by omega, by go_num, ?_, hB7, by have := hT7.size; simp at this; omega⟩
            have hjs : j < s.length := by omega
            have e : (gl s j, gh s j) = s[j] := by
              have e : s.getD j (0, 0) = s[j] := by rw [List.getD_eq_getElem?_getD, List.getElem?_eq_getElem hjs]; rfl
              unfold gl gh
              rw [e]
            rw [List.take_succ_eq_append_getElem hjs, List.flatMap_append, ← e]
            simpa [rcells] using hown
          case measure => simp [intOf]; omega
        · obtain rfl : j = n := by omega
          rw [List.take_of_length_le hsl1] at hO
          go_wp2_with fail
          go_ret2
          rw [HE.out]
          refine ⟨_, rfl, ?_, hBa.trans (hBr.mono hNw)⟩
          exact (Own.rgs hO HSL.out).wide fun q hq _ => Nat.le_trans hNw hq
  · have hb : (checkX x != 0) = true := by simpa using hck
    have he : boundsX x = ([], checkX x) := by unfold boundsX; rw [if_pos hck]
    have HE := Lib.hid he
    clear he hck
    go_wp2_with fail
    go_ret2
    rw [HE.out]
    exact ⟨_, rfl, rgs_nil _ _, bnx hB hB2⟩

end Go.Proofs.Ytgdifckmjdjcpaa
