/- Contract of Follows (edge); conditions: the claims read as a list. -/
import Derived.Test.YtgljiabmfcobiaaDoorIdl
namespace Go.Proofs.YtgljiabmfcobiaaDoor
open Go.RowKit
attribute [local go_sem] Oper.semAt_some

/-- What a claim's value holds: its type, its method. -/
theorem holds_any {c : Cl} {P : Int} (hP : P ≤ 4) (hc : c.Ok P) : ∃ (ty : TypeId) (v : Value) (fn : FuncId), clV c = .iface ty v ∧ (fn = 100 ∨ fn = 101 ∨ fn = 102 ∨ fn = 103 ∨ fn = 104) ∧ (∀ w, (method 262 ty v "mesta/edge.holds").run Tryd.prog w = .ok (fn, v) w) ∧
    ∀ (u : List Int) (w : World), (∀ i < 4, 0 ≤ atL u i ∧ atL u i ≤ 9) → Calls Tryd.prog fn #[v, .agg (tvA u)] w fun e w' => e = .returned (.bool (c.holds (atL u))) ∧ Below w.heap.size w w' := by
  have hk1 := hc.k
  have hp1 := hc.p
  obtain ⟨pt, hpt⟩ : ∃ pt : Nat, c.point = pt := ⟨c.point.toNat, by omega⟩
  have hpto : c.point.toNat = pt := by omega
  have hp4 : pt < 4 := by omega
  have hkk : c.kind = 1 ∨ c.kind = 2 ∨ c.kind = 3 ∨ c.kind = 4 ∨ c.kind = 5 := by omega
  rcases hkk with kk | kk | kk | kk | kk
  · refine ⟨93, .agg #[.int .i64 (pt : Int), .int .i64 c.off], 100, by unfold clV; rw [if_pos kk, hpt], by simp, fun w => mth133 _ w, fun u w _ => ?_⟩
    have hh : c.holds (atL u) = (atL u pt == c.off) := by unfold Cl.holds; rw [if_pos kk, hpto]; rfl
    rw [hh]
    exact stone_c hp4 c.off u w
  · have hco : 0 ≤ c.off ∧ c.off ≤ 9 := by have ha := hc.a; rw [if_neg (by omega)] at ha; exact ha
    have hce : 0 ≤ c.err ∧ c.err ≤ 9 := by have he := hc.e; rw [if_pos kk] at he; exact he
    refine ⟨95, .agg #[.int .i64 (pt : Int), .int .i64 c.off, .int .i64 c.err], 101, by unfold clV; rw [if_neg (by omega), if_pos kk, hpt], by simp, fun w => mth135 _ w, fun u w _ => ?_⟩
    have hh : c.holds (atL u) = btwB (atL u pt) (c.off - c.err) (c.off + c.err) := by unfold Cl.holds; rw [if_neg (by omega), if_pos kk, hpto]
    rw [hh]
    exact measure_c hp4 hco hce u w
  · refine ⟨96, .agg #[.int .i64 (pt : Int), .int .i64 c.off], 102, by unfold clV; rw [if_neg (by omega), if_neg (by omega), if_pos kk, hpt], by simp, fun w => mth136 _ w, fun u w _ => ?_⟩
    have hh : c.holds (atL u) = decide (atL u pt ≤ c.off) := by unfold Cl.holds; rw [if_neg (by omega), if_neg (by omega), if_pos kk, hpto]
    rw [hh]
    exact within_c hp4 c.off u w
  · refine ⟨97, .agg #[.int .i64 (pt : Int), .int .i64 c.off], 103, by unfold clV; rw [if_neg (by omega), if_neg (by omega), if_neg (by omega), if_pos kk, hpt], by simp, fun w => mth137 _ w, fun u w _ => ?_⟩
    have hh : c.holds (atL u) = decide (c.off ≤ atL u pt) := by unfold Cl.holds; rw [if_neg (by omega), if_neg (by omega), if_neg (by omega), if_pos kk, hpto]
    rw [hh]
    exact beyond_c hp4 c.off u w
  · have ho1 := hc.o
    rw [if_pos kk] at ho1
    obtain ⟨qt, hqt⟩ : ∃ qt : Nat, c.other = qt := ⟨c.other.toNat, by omega⟩
    have hqto : c.other.toNat = qt := by omega
    have hq4 : qt < 4 := by omega
    have hco : -9 ≤ c.off ∧ c.off ≤ 9 := by have ha := hc.a; rw [if_pos kk] at ha; exact ha
    refine ⟨99, .agg #[.int .i64 (pt : Int), .int .i64 (qt : Int), .int .i64 c.off], 104, by unfold clV; rw [if_neg (by omega), if_neg (by omega), if_neg (by omega), if_neg (by omega), hpt, hqt], by simp, fun w => mth139 _ w, fun u w hu => ?_⟩
    have hh : c.holds (atL u) = decide (atL u pt ≤ atL u qt + c.off) := by unfold Cl.holds; rw [if_neg (by omega), if_neg (by omega), if_neg (by omega), if_neg (by omega), hpto, hqto]
    rw [hh]
    exact abreast_c hp4 hq4 hco hu w
theorem truth_nine {x : Edg} {t : List Int} (h : t ∈ truthsF x) : ∀ i < 4, 0 ≤ atL t i ∧ atL t i ≤ 9 := by
  intro i _
  have ht := mem_truthsF.1 h
  by_cases hi : i < x.n
  · exact ht.reach i hi
  · have hl := ht.len
    have : atL t i = 0 := by unfold atL; rw [List.getD_eq_getElem?_getD, List.getElem?_eq_none (by omega)]; rfl
    omega
/-- In how many of the first truths a claim is so. -/
def yesK (x : Edg) (c : Cl) (k : Nat) : Nat := (((truthsF x).take k).filter fun t => c.holds (atL t)).length
theorem yesK_succ {x : Edg} {c : Cl} {k : Nat} (hk : k < (truthsF x).length) : yesK x c (k + 1) = yesK x c k + if c.holds (atL (truthsF x)[k]) = true then 1 else 0 := by
  unfold yesK
  rw [List.take_succ_eq_append_getElem hk, List.filter_append, List.length_append]
  congr 1
  by_cases h : c.holds (atL (truthsF x)[k]) = true
  · rw [if_pos h, List.filter_cons_of_pos (p := fun t => c.holds (atL t)) h]; rfl
  · rw [if_neg h, List.filter_cons_of_neg (p := fun t => c.holds (atL t)) h]; rfl
theorem yesK_le (x : Edg) (c : Cl) (k : Nat) : yesK x c k ≤ k := by
  unfold yesK
  have h1 := List.length_filter_le (fun t => c.holds (atL t)) ((truthsF x).take k)
  have h2 := List.length_take_le k (truthsF x)
  omega
/-- What Follows has counted. -/
def FG (x : Edg) (c : Cl) (ba bb : Nat) (k : Nat) (W : World) : Prop := Blk ba #[.int .i64 (k : Int)] 3 W ∧ Blk bb #[.int .i64 (yesK x c k : Int)] 3 W

set_option maxRecDepth 100000 in
set_option maxHeartbeats 2000000 in
theorem follows_c {A : Nat → Prop} {w : World} {x : Edg} {v : Value} (h : ClsM A w v x.claims) (c : Cl) :
    Calls Tryd.prog 10 #[.agg #[.int .i64 x.points, .int .i64 x.bend, v], .agg #[.int .i64 c.kind, .int .i64 c.point, .int .i64 c.other, .int .i64 c.off, .int .i64 c.err]] w fun e w' => e = .returned (.tuple #[.int .i64 (followsX x c).1, .int .i64 (followsX x c).2]) ∧ Below w.heap.size w w' := by
  obtain ⟨a1, c1, rfl, _, _⟩ := h.shape
  obtain ⟨w1, hw1⟩ : ∃ w1, w1 = (w.alloc (.cells #[.int .i64 x.points, .int .i64 x.bend, .slice a1 x.claims.length c1] 24)).alloc (.cells #[.int .i64 c.kind, .int .i64 c.point, .int .i64 c.other, .int .i64 c.off, .int .i64 c.err] 27) := ⟨_, rfl⟩
  obtain ⟨b1, hb1⟩ : ∃ b, b = w.heap.size := ⟨_, rfl⟩
  have hX1 : Blk b1 #[.int .i64 x.points, .int .i64 x.bend, .slice a1 x.claims.length c1] 24 w1 := by rw [hw1, hb1]; exact (Blk.new w _ _).alloc _
  have hC1 : Blk (b1 + 1) #[.int .i64 c.kind, .int .i64 c.point, .int .i64 c.other, .int .i64 c.off, .int .i64 c.err] 27 w1 := by rw [hw1, hb1]; exact blk_at (by simp) _ _
  have hB1 : Below w.heap.size w w1 := by rw [hw1]; exact bal2 ((Below.refl _ w).alloc (Nat.le_refl _) _)
  have h1 := h.call hB1
  refine (callsIn_wide (n := 9)).1 (callsIn_of_wp_marks Tryd.func10 rfl trivial (wpIn_wide.2 ?_))
  simp only [Tryd.ntmps10, List.size_toArray, List.length_cons, List.length_nil, Nat.reduceAdd, Nat.reduceSub, Array.replicate_succ, Array.replicate_zero, List.push_toArray, List.append_toArray, List.nil_append, List.cons_append]
  go_upto_region 1 with fail
  rw [← hw1, ← hb1]
  clear hw1 hb1
  have c0 := hX1.cell 0
  have c1' := hX1.cell 1
  have c2 := hX1.cell 2
  go_wp2_with fail
  refine (check_c h1).mono ?_
  rintro e w2 ⟨rfl, hB2⟩
  have hX2 := hX1.call hB2
  have hC2 := hC1.call hB2
  have h2 := h1.call hB2
  have hBw2 := bnx hB1 hB2
  clear c0 c1' c2 hX1 hC1 h1 hB1 hB2
  by_cases hck : checkX x = 0
  · have hx := checkX_zero.1 hck
    have hb : (checkX x != 0) = false := by rw [hck]; rfl
    have has : askedX x c = claimE x.points c := by unfold askedX; rw [if_neg (not_not_intro hck)]
    have HAS := Lib.hid has
    clear has hck
    have hxp := hx.p
    have c0 := hX2.cell 0
    have c1' := hX2.cell 1
    have c2 := hX2.cell 2
    have d0 := hC2.cell 0
    have d1 := hC2.cell 1
    have d2 := hC2.cell 2
    have d3 := hC2.cell 3
    have d4 := hC2.cell 4
    go_wp2_with fail
    refine (claimErr_c hxp x.bend _ c _).mono ?_
    rintro e w3 ⟨rfl, hB3⟩
    have hX3 := hX2.call hB3
    have hC3 := hC2.call hB3
    have h3 := h2.call hB3
    have hBw3 := bnx hBw2 hB3
    clear c0 c1' c2 d0 d1 d2 d3 d4 hX2 hC2 h2 hBw2 hB3 hb
    by_cases hce : claimE x.points c = 0
    · have hok := claimE_zero.1 hce
      have hb : (claimE x.points c != 0) = false := by rw [hce]; rfl
      have hfo : followsX x c = if hasT x = false then (0, 12) else (verdF ((truthsF x).filter fun t => c.holds (atL t)).length (truthsF x).length, 0) := by
        unfold followsX; rw [if_neg (not_not_intro (by rw [HAS.out]; exact hce))]
      have HFO := Lib.hid hfo
      clear hfo hce
      obtain ⟨ty, vv, fn, hcv, hfn5, hm, hcall⟩ := holds_any (by omega) hok
      have d0 := hC3.cell 0
      have d1 := hC3.cell 1
      have d2 := hC3.cell 2
      have d3 := hC3.cell 3
      have d4 := hC3.cell 4
      obtain ⟨w4, hw4⟩ : ∃ w4, w4 = (w3.alloc (.cells #[.int .i64 0] 3)).alloc (.cells #[.int .i64 0] 3) := ⟨_, rfl⟩
      obtain ⟨ba, hba⟩ : ∃ b, b = w3.heap.size := ⟨_, rfl⟩
      have hA4 : Blk ba #[.int .i64 0] 3 w4 := by rw [hw4, hba]; exact (Blk.new w3 _ _).alloc _
      have hY4 : Blk (ba + 1) #[.int .i64 0] 3 w4 := by rw [hw4, hba]; exact blk_at (by simp) _ _
      have hB4 : Below w3.heap.size w3 w4 := by rw [hw4]; exact bal2 ((Below.refl _ w3).alloc (Nat.le_refl _) _)
      have hz4 : ba + 2 ≤ w4.heap.size := by rw [hw4, hba]; simp
      have hX4 := hX3.call hB4
      have hC4 := hC3.call hB4
      have h4 := h3.call hB4
      have hBw4 := bnx hBw3 hB4
      have hl3 := hBw3.size
      go_upto_region 8 with fail
      rw [← hw4, ← hba]
      have hbaw : w3.heap.size ≤ ba := Nat.le_of_eq hba.symm
      clear hw4 hba d0 d1 d2 d3 d4 hX3 hC3 h3 hBw3 hB4
      have d0 := hC4.cell 0
      have d1 := hC4.cell 1
      have d2 := hC4.cell 2
      have d3 := hC4.cell 3
      have d4 := hC4.cell 4
      have hof : ∀ w, Calls Tryd.prog 28 #[.agg #[.int .i64 c.kind, .int .i64 c.point, .int .i64 c.other, .int .i64 c.off, .int .i64 c.err]] w fun e w' => e = .returned (.iface ty vv) ∧ Below w.heap.size w w' := fun w => by rw [← hcv]; exact ofCl_c c w
      have HOF := Lib.hid hof
      clear hof hcv
      go_wp2_with fail
      refine (HOF.out _).mono ?_
      rintro e w5 ⟨rfl, hB5⟩
      obtain ⟨w6, hw6⟩ : ∃ w6, w6 = w5.alloc (.cells #[.iface ty vv] 68) := ⟨_, rfl⟩
      obtain ⟨bo, hbo⟩ : ∃ b, b = w5.heap.size := ⟨_, rfl⟩
      have hO6 : Blk bo #[.iface ty vv] 68 w6 := by rw [hw6, hbo]; exact Blk.new _ _ _
      have hB6 : Below w4.heap.size w4 w6 := by rw [hw6]; exact bal2 hB5
      have hA6 := hA4.call hB6
      have hY6 := hY4.call hB6
      have hX6 := hX4.call hB6
      have h6 := h4.call hB6
      have hBw6 := bnx hBw4 hB6
      have hz5 := hB5.size
      go_upto_region 9 with fail
      rw [← hw6, ← hbo]
      have hbo5 : w5.heap.size ≤ bo := Nat.le_of_eq hbo.symm
      clear hw6 hbo d0 d1 d2 d3 d4 hA4 hY4 hX4 hC4 h4 hBw4 hB5
      have c0 := hX6.cell 0
      have c1' := hX6.cell 1
      have c2 := hX6.cell 2
      go_wp2_with (go_at_call 27; refine truths_c.mono ?_; rintro e wz ⟨rfl, rfl⟩)
      clear c0 c1' c2
      obtain ⟨W0, hW0⟩ : ∃ W0, W0 = w6.alloc (.cells #[.int .i64 x.points, .int .i64 x.bend, .slice a1 x.claims.length c1] 24) := ⟨_, rfl⟩
      obtain ⟨nb, hnb⟩ : ∃ nb, nb = w6.heap.size := ⟨_, rfl⟩
      have hNb : Blk nb #[.int .i64 x.points, .int .i64 x.bend, .slice a1 x.claims.length c1] 24 W0 := by rw [hW0, hnb]; exact Blk.new _ _ _
      have hol := hO6.lt
      have hzn : bo < nb := by omega
      have hB0 : Below w6.heap.size w6 W0 := by rw [hW0]; exact (Below.refl _ w6).alloc (Nat.le_refl _) _
      rw [← hW0, ← hnb]
      have hA0 := hA6.call hB0
      have hY0 := hY6.call hB0
      have hO0 := hO6.call hB0
      have h0 := h6.call hB0
      have hBw := bnx hBw6 hB0
      have hnl := hNb.lt
      clear hW0 hnb hA6 hY6 hO6 h6 hBw6 hB0 hX6 hB6
      have hF : ∀ q, (q = ba ∨ q = ba + 1) → q < W0.heap.size ∧ q ≠ nb := fun q h => by omega
      have hG : ∀ pre (W W' : World), FG x c ba (ba + 1) pre W → W.heap.size ≤ W'.heap.size → (∀ q, (q = ba ∨ q = ba + 1) → W'.heap[q]? = W.heap[q]?) → FG x c ba (ba + 1) pre W' :=
        fun pre W W' h _ hk => ⟨h.1.keep (hk _ (.inl rfl)), h.2.keep (hk _ (.inr rfl))⟩
      have hI0 : RI W0 nb (fun q => q = ba ∨ q = ba + 1) (FG x c ba (ba + 1)) (fun q => q < W0.heap.size ∧ q ≠ nb) 0 W0 :=
        ⟨Keep.refl _ _, fun q h1 h2 => ⟨h1, h2⟩, fun q h => h.1, hA0, hY0⟩
      have hfn : ∀ args w, (callFunc 41 args).run Tryd.prog w = .ok (.enter 41 args) w := fun args w => by go_simp
      have HCALL := Lib.hid hcall
      clear hcall
      refine wp_rangeA (f := 41) (nb := nb) (f₀ := tv) (L := truthsF x) (a₁ := ?a1) (o₁ := fun r => .cells (tvA r) 66) rfl rfl hfn hNb.lt (truths_it hx h0 hNb) (RI W0 nb (fun q => q = ba ∨ q = ba + 1) (FG x c ba (ba + 1))) (RI.side hF hG) (fun h => h.2 rfl) hI0 ?assign ?body ?done
      case assign =>
        intro l r W b K hb hK
        unfold tvA at hK
        unfold tv
        gi_wp2
        rw [← hb]
        exact hK
      case body =>
        intro l own k hk W h b hI hoh hh hob hbk
        refine wpIn_block ?_
        have hT : Blk b (tvA (truthsF x)[k]) 66 W := hbk
        have hCa := hI.g.1
        have hCb := hI.g.2
        have hOo : Blk bo #[.iface ty vv] 68 W := hO0.keep (hI.keep.block bo (by omega) (by omega))
        have hy := yesK_succ (x := x) (c := c) hk
        have hyl := yesK_le x c k
        have hu9 := truth_nine (List.getElem_mem hk)
        have htl := truths_len hx
        obtain ⟨r, hr⟩ : ∃ r, r = (truthsF x)[k] := ⟨_, rfl⟩
        rw [← hr] at hT hy hu9 ⊢
        obtain ⟨yn, hyn⟩ : ∃ yn, yn = yesK x c k := ⟨_, rfl⟩
        rw [← hyn] at hCb hy hyl
        have HY := Lib.hid hy
        have bk : IntKind.i64.wrap ((k : Int) + 1) = (k : Int) + 1 := IntWalk.i64_in _ (by omega)
        have byn : IntKind.i64.wrap ((yn : Int) + 1) = (yn : Int) + 1 := IntWalk.i64_in _ (by omega)
        clear hr hy hyn
        have hcl := HCALL.out r
        unfold tvA at hcl
        have HCL := Lib.hid hcl
        clear hcl
        have n0 := hCa.cell 0
        have fn0 := hCa.free 0
        have t0 : W.cell? ⟨b, 0, none⟩ = some (.int .i64 (atL r 0)) := hT.cell 0
        have t1 : W.cell? ⟨b, 1, none⟩ = some (.int .i64 (atL r 1)) := hT.cell 1
        have t2 : W.cell? ⟨b, 2, none⟩ = some (.int .i64 (atL r 2)) := hT.cell 2
        have t3 : W.cell? ⟨b, 3, none⟩ = some (.int .i64 (atL r 3)) := hT.cell 3
        have o0 : W.cell? ⟨bo, 0, none⟩ = some (.iface ty vv) := hOo.cell 0
        have hb1 : b ≠ ba := fun e => hob (hI.low _ (by omega) (by omega))
        have hb3 : bo ≠ ba := by omega
        have h12 : ba ≠ ba + 1 := by omega
        have h21 : ba + 1 ≠ ba := by omega
        have hA1 := hCa.set 0 (.int .i64 ((k : Int) + 1))
        have hB1 := hCb.other (a := ⟨ba, 0, none⟩) h21 (.int .i64 ((k : Int) + 1))
        have hT1 := hT.other (a := ⟨ba, 0, none⟩) hb1 (.int .i64 ((k : Int) + 1))
        have hO1 := hOo.other (a := ⟨ba, 0, none⟩) hb3 (.int .i64 ((k : Int) + 1))
        have hK1 : Keep (fun q => q = ba ∨ q = ba + 1) W (W.setCell ⟨ba, 0, none⟩ (.int .i64 ((k : Int) + 1))) := Keep.setCell W ⟨ba, 0, none⟩ (.int .i64 ((k : Int) + 1)) (.inl rfl)
        rcases hfn5 with rfl | rfl | rfl | rfl | rfl
        all_goals
          gi_wp2_with fail
          clear n0 fn0 t0 t1 t2 t3 o0
          generalize W.setCell ⟨ba, 0, none⟩ (.int .i64 ((k : Int) + 1)) = W1 at hA1 hB1 hT1 hO1 hK1 ⊢
          refine ⟨trivial, CallsIn.mono (CallsIn.inRound _ (callsIn_wide.2 (HCL.out _ hu9))) ?_⟩
          rintro e W2 ⟨rfl, hB2⟩
          have hA2 := hA1.call hB2
          have hBB2 := hB1.call hB2
          have hK2 := hK1.trans (Keep.call hB2)
          have m0 := hBB2.cell 0
          have fm0 := hBB2.free 0
          cases hh : c.holds (atL r) with
          | true =>
            gi_wp2_with fail
            have hA3 := hA2.other (a := ⟨ba + 1, 0, none⟩) h12 (.int .i64 ((yn : Int) + 1))
            have hB3 := hBB2.set 0 (.int .i64 ((yn : Int) + 1))
            have hK3 := hK2.trans (Keep.setCell _ ⟨ba + 1, 0, none⟩ (.int .i64 ((yn : Int) + 1)) (.inr rfl))
            obtain ⟨k1, k2⟩ := RI.next (G' := FG x c ba (ba + 1)) hF hI (pre' := k + 1) hK3 ⟨by simpa using hA3, by rw [HY.out, if_pos hh]; simpa using hB3⟩
            exact ⟨own, fun q _ h => h, k1, rfl, k2⟩
          | false =>
            gi_wp2_with fail
            obtain ⟨k1, k2⟩ := RI.next (G' := FG x c ba (ba + 1)) hF hI (pre' := k + 1) hK2 ⟨by simpa using hA2, by rw [HY.out, hh]; simpa using hBB2⟩
            exact ⟨own, fun q _ h => h, k1, rfl, k2⟩
      case done =>
        intro D own W hI hD hDl hDo
        obtain ⟨g1, g2⟩ := hI.g
        have hBW : Below w.heap.size w W := hBw.trans ⟨hI.keep.os, hI.keep.tape, hI.keep.output, hI.keep.size, fun q hq => hI.keep.block q (by omega) (by omega)⟩
        have hBE : Below w.heap.size w (W.putObj D (.deferred none)) := hBW.trans ⟨rfl, rfl, rfl, by simp, fun q hq => World.putObj_heap_other (by omega)⟩
        have y0 := g1.cell 0
        have y1 := g2.cell 0
        have hym : yesK x c (truthsF x).length = ((truthsF x).filter fun t => c.holds (atL t)).length := by unfold yesK; rw [List.take_length]
        have hyl := yesK_le x c (truthsF x).length
        have htl := truths_len hx
        rw [hym] at y1 hyl
        have hht : hasT x = false ↔ (truthsF x).length = 0 := by unfold hasT; cases truthsF x <;> simp
        obtain ⟨al, hal⟩ : ∃ al, al = (truthsF x).length := ⟨_, rfl⟩
        obtain ⟨ye, hye⟩ : ∃ ye, ye = ((truthsF x).filter fun t => c.holds (atL t)).length := ⟨_, rfl⟩
        rw [← hal] at y0 hyl hht htl
        rw [← hye] at y1 hyl
        have HF := HFO.out
        rw [← hal, ← hye] at HF
        have HFF := Lib.hid HF
        have HHT := Lib.hid hht
        clear HF hht hal hye hym
        by_cases hal0 : al = 0
        · have q1 : ((al : Int) == 0) = true := by rw [beq_iff_eq]; omega
          have he : followsX x c = (0, 12) := by rw [HFF.out, if_pos (HHT.out.2 hal0)]
          have HE := Lib.hid he
          clear he hal0
          go_wp2_with fail
          refine ⟨by simp, .inl ⟨_, _, rfl, run_takeDeferred hD, ?_⟩⟩
          rw [HE.out]
          exact ⟨_, results_tmp2 rfl _ _ _, rfl, hBE⟩
        · have q1 : ((al : Int) == 0) = false := by rw [beq_eq_false_iff_ne]; omega
          have he : followsX x c = (verdF ye al, 0) := by rw [HFF.out, if_neg (fun h => hal0 (HHT.out.1 h))]
          by_cases heq : ye = al
          · have q2 : ((ye : Int) == (al : Int)) = true := by rw [beq_iff_eq]; omega
            have he : followsX x c = (1, 0) := by rw [he]; unfold verdF; rw [if_pos heq]
            have HE := Lib.hid he
            clear he heq
            go_wp2_with fail
            refine ⟨by simp, .inl ⟨_, _, rfl, run_takeDeferred hD, ?_⟩⟩
            rw [HE.out]
            exact ⟨_, results_tmp2 rfl _ _ _, rfl, hBE⟩
          · have q2 : ((ye : Int) == (al : Int)) = false := by rw [beq_eq_false_iff_ne]; omega
            by_cases hy0 : ye = 0
            · have q3 : ((ye : Int) == 0) = true := by rw [beq_iff_eq]; omega
              have he : followsX x c = (2, 0) := by rw [he]; unfold verdF; rw [if_neg heq, if_pos hy0]
              have HE := Lib.hid he
              clear he heq hy0
              go_wp2_with fail
              refine ⟨by simp, .inl ⟨_, _, rfl, run_takeDeferred hD, ?_⟩⟩
              rw [HE.out]
              exact ⟨_, results_tmp2 rfl _ _ _, rfl, hBE⟩
            · have q3 : ((ye : Int) == 0) = false := by rw [beq_eq_false_iff_ne]; omega
              have he : followsX x c = (3, 0) := by rw [he]; unfold verdF; rw [if_neg heq, if_neg hy0]
              have HE := Lib.hid he
              clear he heq hy0
              go_wp2_with fail
              refine ⟨by simp, .inl ⟨_, _, rfl, run_takeDeferred hD, ?_⟩⟩
              rw [HE.out]
              exact ⟨_, results_tmp2 rfl _ _ _, rfl, hBE⟩
    · have hb : (claimE x.points c != 0) = true := by simpa using hce
      have he : followsX x c = (0, claimE x.points c) := by unfold followsX; rw [HAS.out, if_pos hce]
      have HE := Lib.hid he
      clear he hce
      go_wp2_with fail
      rw [HE.out]
      exact ⟨_, results_tmp2 rfl _ _ _, rfl, hBw3⟩
  · have hb : (checkX x != 0) = true := by simpa using hck
    have he : followsX x c = (0, checkX x) := by unfold followsX askedX; rw [if_pos hck, if_pos hck]
    have HE := Lib.hid he
    clear he hck
    go_wp2_with fail
    rw [HE.out]
    exact ⟨_, results_tmp2 rfl _ _ _, rfl, hBw2⟩

end Go.Proofs.YtgljiabmfcobiaaDoor
