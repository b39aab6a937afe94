/- Contracts of the reference's Follows (edge); conditions: the claims read as a list. -/
import Derived.Test.YtgdifckmjdjcpaaRco
import Derived.Test.YtgdifckmjdjcpaaFol
namespace Go.Proofs.Ytgdifckmjdjcpaa
open Go.RowKit

/-- What a round reads: a claim, a truth's slice. -/
def RfS (bc : Nat) (c : Cl) (gr o : Nat) (v : Value) (w : World) : Prop := Blk bc #[.int .i64 c.kind, .int .i64 c.point, .int .i64 c.other, .int .i64 c.off, .int .i64 c.err] 26 w ∧ w.cell? ⟨gr, o, none⟩ = some v

set_option maxRecDepth 100000 in
set_option maxHeartbeats 2000000 in
theorem rfollows_c {A : Nat → Prop} {w : World} {x : Edg} {v : Value} (h : ClsM A w v x.claims) (c : Cl) :
    Calls Try.prog 72 #[.agg #[.int .i64 x.points, .int .i64 x.bend, v], .agg #[.int .i64 c.kind, .int .i64 c.point, .int .i64 c.other, .int .i64 c.off, .int .i64 c.err]] w fun e w' => e = .returned (.tuple #[.int .i64 (followsX x c).1, .int .i64 (followsX x c).2]) ∧ Below w.heap.size w w' := by
  obtain ⟨a1, c1, rfl, _, _⟩ := h.shape
  obtain ⟨w1, hw1⟩ : ∃ w1, w1 = (w.alloc (.cells #[.int .i64 x.points, .int .i64 x.bend, .slice a1 x.claims.length c1] 24)).alloc (.cells #[.int .i64 c.kind, .int .i64 c.point, .int .i64 c.other, .int .i64 c.off, .int .i64 c.err] 26) := ⟨_, rfl⟩
  obtain ⟨b1, hb1⟩ : ∃ b, b = w.heap.size := ⟨_, rfl⟩
  obtain ⟨bc, hbc⟩ : ∃ b, b = b1 + 1 := ⟨_, rfl⟩
  have hX1 : Blk b1 #[.int .i64 x.points, .int .i64 x.bend, .slice a1 x.claims.length c1] 24 w1 := by rw [hw1, hb1]; exact (Blk.new w _ _).alloc _
  have hC1 : Blk bc #[.int .i64 c.kind, .int .i64 c.point, .int .i64 c.other, .int .i64 c.off, .int .i64 c.err] 26 w1 := by rw [hbc, hw1, hb1]; exact blk_at (by simp) _ _
  have hB1 : Below w.heap.size w w1 := by rw [hw1]; exact bal2 ((Below.refl _ w).alloc (Nat.le_refl _) _)
  have h1 := h.call hB1
  go_enter Try.func72, Try.ntmps72
  go_upto_region 1 with fail
  rw [← hw1, ← hb1, ← hbc]
  clear hw1 hb1 hbc
  have c0 := hX1.cell 0
  have c1' := hX1.cell 1
  have c2 := hX1.cell 2
  have d0 := hC1.cell 0
  have d1 := hC1.cell 1
  have d2 := hC1.cell 2
  have d3 := hC1.cell 3
  have d4 := hC1.cell 4
  go_wp2_with fail
  refine (rasked_c h1 c).mono ?_
  rintro e w2 ⟨rfl, hB2⟩
  have hX2 := hX1.call hB2
  have hC2 := hC1.call hB2
  have h2 := h1.call hB2
  have hBw2 := bnx hB1 hB2
  clear c0 c1' c2 d0 d1 d2 d3 d4 hX1 hC1 h1 hB1 hB2
  by_cases has : askedX x c = 0
  · have hck : checkX x = 0 := by
      by_cases h0 : checkX x = 0
      · exact h0
      · unfold askedX at has; rw [if_pos h0] at has; exact absurd has h0
    have hx := checkX_zero.1 hck
    have hok : c.Ok x.points := by
      unfold askedX at has
      rw [if_neg (not_not_intro hck)] at has
      exact claimE_zero.1 has
    have hb : (askedX x c != 0) = false := by rw [has]; rfl
    have hfo : followsX x c = if hasT x = false then (0, 12) else (verdF ((truthsF x).filter fun t => c.holds (atL t)).length (truthsF x).length, 0) := by
      unfold followsX; rw [if_neg (not_not_intro has)]
    have HFO := Lib.hid hfo
    clear hfo has hck
    have c0 := hX2.cell 0
    have c1' := hX2.cell 1
    have c2 := hX2.cell 2
    go_wp2_with fail
    refine (rtruths_c h2 hx).mono ?_
    rintro e w4 ⟨v4, rfl, hG4, hB4⟩
    have hC4 := hC2.call hB4
    have hBw4 := bnx hBw2 hB4
    obtain ⟨ag, cg, rfl, _, _⟩ := hG4.shape
    have hTl := truths_len hx
    clear c0 c1' c2 hX2 hC2 h2 hBw2 hB4
    by_cases ht0 : truthsF x = []
    · have he : followsX x c = (0, 12) := by rw [HFO.out, if_pos (by unfold hasT; rw [ht0]; rfl)]
      have hl0 : (((truthsF x).length : Int) == 0) = true := by rw [ht0]; rfl
      have HE := Lib.hid he
      clear he ht0
      go_wp2_with fail
      go_ret2
      rw [HE.out]
      exact ⟨rfl, hBw4⟩
    · have hl0 : (((truthsF x).length : Int) == 0) = false := by
        rw [beq_eq_false_iff_ne]
        intro e
        exact ht0 (List.length_eq_zero_iff.1 (by omega))
      have he : followsX x c = (verdF (yesK x c (truthsF x).length) (truthsF x).length, 0) := by
        rw [HFO.out, if_neg (by rw [hasT_iff.2 ht0]; decide)]
        unfold yesK
        rw [List.take_length]
      have HE := Lib.hid he
      have hxp := hx.p
      obtain ⟨n, hn⟩ : ∃ n : Nat, x.points = (n : Int) := ⟨x.points.toNat, by omega⟩
      have hxn : x.n = n := by unfold Edg.n; omega
      have hn4 : 1 ≤ n ∧ n ≤ 4 := by omega
      rw [hn] at hok
      have HT := Lib.hid (show ∀ t ∈ truthsF x, t.length = n ∧ ∀ u ∈ t, 0 ≤ u ∧ u ≤ 9 from fun t ht => ⟨by rw [truth_len ht]; exact hxn, fun u hu => by
        obtain ⟨i, hi, rfl⟩ := List.getElem_of_mem hu
        have h1 := mem_truthsF.1 ht
        have := h1.reach i (by rw [← h1.len]; exact hi)
        rwa [atL_at hi] at this⟩)
      clear he ht0 hn hxn
      go_wp2_with fail
      go_loopw [8, 9] (fun vs vi wr => ∃ i : Nat, i ≤ (truthsF x).length ∧ vi = .int .i64 i ∧ vs = .int .i64 (yesK x c i : Int) ∧ Below w4.heap.size w4 wr) (fun _ vi _ => (truthsF x).length - (intOf vi).toNat)
      case atStart => exact ⟨0, Nat.zero_le _, rfl, rfl, Below.refl _ _⟩
      case round =>
        obtain ⟨i, hi, rfl, rfl, hBr⟩ := hrel
        have hyl := yesK_le x c i
        by_cases hlt : i < (truthsF x).length
        · have hGr := hG4.call hBr
          have hCr := hC4.call hBr
          obtain ⟨gr, orr, rfl, hgrA, hgr⟩ := hGr.addr (by omega)
          obtain ⟨aw, cw, g1, hrow⟩ := hGr.row i hlt
          obtain ⟨hrl, hr9⟩ := HT.out _ (List.getElem_mem hlt)
          have hy := yesK_succ (x := x) (c := c) hlt
          obtain ⟨r, hr⟩ : ∃ r, r = (truthsF x)[i] := ⟨_, rfl⟩
          rw [← hr] at g1 hrow hrl hr9 hy
          have HY := Lib.hid hy
          rw [hrl] at g1 hrow
          obtain ⟨gw, ow, rfl, -, hgw2, -⟩ := hrow.addr (by omega)
          have hS0 : ∀ w', Qt wr w' → (RfS bc c gr (orr + i) (.slice (some ⟨gw, ow, none⟩) n cw)) w' := fun w' q => ⟨hCr.qt q, (cell_same ((q.below wr.heap.size).block gr hgr)).trans g1⟩
          have htr : ∀ w', Below wr.heap.size wr w' → Calls Try.prog 103 #[.agg #[.int .i64 c.kind, .int .i64 c.point, .int .i64 c.other, .int .i64 c.off, .int .i64 c.err], .slice (some ⟨gw, ow, none⟩) n cw] w' fun e w2 => e = .returned (.bool (c.holds (atL r))) ∧ Below w'.heap.size w' w2 := fun w' hb => by
            refine rtrue_c (P := (n : Int)) (hrow.call hb) (by rw [hrl]; exact Int.le_refl _) hok ?_
            exact hr9
          have HTR := Lib.hid htr
          obtain ⟨yn, hyn⟩ : ∃ yn, yn = yesK x c i := ⟨_, rfl⟩
          rw [← hyn] at hyl HY ⊢
          have byn : IntKind.i64.wrap ((yn : Int) + 1) = (yn : Int) + 1 := IntWalk.i64_in _ (by omega)
          clear hr hrl hr9 hy hrow g1 htr hyn
          cases hh : c.holds (atL r) with
          | true =>
            have HH := Lib.hid hh
            clear hh
            go_wp2_with fail
            refine wp_region_mix2 (.one 0 (.pur 1 (.pur 2 (.pur 3 (.one 4 (.act 5 .fin)))))) 5 (RfS bc c gr (orr + i) (.slice (some ⟨gw, ow, none⟩) n cw)) (fun _ => True) (by kernel_rfl) (by kernel_rfl) rfl (by kernel_rfl) (hS0 _ ((Qt.refl _).drewN 1)) (fun wd hqd _ => ?_)
            refine mix_load2 rfl rfl rfl (.agg #[.int .i64 c.kind, .int .i64 c.point, .int .i64 c.other, .int .i64 c.off, .int .i64 c.err]) (fun w' h => by have h : (RfS bc c gr (orr + i) (.slice (some ⟨gw, ow, none⟩) n cw)) w' := h; have e0 := h.1.cell 0; have e1 := h.1.cell 1; have e2 := h.1.cell 2; have e3 := h.1.cell 3; have e4 := h.1.cell 4; go_simp) rfl ?_
            refine mix_pur2 rfl (fun K hK => ?_)
            go_simp
            first | refine ⟨_, fun _ => rfl, hK _ ?_⟩ | refine hK _ ?_
            clear hK K
            refine mix_pur2 rfl (fun K hK => ?_)
            go_simp
            first | refine ⟨_, fun _ => rfl, hK _ ?_⟩ | refine hK _ ?_
            clear hK K
            refine mix_pur2 rfl (fun K hK => ?_)
            go_simp
            first | refine ⟨_, fun _ => rfl, hK _ ?_⟩ | refine hK _ ?_
            clear hK K
            refine mix_load2 rfl rfl rfl (.slice (some ⟨gw, ow, none⟩) n cw) (fun w' h => by have h : (RfS bc c gr (orr + i) (.slice (some ⟨gw, ow, none⟩) n cw)) w' := h; have e0 := h.2; go_simp) rfl ?_
            refine mix_eff2 rfl true rfl (fun K hK => ?_)
            go_simp
            refine (HTR.out wd (hqd.below _)).mono ?_
            rintro e w5 ⟨rfl, hB5⟩
            have hBr5 : Below w4.heap.size w4 w5 := hBr.trans ((bnx (hqd.below _) hB5).mono hBr.size)
            refine hK _ _ trivial ?_
            clear hK K
            refine mix_done2 ?_
            rw [HH.out]
            go_wp2_with fail
            go_roundw
            case rel => exact ⟨i + 1, by omega, by go_num, by rw [HY.out, if_pos HH.out]; go_num, hBr5⟩
            case measure => simp [intOf]; omega
          | false =>
            have HH := Lib.hid hh
            clear hh
            go_wp2_with fail
            refine wp_region_mix2 (.one 0 (.pur 1 (.pur 2 (.pur 3 (.one 4 (.act 5 .fin)))))) 5 (RfS bc c gr (orr + i) (.slice (some ⟨gw, ow, none⟩) n cw)) (fun _ => True) (by kernel_rfl) (by kernel_rfl) rfl (by kernel_rfl) (hS0 _ ((Qt.refl _).drewN 1)) (fun wd hqd _ => ?_)
            refine mix_load2 rfl rfl rfl (.agg #[.int .i64 c.kind, .int .i64 c.point, .int .i64 c.other, .int .i64 c.off, .int .i64 c.err]) (fun w' h => by have h : (RfS bc c gr (orr + i) (.slice (some ⟨gw, ow, none⟩) n cw)) w' := h; have e0 := h.1.cell 0; have e1 := h.1.cell 1; have e2 := h.1.cell 2; have e3 := h.1.cell 3; have e4 := h.1.cell 4; go_simp) rfl ?_
            refine mix_pur2 rfl (fun K hK => ?_)
            go_simp
            first | refine ⟨_, fun _ => rfl, hK _ ?_⟩ | refine hK _ ?_
            clear hK K
            refine mix_pur2 rfl (fun K hK => ?_)
            go_simp
            first | refine ⟨_, fun _ => rfl, hK _ ?_⟩ | refine hK _ ?_
            clear hK K
            refine mix_pur2 rfl (fun K hK => ?_)
            go_simp
            first | refine ⟨_, fun _ => rfl, hK _ ?_⟩ | refine hK _ ?_
            clear hK K
            refine mix_load2 rfl rfl rfl (.slice (some ⟨gw, ow, none⟩) n cw) (fun w' h => by have h : (RfS bc c gr (orr + i) (.slice (some ⟨gw, ow, none⟩) n cw)) w' := h; have e0 := h.2; go_simp) rfl ?_
            refine mix_eff2 rfl true rfl (fun K hK => ?_)
            go_simp
            refine (HTR.out wd (hqd.below _)).mono ?_
            rintro e w5 ⟨rfl, hB5⟩
            have hBr5 : Below w4.heap.size w4 w5 := hBr.trans ((bnx (hqd.below _) hB5).mono hBr.size)
            refine hK _ _ trivial ?_
            clear hK K
            refine mix_done2 ?_
            rw [HH.out]
            go_wp2_with fail
            go_roundw
            case rel => exact ⟨i + 1, by omega, by go_num, by rw [HY.out, HH.out]; simp, hBr5⟩
            case measure => simp [intOf]; omega
        · obtain rfl : i = (truthsF x).length := by omega
          go_wp2_with fail
          refine (rverdict_c _ _ _).mono ?_
          rintro e w6 ⟨rfl, rfl⟩
          go_wp2_with fail
          go_ret2
          rw [HE.out]
          exact ⟨rfl, bnx hBw4 hBr⟩
  · have hb : (askedX x c != 0) = true := by simpa using has
    have he : followsX x c = (0, askedX x c) := by unfold followsX; rw [if_pos has]
    have HE := Lib.hid he
    clear he has
    go_wp2_with fail
    go_ret2
    rw [HE.out]
    exact ⟨rfl, hBw2⟩

end Go.Proofs.Ytgdifckmjdjcpaa
