/- Contract of the reference's Since (edge); conditions: claims and furrows read as lists. -/
import Derived.Test.YtgdifckmjdjcpaaRte
import Derived.Test.YtgdifckmjdjcpaaSin
namespace Go.Proofs.Ytgdifckmjdjcpaa
open Go.RowKit

set_option maxRecDepth 100000 in
set_option maxHeartbeats 2000000 in
theorem rsince_c {A A' : Nat → Prop} {w : World} {x : Edg} {v vl : Value} {l : List Fu} (h : ClsM A w v x.claims) (hl : FusM A' w vl l) (pp : Int) :
    Calls Try.prog 62 #[.agg #[.int .i64 x.points, .int .i64 x.bend, v], vl, .int .i64 pp] w fun e w' => e = .returned (.tuple #[.int .i64 (sinceX x l pp).1.1, .int .i64 (sinceX x l pp).1.2, .int .i64 (sinceX x l pp).2]) ∧ Below w.heap.size w w' := by
  obtain ⟨a1, c1, rfl, hc1, hm1⟩ := h.shape
  obtain ⟨al, cl, rfl, _, _⟩ := hl.shape
  obtain ⟨w1, hw1⟩ : ∃ w1, w1 = w.alloc (.cells #[.int .i64 x.points, .int .i64 x.bend, .slice a1 x.claims.length c1] 24) := ⟨_, rfl⟩
  obtain ⟨b1, hb1⟩ : ∃ b, b = w.heap.size := ⟨_, rfl⟩
  have hX : Blk b1 #[.int .i64 x.points, .int .i64 x.bend, .slice a1 x.claims.length c1] 24 w1 := by rw [hw1, hb1]; exact blk_at rfl _ _
  have hB : Below w.heap.size w w1 := by rw [hw1]; exact (Below.refl _ w).alloc (Nat.le_refl _) _
  have h1 := h.call hB
  have hl1 := hl.call hB
  go_enter Try.func62, Try.ntmps62
  go_upto_region 1 with fail
  rw [← hw1, ← hb1]
  clear hw1 hb1
  have c0 := hX.cell 0
  have c1' := hX.cell 1
  have c2 := hX.cell 2
  go_wp2_with fail
  refine (rready_c h1 hl1).mono ?_
  rintro e w2 ⟨rfl, hB2⟩
  have hX2 := hX.call hB2
  have h2 := h1.call hB2
  have hl2 := hl1.call hB2
  have hBw2 := bnx hB hB2
  clear c0 c1' c2 hX h1 hB hB2 hl1
  have c0 := hX2.cell 0
  have c1' := hX2.cell 1
  have c2 := hX2.cell 2
  by_cases hck : bothX x l = 0
  · obtain ⟨hx, hfx⟩ := both_zero hck
    have hb : (bothX x l != 0) = false := by rw [hck]; rfl
    have hfy := fus_good hfx
    have hpt := hx.p
    have bp : IntKind.i64.wrap (x.points - 1) = x.points - 1 := IntWalk.i64_in _ (by omega)
    have HCK := Lib.hid hck
    have HFY := Lib.hid hfy
    clear hck hfx hfy
    cases hr : btwB pp 0 (x.points - 1) with
    | false =>
      have HE := Lib.hid (show sinceX x l pp = ((0, 0), 3) by unfold sinceX; rw [if_neg (not_not_intro HCK.out), if_pos (by unfold ptB; exact hr)])
      go_wp2_with (go_at_call 82; refine (inside_c _ _ _ _).mono ?_; rintro e w' ⟨rfl, rfl⟩)
      refine ⟨rfl, _, results_tmp3 Try.results62 _ _ _, ?_⟩
      rw [HE.out]
      exact ⟨rfl, hBw2⟩
    | true =>
      have hpp := btwB_iff.1 hr
      obtain ⟨p, rfl⟩ : ∃ p : Nat, pp = (p : Int) := ⟨pp.toNat, by omega⟩
      have HPT := Lib.hid (show ptB x (p : Int) = true from hr)
      go_wp2_with (go_at_call 82; refine (inside_c _ _ _ _).mono ?_; rintro e w' ⟨rfl, rfl⟩)
      refine (rtruths_c h2 hx).mono ?_
      rintro e w3 ⟨v3, rfl, hG3, hB3⟩
      have hl3 := hl2.call hB3
      have hBw3 := bnx hBw2 hB3
      obtain ⟨ag, cg, rfl, _, _⟩ := hG3.shape
      have hTl := truths_len hx
      clear c0 c1' c2 hX2 h2 hBw2 hl2 hr bp
      by_cases ht0 : truthsF x = []
      · have HE := Lib.hid (show sinceX x l (p : Int) = ((0, 0), 12) by unfold sinceX; rw [if_neg (not_not_intro HCK.out), if_neg (by rw [HPT.out]; decide), bndF_none.2 ht0])
        have hl0 : (((truthsF x).length : Int) == 0) = true := by rw [ht0]; rfl
        clear ht0
        go_wp2_with fail
        refine ⟨rfl, _, results_tmp3 Try.results62 _ _ _, ?_⟩
        rw [HE.out]
        exact ⟨rfl, hBw3⟩
      · have hl0 : (((truthsF x).length : Int) == 0) = false := by
          rw [beq_eq_false_iff_ne]
          intro e
          exact ht0 (List.length_eq_zero_iff.1 (by omega))
        obtain ⟨s, hs⟩ := bnd_exists hx ht0
        have HE := Lib.hid (show sinceX x l (p : Int) = ((downY (qM l s p) 31 31, downY (qL l s p) 31 31), 0) by unfold sinceX; rw [if_neg (not_not_intro HCK.out), if_neg (by rw [HPT.out]; decide), hs.eq]; rfl)
        have hpn : p < x.n := by unfold Edg.n; omega
        have HT := Lib.hid (show ∀ t ∈ truthsF x, p < t.length ∧ 0 ≤ atL t p ∧ atL t p ≤ 9 from fun t ht => ⟨by rw [truth_len ht]; exact hpn, (mem_truthsF.1 ht).reach p hpn⟩)
        have HV := Lib.hid (fun y : Int => encr_truths hs l hpn y)
        have HLE := Lib.hid (fun y : Int => tkE_le hs l hpn y)
        clear ht0 hs hpn hpp
        go_wp2_with fail
        go_loopw [11, 12, 13] (fun va vb vy wr => ∃ k : Nat, k ≤ 31 ∧ vy = .int .i64 (30 - (k : Int)) ∧ va = .int .i64 (downY (qM l s p) 31 k) ∧ vb = .int .i64 (downY (qL l s p) 31 k) ∧ Qt w3 wr) (fun _ _ vy _ => (intOf vy + 1).toNat)
        case atStart => exact ⟨0, by omega, rfl, rfl, rfl, Qt.refl _⟩
        case round =>
          obtain ⟨k, hk, rfl, rfl, rfl, hQ⟩ := hrel
          by_cases hlt : k < 31
          · obtain ⟨y, hy⟩ : ∃ y : Nat, y = 31 - 1 - k := ⟨_, rfl⟩
            have hyk : 30 - (k : Int) = (y : Int) := by omega
            have hy30 : y ≤ 30 := by omega
            have HDM := Lib.hid (show downY (qM l s p) 31 (k + 1) = if qM l s p y = true then (y : Int) else downY (qM l s p) 31 k by rw [hy]; rfl)
            have HDL := Lib.hid (show downY (qL l s p) 31 (k + 1) = if qL l s p y = true then (y : Int) else downY (qL l s p) 31 k by rw [hy]; rfl)
            generalize downY (qM l s p) 31 k = dm at HDM ⊢
            generalize downY (qL l s p) 31 k = dl at HDL ⊢
            have HYK := Lib.hid (show (y : Int) - 1 = 30 - ((k + 1 : Nat) : Int) by omega)
            rw [hyk]
            have hyk1 : k + 1 + y ≤ 31 := by omega
            have hyk2 : 31 ≤ k + 1 + y := by omega
            clear hyk hy
            have by1 : IntKind.i64.wrap ((y : Int) - 1) = (y : Int) - 1 := IntWalk.i64_in _ (by omega)
            have hju := rjudged_c (hG3.qt hQ) hTl HT.out (hl3.qt hQ) HFY.out (y : Int)
            rw [HV.out (y : Int)] at hju
            have hnv := verdE_never (HLE.out (y : Int))
            have hal := verdE_always (n := tkE l s p (y : Int))
            have hqm : qM l s p y = decide ((tkE l s p (y : Int)).2 > 0) := rfl
            have hql : qL l s p y = decide ((tkE l s p (y : Int)).1 > 0) := rfl
            rw [hqm] at HDM
            rw [hql] at HDL
            generalize verdE (tkE l s p (y : Int)) = vd at hju hnv hal
            generalize (tkE l s p (y : Int)).1 = u at HDL hal
            generalize (tkE l s p (y : Int)).2 = z at HDM hnv
            have HJU := Lib.hid hju
            have HNV := Lib.hid hnv
            have HAL := Lib.hid hal
            clear hju hqm hql hnv hal
            go_wp2_with fail
            refine HJU.out.mono ?_
            rintro e w5 ⟨rfl, hq5⟩
            by_cases hz : z > 0
            · by_cases hu : u > 0
              · have HM2 := Lib.hid (HDM.out.trans (if_pos (decide_eq_true hz)))
                have HL2 := Lib.hid (HDL.out.trans (if_pos (decide_eq_true hu)))
                have e2 : (vd == 2) = false := by rw [beq_eq_false_iff_ne]; exact HNV.out.2 hz
                have e1 : (vd == 1) = true := by rw [beq_iff_eq]; exact HAL.out.2 hu
                clear hz hu
                go_wp2_with fail
                go_roundw
                case rel => exact ⟨k + 1, by omega, by rw [HYK.out], by rw [HM2.out], by rw [HL2.out], hQ.trans hq5⟩
                case measure => simp [intOf]
              · have HM2 := Lib.hid (HDM.out.trans (if_pos (decide_eq_true hz)))
                have HL2 := Lib.hid (HDL.out.trans (if_neg (by rw [decide_eq_false hu]; decide)))
                have e2 : (vd == 2) = false := by rw [beq_eq_false_iff_ne]; exact HNV.out.2 hz
                have e1 : (vd == 1) = false := by rw [beq_eq_false_iff_ne]; exact fun hh => hu (HAL.out.1 hh)
                clear hz hu
                go_wp2_with fail
                go_roundw
                case rel => exact ⟨k + 1, by omega, by rw [HYK.out], by rw [HM2.out], by rw [HL2.out], hQ.trans hq5⟩
                case measure => simp [intOf]
            · by_cases hu : u > 0
              · exfalso
                have b1 := HAL.out.2 hu
                have b2 := Decidable.not_not.1 fun hh => hz (HNV.out.1 hh)
                omega
              · have HM2 := Lib.hid (HDM.out.trans (if_neg (by rw [decide_eq_false hz]; decide)))
                have HL2 := Lib.hid (HDL.out.trans (if_neg (by rw [decide_eq_false hu]; decide)))
                have e2 : (vd == 2) = true := by rw [beq_iff_eq]; exact Decidable.not_not.1 fun hh => hz (HNV.out.1 hh)
                have e1 : (vd == 1) = false := by rw [beq_eq_false_iff_ne]; exact fun hh => hu (HAL.out.1 hh)
                clear hz hu
                go_wp2_with fail
                go_roundw
                case rel => exact ⟨k + 1, by omega, by rw [HYK.out], by rw [HM2.out], by rw [HL2.out], hQ.trans hq5⟩
                case measure => simp [intOf]
          · obtain rfl : k = 31 := by omega
            have hneg : (30 - ((31 : Nat) : Int)) = -1 := by omega
            rw [hneg]
            go_wp2_with fail
            refine ⟨rfl, _, results_tmp3 Try.results62 _ _ _, ?_⟩
            rw [HE.out]
            exact ⟨rfl, hBw3.trans (hQ.below _)⟩
  · have hb : (bothX x l != 0) = true := by simpa using hck
    have HE := Lib.hid (show sinceX x l pp = ((0, 0), bothX x l) by unfold sinceX; rw [if_pos hck])
    clear hck
    go_wp2_with fail
    refine ⟨rfl, _, results_tmp3 Try.results62 _ _ _, ?_⟩
    rw [HE.out]
    exact ⟨rfl, hBw2⟩

end Go.Proofs.Ytgdifckmjdjcpaa
