/- Contract of the reference's Apart (edge); conditions: the claims read as a list. -/
import Derived.Test.YtgdifckmjdjcpaaRco
import Derived.Test.YtgdifckmjdjcpaaApa
namespace Go.Proofs.Ytgdifckmjdjcpaa
open Go.RowKit

theorem spK_wid {x : Edg} {a b i : Nat} (hi : i < (truthsF x).length) : widF (spK x a b i) (atL (truthsF x)[i] a - atL (truthsF x)[i] b) (decide (i = 0)) = spK x a b (i + 1) := by
  by_cases h0 : i = 0
  · subst h0
    rw [spK_one hi]
    rfl
  · rw [spK_succ hi (by omega)]
    unfold widF
    rw [if_neg (by simp [h0])]
/-- What a round of Apart reads. -/
def RaS (bt : Nat) (s : Int × Int) (gr o : Nat) (v : Value) (gw ou oz : Nat) (r : List Int) (p q : Nat) (w : World) : Prop := Blk bt #[.int .i64 s.1, .int .i64 s.2] 52 w ∧ w.cell? ⟨gr, o, none⟩ = some v ∧ w.cell? ⟨gw, ou, none⟩ = some (.int .i64 (atL r p)) ∧ w.cell? ⟨gw, oz, none⟩ = some (.int .i64 (atL r q))

set_option maxRecDepth 100000 in
set_option maxHeartbeats 2000000 in
theorem rapart_c {A : Nat → Prop} {w : World} {x : Edg} {v : Value} (h : ClsM A w v x.claims) (pa pb : Int) :
    Calls Try.prog 71 #[.agg #[.int .i64 x.points, .int .i64 x.bend, v], .int .i64 pa, .int .i64 pb] w fun e w' => e = .returned (.tuple #[.agg #[.int .i64 (apartX x pa pb).1.1, .int .i64 (apartX x pa pb).1.2], .int .i64 (apartX x pa pb).2]) ∧ Below w.heap.size w w' := by
  obtain ⟨a1, c1, rfl, _, _⟩ := h.shape
  obtain ⟨w1, hw1⟩ : ∃ w1, w1 = (w.alloc (.cells #[.int .i64 x.points, .int .i64 x.bend, .slice a1 x.claims.length c1] 24)).alloc (.cells #[.int .i64 0, .int .i64 0] 52) := ⟨_, rfl⟩
  obtain ⟨b1, hb1⟩ : ∃ b, b = w.heap.size := ⟨_, rfl⟩
  have hX1 : Blk b1 #[.int .i64 x.points, .int .i64 x.bend, .slice a1 x.claims.length c1] 24 w1 := by rw [hw1, hb1]; exact (Blk.new w _ _).alloc _
  have hR1 : Blk (b1 + 1) #[.int .i64 0, .int .i64 0] 52 w1 := by rw [hw1, hb1]; exact blk_at (by simp) _ _
  have hB1 : Below w.heap.size w w1 := by rw [hw1]; exact bal2 ((Below.refl _ w).alloc (Nat.le_refl _) _)
  have h1 := h.call hB1
  go_enter Try.func71, Try.ntmps71
  go_upto_region 1 with fail
  rw [← hw1, ← hb1]
  have hbw : w.heap.size ≤ b1 := Nat.le_of_eq hb1.symm
  clear hw1 hb1
  have c0 := hX1.cell 0
  have c1' := hX1.cell 1
  have c2 := hX1.cell 2
  go_wp2_with fail
  refine (rcheck_c h1).mono ?_
  rintro e w2 ⟨rfl, hB2⟩
  have hX2 := hX1.call hB2
  have hR2 := hR1.call hB2
  have h2 := h1.call hB2
  have hBw2 := bnx hB1 hB2
  clear c0 c1' c2 hX1 hR1 h1 hB1 hB2
  have r0 := hR2.cell 0
  have r1 := hR2.cell 1
  have fr0 := hR2.free 0
  have fr1 := hR2.free 1
  have hR9 := (hR2.set 0 (.int .i64 0)).set 1 (.int .i64 0)
  have hB9 := (hBw2.setCell (p := ⟨b1 + 1, 0, none⟩) (by show w.heap.size ≤ b1 + 1; omega) (.int .i64 0)).setCell (p := ⟨b1 + 1, 1, none⟩) (by show w.heap.size ≤ b1 + 1; omega) (.int .i64 0)
  by_cases hck : checkX x = 0
  · have hx := checkX_zero.1 hck
    have hb : (checkX x != 0) = false := by rw [hck]; rfl
    have hxp := hx.p
    have bp : IntKind.i64.wrap (x.points - 1) = x.points - 1 := IntWalk.i64_in _ (by omega)
    have c0 := hX2.cell 0
    have HCK := Lib.hid hck
    clear hck
    cases hra : btwB pa 0 (x.points - 1) with
    | false =>
      have he : apartX x pa pb = ((0, 0), 3) := by unfold apartX; rw [if_neg (not_not_intro HCK.out), if_pos (by unfold ptB; rw [hra]; simp)]
      have HE := Lib.hid he
      clear he
      go_wp2_with (go_at_call 82; refine (inside_c _ _ _ _).mono ?_; rintro e w' ⟨rfl, rfl⟩)
      generalize (w2.setCell ⟨b1 + 1, 0, none⟩ (.int .i64 0)).setCell ⟨b1 + 1, 1, none⟩ (.int .i64 0) = w9 at hR9 hB9 ⊢
      have y0 := hR9.cell 0
      have y1 := hR9.cell 1
      rw [HE.out]
      exact bodyPost_ret (v := .tuple #[.agg #[.int .i64 0, .int .i64 0], .int .i64 3]) (by simp [results, Try.results71, go_sem, y0, y1]) rfl ⟨rfl, hB9⟩
    | true =>
      cases hrb : btwB pb 0 (x.points - 1) with
      | false =>
        have he : apartX x pa pb = ((0, 0), 3) := by unfold apartX; rw [if_neg (not_not_intro HCK.out), if_pos (by unfold ptB; rw [hrb]; simp)]
        have HE := Lib.hid he
        clear he
        go_wp2_with (go_at_call 82; refine (inside_c _ _ _ _).mono ?_; rintro e w' ⟨rfl, rfl⟩)
        generalize (w2.setCell ⟨b1 + 1, 0, none⟩ (.int .i64 0)).setCell ⟨b1 + 1, 1, none⟩ (.int .i64 0) = w9 at hR9 hB9 ⊢
        have y0 := hR9.cell 0
        have y1 := hR9.cell 1
        rw [HE.out]
        exact bodyPost_ret (v := .tuple #[.agg #[.int .i64 0, .int .i64 0], .int .i64 3]) (by simp [results, Try.results71, go_sem, y0, y1]) rfl ⟨rfl, hB9⟩
      | true =>
        have hfo : apartX x pa pb = if hasT x = false then ((0, 0), 12) else (spanF ((truthsF x).map fun t => atL t pa.toNat - atL t pb.toNat), 0) := by
          unfold apartX; rw [if_neg (not_not_intro HCK.out), if_neg (by unfold ptB; rw [hra, hrb]; simp)]
        have HFO := Lib.hid hfo
        have ha4 := btwB_iff.1 hra
        have hb4 := btwB_iff.1 hrb
        have c1' := hX2.cell 1
        have c2 := hX2.cell 2
        clear hfo hR9 hB9
        go_upto_region 6 with (go_at_call 82; refine (inside_c _ _ _ _).mono ?_; rintro e w' ⟨rfl, rfl⟩)
        go_wp2_with fail
        refine (rtruths_c h2 hx).mono ?_
        rintro e w3 ⟨v3, rfl, hG3, hB3⟩
        obtain ⟨ag, cg, rfl, _, _⟩ := hG3.shape
        have hTl := truths_len hx
        have hR3 := hR2.call hB3
        have hBw3 := bnx hBw2 hB3
        clear c0 c1' c2 hX2 hR2 h2 hBw2 hB3 hra hrb r0 r1 fr0 fr1
        have r0 := hR3.cell 0
        have r1 := hR3.cell 1
        have fr0 := hR3.free 0
        have fr1 := hR3.free 1
        by_cases ht0 : truthsF x = []
        · have he : apartX x pa pb = ((0, 0), 12) := by rw [HFO.out, if_pos (by unfold hasT; rw [ht0]; rfl)]
          have hl0 : (((truthsF x).length : Int) == 0) = true := by rw [ht0]; rfl
          have HE := Lib.hid he
          have hR9 := (hR3.set 0 (.int .i64 0)).set 1 (.int .i64 0)
          have hB9 := (hBw3.setCell (p := ⟨b1 + 1, 0, none⟩) (by show w.heap.size ≤ b1 + 1; omega) (.int .i64 0)).setCell (p := ⟨b1 + 1, 1, none⟩) (by show w.heap.size ≤ b1 + 1; omega) (.int .i64 0)
          clear he ht0
          go_wp2_with fail
          generalize (w3.setCell ⟨b1 + 1, 0, none⟩ (.int .i64 0)).setCell ⟨b1 + 1, 1, none⟩ (.int .i64 0) = w9 at hR9 hB9 ⊢
          have y0 := hR9.cell 0
          have y1 := hR9.cell 1
          rw [HE.out]
          exact bodyPost_ret (v := .tuple #[.agg #[.int .i64 0, .int .i64 0], .int .i64 12]) (by simp [results, Try.results71, go_sem, y0, y1]) rfl ⟨rfl, hB9⟩
        · have hl0 : (((truthsF x).length : Int) == 0) = false := by
            rw [beq_eq_false_iff_ne]
            intro e
            exact ht0 (List.length_eq_zero_iff.1 (by omega))
          obtain ⟨n, hn⟩ : ∃ n : Nat, x.points = (n : Int) := ⟨x.points.toNat, by omega⟩
          have hxn : x.n = n := by unfold Edg.n; omega
          have hn4 : 1 ≤ n ∧ n ≤ 4 := by omega
          obtain ⟨p, rfl⟩ : ∃ p : Nat, pa = p := ⟨pa.toNat, by omega⟩
          obtain ⟨q, rfl⟩ : ∃ q : Nat, pb = q := ⟨pb.toNat, by omega⟩
          have hpn : p < n := by omega
          have hqn : q < n := by omega
          have he : apartX x p q = (spK x p q (truthsF x).length, 0) := by
            rw [HFO.out, if_neg (by rw [hasT_iff.2 ht0]; decide)]
            unfold spK
            rw [List.take_length, Int.toNat_natCast, Int.toNat_natCast]
          have HE := Lib.hid he
          have HT := Lib.hid (show ∀ t ∈ truthsF x, t.length = n ∧ ∀ i < 4, 0 ≤ atL t i ∧ atL t i ≤ 9 from fun t ht => ⟨by rw [truth_len ht]; exact hxn, truth_nine ht⟩)
          obtain ⟨w4, hw4⟩ : ∃ w4, w4 = w3.alloc (.cells #[.int .i64 0, .int .i64 0] 52) := ⟨_, rfl⟩
          obtain ⟨bt, hbt⟩ : ∃ b, b = w3.heap.size := ⟨_, rfl⟩
          have hT4 : Blk bt #[.int .i64 0, .int .i64 0] 52 w4 := by rw [hw4, hbt]; exact Blk.new _ _ _
          have hB4 : Below bt w3 w4 := by rw [hw4, hbt]; exact (Below.refl _ _).alloc (Nat.le_refl _) _
          have hGg : Grid (fun q => q < bt) w4 (.slice ag (truthsF x).length cg) (truthsF x) := (hG3.wide (A' := fun q => q < bt) fun q _ hq => by omega).below hB4 fun q hq _ => hq
          have hbw3 : w.heap.size ≤ bt := by rw [hbt]; exact hBw3.size
          have hbr3 : b1 + 1 < bt := by rw [hbt]; exact hR3.lt
          have hR4 := hR3.below hB4 hbr3
          have hBw4 := hBw3.trans (hB4.mono hbw3)
          clear he ht0 hxn
          go_upto_region 10 with fail
          rw [← hw4, ← hbt]
          clear hw4 hbt hB4 hG3 hR3 hBw3 r0 r1 fr0 fr1
          go_wp2_with fail
          go_loopw [11] (fun vi wr => ∃ i : Nat, i ≤ (truthsF x).length ∧ vi = .int .i64 i ∧ Blk bt #[.int .i64 (spK x p q i).1, .int .i64 (spK x p q i).2] 52 wr ∧ Below bt w4 wr) (fun vi _ => (truthsF x).length - (intOf vi).toNat)
          case atStart => exact ⟨0, Nat.zero_le _, rfl, hT4, Below.refl _ _⟩
          case round =>
            obtain ⟨i, hi, rfl, hTr, hBr⟩ := hrel
            by_cases hlt : i < (truthsF x).length
            · have hGr := hGg.below hBr fun q hq _ => hq
              obtain ⟨gr, orr, rfl, hgrA, hgr⟩ := hGr.addr (by omega)
              obtain ⟨aw, cw, g1, hrow⟩ := hGr.row i hlt
              obtain ⟨hrl, hr9⟩ := HT.out _ (List.getElem_mem hlt)
              have hwd := spK_wid (x := x) (a := p) (b := q) hlt
              obtain ⟨r, hr⟩ : ∃ r, r = (truthsF x)[i] := ⟨_, rfl⟩
              rw [← hr] at g1 hrow hrl hwd hr9
              rw [hrl] at g1 hrow
              obtain ⟨gw, ow, rfl, -, hgw2, -⟩ := hrow.addr (by omega)
              have hc1 := hrow.cell p (by omega)
              have hc2 := hrow.cell q (by omega)
              rw [← atL_at (by omega)] at hc1 hc2
              have hp9 := hr9 p (by omega)
              have hq9 := hr9 q (by omega)
              have bn : IntKind.i64.wrap (atL r p - atL r q) = atL r p - atL r q := IntWalk.i64_in _ (by omega)
              have HBN := Lib.hid bn
              obtain ⟨f, hf⟩ : ∃ f, ((i : Int) == 0) = f := ⟨_, rfl⟩
              have hfd : decide (i = 0) = f := by rw [← hf, Bool.eq_iff_iff, decide_eq_true_eq, beq_iff_eq]; omega
              rw [hfd] at hwd
              have HWD := Lib.hid hwd
              have hS0 : ∀ w', Qt wr w' → (RaS bt (spK x p q i) gr (orr + i) (.slice (some ⟨gw, ow, none⟩) n cw) gw (ow + p) (ow + q) r p q) w' := fun w' q' => ⟨hTr.qt q', (cell_same ((q'.below wr.heap.size).block gr hgr)).trans g1, (cell_same ((q'.below wr.heap.size).block gw hgw2)).trans hc1, (cell_same ((q'.below wr.heap.size).block gw hgw2)).trans hc2⟩
              clear hr hrl hwd hfd hrow g1 hc1 hc2 hr9
              go_wp2_with fail
              refine wp_region_mix2 (.one 0 (.pur 1 (.pur 2 (.pur 3 (.one 4 (.pur 5 (.pur 6 (.one 7 (.pur 8 (.pur 9 (.pur 10 (.one 11 (.pur 12 (.pur 13 (.one 14 (.pur 15 (.pur 16 (.pur 17 (.act 18 (.act 19 .fin)))))))))))))))))))) 18 (RaS bt (spK x p q i) gr (orr + i) (.slice (some ⟨gw, ow, none⟩) n cw) gw (ow + p) (ow + q) r p q) (fun _ => True) (by kernel_rfl) (by kernel_rfl) rfl (by kernel_rfl) (hS0 _ ((Qt.refl _).drewN 1)) (fun wd hqd _ => ?_)
              refine mix_load2 rfl rfl rfl (.agg #[.int .i64 (spK x p q i).1, .int .i64 (spK x p q i).2]) (fun w' h => by have h : (RaS bt (spK x p q i) gr (orr + i) (.slice (some ⟨gw, ow, none⟩) n cw) gw (ow + p) (ow + q) r p q) w' := h; have e0 := h.1.cell 0; have e1 := h.1.cell 1; go_simp) rfl ?_
              refine mix_pur2 rfl (fun K hK => ?_)
              go_simp
              first | refine ⟨_, fun _ => rfl, hK _ ?_⟩ | refine hK _ ?_
              clear hK K
              refine mix_pur2 rfl (fun K hK => ?_)
              go_simp
              first | refine ⟨_, fun _ => rfl, hK _ ?_⟩ | refine hK _ ?_
              clear hK K
              refine mix_pur2 rfl (fun K hK => ?_)
              go_simp
              first | refine ⟨_, fun _ => rfl, hK _ ?_⟩ | refine hK _ ?_
              clear hK K
              refine mix_load2 rfl rfl rfl (.slice (some ⟨gw, ow, none⟩) n cw) (fun w' h => by have h : (RaS bt (spK x p q i) gr (orr + i) (.slice (some ⟨gw, ow, none⟩) n cw) gw (ow + p) (ow + q) r p q) w' := h; have e0 := h.2.1; go_simp) rfl ?_
              refine mix_pur2 rfl (fun K hK => ?_)
              go_simp
              first | refine ⟨_, fun _ => rfl, hK _ ?_⟩ | refine hK _ ?_
              clear hK K
              refine mix_pur2 rfl (fun K hK => ?_)
              go_simp
              first | refine ⟨_, fun _ => rfl, hK _ ?_⟩ | refine hK _ ?_
              clear hK K
              refine mix_load2 rfl rfl rfl (.int .i64 (atL r p)) (fun w' h => by have h : (RaS bt (spK x p q i) gr (orr + i) (.slice (some ⟨gw, ow, none⟩) n cw) gw (ow + p) (ow + q) r p q) w' := h; have e0 := h.2.2.1; go_simp) rfl ?_
              refine mix_pur2 rfl (fun K hK => ?_)
              go_simp
              first | refine ⟨_, fun _ => rfl, hK _ ?_⟩ | refine hK _ ?_
              clear hK K
              refine mix_pur2 rfl (fun K hK => ?_)
              go_simp
              first | refine ⟨_, fun _ => rfl, hK _ ?_⟩ | refine hK _ ?_
              clear hK K
              refine mix_pur2 rfl (fun K hK => ?_)
              go_simp
              first | refine ⟨_, fun _ => rfl, hK _ ?_⟩ | refine hK _ ?_
              clear hK K
              refine mix_load2 rfl rfl rfl (.slice (some ⟨gw, ow, none⟩) n cw) (fun w' h => by have h : (RaS bt (spK x p q i) gr (orr + i) (.slice (some ⟨gw, ow, none⟩) n cw) gw (ow + p) (ow + q) r p q) w' := h; have e0 := h.2.1; go_simp) rfl ?_
              refine mix_pur2 rfl (fun K hK => ?_)
              go_simp
              first | refine ⟨_, fun _ => rfl, hK _ ?_⟩ | refine hK _ ?_
              clear hK K
              refine mix_pur2 rfl (fun K hK => ?_)
              go_simp
              first | refine ⟨_, fun _ => rfl, hK _ ?_⟩ | refine hK _ ?_
              clear hK K
              refine mix_load2 rfl rfl rfl (.int .i64 (atL r q)) (fun w' h => by have h : (RaS bt (spK x p q i) gr (orr + i) (.slice (some ⟨gw, ow, none⟩) n cw) gw (ow + p) (ow + q) r p q) w' := h; have e0 := h.2.2.2; go_simp) rfl ?_
              refine mix_pur2 rfl (fun K hK => ?_)
              go_simp
              first | refine ⟨_, fun _ => rfl, hK _ ?_⟩ | refine hK _ ?_
              clear hK K
              refine mix_pur2 rfl (fun K hK => ?_)
              go_simp
              first | refine ⟨_, fun _ => rfl, hK _ ?_⟩ | refine hK _ ?_
              clear hK K
              refine mix_pur2 rfl (fun K hK => ?_)
              go_simp
              first | refine ⟨_, fun _ => rfl, hK _ ?_⟩ | refine hK _ ?_
              clear hK K
              refine mix_eff2 rfl true rfl (fun K hK => ?_)
              go_simp
              try rw [HBN.out]
              refine (wider_c (spK x p q i) (atL r p - atL r q) f _).mono ?_
              rintro e w5 ⟨rfl, hB5⟩
              rw [HWD.out]
              have hT5 := hTr.call (bnx (hqd.below wr.heap.size) hB5)
              have hBr5 : Below bt w4 w5 := hBr.trans ((bnx (hqd.below wr.heap.size) hB5).mono (Nat.le_of_lt hTr.lt))
              have s0 := hT5.cell 0
              have s1 := hT5.cell 1
              have f0 := hT5.free 0
              have f1 := hT5.free 1
              refine hK _ _ trivial ?_
              clear hK K
              refine mix_eff2 rfl true rfl (fun K hK => ?_)
              go_simp
              refine hK _ _ trivial ?_
              clear hK K
              refine mix_done2 ?_
              go_wp2_with fail
              go_roundw
              case rel =>
                refine ⟨i + 1, by omega, by go_num, ?_, (hBr5.setCell (p := ⟨bt, 0, none⟩) (Nat.le_refl _) _).setCell (p := ⟨bt, 1, none⟩) (Nat.le_refl _) _⟩
                exact (hT5.set 0 _).set 1 _
              case measure => simp [intOf]; omega
            · obtain rfl : i = (truthsF x).length := by omega
              have hRr := hR4.below hBr hbr3
              have r0 := hRr.cell 0
              have r1 := hRr.cell 1
              have fr0 := hRr.free 0
              have fr1 := hRr.free 1
              have s0 := hTr.cell 0
              have s1 := hTr.cell 1
              obtain ⟨sp, hsp⟩ : ∃ sp, sp = spK x p q (truthsF x).length := ⟨_, rfl⟩
              rw [← hsp] at s0 s1 HE
              have hRf := (hRr.set 0 (.int .i64 sp.1)).set 1 (.int .i64 sp.2)
              have hBf := ((hBw4.trans (hBr.mono hbw3)).setCell (p := ⟨b1 + 1, 0, none⟩) (by show w.heap.size ≤ b1 + 1; omega) (.int .i64 sp.1)).setCell (p := ⟨b1 + 1, 1, none⟩) (by show w.heap.size ≤ b1 + 1; omega) (.int .i64 sp.2)
              clear hsp
              go_wp2_with fail
              generalize (wr.setCell ⟨b1 + 1, 0, none⟩ (.int .i64 sp.1)).setCell ⟨b1 + 1, 1, none⟩ (.int .i64 sp.2) = w9 at hRf hBf ⊢
              have y0 := hRf.cell 0
              have y1 := hRf.cell 1
              rw [HE.out]
              exact bodyPost_ret (v := .tuple #[.agg #[.int .i64 sp.1, .int .i64 sp.2], .int .i64 0]) (by simp [results, Try.results71, go_sem, y0, y1]) rfl ⟨rfl, hBf⟩
  · have hb : (checkX x != 0) = true := by simpa using hck
    have he : apartX x pa pb = ((0, 0), checkX x) := by unfold apartX; rw [if_pos hck]
    have HE := Lib.hid he
    clear he hck
    go_wp2_with fail
    generalize (w2.setCell ⟨b1 + 1, 0, none⟩ (.int .i64 0)).setCell ⟨b1 + 1, 1, none⟩ (.int .i64 0) = w9 at hR9 hB9 ⊢
    have y0 := hR9.cell 0
    have y1 := hR9.cell 1
    rw [HE.out]
    exact bodyPost_ret (v := .tuple #[.agg #[.int .i64 0, .int .i64 0], .int .i64 (checkX x)]) (by simp [results, Try.results71, go_sem, y0, y1]) rfl ⟨rfl, hB9⟩

end Go.Proofs.Ytgdifckmjdjcpaa
