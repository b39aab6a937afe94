/- Contract of the reference's Fine (edge); conditions: claims and furrows read as lists. -/
import Derived.Test.YtgdifckmjdjcpaaRte
namespace Go.Proofs.Ytgdifckmjdjcpaa
open Go.RowKit

theorem fine_fin39 {w w2 : World} {b0 : Nat} {x y : Value} (hR2 : Blk b0 #[x, y] 52 w2) (hB : Below w.heap.size w w2) (hbw : w.heap.size ≤ b0) {u z e U Z E : Int} (hu : u = U) (hz : z = Z) (he : e = E) {a : Act} (hd : a.defers = []) (h10 : a.tmps[10]? = some (.pointer (some ⟨b0, 0, none⟩))) (h11 : a.tmps[11]? = some (.int .i64 e)) :
    bodyPost Try.prog Try.f39 (fun e w' => e = .returned (.tuple #[.agg #[.int .i64 U, .int .i64 Z], .int .i64 E]) ∧ Below w.heap.size w w') .ret a ((w2.setCell ⟨b0, 0, none⟩ (.int .i64 u)).setCell ⟨b0, 1, none⟩ (.int .i64 z)) := by
  subst hu
  subst hz
  subst he
  have hR3 := (hR2.set 0 (.int .i64 u)).set 1 (.int .i64 z)
  have hB3 := (hB.setCell (p := ⟨b0, 0, none⟩) hbw (.int .i64 u)).setCell (p := ⟨b0, 1, none⟩) hbw (.int .i64 z)
  generalize (w2.setCell ⟨b0, 0, none⟩ (.int .i64 u)).setCell ⟨b0, 1, none⟩ (.int .i64 z) = wf at hR3 hB3 ⊢
  have x0 := hR3.cell 0
  have x1 := hR3.cell 1
  exact bodyPost_ret (v := .tuple #[.agg #[.int .i64 u, .int .i64 z], .int .i64 e]) (by rw [results, Try.results39]; simp [go_sem, h10, h11, x0, x1]) hd ⟨rfl, hB3⟩
/-- What furrows take of a truth. -/
def gT (l : List Fu) (t : List Int) : Int → Nat → Int := fun y p => tkF (newG p y l) (atL t p)
/-- The span of the fines over the first truths. -/
def spE (x : Edg) (l : List Fu) (rate lo hi : Int) (n i : Nat) : Int × Int := spanF (((truthsF x).take i).map fun t => fineF rate n (gT l t) lo hi)
theorem spE_succ {x : Edg} {l : List Fu} {rate lo hi : Int} {n i : Nat} (hi' : i < (truthsF x).length) : widF (spE x l rate lo hi n i) (fineF rate n (gT l (truthsF x)[i]) lo hi) (decide (i = 0)) = spE x l rate lo hi n (i + 1) := by
  unfold spE widF
  rw [List.take_succ_eq_append_getElem hi', List.map_append]
  by_cases h0 : i = 0
  · subst h0
    rw [if_pos (by simp)]
    rfl
  · rw [if_neg (by simp [h0])]
    refine (spanF_snoc ?_).symm
    intro e
    have := congrArg List.length e
    simp at this
    rcases this with h | h
    · exact h0 h
    · rw [h] at hi'; simp at hi'

set_option maxRecDepth 100000 in
set_option maxHeartbeats 2000000 in
theorem rfine_c {A A' : Nat → Prop} {w : World} {x : Edg} {v vl : Value} {l : List Fu} (h : ClsM A w v x.claims) (hl : FusM A' w vl l) (rate lo hi : Int) :
    Calls Try.prog 39 #[.agg #[.int .i64 x.points, .int .i64 x.bend, v], vl, .int .i64 rate, .int .i64 lo, .int .i64 hi] w fun e w' => e = .returned (.tuple #[.agg #[.int .i64 (fineX x l rate lo hi).1.1, .int .i64 (fineX x l rate lo hi).1.2], .int .i64 (fineX x l rate lo hi).2]) ∧ Below w.heap.size w w' := by
  obtain ⟨a1, c1, rfl, hc1, hm1⟩ := h.shape
  obtain ⟨al, cl, rfl, _, _⟩ := hl.shape
  obtain ⟨w1, hw1⟩ : ∃ w1, w1 = (w.alloc (.cells #[.int .i64 x.points, .int .i64 x.bend, .slice a1 x.claims.length c1] 24)).alloc (.cells #[.int .i64 0, .int .i64 0] 52) := ⟨_, rfl⟩
  obtain ⟨b1, hb1⟩ : ∃ b, b = w.heap.size := ⟨_, rfl⟩
  have hX : Blk b1 #[.int .i64 x.points, .int .i64 x.bend, .slice a1 x.claims.length c1] 24 w1 := by rw [hw1, hb1]; exact (Blk.new w _ _).alloc _
  have hR : Blk (b1 + 1) #[.int .i64 0, .int .i64 0] 52 w1 := by rw [hw1, hb1]; exact blk_at (by simp) _ _
  have hB : Below w.heap.size w w1 := by rw [hw1]; exact bal2 ((Below.refl _ w).alloc (Nat.le_refl _) _)
  have h1 := h.call hB
  have hl1 := hl.call hB
  have hbw : w.heap.size ≤ b1 + 1 := by omega
  go_enter Try.func39, Try.ntmps39
  go_upto_region 1 with fail
  rw [← hw1, ← hb1]
  clear hw1 hb1
  have c0 := hX.cell 0
  have c1' := hX.cell 1
  have c2 := hX.cell 2
  go_wp2_with fail
  refine (rready_c h1 hl1).mono ?_
  rintro e w2 ⟨rfl, hB2⟩
  have hX2 := hX.call hB2
  have hR2 := hR.call hB2
  have h2 := h1.call hB2
  have hl2 := hl1.call hB2
  have hBw2 := bnx hB hB2
  clear c0 c1' c2 hX hR h1 hB hB2 hl1
  have c0 := hX2.cell 0
  have c1' := hX2.cell 1
  have c2 := hX2.cell 2
  have r0 := hR2.cell 0
  have r1 := hR2.cell 1
  have s0 := hR2.free 0
  have s1 := hR2.free 1
  by_cases hck : bothX x l = 0
  · obtain ⟨hx, hfx⟩ := both_zero hck
    have hb : (bothX x l != 0) = false := by rw [hck]; rfl
    have hfy := fus_good hfx
    have HCK := Lib.hid hck
    have HFY := Lib.hid hfy
    clear hck hfx hfy
    cases hr : (btwB rate 1 9 && (btwB lo 0 30 && btwB hi 0 30)) with
    | false =>
      have HE := Lib.hid (show fineX x l rate lo hi = ((0, 0), 1) by unfold fineX; rw [if_neg (not_not_intro HCK.out), if_pos (fun hh => by rw [hh.1, hh.2.1, hh.2.2] at hr; exact absurd hr (by decide))])
      cases b1' : btwB rate 1 9 with
      | false =>
        go_wp2_with (go_at_call 82; refine (inside_c _ _ _ _).mono ?_; rintro e w' ⟨rfl, rfl⟩)
        exact fine_fin39 hR2 hBw2 hbw (by rw [HE.out]) (by rw [HE.out]) (by rw [HE.out]) rfl rfl rfl
      | true =>
        cases b2 : btwB lo 0 30 with
        | false =>
          go_wp2_with (go_at_call 82; refine (inside_c _ _ _ _).mono ?_; rintro e w' ⟨rfl, rfl⟩)
          exact fine_fin39 hR2 hBw2 hbw (by rw [HE.out]) (by rw [HE.out]) (by rw [HE.out]) rfl rfl rfl
        | true =>
          have b3 : btwB hi 0 30 = false := by rw [b1', b2] at hr; simpa using hr
          go_wp2_with (go_at_call 82; refine (inside_c _ _ _ _).mono ?_; rintro e w' ⟨rfl, rfl⟩)
          exact fine_fin39 hR2 hBw2 hbw (by rw [HE.out]) (by rw [HE.out]) (by rw [HE.out]) rfl rfl rfl
    | true =>
      rw [Bool.and_eq_true, Bool.and_eq_true] at hr
      obtain ⟨b1', b2, b3⟩ := hr
      have hrt := btwB_iff.1 b1'
      have hlo := btwB_iff.1 b2
      have hhi := btwB_iff.1 b3
      have HIF := Lib.hid (show ¬ ¬ (btwB rate 1 9 = true ∧ btwB lo 0 30 = true ∧ btwB hi 0 30 = true) from not_not_intro ⟨b1', b2, b3⟩)
      by_cases hord : hi < lo
      · have HE := Lib.hid (show fineX x l rate lo hi = ((0, 0), 5) by unfold fineX; rw [if_neg (not_not_intro HCK.out), if_neg HIF.out, if_pos hord])
        go_wp2_with (go_at_call 82; refine (inside_c _ _ _ _).mono ?_; rintro e w' ⟨rfl, rfl⟩)
        exact fine_fin39 hR2 hBw2 hbw (by rw [HE.out]) (by rw [HE.out]) (by rw [HE.out]) rfl rfl rfl
      · go_wp2_with (go_at_call 82; refine (inside_c _ _ _ _).mono ?_; rintro e w' ⟨rfl, rfl⟩)
        refine (rtruths_c h2 hx).mono ?_
        rintro e w3 ⟨v3, rfl, hG3, hB3⟩
        have hX3 := hX2.call hB3
        have hR3 := hR2.call hB3
        have hl3 := hl2.call hB3
        have hBw3 := bnx hBw2 hB3
        obtain ⟨ag, cg, rfl, _, _⟩ := hG3.shape
        have hTl := truths_len hx
        clear c0 c1' c2 hX2 h2 hBw2 hl2 r0 r1 s0 s1 hR2 hB3 b1' b2 b3
        by_cases ht0 : truthsF x = []
        · have HE := Lib.hid (show fineX x l rate lo hi = ((0, 0), 12) by unfold fineX; rw [if_neg (not_not_intro HCK.out), if_neg HIF.out, if_neg (by omega), bndF_none.2 ht0])
          have hl0 : (((truthsF x).length : Int) == 0) = true := by rw [ht0]; rfl
          have r0 := hR3.cell 0
          have r1 := hR3.cell 1
          have s0 := hR3.free 0
          have s1 := hR3.free 1
          clear ht0
          go_wp2_with fail
          exact fine_fin39 hR3 hBw3 hbw (by rw [HE.out]) (by rw [HE.out]) (by rw [HE.out]) rfl rfl rfl
        · have hl0 : (((truthsF x).length : Int) == 0) = false := by
            rw [beq_eq_false_iff_ne]
            intro e
            exact ht0 (List.length_eq_zero_iff.1 (by omega))
          obtain ⟨s, hs⟩ := bnd_exists hx ht0
          have hxp := hx.p
          obtain ⟨n, hn⟩ : ∃ n : Nat, x.points = (n : Int) := ⟨x.points.toNat, by omega⟩
          have hxn : x.n = n := by unfold Edg.n; omega
          have hn4 : 1 ≤ n ∧ n ≤ 4 := by omega
          have HE := Lib.hid (show fineX x l rate lo hi = (spE x l rate lo hi n (truthsF x).length, 0) by
            unfold fineX
            rw [if_neg (not_not_intro HCK.out), if_neg HIF.out, if_neg (by omega), hs.eq]
            have := fineX_truths hs l (rate := rate) (by omega) lo hi
            rw [hxn] at this
            show ((_, _), 0) = _
            rw [hxn, ← this]
            unfold spE gT
            rw [List.take_length])
          have HT := Lib.hid (show ∀ t ∈ truthsF x, t.length = n ∧ ∀ q < n, 0 ≤ atL t q ∧ atL t q ≤ 9 from fun t ht => ⟨by rw [truth_len ht]; exact hxn, fun q hq => (mem_truthsF.1 ht).reach q (by rw [hxn]; exact hq)⟩)
          rw [hn] at hX3
          obtain ⟨w4, hw4⟩ : ∃ w4, w4 = w3.alloc (.cells #[.int .i64 0, .int .i64 0] 52) := ⟨_, rfl⟩
          obtain ⟨g, hg⟩ : ∃ g, g = w3.heap.size := ⟨_, rfl⟩
          have hE4 : Blk g #[.int .i64 (spE x l rate lo hi n 0).1, .int .i64 (spE x l rate lo hi n 0).2] 52 w4 := by rw [hw4, hg]; exact Blk.new _ _ _
          have hB4 : Below g w3 w4 := by rw [hw4, hg]; exact (Below.refl _ _).alloc (Nat.le_refl _) _
          have hGg : Grid (fun q => q < g) w4 (.slice ag (truthsF x).length cg) (truthsF x) := by
            have := (hG3.wide (A' := fun q => q < g) fun q _ hq => by omega).below hB4 fun q hq _ => hq
            exact this
          have hLg : FusM (fun q => q < g) w4 (.slice al l.length cl) l := by
            have := (hl3.wide (A' := fun q => q < g) fun q _ hq => by omega).below hB4 fun q hq _ => hq
            exact this
          have hX4 := Blk.below hX3 hB4 (by rw [hg]; exact hX3.lt)
          have hR4 := Blk.below hR3 hB4 (by rw [hg]; exact hR3.lt)
          have hgw : w.heap.size ≤ g := by rw [hg]; exact hBw3.size
          have hbg : b1 < g := by rw [hg]; exact hX3.lt
          have hbg1 : b1 + 1 < g := by rw [hg]; exact hR3.lt
          have hBw4 : Below w.heap.size w w4 := hBw3.trans (hB4.mono hgw)
          go_upto_region 12 with fail
          rw [← hw4, ← hg]
          have HN := Lib.hid hn
          clear hw4 hg ht0 hn hxn hB4 hG3 hX3 hR3 hBw3 hl3 hs HIF
          go_wp2_with fail
          go_loopw [15] (fun vi wr => ∃ i : Nat, i ≤ (truthsF x).length ∧ vi = .int .i64 i ∧ Blk g #[.int .i64 (spE x l rate lo hi n i).1, .int .i64 (spE x l rate lo hi n i).2] 52 wr ∧ Below g w4 wr) (fun vi _ => (truthsF x).length - (intOf vi).toNat)
          case atStart => exact ⟨0, Nat.zero_le _, rfl, hE4, Below.refl _ _⟩
          case round =>
            rename World => wo
            obtain ⟨i, hi', rfl, hEo, hBo⟩ := hrel
            by_cases hlt : i < (truthsF x).length
            · have hGr := hGg.below hBo fun q hq _ => hq
              have hLr := hLg.below hBo fun q hq _ => hq
              have hXr := Blk.below hX4 hBo hbg
              obtain ⟨gr, orr, rfl, hgrA, hgr⟩ := hGr.addr (by omega)
              obtain ⟨aw, cw, g1, hrow⟩ := hGr.row i hlt
              obtain ⟨hrl, hr9⟩ := HT.out _ (List.getElem_mem hlt)
              have hwd := spE_succ (x := x) (l := l) (rate := rate) (lo := lo) (hi := hi) (n := n) hlt
              obtain ⟨r, hr⟩ : ∃ r, r = (truthsF x)[i] := ⟨_, rfl⟩
              rw [← hr] at g1 hrow hrl hwd hr9
              rw [hrl] at g1 hrow
              have HWD := Lib.hid hwd
              have HRL := Lib.hid hrl
              clear hr hwd hrl
              go_wp2_with fail
              go_loopw [16, 17] (fun va vy wr => ∃ (y A : Int), lo ≤ y ∧ y ≤ hi + 1 ∧ vy = .int .i64 y ∧ va = .int .i64 A ∧ Hid (A = fineF rate n (gT l r) lo (y - 1)) ∧ (0 ≤ A ∧ A ≤ 400 * (y - lo)) ∧ Qt wo wr) (fun _ vy _ => (hi + 1 - intOf vy).toNat)
              case atStart => exact ⟨lo, 0, by omega, by omega, rfl, rfl, Lib.hid fineF_none.symm, by omega, Qt.refl _⟩
              case round =>
                rename World => wy
                obtain ⟨y, A, hy1, hy2, rfl, rfl, HA, hA, hQy⟩ := hrel
                by_cases hyl : y ≤ hi
                · go_wp2_with fail
                  go_loopw [16, 18] (fun va vp wr => ∃ (p : Nat) (C : Int), p ≤ n ∧ vp = .int .i64 p ∧ va = .int .i64 C ∧ Hid (C = A + fineP rate p (gT l r) y) ∧ (0 ≤ C ∧ C ≤ 400 * (y - lo) + 100 * p) ∧ Qt wo wr) (fun _ vp _ => n - (intOf vp).toNat)
                  case atStart => exact ⟨0, A, Nat.zero_le _, rfl, rfl, Lib.hid (by simp [fineP]), by omega, hQy⟩
                  case round =>
                    rename World => wp
                    obtain ⟨p, C, hpn, rfl, rfl, HC, hC, hQp⟩ := hrel
                    have x0 := (hXr.qt hQp).cell 0
                    have gq : wp.cell? ⟨gr, orr + i, none⟩ = some (.slice aw n cw) := (cell_same ((hQp.below wo.heap.size).block gr hgr)).trans g1
                    by_cases hlp : p < n
                    · have hfu := rfurrows_c (hLr.qt hQp) HFY.out (hrow.qt hQp) (p := p) (by rw [HRL.out]; exact hlp) (hr9 p hlp) y
                      have hu := tk_le (p := (p : Int)) (y := y) (fun f hf => (HFY.out f hf).2) (n := atL r p) (hr9 p hlp)
                      have HTE := Lib.hid (show gT l r y p = tkF (newG (p : Int) y l) (atL r p) from rfl)
                      generalize tkF (newG (p : Int) y l) (atL r p) = u at hu HTE hfu
                      have HFU := Lib.hid hfu
                      have hm1 : 0 ≤ rate * u ∧ rate * u ≤ 81 := ⟨Int.mul_nonneg (by omega) hu.1, by have := Int.mul_le_mul hrt.2 hu.2 hu.1 (by decide); omega⟩
                      obtain ⟨m1, hm1e⟩ : ∃ m, rate * u = m := ⟨_, rfl⟩
                      rw [hm1e] at hm1
                      have bm : IntKind.i64.wrap m1 = m1 := IntWalk.i64_in _ (by omega)
                      have bc : IntKind.i64.wrap (C + m1) = C + m1 := IntWalk.i64_in _ (by omega)
                      clear hfu
                      go_wp2_with fail
                      refine HFU.out.mono ?_
                      rintro e w6 ⟨rfl, hq6⟩
                      go_wp2_with fail
                      go_roundw
                      case rel =>
                        refine ⟨p + 1, C + m1, by omega, by go_num, by first | rfl | (rw [hm1e]), Lib.hid ?_, by omega, hQp.trans hq6⟩
                        rw [fineP_succ, HC.out, ← hm1e, Int.add_assoc, HTE.out]
                      case measure => simp [intOf]; omega
                    · obtain rfl : p = n := by omega
                      go_wp2_with fail
                      go_roundw
                      case rel =>
                        refine ⟨y + 1, C, by omega, by omega, by go_num, rfl, Lib.hid ?_, by omega, hQp⟩
                        rw [show y + 1 - 1 = y by omega, fineF_succ hy1, HC.out, HA.out]
                      case measure => simp [intOf]; omega
                · obtain rfl : y = hi + 1 := by omega
                  have hEr := hEo.qt hQy
                  have HA2 := Lib.hid (show A = fineF rate n (gT l r) lo hi by rw [HA.out, show hi + 1 - 1 = hi by omega])
                  obtain ⟨f, hf⟩ : ∃ f, ((i : Int) == 0) = f := ⟨_, rfl⟩
                  have hfd : decide (i = 0) = f := by
                    rw [← hf, Bool.eq_iff_iff, decide_eq_true_eq, beq_iff_eq]; omega
                  have hwi := wider_c (spE x l rate lo hi n i) A f wy
                  have hwf : widF (spE x l rate lo hi n i) A f = spE x l rate lo hi n (i + 1) := by rw [HA2.out, ← hfd]; exact HWD.out
                  rw [hwf] at hwi
                  have HWI := Lib.hid hwi
                  obtain ⟨S, hS⟩ : ∃ S, S = spE x l rate lo hi n i := ⟨_, rfl⟩
                  obtain ⟨S2, hS2⟩ : ∃ S, S = spE x l rate lo hi n (i + 1) := ⟨_, rfl⟩
                  rw [← hS] at hEr HWI
                  rw [← hS2] at HWI
                  have HS2 := Lib.hid hS2
                  have e0 := hEr.cell 0
                  have e1 := hEr.cell 1
                  clear hfd hwi hwf hS hS2
                  go_wp2_with fail
                  refine HWI.out.mono ?_
                  rintro e w7 ⟨rfl, hB7⟩
                  have hE7 := hEr.call hB7
                  have hBr7 : Below g w4 w7 := hBo.trans (((hQy.below _).trans (hB7.mono (hQy.below wo.heap.size).size)).mono (Nat.le_of_lt hEo.lt))
                  clear e0 e1
                  have y0 := hE7.cell 0
                  have y1 := hE7.cell 1
                  have f0 := hE7.free 0
                  have f1 := hE7.free 1
                  go_wp2_with fail
                  go_roundw
                  case rel => exact ⟨i + 1, by omega, by go_num, by rw [← HS2.out]; exact (hE7.set 0 (.int .i64 S2.1)).set 1 (.int .i64 S2.2), (hBr7.setCell (p := ⟨g, 0, none⟩) (Nat.le_refl _) _).setCell (p := ⟨g, 1, none⟩) (Nat.le_refl _) _⟩
                  case measure => simp [intOf]; omega
            · obtain rfl : i = (truthsF x).length := by omega
              have hRr := hR4.below hBo hbg1
              have e0 := hEo.cell 0
              have e1 := hEo.cell 1
              have r0 := hRr.cell 0
              have r1 := hRr.cell 1
              have s0 := hRr.free 0
              have s1 := hRr.free 1
              go_wp2_with fail
              exact fine_fin39 hRr (hBw4.trans (hBo.mono hgw)) hbw (by rw [HE.out]) (by rw [HE.out]) (by rw [HE.out]) rfl rfl rfl
  · have hb : (bothX x l != 0) = true := by simpa using hck
    have HE := Lib.hid (show fineX x l rate lo hi = ((0, 0), bothX x l) by unfold fineX; rw [if_pos hck])
    clear hck
    go_wp2_with fail
    exact fine_fin39 hR2 hBw2 hbw (by rw [HE.out]) (by rw [HE.out]) (by rw [HE.out]) rfl rfl rfl

end Go.Proofs.Ytgdifckmjdjcpaa
