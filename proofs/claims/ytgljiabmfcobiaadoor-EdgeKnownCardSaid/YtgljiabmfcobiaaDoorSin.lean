/- Contract of Since (edge); conditions: claims and furrows read as lists. -/
import Derived.Test.YtgljiabmfcobiaaDoorFq
namespace Go.Proofs.YtgljiabmfcobiaaDoor
open Go.RowKit

theorem results_tmp3 {fn : Func} {t u v : Tmp} (h : fn.results = #[.tmp t, .tmp u, .tmp v]) (tmps : Array Value) (P : Program) (w : World) :
    (results fn tmps).run P w = .ok (.tuple #[tmps.getD t undef, tmps.getD u undef, tmps.getD v undef]) w := by
  simp [results, h]
def qL (l : List Fu) (s : Bs) (p : Nat) (y : Nat) : Bool := decide ((tkE l s p y).1 > 0)
def qM (l : List Fu) (s : Bs) (p : Nat) (y : Nat) : Bool := decide ((tkE l s p y).2 > 0)

set_option maxRecDepth 100000 in
set_option maxHeartbeats 2000000 in
theorem since_c {A A' : Nat → Prop} {w : World} {x : Edg} {vx v : Value} {l : List Fu} (hx : ClsM A w vx x.claims) (h : FusM A' w v l) (pp : Int) :
    Calls Tryd.prog 20 #[.agg #[.int .i64 x.points, .int .i64 x.bend, vx], v, .int .i64 pp] w fun e w' => e = .returned (.tuple #[.int .i64 (sinceX x l pp).1.1, .int .i64 (sinceX x l pp).1.2, .int .i64 (sinceX x l pp).2]) ∧ Below w.heap.size w w' := by
  obtain ⟨ax, cx, rfl, _, _⟩ := hx.shape
  obtain ⟨af, cf, rfl, _, _⟩ := h.shape
  obtain ⟨w1, hw1⟩ : ∃ w1, w1 = w.alloc (.cells #[.int .i64 x.points, .int .i64 x.bend, .slice ax x.claims.length cx] 24) := ⟨_, rfl⟩
  obtain ⟨b0, hb0⟩ : ∃ b, b = w.heap.size := ⟨_, rfl⟩
  have hX1 : Blk b0 #[.int .i64 x.points, .int .i64 x.bend, .slice ax x.claims.length cx] 24 w1 := by rw [hw1, hb0]; exact Blk.new _ _ _
  have hB1 : Below w.heap.size w w1 := by rw [hw1]; exact (Below.refl _ w).alloc (Nat.le_refl _) _
  have hx1 := hx.call hB1
  have h1 := h.call hB1
  go_enter Tryd.func20, Tryd.ntmps20
  go_upto_region 1 with fail
  rw [← hw1, ← hb0]
  clear hw1 hb0
  have c0 := hX1.cell 0
  have c1 := hX1.cell 1
  have c2 := hX1.cell 2
  go_wp2_with fail
  clear c0 c1 c2
  refine (checked_c hx1 h1).mono ?_
  rintro e w2 ⟨rfl, hB2⟩
  have hX2 := hX1.call hB2
  have hx2 := hx1.call hB2
  have h2 := h1.call hB2
  have hBb := bnx hB1 hB2
  have c0 := hX2.cell 0
  have c1 := hX2.cell 1
  have c2 := hX2.cell 2
  clear hX1 hx1 h1 hB1 hB2
  by_cases hck : bothX x l = 0
  · have hb : (bothX x l != 0) = false := by rw [hck]; rfl
    obtain ⟨hok, hfx⟩ := both_zero hck
    obtain ⟨hf8, hf1, hfo⟩ := furX_facts hfx
    have hpt := hok.p
    have bp : IntKind.i64.wrap (x.points - 1) = x.points - 1 := IntWalk.i64_in _ (by omega)
    have HCK := Lib.hid hck
    clear hck hfx
    cases hr : btwB pp 0 (x.points - 1) with
    | false =>
      have HE := Lib.hid (show sinceX x l pp = ((0, 0), 3) by unfold sinceX; rw [if_neg (not_not_intro HCK.out), if_pos (by unfold ptB; exact hr)])
      go_wp2_with (go_at_call 25; refine (between_c _ _ _ _).mono ?_; rintro e w' ⟨rfl, rfl⟩)
      refine ⟨rfl, _, results_tmp3 Tryd.results20 _ _ _, ?_⟩
      rw [HE.out]
      exact ⟨rfl, hBb⟩
    | true =>
      have hpp := btwB_iff.1 hr
      obtain ⟨p, rfl⟩ : ∃ p : Nat, pp = (p : Int) := ⟨pp.toNat, by omega⟩
      have HPT := Lib.hid (show ptB x (p : Int) = true from hr)
      have hbz := bounds_z hx2 hok
      have HBZ := Lib.hid hbz
      clear hbz
      go_wp2_with (go_at_call 25; refine (between_c _ _ _ _).mono ?_; rintro e w' ⟨rfl, rfl⟩)
      clear c0 c1 c2
      refine HBZ.out.mono ?_
      rintro e w3 ⟨v', b, rfl, hB3, (⟨rfl, rfl, hno⟩ | ⟨rfl, s, g, hs, rfl, hgs, hE⟩)⟩
      · have HE := Lib.hid (show sinceX x l (p : Int) = ((0, 0), 12) by unfold sinceX; rw [if_neg (not_not_intro HCK.out), if_neg (by rw [HPT.out]; decide), hno])
        clear hno
        go_wp2_with fail
        refine ⟨rfl, _, results_tmp3 Tryd.results20 _ _ _, ?_⟩
        rw [HE.out]
        exact ⟨rfl, bnx hBb hB3⟩
      · have HE := Lib.hid (show sinceX x l (p : Int) = ((downY (qM l s p) 31 31, downY (qL l s p) 31 31), 0) by unfold sinceX; rw [if_neg (not_not_intro HCK.out), if_neg (by rw [HPT.out]; decide), hs.eq]; rfl)
        obtain ⟨n, hn⟩ : ∃ n, n = x.n := ⟨_, rfl⟩
        have hnx : x.points = (n : Int) := by rw [hn]; unfold Edg.n; omega
        have hpn : p < n := by omega
        have hre := bnd_reach hs (p := p) (by rw [← hn]; exact hpn)
        have hsl := hs.len
        rw [← hn] at hsl ⊢
        have hps : p < s.length := by omega
        have hBa := bnx hBb hB3
        have h3 := h2.call hB3
        clear hn hnx hsl hX2 hx2 h2 hB3 hBb hpp hr
        go_wp2_with fail
        go_loopw [6, 7, 12] (fun va vb vy wr => ∃ k : Nat, k ≤ 31 ∧ vy = .int .i64 (30 - (k : Int)) ∧ va = .int .i64 (downY (qM l s p) 31 k) ∧ vb = .int .i64 (downY (qL l s p) 31 k) ∧ Below w3.heap.size w3 wr) (fun _ _ vy _ => (intOf vy + 1).toNat)
        case atStart => exact ⟨0, by omega, rfl, rfl, rfl, Below.refl _ _⟩
        case round =>
          obtain ⟨k, hk, rfl, rfl, rfl, hBr⟩ := hrel
          have hEr : EB g s wr := Blk.call hE hBr
          have hr3 := h3.call hBr
          by_cases hlt : k < 31
          · obtain ⟨d0, d1⟩ := hEr.cells hps
            obtain ⟨y, hy⟩ : ∃ y : Nat, y = 31 - 1 - k := ⟨_, rfl⟩
            have hyk : 30 - (k : Int) = (y : Int) := by omega
            have hy30 : y ≤ 30 := by omega
            have HDM := Lib.hid (show downY (qM l s p) 31 (k + 1) = if qM l s p y = true then (y : Int) else downY (qM l s p) 31 k by rw [hy]; rfl)
            have HDL := Lib.hid (show downY (qL l s p) 31 (k + 1) = if qL l s p y = true then (y : Int) else downY (qL l s p) 31 k by rw [hy]; rfl)
            generalize downY (qM l s p) 31 k = dm at HDM ⊢
            generalize downY (qL l s p) 31 k = dl at HDL ⊢
            have HYK := Lib.hid (show (y : Int) - 1 = 30 - ((k + 1 : Nat) : Int) by omega)
            rw [hyk]
            have hyk1 : k + 1 + y ≤ 31 := by omega
            have hyk2 : 31 ≤ k + 1 + y := by omega
            clear hyk hy
            have by1 : IntKind.i64.wrap ((y : Int) - 1) = (y : Int) - 1 := IntWalk.i64_in _ (by omega)
            have htk := taken_c hr3 hf8 hf1 hfo (a := gl s p) (b := gh s p) (by omega) (by omega) (p : Int) (y : Int)
            have hqm : qM l s p y = decide (tkF (newG (p : Int) y l) (gh s p) > 0) := rfl
            have hql : qL l s p y = decide (tkF (newG (p : Int) y l) (gl s p) > 0) := rfl
            rw [hqm] at HDM
            rw [hql] at HDL
            generalize tkF (newG (p : Int) y l) (gl s p) = u at htk HDL
            generalize tkF (newG (p : Int) y l) (gh s p) = z at htk HDM
            have HTK := Lib.hid htk
            clear htk hqm hql
            go_wp2_with fail
            refine HTK.out.mono ?_
            rintro e w5 ⟨rfl, hB5⟩
            have hB6 := (bnx hBr hB5).alloc (bnx hBr hB5).size (.cells #[.int .i64 u, .int .i64 z] 86)
            by_cases hz : z > 0
            · by_cases hu : u > 0
              · have HM2 := Lib.hid (HDM.out.trans (if_pos (decide_eq_true hz)))
                have HL2 := Lib.hid (HDL.out.trans (if_pos (decide_eq_true hu)))
                go_wp2_with fail
                go_roundw
                case rel => exact ⟨k + 1, by omega, by rw [HYK.out], by rw [HM2.out], by rw [HL2.out], hB6⟩
                case measure => simp [intOf]
              · have HM2 := Lib.hid (HDM.out.trans (if_pos (decide_eq_true hz)))
                have HL2 := Lib.hid (HDL.out.trans (if_neg (by rw [decide_eq_false hu]; decide)))
                go_wp2_with fail
                go_roundw
                case rel => exact ⟨k + 1, by omega, by rw [HYK.out], by rw [HM2.out], by rw [HL2.out], hB6⟩
                case measure => simp [intOf]
            · by_cases hu : u > 0
              · have HM2 := Lib.hid (HDM.out.trans (if_neg (by rw [decide_eq_false hz]; decide)))
                have HL2 := Lib.hid (HDL.out.trans (if_pos (decide_eq_true hu)))
                go_wp2_with fail
                go_roundw
                case rel => exact ⟨k + 1, by omega, by rw [HYK.out], by rw [HM2.out], by rw [HL2.out], hB6⟩
                case measure => simp [intOf]
              · have HM2 := Lib.hid (HDM.out.trans (if_neg (by rw [decide_eq_false hz]; decide)))
                have HL2 := Lib.hid (HDL.out.trans (if_neg (by rw [decide_eq_false hu]; decide)))
                go_wp2_with fail
                go_roundw
                case rel => exact ⟨k + 1, by omega, by rw [HYK.out], by rw [HM2.out], by rw [HL2.out], hB6⟩
                case measure => simp [intOf]
          · obtain rfl : k = 31 := by omega
            have hneg : (30 - ((31 : Nat) : Int)) = -1 := by omega
            rw [hneg]
            go_wp2_with fail
            refine ⟨rfl, _, results_tmp3 Tryd.results20 _ _ _, ?_⟩
            rw [HE.out]
            exact ⟨rfl, bnx hBa hBr⟩
  · have hb : (bothX x l != 0) = true := by simpa using hck
    have HE := Lib.hid (show sinceX x l pp = ((0, 0), bothX x l) by unfold sinceX; rw [if_pos hck])
    clear hck
    go_wp2_with fail
    refine ⟨rfl, _, results_tmp3 Tryd.results20 _ _ _, ?_⟩
    rw [HE.out]
    exact ⟨rfl, hBb⟩

end Go.Proofs.YtgljiabmfcobiaaDoor
