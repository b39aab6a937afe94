/- Contract of Fine (edge); conditions: claims and furrows read as lists. -/
import Derived.Test.YtgdifckmjdjcpaaTak2
namespace Go.Proofs.Ytgdifckmjdjcpaa
open Go.RowKit

theorem tk_le {p y : Int} {l : List Fu} (ho : ∀ f ∈ l, 0 ≤ f.off ∧ f.off ≤ 9) {n : Int} (hn : 0 ≤ n ∧ n ≤ 9) : 0 ≤ tkF (newG p y l) n ∧ tkF (newG p y l) n ≤ 9 := by
  cases h : newG p y l with
  | none => simp only [tkF]; omega
  | some f =>
    have := ho f (newG_mem h)
    simp only [tkF]; omega
/-- What one year gives, up to some points. -/
def fineP (rate : Int) (n : Nat) (g : Int → Nat → Int) (y : Int) : Int := ((List.range n).map fun p => rate * g y p).sum
theorem fineP_succ (rate : Int) (n : Nat) (g : Int → Nat → Int) (y : Int) : fineP rate (n + 1) g y = fineP rate n g y + rate * g y n := by
  unfold fineP
  rw [List.range_succ, List.map_append, List.sum_append]
  simp
theorem fineF_succ {rate : Int} {n : Nat} {g : Int → Nat → Int} {lo y : Int} (h : lo ≤ y) : fineF rate n g lo y = fineF rate n g lo (y - 1) + fineP rate n g y := by
  unfold fineF
  have := rng_snoc (lo := lo) (hi := y - 1) (by omega)
  rw [show y - 1 + 1 = y by omega] at this
  rw [this, List.map_append, List.sum_append]
  simp [fineY, fineP]
theorem fineF_none {rate : Int} {n : Nat} {g : Int → Nat → Int} {lo : Int} : fineF rate n g lo (lo - 1) = 0 := by
  unfold fineF
  rw [rng_none (by omega)]
  rfl
theorem ix0 (a b : Int) (w : World) : (Instr.index 99 (.agg #[.int .i64 a, .int .i64 b]) (.int .i64 0)).run Try.prog w = .ok (.int .i64 a) w := by kernel_rfl
theorem ix1 (a b : Int) (w : World) : (Instr.index 99 (.agg #[.int .i64 a, .int .i64 b]) (.int .i64 1)).run Try.prog w = .ok (.int .i64 b) w := by kernel_rfl

theorem fine_fin {w w2 : World} {b0 : Nat} {x y : Value} (hR2 : Blk b0 #[x, y] 52 w2) (hB : Below w.heap.size w w2) (hbw : w.heap.size ≤ b0) {u z e U Z E : Int} (hu : u = U) (hz : z = Z) (he : e = E) {a : Act} (hd : a.defers = []) (h10 : a.tmps[10]? = some (.pointer (some ⟨b0, 0, none⟩))) (h11 : a.tmps[11]? = some (.int .i64 e)) :
    bodyPost Try.prog Try.f38 (fun e w' => e = .returned (.tuple #[.agg #[.int .i64 U, .int .i64 Z], .int .i64 E]) ∧ Below w.heap.size w w') .ret a ((w2.setCell ⟨b0, 0, none⟩ (.int .i64 u)).setCell ⟨b0, 1, none⟩ (.int .i64 z)) := by
  subst hu
  subst hz
  subst he
  have hR3 := (hR2.set 0 (.int .i64 u)).set 1 (.int .i64 z)
  have hB3 := (hB.setCell (p := ⟨b0, 0, none⟩) hbw (.int .i64 u)).setCell (p := ⟨b0, 1, none⟩) hbw (.int .i64 z)
  generalize (w2.setCell ⟨b0, 0, none⟩ (.int .i64 u)).setCell ⟨b0, 1, none⟩ (.int .i64 z) = wf at hR3 hB3 ⊢
  have x0 := hR3.cell 0
  have x1 := hR3.cell 1
  exact bodyPost_ret (v := .tuple #[.agg #[.int .i64 u, .int .i64 z], .int .i64 e]) (by rw [results, Try.results38]; simp [go_sem, h10, h11, x0, x1]) hd ⟨rfl, hB3⟩

def fL (l : List Fu) (s : Bs) : Int → Nat → Int := fun y p => (tkE l s p y).1
def fM (l : List Fu) (s : Bs) : Int → Nat → Int := fun y p => (tkE l s p y).2

set_option maxRecDepth 100000 in
set_option maxHeartbeats 2000000 in
theorem fine_c {A A' : Nat → Prop} {w : World} {x : Edg} {vx v : Value} {l : List Fu} (hx : ClsM A w vx x.claims) (h : FusM A' w v l) (rate lo hi : Int) :
    Calls Try.prog 38 #[.agg #[.int .i64 x.points, .int .i64 x.bend, vx], v, .int .i64 rate, .int .i64 lo, .int .i64 hi] w fun e w' => e = .returned (.tuple #[.agg #[.int .i64 (fineX x l rate lo hi).1.1, .int .i64 (fineX x l rate lo hi).1.2], .int .i64 (fineX x l rate lo hi).2]) ∧ Below w.heap.size w w' := by
  obtain ⟨ax, cx, rfl, _, _⟩ := hx.shape
  replace h := h.wide (A' := fun k => k < w.heap.size) fun k _ hk => hk
  obtain ⟨w1, hw1⟩ : ∃ w1, w1 = (w.alloc (.cells #[.int .i64 x.points, .int .i64 x.bend, .slice ax x.claims.length cx] 24)).alloc (.cells #[.int .i64 0, .int .i64 0] 52) := ⟨_, rfl⟩
  obtain ⟨b0, hb0⟩ : ∃ b, b = w.heap.size := ⟨_, rfl⟩
  obtain ⟨br, hbr⟩ : ∃ b, b = w.heap.size + 1 := ⟨_, rfl⟩
  have hX1 : Blk b0 #[.int .i64 x.points, .int .i64 x.bend, .slice ax x.claims.length cx] 24 w1 := by rw [hw1, hb0]; exact (Blk.new w _ _).alloc _
  have hR1 : Blk br #[.int .i64 0, .int .i64 0] 52 w1 := by rw [hw1, hbr]; exact blk_at (by simp) _ _
  have hB1 : Below w.heap.size w w1 := by rw [hw1]; exact ((Below.refl _ w).alloc (Nat.le_refl _) _).alloc (by simp) _
  have hx1 := hx.call hB1
  have h1 := h.call hB1
  have hbw : w.heap.size ≤ br := by omega
  go_enter Try.func38, Try.ntmps38
  go_upto_region 1 with fail
  rw [← hw1, ← hbr, ← hb0]
  clear hw1 hb0 hbr
  have c0 := hX1.cell 0
  have c1 := hX1.cell 1
  have c2 := hX1.cell 2
  go_wp2_with fail
  clear c0 c1 c2
  refine (checked_c hx1 h1).mono ?_
  rintro e w2 ⟨rfl, hB2⟩
  have hX2 := hX1.call hB2
  have hR2 := hR1.call hB2
  have hx2 := hx1.call hB2
  have h2 := h1.call hB2
  have hBb := bnx hB1 hB2
  have r0 := hR2.cell 0
  have r1 := hR2.cell 1
  have s0 := hR2.free 0
  have s1 := hR2.free 1
  by_cases hck : bothX x l = 0
  · have hb : (bothX x l != 0) = false := by rw [hck]; rfl
    obtain ⟨hok, hfx⟩ := both_zero hck
    obtain ⟨hf8, hf1, hfo⟩ := furX_facts hfx
    have HCK := Lib.hid hck
    clear hck hfx
    cases hr : (btwB rate 1 9 && (btwB lo 0 30 && btwB hi 0 30)) with
    | false =>
      have HE := Lib.hid (show fineX x l rate lo hi = ((0, 0), 1) by unfold fineX; rw [if_neg (not_not_intro HCK.out), if_pos (fun hh => by rw [hh.1, hh.2.1, hh.2.2] at hr; exact absurd hr (by decide))])
      cases b1 : btwB rate 1 9 with
      | false =>
        go_wp2_with (go_at_call 80; refine (between_c _ _ _ _).mono ?_; rintro e w' ⟨rfl, rfl⟩)
        exact fine_fin hR2 hBb hbw (by rw [HE.out]) (by rw [HE.out]) (by rw [HE.out]) rfl rfl rfl
      | true =>
        cases b2 : btwB lo 0 30 with
        | false =>
          go_wp2_with (go_at_call 80; refine (between_c _ _ _ _).mono ?_; rintro e w' ⟨rfl, rfl⟩)
          exact fine_fin hR2 hBb hbw (by rw [HE.out]) (by rw [HE.out]) (by rw [HE.out]) rfl rfl rfl
        | true =>
          have b3 : btwB hi 0 30 = false := by rw [b1, b2] at hr; simpa using hr
          go_wp2_with (go_at_call 80; refine (between_c _ _ _ _).mono ?_; rintro e w' ⟨rfl, rfl⟩)
          exact fine_fin hR2 hBb hbw (by rw [HE.out]) (by rw [HE.out]) (by rw [HE.out]) rfl rfl rfl
    | true =>
      rw [Bool.and_eq_true, Bool.and_eq_true] at hr
      obtain ⟨b1, b2, b3⟩ := hr
      have hrt := btwB_iff.1 b1
      have hlo := btwB_iff.1 b2
      have hhi := btwB_iff.1 b3
      have HIF := Lib.hid (show ¬ ¬ (btwB rate 1 9 = true ∧ btwB lo 0 30 = true ∧ btwB hi 0 30 = true) from not_not_intro ⟨b1, b2, b3⟩)
      by_cases hord : hi < lo
      · have HE := Lib.hid (show fineX x l rate lo hi = ((0, 0), 5) by unfold fineX; rw [if_neg (not_not_intro HCK.out), if_neg HIF.out, if_pos hord])
        go_wp2_with (go_at_call 80; refine (between_c _ _ _ _).mono ?_; rintro e w' ⟨rfl, rfl⟩)
        exact fine_fin hR2 hBb hbw (by rw [HE.out]) (by rw [HE.out]) (by rw [HE.out]) rfl rfl rfl
      · have c0 := hX2.cell 0
        have c1 := hX2.cell 1
        have c2 := hX2.cell 2
        go_wp2_with (go_at_call 80; refine (between_c _ _ _ _).mono ?_; rintro e w' ⟨rfl, rfl⟩)
        clear c0 c1 c2 r0 r1 s0 s1
        refine (bounds_c hx2 hok).mono ?_
        rintro e w3 ⟨v3, b4, rfl, hB3, (⟨rfl, hbn⟩ | ⟨rfl, s, g, hbs, rfl, hg, hE3⟩)⟩
        · have hR3 := hR2.call hB3
          have HE := Lib.hid (show fineX x l rate lo hi = ((0, 0), 12) by unfold fineX; rw [if_neg (not_not_intro HCK.out), if_neg HIF.out, if_neg (by omega), hbn])
          have r0 := hR3.cell 0
          have r1 := hR3.cell 1
          have s0 := hR3.free 0
          have s1 := hR3.free 1
          go_wp2_with fail
          exact fine_fin hR3 (bnx hBb hB3) hbw (by rw [HE.out]) (by rw [HE.out]) (by rw [HE.out]) rfl rfl rfl
        · have hR3 := hR2.call hB3
          have h3 := h2.call hB3
          obtain ⟨n, hn⟩ : ∃ n, n = x.n := ⟨_, rfl⟩
          have HE := Lib.hid (show fineX x l rate lo hi = ((fineF rate n (fL l s) lo hi, fineF rate n (fM l s) lo hi), 0) by unfold fineX; rw [if_neg (not_not_intro HCK.out), if_neg HIF.out, if_neg (by omega), hbs.eq, hn]; rfl)
          have hn4 : n ≤ 4 := by have := hok.p; unfold Edg.n at hn; omega
          have hsl : s.length = n := by rw [hbs.len, hn]
          have HSL := Lib.hid hsl
          have hreach : ∀ p < n, 0 ≤ gl s p ∧ gl s p ≤ gh s p ∧ gh s p ≤ 9 := fun p hp => bnd_reach hbs (by rw [← hn]; exact hp)
          rw [← hn]
          have hBa := bnx hBb hB3
          clear hn hsl hX1 hX2 hx1 hx2 hB1 hB2 hBb b1 b2 b3 HIF
          obtain ⟨w4, hw4⟩ : ∃ w4, w4 = w3.alloc (.cells #[.int .i64 0, .int .i64 0] 99) := ⟨_, rfl⟩
          obtain ⟨bs, hbs4⟩ : ∃ b, b = w3.heap.size := ⟨_, rfl⟩
          have hS4 : Blk bs #[.int .i64 0, .int .i64 0] 99 w4 := by rw [hw4, hbs4]; exact Blk.new _ _ _
          have hE4 : EB g s w4 := by rw [hw4]; exact Blk.alloc hE3 _
          have hR4 := hR3.alloc (.cells #[.int .i64 0, .int .i64 0] 99)
          have h4 := h3.call ((Below.refl _ w3).alloc (Nat.le_refl _) (.cells #[.int .i64 0, .int .i64 0] 99))
          have hB4 := hBa.alloc hBa.size (.cells #[.int .i64 0, .int .i64 0] 99)
          rw [← hw4] at hR4 h4 hB4
          have hapart : g ≠ bs ∧ br ≠ bs ∧ w.heap.size ≤ bs := by have h1 := Blk.lt hE3; have h2 := hR3.lt; have h3 := hBa.size; omega
          go_upto_region 12 with fail
          rw [← hw4, ← hbs4]
          clear hw4 hbs4 hE3 hR3 h3
          go_wp2_with fail
          go_loopw [16] (fun vy wr => ∃ (y A B : Int), lo ≤ y ∧ y ≤ hi + 1 ∧ vy = .int .i64 y ∧ Hid (A = fineF rate n (fL l s) lo (y - 1)) ∧ Hid (B = fineF rate n (fM l s) lo (y - 1)) ∧ (0 ≤ A ∧ A ≤ 400 * (y - lo)) ∧ (0 ≤ B ∧ B ≤ 400 * (y - lo)) ∧ Blk bs #[.int .i64 A, .int .i64 B] 99 wr ∧ Keep (fun q => q = bs) w4 wr) (fun vy _ => (hi + 1 - intOf vy).toNat)
          case atStart => exact ⟨lo, 0, 0, by omega, by omega, rfl, Lib.hid fineF_none.symm, Lib.hid fineF_none.symm, by omega, by omega, hS4, Keep.refl _ _⟩
          case round =>
            obtain ⟨y, A, B, hy1, hy2, rfl, HA, HB, hA, hB, hS, hK⟩ := hrel
            clear hS4
            by_cases hyl : y ≤ hi
            · go_wp2_with fail
              go_loopw [61] (fun vi wp => ∃ (p : Nat) (C D : Int), p ≤ n ∧ vi = .int .i64 p ∧ Hid (C = A + fineP rate p (fL l s) y) ∧ Hid (D = B + fineP rate p (fM l s) y) ∧ (0 ≤ C ∧ C ≤ 400 * (y - lo) + 100 * p) ∧ (0 ≤ D ∧ D ≤ 400 * (y - lo) + 100 * p) ∧ Blk bs #[.int .i64 C, .int .i64 D] 99 wp ∧ Keep (fun q => q = bs) w4 wp) (fun vi _ => n - (intOf vi).toNat)
              case atStart => exact ⟨0, A, B, Nat.zero_le _, rfl, Lib.hid (by simp [fineP]), Lib.hid (by simp [fineP]), by omega, by omega, hS, hK⟩
              case round =>
                rename World => wp
                obtain ⟨p, C, D, hpn, rfl, HC, HD, hC, hD, hSp, hKp⟩ := hrel
                clear hS hK
                by_cases hlt : p < n
                · have hEr : EB g s wp := Blk.keep hE4 (hKp.block g (Blk.lt hE4) hapart.1)
                  have hps : p < s.length := by rw [HSL.out]; exact hlt
                  obtain ⟨d0, d1⟩ := hEr.cells hps
                  have hrp := hreach p hlt
                  have h5 := h4.step hKp.size (fun k hA hk => hKp.block k hk (by have := hapart.2.2; omega))
                  go_wp2_with fail
                  refine (taken_c h5 hf8 hf1 hfo (by omega) (by omega) (p : Int) y).mono ?_
                  rintro e w6 ⟨rfl, hB6⟩
                  have hS6 := hSp.call hB6
                  have hu := tk_le (p := (p : Int)) (y := y) hfo (n := gl s p) (by omega)
                  have hz := tk_le (p := (p : Int)) (y := y) hfo (n := gh s p) (by omega)
                  have HTE := Lib.hid (show tkE l s p y = (tkF (newG (p : Int) y l) (gl s p), tkF (newG (p : Int) y l) (gh s p)) from rfl)
                  generalize tkF (newG (p : Int) y l) (gl s p) = u at hu HTE ⊢
                  generalize tkF (newG (p : Int) y l) (gh s p) = z at hz HTE ⊢
                  have hm1 : 0 ≤ rate * u ∧ rate * u ≤ 81 := ⟨Int.mul_nonneg (by omega) hu.1, by have := Int.mul_le_mul hrt.2 hu.2 hu.1 (by decide); omega⟩
                  have hm2 : 0 ≤ rate * z ∧ rate * z ≤ 81 := ⟨Int.mul_nonneg (by omega) hz.1, by have := Int.mul_le_mul hrt.2 hz.2 hz.1 (by decide); omega⟩
                  obtain ⟨m1, hm1e⟩ : ∃ m, rate * u = m := ⟨_, rfl⟩
                  obtain ⟨m2, hm2e⟩ : ∃ m, rate * z = m := ⟨_, rfl⟩
                  rw [hm1e] at hm1
                  rw [hm2e] at hm2
                  have i0 := ix0 u z
                  have i1 := ix1 u z
                  go_wp2_with fail
                  refine wp_loop_rounds 3 ?_
                  rw [rounds_succ]
                  have e0 := hS6.cell 0
                  have f0 := hS6.free 0
                  go_wp2_with fail
                  have hS7 := hS6.set 0 (.int .i64 (C + m1))
                  have hK7 : Keep (fun q => q = bs) w6 (w6.setCell ⟨bs, 0, none⟩ (.int .i64 (C + m1))) := Keep.setCell _ _ _ rfl
                  generalize w6.setCell ⟨bs, 0, none⟩ (.int .i64 (C + m1)) = w7 at hS7 hK7 ⊢
                  clear e0 f0
                  rw [rounds_succ]
                  have e1 := hS7.cell 1
                  have f1 := hS7.free 1
                  go_wp2_with fail
                  have hS8 := hS7.set 1 (.int .i64 (D + m2))
                  have hK8 : Keep (fun q => q = bs) w7 (w7.setCell ⟨bs, 1, none⟩ (.int .i64 (D + m2))) := Keep.setCell _ _ _ rfl
                  generalize w7.setCell ⟨bs, 1, none⟩ (.int .i64 (D + m2)) = w8 at hS8 hK8 ⊢
                  clear e1 f1
                  rw [rounds_succ]
                  go_wp2_with fail
                  go_roundw
                  case rel =>
                    refine ⟨p + 1, C + m1, D + m2, by omega, by go_num, Lib.hid ?_, Lib.hid ?_, by omega, by omega, hS8, ((hKp.trans (Keep.call hB6)).trans hK7).trans hK8⟩
                    · rw [fineP_succ, HC.out, ← hm1e, Int.add_assoc]
                      show _ = _ + (_ + rate * (tkE l s p y).1)
                      rw [HTE.out]
                    · rw [fineP_succ, HD.out, ← hm2e, Int.add_assoc]
                      show _ = _ + (_ + rate * (tkE l s p y).2)
                      rw [HTE.out]
                  case measure => simp [intOf]; omega
                · obtain rfl : p = n := by omega
                  go_wp2_with fail
                  go_roundw
                  case rel =>
                    refine ⟨y + 1, C, D, by omega, by omega, by go_num, Lib.hid ?_, Lib.hid ?_, by omega, by omega, hSp, hKp⟩
                    · rw [show y + 1 - 1 = y by omega, fineF_succ hy1, HC.out, HA.out]
                    · rw [show y + 1 - 1 = y by omega, fineF_succ hy1, HD.out, HB.out]
                  case measure => simp [intOf]; omega
            · obtain rfl : y = hi + 1 := by omega
              have hRr := hR4.keep (hK.block br hR4.lt hapart.2.1)
              have e0 := hS.cell 0
              have e1 := hS.cell 1
              have r0 := hRr.cell 0
              have r1 := hRr.cell 1
              have s0 := hRr.free 0
              have s1 := hRr.free 1
              have hBf : Below w.heap.size w wr := hB4.trans ⟨hK.os, hK.tape, hK.output, hK.size, fun q hq => hK.block q (by have := hB4.size; omega) (by omega)⟩
              have ey : hi + 1 - 1 = hi := by omega
              go_wp2_with fail
              exact fine_fin hRr hBf hbw (by rw [HE.out]; show A = fineF rate n (fL l s) lo hi; rw [HA.out, ey]) (by rw [HE.out]; show B = fineF rate n (fM l s) lo hi; rw [HB.out, ey]) (by rw [HE.out]) rfl rfl rfl
  · have hb : (bothX x l != 0) = true := by simpa using hck
    have HE := Lib.hid (show fineX x l rate lo hi = ((0, 0), bothX x l) by unfold fineX; rw [if_pos hck])
    clear hck
    go_wp2_with fail
    exact fine_fin hR2 hBb hbw (by rw [HE.out]) (by rw [HE.out]) (by rw [HE.out]) rfl rfl rfl

end Go.Proofs.Ytgdifckmjdjcpaa
