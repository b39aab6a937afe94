/- The greatest number of heads; a sky and a pasture made of numbers; whether a herd is fed (grass, mestakit, mestatop); conditions: as said. -/
import Derived.Test.YthchpoabncdicaaGrA
import Derived.Test.YthchpoabncdicaaLNext
import Derived.Test.YthchpoabncdicaaLst2
namespace Go.Proofs.Ythchpoabncdicaa
open Go.RowKit

set_option maxRecDepth 100000 in
set_option maxHeartbeats 1000000 in
theorem heads_c {w : World} {p : Pas} {s : Sky} (hp : p.Ok) (hs : s.Ok) :
    Calls Try.prog 104 #[(.agg #[.int .i64 p.grass, .int .i64 p.bears, .int .i64 p.dry, .int .i64 p.wet, .int .i64 p.stub, .int .i64 p.sleep]), (.agg #[.int .i64 s.days, .int .i64 s.drought, .int .i64 s.flood]), .int .i64 0, .int .i64 s.days] w fun e w' => ∃ m : Int, e = .returned (.tuple #[.int .i64 m, .int .i64 0]) ∧ IsHeads p s m ∧ Below w.heap.size w w' := by
  obtain ⟨wq, hwq⟩ : ∃ wq, wq = ((w.alloc (.cells #[.int .i64 p.grass, .int .i64 p.bears, .int .i64 p.dry, .int .i64 p.wet, .int .i64 p.stub, .int .i64 p.sleep] 75)).alloc (.cells #[.int .i64 s.days, .int .i64 s.drought, .int .i64 s.flood] 67)) := ⟨_, rfl⟩
  obtain ⟨b0, hb0⟩ : ∃ b, b = w.heap.size := ⟨_, rfl⟩
  obtain ⟨b1, hb1⟩ : ∃ b, b = w.heap.size + 1 := ⟨_, rfl⟩
  have hPb : Blk b0 #[.int .i64 p.grass, .int .i64 p.bears, .int .i64 p.dry, .int .i64 p.wet, .int .i64 p.stub, .int .i64 p.sleep] 75 wq := by rw [hwq, hb0]; exact (blk_at rfl _ _).alloc _
  have hSb : Blk b1 #[.int .i64 s.days, .int .i64 s.drought, .int .i64 s.flood] 67 wq := by rw [hwq, hb1]; exact blk_at (by simp) _ _
  have hBq : Below w.heap.size w wq := by rw [hwq]; exact ((Below.refl _ w).alloc (Nat.le_refl _) _).alloc (by simp) _
  have hd := hs.d
  go_enter Try.func104, Try.ntmps104
  go_upto_region 1 with fail
  rw [← hwq, ← hb1, ← hb0]
  clear hwq hb1 hb0
  refine wp_region_mix2 (.one 0 (.one 2 (.act 1 (.act 3 (.act 4 (.act 5 (.pur 6 .fin))))))) 99 (fun w' => Blk b0 #[.int .i64 p.grass, .int .i64 p.bears, .int .i64 p.dry, .int .i64 p.wet, .int .i64 p.stub, .int .i64 p.sleep] 75 w' ∧ Blk b1 #[.int .i64 s.days, .int .i64 s.drought, .int .i64 s.flood] 67 w') (fun _ => True) (by kernel_rfl) (by kernel_rfl) rfl (by kernel_rfl) ⟨hPb.call (((Qt.refl wq).drewN 1).below _), hSb.call (((Qt.refl wq).drewN 1).below _)⟩ (fun wd hqd _ => ?_)
  refine mix_load2 rfl rfl rfl (.agg #[.int .i64 p.grass, .int .i64 p.bears, .int .i64 p.dry, .int .i64 p.wet, .int .i64 p.stub, .int .i64 p.sleep]) (fun w' h => by have h : (fun w' => Blk b0 #[.int .i64 p.grass, .int .i64 p.bears, .int .i64 p.dry, .int .i64 p.wet, .int .i64 p.stub, .int .i64 p.sleep] 75 w' ∧ Blk b1 #[.int .i64 s.days, .int .i64 s.drought, .int .i64 s.flood] 67 w') w' := h; have h0 := h.1.cell 0; have h1 := h.1.cell 1; have h2 := h.1.cell 2; have h3 := h.1.cell 3; have h4 := h.1.cell 4; have h5 := h.1.cell 5; go_simp) rfl ?_
  refine mix_load2 rfl rfl rfl (.agg #[.int .i64 s.days, .int .i64 s.drought, .int .i64 s.flood]) (fun w' h => by have h : (fun w' => Blk b0 #[.int .i64 p.grass, .int .i64 p.bears, .int .i64 p.dry, .int .i64 p.wet, .int .i64 p.stub, .int .i64 p.sleep] 75 w' ∧ Blk b1 #[.int .i64 s.days, .int .i64 s.drought, .int .i64 s.flood] 67 w') w' := h; have h0 := h.2.cell 0; have h1 := h.2.cell 1; have h2 := h.2.cell 2; go_simp) rfl ?_
  refine mix_eff2 rfl false rfl (fun K hK => ?_)
  go_simp
  refine (gcheck_c hp _).mono ?_
  rintro e w3 ⟨rfl, hB3⟩
  have hB3 := bnx (hqd.below wq.heap.size) hB3
  refine hK _ _ ⟨hPb.call hB3, hSb.call hB3⟩ ?_
  clear hK K
  refine mix_eff2 rfl false rfl (fun K hK => ?_)
  go_simp
  refine (gsky_c hs _).mono ?_
  rintro e w4 ⟨rfl, hB4⟩
  have hB4 := bnx hB3 hB4
  refine hK _ _ ⟨hPb.call hB4, hSb.call hB4⟩ ?_
  clear hK K
  refine mix_eff2 rfl false rfl (fun K hK => ?_)
  go_simp
  have hB5 := bnx hB4 ((Below.refl w4.heap.size w4).alloc (Nat.le_refl _) (.cells #[.int .i64 0, .int .i64 0] 37))
  have hL5 : Ints (fun k => k = w4.heap.size) (w4.alloc (.cells #[.int .i64 0, .int .i64 0] 37)) (.slice (some ⟨w4.heap.size, 0, none⟩) 2 2) [0, 0] := ⟨_, 2, rfl, by decide, ⟨by unfold maxLen; omega, by simp⟩, .inr ⟨_, 0, rfl, rfl, by simp, fun j u hj => by
    rw [Nat.zero_add]
    have hb := Blk.new w4 #[.int .i64 0, .int .i64 0] 37
    rw [hb.cell j]
    rcases j with _ | _ | j
    · simpa [I64] using hj
    · simpa [I64] using hj
    · simp [I64] at hj⟩⟩
  refine hK _ _ ⟨hPb.call hB5, hSb.call hB5⟩ ?_
  clear hK K
  generalize w4.alloc (.cells #[.int .i64 0, .int .i64 0] 37) = w5 at hB5 hL5 ⊢
  refine mix_eff2 rfl false rfl (fun K hK => ?_)
  go_simp
  refine (gfirst_c hL5).mono ?_
  rintro e w6 ⟨rfl, hq6⟩
  have hB6 := bnx hB5 (hq6.below _)
  refine hK _ _ ⟨hPb.call hB6, hSb.call hB6⟩ ?_
  clear hK K
  refine mix_pur2 rfl (fun K hK => ?_)
  go_simp
  first | refine ⟨_, fun _ => rfl, hK _ ?_⟩ | refine hK _ ?_
  clear hK K
  refine mix_done2 ?_
  have hSb6 := hSb.call hB6
  have hPb6 := hPb.call hB6
  have hBw := bnx hBq hB6
  clear hPb hSb hBq hB3 hB4 hB5 hL5
  have c0 := hSb6.cell 0
  have bw1 : IntKind.i64.wrap (s.days - 1) = s.days - 1 := IntWalk.i64_in _ (by omega)
  have bw2 : IntKind.i64.wrap s.days = s.days := IntWalk.i64_in _ (by omega)
  go_wp2_with (go_at_call 136; refine (gbetween_t (by omega) _).mono ?_; rintro e w' ⟨rfl, rfl⟩)
  clear c0
  go_loopw [11] (fun i wr => ∃ m : Int, i = .int .i64 m ∧ (0 ≤ m ∧ m ≤ 40) ∧ (∀ h, m < h → h ≤ 40 → fedAll p s h = false) ∧ Below w6.heap.size w6 wr) (fun i _ => (intOf i).toNat)
  case atStart => exact ⟨40, rfl, by omega, fun h h1 h2 => by omega, Below.refl _ _⟩
  case round =>
    obtain ⟨m, rfl, hm, hno, hB⟩ := hrel
    have HNO := Lib.hid hno
    clear hno
    have hPr := hPb6.call hB
    have hSr := hSb6.call hB
    by_cases hm0 : m > 0
    · have bm : decide (m > 0) = true := decide_eq_true hm0
      have c0 := hPr.cell 0
      have c1 := hPr.cell 1
      have c2 := hPr.cell 2
      have c3 := hPr.cell 3
      have c4 := hPr.cell 4
      have c5 := hPr.cell 5
      have d0 := hSr.cell 0
      have d1 := hSr.cell 1
      have d2 := hSr.cell 2
      have bw3 : IntKind.i64.wrap (m - 1) = m - 1 := IntWalk.i64_in _ (by omega)
      have hst := stay_c (w := wr) hp hs (nh := m) (by omega)
      have HST := Lib.hid hst
      obtain ⟨fd, hfd⟩ : ∃ fd, fd = fedAll p s m := ⟨_, rfl⟩
      rw [← hfd] at HST
      have HFD := Lib.hid hfd
      clear hst hfd
      cases fd with
      | true =>
        go_wp2_with (go_at_call 137; refine HST.out.mono ?_; rintro e w8 ⟨rfl, hB8⟩)
        go_ret2
        exact ⟨m, rfl, ⟨hm, .inr HFD.out.symm, HNO.out⟩, bnx hBw (bnx hB hB8)⟩
      | false =>
        go_wp2_with (go_at_call 137; refine HST.out.mono ?_; rintro e w8 ⟨rfl, hB8⟩)
        go_roundw
        case rel =>
          refine ⟨m - 1, rfl, by omega, fun h h1 h2 => ?_, bnx hB hB8⟩
          by_cases e : h = m
          · rw [e]; exact HFD.out.symm
          · exact HNO.out h (by omega) h2
        case measure => simp [intOf]; omega
    · have bm : decide (m > 0) = false := decide_eq_false hm0
      obtain rfl : m = 0 := by omega
      go_wp2_with fail
      go_ret2
      exact ⟨0, rfl, ⟨by omega, .inl rfl, HNO.out⟩, bnx hBw hB⟩

end Go.Proofs.Ythchpoabncdicaa

namespace Go.Proofs.Ythchpoabncdicaa
open Go.RowKit

set_option maxRecDepth 100000 in
set_option maxHeartbeats 1000000 in
theorem sky_c {w : World} {hb k : Nat} (h : Hnd w hb k) (hk : k < 800000) (most : Int) (hm : 1 ≤ most ∧ most ≤ 8) :
    Calls Try.prog 102 #[.pointer (some ⟨hb, 0, none⟩), .int .i64 most] w fun e w' => ∃ s : Sky, e = .returned (.agg #[.int .i64 s.days, .int .i64 s.drought, .int .i64 s.flood]) ∧ s.Ok ∧ (∃ k', k' ≤ k + 3 ∧ Hnd w' hb k') ∧ w.grownBy w' (some hb) := by
  have hlt := h.lt
  have hR0 : Blk w.heap.size #[.int .i64 0, .int .i64 0, .int .i64 0] 67 (w.alloc (.cells #[.int .i64 0, .int .i64 0, .int .i64 0] 67)) := Blk.new w _ _
  have hB0 : Below w.heap.size w (w.alloc (.cells #[.int .i64 0, .int .i64 0, .int .i64 0] 67)) := (Below.refl _ w).alloc (Nat.le_refl _) _
  have hl0 : w.heap.size < (w.alloc (.cells #[.int .i64 0, .int .i64 0, .int .i64 0] 67)).heap.size := by simp
  obtain ⟨rb, hrb⟩ : ∃ b, b = w.heap.size := ⟨_, rfl⟩
  go_enter Try.func102, Try.ntmps102
  go_wp2_with fail
  rw [← hrb] at hR0 hl0 ⊢
  have hrl1 : w.heap.size ≤ rb := by omega
  have hrl2 : rb ≤ w.heap.size := by omega
  clear hrb
  refine (among_c (h.call hB0) (by omega) 1 most (by omega) (by omega) (by omega) (by omega)).mono ?_
  rintro e w1 ⟨⟨d, rfl, hd1, hd2⟩, ⟨k1, hk1, hH1⟩, hG1⟩
  have hR1 := hR0.hand hG1 (by omega)
  have hG1' := only_trans (only_below hB0) hG1
  have hz1 := hG1.size
  clear hR0 h hB0 hG1
  go_upto_region 2 with fail
  obtain ⟨w3, hw3⟩ : ∃ w3, w3 = w1.alloc (.cells #[.int .i64 d, .int .i64 0, .int .i64 0] 67) := ⟨_, rfl⟩
  obtain ⟨cb, hcb⟩ : ∃ b, b = w1.heap.size := ⟨_, rfl⟩
  have hC3 : Blk cb #[.int .i64 d, .int .i64 0, .int .i64 0] 67 w3 := by rw [hw3, hcb]; exact blk_at rfl _ _
  have hB3 : Below w1.heap.size w1 w3 := by rw [hw3]; exact (Below.refl _ w1).alloc (Nat.le_refl _) _
  rw [← hw3, ← hcb]
  have hH3 := hH1.call hB3
  have hR3 := hR1.call hB3
  have hG3 := only_trans hG1' (only_below hB3)
  have hrc : rb < cb := by rw [hcb]; exact hR1.lt
  have hhr : hb < rb := by omega
  clear hw3 hcb hB3 hH1 hR1 hG1' hl0 hz1
  refine wp_region_mix2 (.pur 0 (.pur 1 (.one 2 (.pur 4 (.pur 5 (.one 6 (.act 3 (.pur 8 (.act 7 (.act 9 (.pur 10 (.act 11 .fin)))))))))))) 9 (fun w' => Blk cb #[.int .i64 d, .int .i64 0, .int .i64 0] 67 w') (fun _ => True) (by kernel_rfl) (by kernel_rfl) rfl (by kernel_rfl) (hC3.call (((Qt.refl w3).drewN 1).below _)) (fun wd hqd _ => ?_)
  refine mix_pur2 rfl (fun K hK => ?_)
  go_simp
  first | refine ⟨_, fun _ => rfl, hK _ ?_⟩ | refine hK _ ?_
  clear hK K
  refine mix_pur2 rfl (fun K hK => ?_)
  go_simp
  first | refine ⟨_, fun _ => rfl, hK _ ?_⟩ | refine hK _ ?_
  clear hK K
  refine mix_load2 rfl rfl rfl (.int .i64 d) (fun w' h => by have h : (fun w' => Blk cb #[.int .i64 d, .int .i64 0, .int .i64 0] 67 w') w' := h; have h0 := h.cell 0; go_simp) rfl ?_
  refine mix_pur2 rfl (fun K hK => ?_)
  go_simp
  first | refine ⟨_, fun _ => rfl, hK _ ?_⟩ | refine hK _ ?_
  clear hK K
  refine mix_pur2 rfl (fun K hK => ?_)
  go_simp
  first | refine ⟨_, fun _ => rfl, hK _ ?_⟩ | refine hK _ ?_
  clear hK K
  refine mix_load2 rfl rfl rfl (.int .i64 d) (fun w' h => by have h : (fun w' => Blk cb #[.int .i64 d, .int .i64 0, .int .i64 0] 67 w') w' := h; have h0 := h.cell 0; go_simp) rfl ?_
  refine mix_eff2 rfl false rfl (fun K hK => ?_)
  go_simp
  refine (among_c (hH3.call (hqd.below _)) (by omega) 1 d (by omega) (by omega) (by omega) (by omega)).mono ?_
  rintro e w4 ⟨⟨u, rfl, hu1, hu2⟩, ⟨k4, hk4, hH4⟩, hG4⟩
  have hC4 := (hC3.call (hqd.below _)).hand hG4 (by omega)
  refine hK _ _ hC4 ?_
  clear hK K
  refine mix_pur2 rfl (fun K hK => ?_)
  go_simp
  first | refine ⟨_, fun _ => rfl, hK _ ?_⟩ | refine hK _ ?_
  clear hK K
  refine mix_eff2 rfl false rfl (fun K hK => ?_)
  go_simp
  refine (among_c hH4 (by omega) 1 d (by omega) (by omega) (by omega) (by omega)).mono ?_
  rintro e w5 ⟨⟨v, rfl, hv1, hv2⟩, ⟨k5, hk5, hH5⟩, hG5⟩
  have hC5 := hC4.hand hG5 (by omega)
  refine hK _ _ hC5 ?_
  clear hK K
  refine mix_eff2 rfl true rfl (fun K hK => ?_)
  have y0 := hC5.cell 1
  have y1 := hC5.free 1
  go_simp
  refine hK _ _ trivial ?_
  clear hK K y0 y1
  refine mix_pur2 rfl (fun K hK => ?_)
  go_simp
  first | refine ⟨_, fun _ => rfl, hK _ ?_⟩ | refine hK _ ?_
  clear hK K
  refine mix_eff2 rfl true rfl (fun K hK => ?_)
  have hC6 : Blk cb #[.int .i64 d, .int .i64 u, .int .i64 0] 67 (w5.setCell ⟨cb, 1, none⟩ (.int .i64 u)) := by simpa using hC5.set 1 (.int .i64 u)
  have y0 := hC6.cell 2
  have y1 := hC6.free 2
  go_simp
  refine hK _ _ trivial ?_
  clear hK K y0 y1
  refine mix_done2 ?_
  have hR5 := ((hR3.call (hqd.below _)).hand hG4 (by omega)).hand hG5 (by omega)
  have hC7 : Blk cb #[.int .i64 d, .int .i64 u, .int .i64 v] 67 ((w5.setCell ⟨cb, 1, none⟩ (.int .i64 u)).setCell ⟨cb, 2, none⟩ (.int .i64 v)) := by simpa using hC6.set 2 (.int .i64 v)
  have hR7 := (hR5.other (a := ⟨cb, 1, none⟩) (by simp; omega) (.int .i64 u)).other (a := ⟨cb, 2, none⟩) (by simp; omega) (.int .i64 v)
  have hG7 : w.grownBy ((w5.setCell ⟨cb, 1, none⟩ (.int .i64 u)).setCell ⟨cb, 2, none⟩ (.int .i64 v)) (some hb) :=
    only_setCell (only_setCell (only_trans (only_trans (only_trans hG3 (only_below (hqd.below _))) hG4) hG5) (show w.heap.size ≤ cb by omega) _) (show w.heap.size ≤ cb by omega) _
  have hH7 : Hnd ((w5.setCell ⟨cb, 1, none⟩ (.int .i64 u)).setCell ⟨cb, 2, none⟩ (.int .i64 v)) hb k5 := (hH5.setCell (by show hb < cb; omega) _).setCell (by show hb < cb; omega) _
  generalize ((w5.setCell ⟨cb, 1, none⟩ (.int .i64 u)).setCell ⟨cb, 2, none⟩ (.int .i64 v)) = w7 at *
  clear hC6 hC5 hC4 hC3 hR5 hR3 hH5 hH4 hH3 hG3 hG4 hG5 hqd
  have c0 := hC7.cell 0
  have c1 := hC7.cell 1
  have c2 := hC7.cell 2
  have d0 := hR7.cell 0
  have d1 := hR7.cell 1
  have d2 := hR7.cell 2
  have f0 := hR7.free 0
  have f1 := hR7.free 1
  have f2 := hR7.free 2
  go_wp2
  have hR9 : Blk rb #[.int .i64 d, .int .i64 u, .int .i64 v] 67 (((w7.setCell ⟨rb, 0, none⟩ (.int .i64 d)).setCell ⟨rb, 1, none⟩ (.int .i64 u)).setCell ⟨rb, 2, none⟩ (.int .i64 v)) := by simpa using ((hR7.set 0 (.int .i64 d)).set 1 (.int .i64 u)).set 2 (.int .i64 v)
  have hG9 : w.grownBy (((w7.setCell ⟨rb, 0, none⟩ (.int .i64 d)).setCell ⟨rb, 1, none⟩ (.int .i64 u)).setCell ⟨rb, 2, none⟩ (.int .i64 v)) (some hb) := only_setCell (only_setCell (only_setCell hG7 hrl1 _) hrl1 _) hrl1 _
  have hH9 : Hnd (((w7.setCell ⟨rb, 0, none⟩ (.int .i64 d)).setCell ⟨rb, 1, none⟩ (.int .i64 u)).setCell ⟨rb, 2, none⟩ (.int .i64 v)) hb k5 := ((hH7.setCell hhr _).setCell hhr _).setCell hhr _
  generalize (((w7.setCell ⟨rb, 0, none⟩ (.int .i64 d)).setCell ⟨rb, 1, none⟩ (.int .i64 u)).setCell ⟨rb, 2, none⟩ (.int .i64 v)) = w9 at hR9 hG9 hH9 ⊢
  have e0 := hR9.cell 0
  have e1 := hR9.cell 1
  have e2 := hR9.cell 2
  exact bodyPost_ret (v := .agg #[.int .i64 d, .int .i64 u, .int .i64 v]) (by simp [results, Try.results102, go_sem, e0, e1, e2]) rfl ⟨⟨d, u, v⟩, rfl, ⟨by show 1 ≤ d ∧ d ≤ 8; omega, by show 1 ≤ u ∧ u ≤ d; omega, by show 1 ≤ v ∧ v ≤ d; omega⟩, ⟨k5, by omega, hH9⟩, hG9⟩

end Go.Proofs.Ythchpoabncdicaa

namespace Go.Proofs.Ythchpoabncdicaa
open Go.RowKit

/-- A pasture in the making. -/
structure PM (w : World) (hb rb cb : Nat) (cells : Array Value) (K : Nat) (w' : World) : Prop where
  c : Blk cb cells 75 w'
  r : Blk rb #[.int .i64 0, .int .i64 0, .int .i64 0, .int .i64 0, .int .i64 0, .int .i64 0] 75 w'
  h : ∃ k, k ≤ K ∧ Hnd w' hb k
  g : w.grownBy w' (some hb)
  hr : hb < rb
  rc : rb < cb
  wr : w.heap.size ≤ rb
theorem PM.below {w : World} {hb rb cb : Nat} {cells : Array Value} {K : Nat} {a b : World} (h : PM w hb rb cb cells K a) (hB : Below a.heap.size a b) : PM w hb rb cb cells K b := by
  obtain ⟨k, hk, hH⟩ := h.h
  exact ⟨h.c.call hB, h.r.call hB, ⟨k, hk, hH.call hB⟩, only_trans h.g (only_below hB), h.hr, h.rc, h.wr⟩
theorem PM.up {w : World} {hb rb cb : Nat} {cells : Array Value} {K K' : Nat} {a : World} (h : PM w hb rb cb cells K a) (hK : K ≤ K') : PM w hb rb cb cells K' a := by
  obtain ⟨k, hk, hH⟩ := h.h
  exact ⟨h.c, h.r, ⟨k, by omega, hH⟩, h.g, h.hr, h.rc, h.wr⟩
theorem PM.dealt {w : World} {hb rb cb : Nat} {cells : Array Value} {K K' k : Nat} {a b : World} (h : PM w hb rb cb cells K a) (hG : a.grownBy b (some hb)) (hH : Hnd b hb k) (hk : k ≤ K') : PM w hb rb cb cells K' b :=
  ⟨h.c.hand hG (by have := h.hr; have := h.rc; omega), h.r.hand hG (by have := h.hr; omega), ⟨k, hk, hH⟩, only_trans h.g hG, h.hr, h.rc, h.wr⟩
theorem PM.hlt {w : World} {hb rb cb : Nat} {cells : Array Value} {K : Nat} {a : World} (h : PM w hb rb cb cells K a) : hb < a.heap.size := by
  obtain ⟨k, hk, hH⟩ := h.h
  exact hH.lt
theorem PM.set {w : World} {hb rb cb : Nat} {cells : Array Value} {K : Nat} {a : World} (h : PM w hb rb cb cells K a) (i : Nat) (v : Value) : PM w hb rb cb (cells.setIfInBounds i v) K (a.setCell ⟨cb, i, none⟩ v) := by
  obtain ⟨k, hk, hH⟩ := h.h
  have h1 := h.hr
  have h2 := h.rc
  have h3 := h.wr
  exact ⟨h.c.set i v, h.r.other (a := ⟨cb, i, none⟩) (by simp; omega) v, ⟨k, hk, hH.setCell (by show hb < cb; omega) _⟩, only_setCell h.g (show w.heap.size ≤ cb by omega) _, h1, h2, h3⟩

theorem plit2 (w : World) (a b : Int) : Ints (fun k => w.heap.size ≤ k) (w.alloc (.cells #[.int .i64 a, .int .i64 b] 3)) (.slice (some ⟨w.heap.size, 0, none⟩) 2 2) [a, b] := Own.ints (own_lit w 3 1 #[.int .i64 a, .int .i64 b] 2 rfl (by omega))
theorem plit3 (w : World) (a b c : Int) : Ints (fun k => w.heap.size ≤ k) (w.alloc (.cells #[.int .i64 a, .int .i64 b, .int .i64 c] 3)) (.slice (some ⟨w.heap.size, 0, none⟩) 3 3) [a, b, c] := Own.ints (own_lit w 3 1 #[.int .i64 a, .int .i64 b, .int .i64 c] 3 rfl (by omega))
theorem plit4 (w : World) (a b c d : Int) : Ints (fun k => w.heap.size ≤ k) (w.alloc (.cells #[.int .i64 a, .int .i64 b, .int .i64 c, .int .i64 d] 3)) (.slice (some ⟨w.heap.size, 0, none⟩) 4 4) [a, b, c, d] := Own.ints (own_lit w 3 1 #[.int .i64 a, .int .i64 b, .int .i64 c, .int .i64 d] 4 rfl (by omega))

set_option maxRecDepth 100000 in
set_option maxHeartbeats 2000000 in
theorem pasture_c {w : World} {hb k : Nat} (h : Hnd w hb k) (hk : k < 800000) :
    Calls Try.prog 103 #[.pointer (some ⟨hb, 0, none⟩)] w fun e w' => ∃ p : Pas, e = .returned (.agg #[.int .i64 p.grass, .int .i64 p.bears, .int .i64 p.dry, .int .i64 p.wet, .int .i64 p.stub, .int .i64 p.sleep]) ∧ p.Ok ∧ (∃ k', k' ≤ k + 20 ∧ Hnd w' hb k') ∧ w.grownBy w' (some hb) := by
  have hlt := h.lt
  have hR0 : Blk w.heap.size #[.int .i64 0, .int .i64 0, .int .i64 0, .int .i64 0, .int .i64 0, .int .i64 0] 75 (w.alloc (.cells #[.int .i64 0, .int .i64 0, .int .i64 0, .int .i64 0, .int .i64 0, .int .i64 0] 75)) := Blk.new w _ _
  have hB0 : Below w.heap.size w (w.alloc (.cells #[.int .i64 0, .int .i64 0, .int .i64 0, .int .i64 0, .int .i64 0, .int .i64 0] 75)) := (Below.refl _ w).alloc (Nat.le_refl _) _
  obtain ⟨rb, hrb⟩ : ∃ b, b = w.heap.size := ⟨_, rfl⟩
  go_enter Try.func103, Try.ntmps103
  go_wp2_with fail
  rw [← hrb] at hR0 ⊢
  have hrl1 : w.heap.size ≤ rb := by omega
  have hrl2 : rb ≤ w.heap.size := by omega
  clear hrb
  refine (among_c (h.call hB0) (by omega) 3 30 (by omega) (by omega) (by omega) (by omega)).mono ?_
  rintro e w1 ⟨⟨B, rfl, hB1, hB2⟩, ⟨k1, hk1, hH1⟩, hG1⟩
  have hR1 := hR0.hand hG1 (by omega)
  have hT1 := only_trans (only_below hB0) hG1
  clear hR0 h hB0 hG1
  have hl2 := plit3 w1 1 1 2
  have hA2 := (Below.refl w1.heap.size w1).alloc (Nat.le_refl _) (.cells #[.int .i64 1, .int .i64 1, .int .i64 2] 3)
  have hlt1 := hH1.lt
  go_wp2_with fail
  refine (of_c (hH1.call hA2) (by omega) 0 hl2 (by omega) (by simp)).mono ?_
  rintro e w3 ⟨⟨D, rfl, hD⟩, ⟨k3, hk3, hH3⟩, hG3⟩
  have hR3 := (hR1.call hA2).hand hG3 (by omega)
  have hT3 := only_trans (only_trans hT1 (only_below hA2)) hG3
  have hD' : 0 ≤ D ∧ D ≤ 2 := by simp only [List.mem_cons, List.not_mem_nil, or_false] at hD; omega
  clear hR1 hT1 hl2 hA2 hH1 hG3 hD hlt1
  go_wp2_with fail
  refine (upto_c hH3 (by omega) 5 (by omega) (by omega)).mono ?_
  rintro e w4 ⟨⟨z, rfl, hz1, hz2⟩, ⟨k4, hk4, hH4⟩, hG4⟩
  have hR4 := hR3.hand hG4 (by omega)
  have hT4 := only_trans hT3 hG4
  clear hR3 hT3 hH3 hG4
  have hl5 := plit3 w4 1 2 z
  have hA5 := (Below.refl w4.heap.size w4).alloc (Nat.le_refl _) (.cells #[.int .i64 1, .int .i64 2, .int .i64 z] 3)
  have hlt4 := hH4.lt
  go_wp2_with fail
  refine (of_c (hH4.call hA5) (by omega) 0 hl5 (by omega) (by simp)).mono ?_
  rintro e w6 ⟨⟨L, rfl, hL⟩, ⟨k6, hk6, hH6⟩, hG6⟩
  have hR6 := (hR4.call hA5).hand hG6 (by omega)
  have hT6 := only_trans (only_trans hT4 (only_below hA5)) hG6
  have hL' : 0 ≤ L ∧ L ≤ 5 := by simp only [List.mem_cons, List.not_mem_nil, or_false] at hL; omega
  clear hR4 hT4 hl5 hA5 hH4 hG6 hL hlt4 hz1 hz2
  go_upto_region 2 with fail
  obtain ⟨wa, hwa⟩ : ∃ wa, wa = w6.alloc (.cells #[.int .i64 0, .int .i64 B, .int .i64 D, .int .i64 0, .int .i64 0, .int .i64 L] 75) := ⟨_, rfl⟩
  obtain ⟨cb, hcb⟩ : ∃ b, b = w6.heap.size := ⟨_, rfl⟩
  have hC : Blk cb #[.int .i64 0, .int .i64 B, .int .i64 D, .int .i64 0, .int .i64 0, .int .i64 L] 75 wa := by rw [hwa, hcb]; exact blk_at rfl _ _
  have hBa : Below w6.heap.size w6 wa := by rw [hwa]; exact (Below.refl _ w6).alloc (Nat.le_refl _) _
  have hP : PM w hb rb cb #[.int .i64 0, .int .i64 B, .int .i64 D, .int .i64 0, .int .i64 0, .int .i64 L] (k + 5) wa := ⟨hC, hR6.call hBa, ⟨k6, by omega, hH6.call hBa⟩, only_trans hT6 (only_below hBa), by omega, by rw [hcb]; exact hR6.lt, hrl1⟩
  rw [← hwa, ← hcb]
  clear hwa hcb hC hBa hR6 hT6 hH6
  have hq2 : 0 ≤ B.tdiv 2 ∧ B.tdiv 2 ≤ B := by rw [Int.tdiv_eq_ediv_of_nonneg (by omega)]; omega
  have bq : IntKind.i64.wrap (B.tdiv 2) = B.tdiv 2 := IntWalk.i64_in _ (by omega)
  refine wp_region_mix2 (.pur 0 (.pur 1 (.one 2 (.pur 3 (.pur 4 (.one 5 (.pur 7 (.pur 8 (.one 9 (.pur 10 (.pur 11 (.one 12 (.act 6 (.act 13 (.act 14 (.act 15 (.pur 16 (.act 17 .fin)))))))))))))))))) 17 (fun w' => PM w hb rb cb #[.int .i64 0, .int .i64 B, .int .i64 D, .int .i64 0, .int .i64 0, .int .i64 L] (k + 20) w') (fun _ => True) (by kernel_rfl) (by kernel_rfl) rfl (by kernel_rfl) ((hP.below (((Qt.refl wa).drewN 1).below _)).up (by omega)) (fun wd hqd _ => ?_)
  refine mix_pur2 rfl (fun K hK => ?_)
  go_simp
  first | refine ⟨_, fun _ => rfl, hK _ ?_⟩ | refine hK _ ?_
  clear hK K
  refine mix_pur2 rfl (fun K hK => ?_)
  go_simp
  first | refine ⟨_, fun _ => rfl, hK _ ?_⟩ | refine hK _ ?_
  clear hK K
  refine mix_load2 rfl rfl rfl (.int .i64 B) (fun w' h => by have h : (fun w' => PM w hb rb cb #[.int .i64 0, .int .i64 B, .int .i64 D, .int .i64 0, .int .i64 0, .int .i64 L] (k + 20) w') w' := h; have h0 := h.c.cell 1; go_simp) rfl ?_
  refine mix_pur2 rfl (fun K hK => ?_)
  go_simp
  first | refine ⟨_, fun _ => rfl, hK _ ?_⟩ | refine hK _ ?_
  clear hK K
  refine mix_pur2 rfl (fun K hK => ?_)
  go_simp
  first | refine ⟨_, fun _ => rfl, hK _ ?_⟩ | refine hK _ ?_
  clear hK K
  refine mix_load2 rfl rfl rfl (.int .i64 B) (fun w' h => by have h : (fun w' => PM w hb rb cb #[.int .i64 0, .int .i64 B, .int .i64 D, .int .i64 0, .int .i64 0, .int .i64 L] (k + 20) w') w' := h; have h0 := h.c.cell 1; go_simp) rfl ?_
  refine mix_pur2 rfl (fun K hK => ?_)
  go_simp
  first | refine ⟨_, fun _ => rfl, hK _ ?_⟩ | refine hK _ ?_
  clear hK K
  refine mix_pur2 rfl (fun K hK => ?_)
  go_simp
  first | refine ⟨_, fun _ => rfl, hK _ ?_⟩ | refine hK _ ?_
  clear hK K
  refine mix_load2 rfl rfl rfl (.int .i64 B) (fun w' h => by have h : (fun w' => PM w hb rb cb #[.int .i64 0, .int .i64 B, .int .i64 D, .int .i64 0, .int .i64 0, .int .i64 L] (k + 20) w') w' := h; have h0 := h.c.cell 1; go_simp) rfl ?_
  refine mix_pur2 rfl (fun K hK => ?_)
  go_simp
  first | refine ⟨_, fun _ => rfl, hK _ ?_⟩ | refine hK _ ?_
  clear hK K
  refine mix_pur2 rfl (fun K hK => ?_)
  go_simp
  first | refine ⟨_, fun _ => rfl, hK _ ?_⟩ | refine hK _ ?_
  clear hK K
  refine mix_load2 rfl rfl rfl (.int .i64 B) (fun w' h => by have h : (fun w' => PM w hb rb cb #[.int .i64 0, .int .i64 B, .int .i64 D, .int .i64 0, .int .i64 0, .int .i64 L] (k + 20) w') w' := h; have h0 := h.c.cell 1; go_simp) rfl ?_
  refine mix_eff2 rfl false rfl (fun K hK => ?_)
  have hP5 := hP.below (hqd.below _)
  go_simp
  obtain ⟨q6, hq6, hH6⟩ := hP5.h
  refine (upto_c hH6 (by omega) B (by omega) (by omega)).mono ?_
  rintro e y6 ⟨⟨u, rfl, hu⟩, ⟨r6, hr6, hI6⟩, hG6⟩
  have hP6 := hP5.dealt hG6 hI6 (by omega : r6 ≤ (k + 6))
  refine hK _ _ (hP6.up (by omega)) ?_
  clear hK K
  refine mix_eff2 rfl false rfl (fun K hK => ?_)
  go_simp
  obtain ⟨q13, hq13, hH13⟩ := hP6.h
  refine (among_c hH13 (by omega) (B.tdiv 2) B (by omega) (by omega) (by omega) (by omega)).mono ?_
  rintro e y13 ⟨⟨v, rfl, hv⟩, ⟨r13, hr13, hI13⟩, hG13⟩
  have hP13 := hP6.dealt hG13 hI13 (by omega : r13 ≤ (k + 7))
  refine hK _ _ (hP13.up (by omega)) ?_
  clear hK K
  refine mix_eff2 rfl false rfl (fun K hK => ?_)
  go_simp
  have hB14 := (Below.refl y13.heap.size y13).alloc (Nat.le_refl _) (.cells #[.int .i64 u, .int .i64 v] 3)
  have hP14 := hP13.below hB14
  have hl14 := plit2 y13 (u) (v)
  have hlt14 := hP13.hlt
  refine hK _ _ (hP14.up (by omega)) ?_
  clear hK K
  generalize y13.alloc (.cells #[.int .i64 u, .int .i64 v] 3) = y14 at hP14 hl14 ⊢
  refine mix_eff2 rfl false rfl (fun K hK => ?_)
  go_simp
  obtain ⟨q15, hq15, hH15⟩ := hP14.h
  refine (of_c hH15 (by omega) B hl14 (by omega) (by simp)).mono ?_
  rintro e y15 ⟨⟨G, rfl, hG⟩, ⟨r15, hr15, hI15⟩, hG15⟩
  have hP15 := hP14.dealt hG15 hI15 (by omega : r15 ≤ (k + 8))
  refine hK _ _ (hP15.up (by omega)) ?_
  clear hK K
  refine mix_pur2 rfl (fun K hK => ?_)
  go_simp
  first | refine ⟨_, fun _ => rfl, hK _ ?_⟩ | refine hK _ ?_
  clear hK K
  refine mix_eff2 rfl true rfl (fun K hK => ?_)
  have y0 := hP15.c.cell 0
  have y1 := hP15.c.free 0
  go_simp
  refine hK _ _ trivial ?_
  clear hK K y0 y1
  refine mix_done2 ?_
  have hG' : 0 ≤ G ∧ G ≤ B := by simp only [List.mem_cons, List.not_mem_nil, or_false] at hG; omega
  have hPb : PM w hb rb cb #[.int .i64 G, .int .i64 B, .int .i64 D, .int .i64 0, .int .i64 0, .int .i64 L] (k + 8) (y15.setCell ⟨cb, 0, none⟩ (.int .i64 G)) := by simpa using hP15.set 0 (.int .i64 G)
  generalize y15.setCell ⟨cb, 0, none⟩ (.int .i64 G) = wb at hPb ⊢
  clear hP15 hP14 hP13 hP6 hP5 hP hl14 hG
  have bd : IntKind.i64.wrap (D + 5) = D + 5 := IntWalk.i64_in _ (by omega)
  have c2 := hPb.c.cell 2
  obtain ⟨qb, hqb, hHb⟩ := hPb.h
  go_wp2_with fail
  clear c2
  refine (among_c hHb (by omega) D (D + 5) (by omega) (by omega) (by omega) (by omega)).mono ?_
  rintro e w9 ⟨⟨W, rfl, hW1, hW2⟩, ⟨k9, hk9, hH9⟩, hG9⟩
  have hP9 := hPb.dealt hG9 hH9 (by omega : k9 ≤ k + 9)
  have y0 := hP9.c.cell 3
  have y1 := hP9.c.free 3
  clear hPb hG9 hH9 hHb
  go_wp2_with fail
  have hPc : PM w hb rb cb #[.int .i64 G, .int .i64 B, .int .i64 D, .int .i64 W, .int .i64 0, .int .i64 L] (k + 9) (w9.setCell ⟨cb, 3, none⟩ (.int .i64 W)) := by simpa using hP9.set 3 (.int .i64 W)
  generalize w9.setCell ⟨cb, 3, none⟩ (.int .i64 W) = wc at hPc ⊢
  clear hP9 y0 y1
  refine wp_region_mix2 (.pur 0 (.pur 1 (.pur 2 (.one 3 (.pur 4 (.pur 6 (.pur 7 (.one 8 (.act 5 (.act 9 (.act 10 (.act 11 (.pur 12 (.act 13 .fin)))))))))))))) 13 (fun w' => PM w hb rb cb #[.int .i64 G, .int .i64 B, .int .i64 D, .int .i64 W, .int .i64 0, .int .i64 L] (k + 20) w') (fun _ => True) (by kernel_rfl) (by kernel_rfl) rfl (by kernel_rfl) ((hPc.below (((Qt.refl wc).drewN 1).below _)).up (by omega)) (fun we hqe _ => ?_)
  refine mix_pur2 rfl (fun K hK => ?_)
  go_simp
  first | refine ⟨_, fun _ => rfl, hK _ ?_⟩ | refine hK _ ?_
  clear hK K
  refine mix_pur2 rfl (fun K hK => ?_)
  go_simp
  first | refine ⟨_, fun _ => rfl, hK _ ?_⟩ | refine hK _ ?_
  clear hK K
  refine mix_pur2 rfl (fun K hK => ?_)
  go_simp
  first | refine ⟨_, fun _ => rfl, hK _ ?_⟩ | refine hK _ ?_
  clear hK K
  refine mix_load2 rfl rfl rfl (.int .i64 B) (fun w' h => by have h : (fun w' => PM w hb rb cb #[.int .i64 G, .int .i64 B, .int .i64 D, .int .i64 W, .int .i64 0, .int .i64 L] (k + 20) w') w' := h; have h0 := h.c.cell 1; go_simp) rfl ?_
  refine mix_pur2 rfl (fun K hK => ?_)
  go_simp
  first | refine ⟨_, fun _ => rfl, hK _ ?_⟩ | refine hK _ ?_
  clear hK K
  refine mix_pur2 rfl (fun K hK => ?_)
  go_simp
  first | refine ⟨_, fun _ => rfl, hK _ ?_⟩ | refine hK _ ?_
  clear hK K
  refine mix_pur2 rfl (fun K hK => ?_)
  go_simp
  first | refine ⟨_, fun _ => rfl, hK _ ?_⟩ | refine hK _ ?_
  clear hK K
  refine mix_load2 rfl rfl rfl (.int .i64 B) (fun w' h => by have h : (fun w' => PM w hb rb cb #[.int .i64 G, .int .i64 B, .int .i64 D, .int .i64 W, .int .i64 0, .int .i64 L] (k + 20) w') w' := h; have h0 := h.c.cell 1; go_simp) rfl ?_
  refine mix_eff2 rfl false rfl (fun K hK => ?_)
  have hP4 := hPc.below (hqe.below _)
  go_simp
  obtain ⟨q5, hq5, hH5⟩ := hP4.h
  refine (upto_c hH5 (by omega) (B.tdiv 2) (by omega) (by omega)).mono ?_
  rintro e y5 ⟨⟨s1, rfl, hs1⟩, ⟨r5, hr5, hI5⟩, hG5⟩
  have hP5 := hP4.dealt hG5 hI5 (by omega : r5 ≤ (k + 10))
  refine hK _ _ (hP5.up (by omega)) ?_
  clear hK K
  refine mix_eff2 rfl false rfl (fun K hK => ?_)
  go_simp
  obtain ⟨q9, hq9, hH9⟩ := hP5.h
  refine (upto_c hH9 (by omega) B (by omega) (by omega)).mono ?_
  rintro e y9 ⟨⟨s2, rfl, hs2⟩, ⟨r9, hr9, hI9⟩, hG9⟩
  have hP9 := hP5.dealt hG9 hI9 (by omega : r9 ≤ (k + 11))
  refine hK _ _ (hP9.up (by omega)) ?_
  clear hK K
  refine mix_eff2 rfl false rfl (fun K hK => ?_)
  go_simp
  have hB10 := (Below.refl y9.heap.size y9).alloc (Nat.le_refl _) (.cells #[.int .i64 1, .int .i64 2, .int .i64 s1, .int .i64 s2] 3)
  have hP10 := hP9.below hB10
  have hl10 := plit4 y9 (1) (2) (s1) (s2)
  have hlt10 := hP9.hlt
  refine hK _ _ (hP10.up (by omega)) ?_
  clear hK K
  generalize y9.alloc (.cells #[.int .i64 1, .int .i64 2, .int .i64 s1, .int .i64 s2] 3) = y10 at hP10 hl10 ⊢
  refine mix_eff2 rfl false rfl (fun K hK => ?_)
  go_simp
  obtain ⟨q11, hq11, hH11⟩ := hP10.h
  refine (of_c hH11 (by omega) 0 hl10 (by omega) (by simp)).mono ?_
  rintro e y11 ⟨⟨T, rfl, hT⟩, ⟨r11, hr11, hI11⟩, hG11⟩
  have hP11 := hP10.dealt hG11 hI11 (by omega : r11 ≤ (k + 12))
  refine hK _ _ (hP11.up (by omega)) ?_
  clear hK K
  refine mix_pur2 rfl (fun K hK => ?_)
  go_simp
  first | refine ⟨_, fun _ => rfl, hK _ ?_⟩ | refine hK _ ?_
  clear hK K
  refine mix_eff2 rfl true rfl (fun K hK => ?_)
  have y0 := hP11.c.cell 4
  have y1 := hP11.c.free 4
  go_simp
  refine hK _ _ trivial ?_
  clear hK K y0 y1
  refine mix_done2 ?_
  have hT' : 0 ≤ T ∧ T ≤ B := by simp only [List.mem_cons, List.not_mem_nil, or_false] at hT; omega
  have hPd : PM w hb rb cb #[.int .i64 G, .int .i64 B, .int .i64 D, .int .i64 W, .int .i64 T, .int .i64 L] (k + 12) (y11.setCell ⟨cb, 4, none⟩ (.int .i64 T)) := by simpa using hP11.set 4 (.int .i64 T)
  generalize y11.setCell ⟨cb, 4, none⟩ (.int .i64 T) = wf at hPd ⊢
  clear hP11 hP10 hP9 hP5 hP4 hPc hl10 hT
  obtain ⟨hC, hR, ⟨kf, hkf, hHf⟩, hGf, hhr, hrc, -⟩ := hPd
  have c0 := hC.cell 0
  have c1 := hC.cell 1
  have c2 := hC.cell 2
  have c3 := hC.cell 3
  have c4 := hC.cell 4
  have c5 := hC.cell 5
  have d0 := hR.cell 0
  have d1 := hR.cell 1
  have d2 := hR.cell 2
  have d3 := hR.cell 3
  have d4 := hR.cell 4
  have d5 := hR.cell 5
  have f0 := hR.free 0
  have f1 := hR.free 1
  have f2 := hR.free 2
  have f3 := hR.free 3
  have f4 := hR.free 4
  have f5 := hR.free 5
  go_wp2
  have hR9 : Blk rb #[.int .i64 G, .int .i64 B, .int .i64 D, .int .i64 W, .int .i64 T, .int .i64 L] 75 ((((((wf.setCell ⟨rb, 0, none⟩ (.int .i64 G)).setCell ⟨rb, 1, none⟩ (.int .i64 B)).setCell ⟨rb, 2, none⟩ (.int .i64 D)).setCell ⟨rb, 3, none⟩ (.int .i64 W)).setCell ⟨rb, 4, none⟩ (.int .i64 T)).setCell ⟨rb, 5, none⟩ (.int .i64 L)) := by simpa using (((((hR.set 0 (.int .i64 G)).set 1 (.int .i64 B)).set 2 (.int .i64 D)).set 3 (.int .i64 W)).set 4 (.int .i64 T)).set 5 (.int .i64 L)
  have hG9 : w.grownBy ((((((wf.setCell ⟨rb, 0, none⟩ (.int .i64 G)).setCell ⟨rb, 1, none⟩ (.int .i64 B)).setCell ⟨rb, 2, none⟩ (.int .i64 D)).setCell ⟨rb, 3, none⟩ (.int .i64 W)).setCell ⟨rb, 4, none⟩ (.int .i64 T)).setCell ⟨rb, 5, none⟩ (.int .i64 L)) (some hb) := only_setCell (only_setCell (only_setCell (only_setCell (only_setCell (only_setCell hGf hrl1 _) hrl1 _) hrl1 _) hrl1 _) hrl1 _) hrl1 _
  have hH9 : Hnd ((((((wf.setCell ⟨rb, 0, none⟩ (.int .i64 G)).setCell ⟨rb, 1, none⟩ (.int .i64 B)).setCell ⟨rb, 2, none⟩ (.int .i64 D)).setCell ⟨rb, 3, none⟩ (.int .i64 W)).setCell ⟨rb, 4, none⟩ (.int .i64 T)).setCell ⟨rb, 5, none⟩ (.int .i64 L)) hb kf := (((((hHf.setCell hhr _).setCell hhr _).setCell hhr _).setCell hhr _).setCell hhr _).setCell hhr _
  generalize ((((((wf.setCell ⟨rb, 0, none⟩ (.int .i64 G)).setCell ⟨rb, 1, none⟩ (.int .i64 B)).setCell ⟨rb, 2, none⟩ (.int .i64 D)).setCell ⟨rb, 3, none⟩ (.int .i64 W)).setCell ⟨rb, 4, none⟩ (.int .i64 T)).setCell ⟨rb, 5, none⟩ (.int .i64 L)) = wz at hR9 hG9 hH9 ⊢
  have e0 := hR9.cell 0
  have e1 := hR9.cell 1
  have e2 := hR9.cell 2
  have e3 := hR9.cell 3
  have e4 := hR9.cell 4
  have e5 := hR9.cell 5
  exact bodyPost_ret (v := .agg #[.int .i64 G, .int .i64 B, .int .i64 D, .int .i64 W, .int .i64 T, .int .i64 L]) (by simp [results, Try.results103, go_sem, e0, e1, e2, e3, e4, e5]) rfl ⟨⟨G, B, D, W, T, L⟩, rfl, ⟨by show 1 ≤ B ∧ B ≤ 99; omega, hG', by show 0 ≤ D ∧ D ≤ 9; omega, by show D ≤ W ∧ W ≤ 9; omega, hT', hL'⟩, ⟨kf, by omega, hH9⟩, hG9⟩

end Go.Proofs.Ythchpoabncdicaa

namespace Go.Proofs.Ythchpoabncdicaa
open Go.RowKit

set_option maxRecDepth 100000 in
set_option maxHeartbeats 1000000 in
theorem grazed_c {w : World} {p : Pas} {s : Sky} (hp : p.Ok) (hs : s.Ok) {nh : Int} (hh : 0 ≤ nh ∧ nh ≤ 40) :
    Calls Try.prog 54 #[(.agg #[.int .i64 p.grass, .int .i64 p.bears, .int .i64 p.dry, .int .i64 p.wet, .int .i64 p.stub, .int .i64 p.sleep]), (.agg #[.int .i64 s.days, .int .i64 s.drought, .int .i64 s.flood]), .int .i64 nh] w fun e w' => e = .returned (.tuple #[.bool (fedAll p s nh), .bool true]) ∧ Below w.heap.size w w' := by
  obtain ⟨n, hn⟩ : ∃ n : Nat, s.days = (n : Int) := ⟨s.days.toNat, by have := hs.d; omega⟩
  have hn8 : n ≤ 8 := by have := hs.d; omega
  obtain ⟨w2, hw2⟩ : ∃ w2, w2 = ((w.alloc (.cells #[.int .i64 p.grass, .int .i64 p.bears, .int .i64 p.dry, .int .i64 p.wet, .int .i64 p.stub, .int .i64 p.sleep] 75)).alloc (.cells #[.int .i64 s.days, .int .i64 s.drought, .int .i64 s.flood] 67)) := ⟨_, rfl⟩
  obtain ⟨b0, hb0⟩ : ∃ b, b = w.heap.size := ⟨_, rfl⟩
  have hPb : Blk b0 #[.int .i64 p.grass, .int .i64 p.bears, .int .i64 p.dry, .int .i64 p.wet, .int .i64 p.stub, .int .i64 p.sleep] 75 w2 := by rw [hw2, hb0]; exact (blk_at rfl _ _).alloc _
  have hSb : Blk (b0 + 1) #[.int .i64 s.days, .int .i64 s.drought, .int .i64 s.flood] 67 w2 := by rw [hw2, hb0]; exact blk_at (by simp) _ _
  have hB2 : Below w.heap.size w w2 := by rw [hw2]; exact ((Below.refl _ w).alloc (Nat.le_refl _) _).alloc (by simp) _
  have b0w : w.heap.size ≤ b0 := by omega
  have HN := Lib.hid hn
  have c0 : w2.cell? ⟨b0 + 1, 0, none⟩ = some (.int .i64 (n : Int)) := by rw [← hn]; exact hSb.cell 0
  have hmk := run_make_ints n (by omega) w2
  clear hn
  go_enter Try.func54, Try.ntmps54
  go_upto_region 1 with fail
  rw [← hw2, ← hb0]
  clear hw2 hb0
  go_wp2_with fail
  obtain ⟨w3, hw3⟩ : ∃ w3, w3 = w2.alloc (.cells (I64 (List.replicate n 0)).toArray 3) := ⟨_, rfl⟩
  obtain ⟨lb, hlb⟩ : ∃ b, b = w2.heap.size := ⟨_, rfl⟩
  have hL3 : IntBlk w3 lb (List.replicate n 0) := by rw [hw3, hlb]; exact intBlk_made w2 n
  have hB3 : Below w2.heap.size w2 w3 := by rw [hw3]; exact (Below.refl _ w2).alloc (Nat.le_refl _) _
  have hlb0 : b0 + 1 < lb := by rw [hlb]; exact hSb.lt
  rw [← hw3, ← hlb]
  have hP3 := hPb.call hB3
  have hS3 := hSb.call hB3
  have hBw := bnx hB2 hB3
  have hl3 := hL3.lt
  clear hw3 hlb hmk c0 hPb hSb hB2 hB3
  go_loopw [9] (fun i wr => ∃ k : Nat, k ≤ n ∧ i = .int .i64 k ∧ IntBlk wr lb (List.replicate k nh ++ List.replicate (n - k) 0) ∧ Keep (fun q => q = lb) w3 wr) (fun i _ => n - (intOf i).toNat)
  case atStart => exact ⟨0, Nat.zero_le _, rfl, by simpa using hL3, Keep.refl _ _⟩
  case round =>
    obtain ⟨k, hk, rfl, hL, hkp⟩ := hrel
    clear hL3
    by_cases hkn : k < n
    · have hlen : k < (List.replicate k nh ++ List.replicate (n - k) 0).length := by rw [List.length_append, List.length_replicate, List.length_replicate]; omega
      have c2 := hL.cell k hlen
      have f2 := hL.free k
      go_wp2_with fail
      go_roundw
      case rel =>
        refine ⟨k + 1, by omega, by go_num, ?_, hkp.trans (Keep.setCell _ ⟨lb, k, none⟩ _ rfl)⟩
        have := hL.set k nh
        rwa [fill_next hkn] at this
      case measure => simp [intOf]; omega
    · obtain rfl : k = n := by omega
      rw [Nat.sub_self, List.replicate_zero, List.append_nil] at hL
      have hPr := hP3.keep (hkp.block _ hP3.lt (by omega))
      have hSr := hS3.keep (hkp.block _ hS3.lt (by omega))
      have hBr : Below w.heap.size w wr := hBw.trans ⟨hkp.os, hkp.tape, hkp.output, hkp.size, fun q hq => hkp.block q (by have := hBw.size; omega) (by omega)⟩
      have hv := hL.ints (by rw [List.length_replicate]; omega)
      rw [List.length_replicate] at hv
      have hf := feeds_c hp hs HN.out hv hh
      have HFD := Lib.hid hf
      have c0 := hPr.cell 0
      have c1 := hPr.cell 1
      have c2 := hPr.cell 2
      have c3 := hPr.cell 3
      have c4 := hPr.cell 4
      have c5 := hPr.cell 5
      have d0 := hSr.cell 0
      have d1 := hSr.cell 1
      have d2 := hSr.cell 2
      clear hf hv hL hP3 hS3 hBw
      go_wp2_with fail
      refine HFD.out.mono ?_
      rintro e w5 ⟨m, rfl, hm, hB5⟩
      have HM := Lib.hid hm
      clear hm
      go_wp2_with fail
      go_ret2
      refine ⟨?_, bnx hBr hB5⟩
      rw [← HM.out]
      rfl

def sumI2 (l : List Int) : Int := l.foldl (· + ·) 0
theorem sumI2_take (l : List Int) (k : Nat) (h : k < l.length) : sumI2 (l.take (k + 1)) = sumI2 (l.take k) + l[k] := by
  unfold sumI2
  rw [List.take_succ_eq_append_getElem h, List.foldl_append]
  rfl
theorem sumI2_bd : ∀ (l : List Int) (a : Int), (∀ x ∈ l, 0 ≤ x ∧ x ≤ 1000) → a ≤ l.foldl (· + ·) a ∧ l.foldl (· + ·) a ≤ a + 1000 * l.length
  | [], a, _ => by simp
  | x :: l, a, h => by
    have ih := sumI2_bd l (a + x) fun y hy => h y (List.mem_cons_of_mem _ hy)
    have hx := h x (List.mem_cons_self ..)
    rw [List.foldl_cons, List.length_cons]
    omega
set_option maxRecDepth 100000 in
theorem total_c {A : Nat → Prop} {w : World} {v : Value} {l : List Int} (h : Ints A w v l) (hl : l.length ≤ 1000) (hx : ∀ x ∈ l, 0 ≤ x ∧ x ≤ 1000) : Calls Try.prog 55 #[v] w fun e w' => e = .returned (.int .i64 (sumI2 l)) ∧ Qt w w' := by
  obtain ⟨ao, cp, rfl, _, _⟩ := h.shape
  go_enter Try.func55, Try.ntmps55
  go_wp2_with fail
  go_loopw [3, 4] (fun s3 s4 wr => ∃ k : Nat, k ≤ l.length ∧ s4 = .int .i64 k ∧ s3 = .int .i64 (sumI2 (l.take k)) ∧ Qt w wr) (fun _ s4 _ => l.length - (intOf s4).toNat)
  case atStart => exact ⟨0, Nat.zero_le _, rfl, rfl, Qt.refl w⟩
  case round =>
    obtain ⟨k, hk, rfl, rfl, hq⟩ := hrel
    by_cases hkl : k < l.length
    · obtain ⟨b, off, rfl, -, -, hc⟩ := (h.qt hq).addr (by omega)
      have c0 := hc k hkl
      have hb := sumI2_bd (l.take (k + 1)) 0 fun x hm => hx x (List.mem_of_mem_take hm)
      have hs := sumI2_take l k hkl
      rw [List.length_take, Nat.min_eq_left (by omega)] at hb
      have hb2 : 0 ≤ sumI2 (l.take k) + l[k] ∧ sumI2 (l.take k) + l[k] ≤ 2000000 := by
        rw [← hs]; unfold sumI2; omega
      have bw : IntKind.i64.wrap (sumI2 (l.take k) + l[k]) = sumI2 (l.take k) + l[k] := IntWalk.i64_in _ (by omega)
      have HS := Lib.hid hs
      clear hc hs hb
      go_wp2_with fail
      go_roundw
      case rel => exact ⟨k + 1, by omega, by go_num, by rw [HS.out], hq⟩
      case measure => simp [intOf]; omega
    · obtain rfl : k = l.length := by omega
      rw [List.take_length]
      go_wp2_with fail
      go_ret
      exact ⟨rfl, hq⟩

end Go.Proofs.Ythchpoabncdicaa

