/- EdgeMore: what its walk hands back; conditions: the argument reads as a list of numbers. -/
import Derived.Test.YtgdifckmjdjcpaaSti
import Derived.Test.YtgdifckmjdjcpaaMoc
import Derived.Test.YtgdifckmjdjcpaaPrt
import Derived.Test.YtgdifckmjdjcpaaSur
import Derived.Test.YtgdifckmjdjcpaaFof
import Derived.Test.YtgdifckmjdjcpaaFol
import Derived.Test.YtgdifckmjdjcpaaClm
namespace Go.Proofs.Ytgdifckmjdjcpaa
open Go.RowKit

set_option maxRecDepth 100000 in
set_option maxHeartbeats 100000000 in
theorem edgeMore_c {A : Nat → Prop} {w : World} {v : Value} {l : List Int} (h : Ints A w v l) : Calls Try.prog 18 #[v] w fun e w' => e = .returned (.bool true) ∧ Below w.heap.size w w' := by
  obtain ⟨a0, c0, rfl, _, _⟩ := h.shape
  go_enter Try.func18, Try.ntmps18
  go_wp2_with fail
  refine (newHand_c h).mono ?_
  rintro e w1 ⟨rfl, hH1, hB1⟩
  have hsz1 := hH1.lt
  go_wp2_with fail
  refine (edgeOf_c hH1 (by omega) (pts := 4) (cl := 5) (by omega) (by omega)).mono ?_
  rintro e w2 ⟨⟨x, vx, rfl, hx, hx4, hx7, hO2⟩, ⟨k2, hk2, hH2⟩, hG2⟩
  have hB2 := bhand hB1 hG2 (Nat.le_refl _)
  obtain ⟨ax, cx, rfl⟩ := own_slice hO2
  have hgr := World.ownsRow.lt hO2
  obtain ⟨w3, hw3⟩ : ∃ w3, w3 = w2.alloc (.cells #[.int .i64 x.points, .int .i64 x.bend, .slice ax x.claims.length cx] 24) := ⟨_, rfl⟩
  obtain ⟨bx, hbx⟩ : ∃ b, b = w2.heap.size := ⟨_, rfl⟩
  have hX3 : Blk bx #[.int .i64 x.points, .int .i64 x.bend, .slice ax x.claims.length cx] 24 w3 := by rw [hw3, hbx]; exact Blk.new _ _ _
  have hB3 : Below w.heap.size w w3 := by rw [hw3]; exact bal2 hB2
  have hO3 : Own w1.heap.size w3 26 5 (.slice ax x.claims.length cx) x.claims.length (x.claims.flatMap ccells) := by rw [hw3]; exact hO2.alloc _
  have hH3 : Hnd w3 w.heap.size k2 := by rw [hw3]; exact hH2.call ((Below.refl _ _).alloc (Nat.le_refl _) _)
  have hbw : w1.heap.size ≤ bx := by rw [hbx]; exact hG2.size
  have hz1 : w.heap.size < w1.heap.size := hsz1
  go_upto_region 3 with fail
  rw [← hw3, ← hbx]
  rw [← hbx] at hgr
  clear hw3 hbx hO2 hG2 hH1 hB1 hB2 hH2 hsz1
  have hC3 := Own.cls hO3
  clear hO3 hgr
  go_wp2_with fail
  refine (upto_c hH3 (by omega) 9 (by omega) (by omega)).mono ?_
  rintro e w4 ⟨⟨u1, rfl, hu1, hub1⟩, ⟨k4, hk4, hH4⟩, hG4⟩
  have hX4 := hX3.hand hG4 (by omega)
  have hC4 := Elems.only hC3 hG4 (by omega)
  have hB4 := bhand hB3 hG4 (Nat.le_refl _)
  clear hX3 hC3 hB3 hG4 hH3
  go_wp2_with fail
  refine (upto_c hH4 (by omega) 9 (by omega) (by omega)).mono ?_
  rintro e w5 ⟨⟨u2, rfl, hu2, hub2⟩, ⟨k5, hk5, hH5⟩, hG5⟩
  have hX5 := hX4.hand hG5 (by omega)
  have hC5 := Elems.only hC4 hG5 (by omega)
  have hB5 := bhand hB4 hG5 (Nat.le_refl _)
  clear hX4 hC4 hB4 hG5 hH4
  go_wp2_with fail
  refine (upto_c hH5 (by omega) 9 (by omega) (by omega)).mono ?_
  rintro e w6 ⟨⟨u3, rfl, hu3, hub3⟩, ⟨k6, hk6, hH6⟩, hG6⟩
  have hX6 := hX5.hand hG6 (by omega)
  have hC6 := Elems.only hC5 hG6 (by omega)
  have hB6 := bhand hB5 hG6 (Nat.le_refl _)
  clear hX5 hC5 hB5 hG6 hH5
  go_wp2_with fail
  refine (upto_c hH6 (by omega) 9 (by omega) (by omega)).mono ?_
  rintro e w7 ⟨⟨u4, rfl, hu4, hub4⟩, ⟨k7, hk7, hH7⟩, hG7⟩
  have hX7 := hX6.hand hG7 (by omega)
  have hC7 := Elems.only hC6 hG7 (by omega)
  have hB7 := bhand hB6 hG7 (Nat.le_refl _)
  clear hX6 hC6 hB6 hG7 hH6
  obtain ⟨w8, hw8⟩ : ∃ w8, w8 = w7.alloc (.cells #[.int .i64 u1, .int .i64 u2, .int .i64 u3, .int .i64 u4] 3) := ⟨_, rfl⟩
  obtain ⟨bl, hbl⟩ : ∃ b, b = w7.heap.size := ⟨_, rfl⟩
  have hL8 : Ints (fun q => w7.heap.size ≤ q) w8 (.slice (some ⟨bl, 0, none⟩) 4 4) [u1, u2, u3, u4] := by rw [hw8, hbl]; exact Own.ints (own_lit w7 3 1 #[.int .i64 u1, .int .i64 u2, .int .i64 u3, .int .i64 u4] 4 rfl (by omega))
  have hE8 : Below w7.heap.size w7 w8 := by rw [hw8]; exact (Below.refl _ _).alloc (Nat.le_refl _) _
  obtain ⟨n, hn⟩ : ∃ n, n = x.n := ⟨_, rfl⟩
  have hpn : x.points = (n : Int) := by have := hx.p; rw [hn]; unfold Edg.n; omega
  have hn4 : 1 ≤ n ∧ n ≤ 4 := by have := hx.p; omega
  have h9 : ∀ u ∈ [u1, u2, u3, u4], 0 ≤ u ∧ u ≤ 9 := by intro u hu; simp only [List.mem_cons, List.not_mem_nil, or_false] at hu; omega
  have HPN := Lib.hid hpn
  have HN := Lib.hid hn
  clear hpn hn
  obtain ⟨N2, hN2⟩ : ∃ N, N = w8.heap.size := ⟨_, rfl⟩
  have hx7l := hX7.lt
  have hz8 := hE8.size
  have hh7 := hH7.lt
  have hs0 : MoC w bx x (.slice ax x.claims.length cx) N2 (.slice (some ⟨bl, 0, none⟩) 4 4) [u1, u2, u3, u4] 105 w8 :=
    ⟨⟨k7, by omega, hH7.call hE8⟩, hX7.call hE8, (hC7.call hE8).wide fun q hq hl => ⟨by omega, by omega⟩, hL8.wide fun q hq hl => ⟨by omega, by omega⟩, bnx hB7 hE8, ⟨by omega, by omega, by omega⟩, by omega⟩
  go_upto_region 4 with fail
  rw [← hw8, ← hbl]
  have hxs : ∀ K u, MoC w bx x (.slice ax x.claims.length cx) N2 (.slice (some ⟨bl, 0, none⟩) 4 4) [u1, u2, u3, u4] K u → Blk bx #[.int .i64 x.points, .int .i64 x.bend, .slice ax x.claims.length cx] 24 u := fun K u h => h.hX
  have HX := Lib.hid hxs
  clear hw8 hbl hxs hX7 hC7 hB7 hH7 hL8 hE8 hu1 hub1 hu2 hub2 hu3 hub3 hu4 hub4
  go_cut [6, 7] from 42 to 51 (fun s6 s7 wx => ∃ (ba bd : Nat) (c d : Cl), s6 = .pointer (some ⟨ba, 0, none⟩) ∧ s7 = .pointer (some ⟨bd, 0, none⟩) ∧ c.Ok x.points ∧ d.Ok x.points ∧ MoC w bx x (.slice ax x.claims.length cx) N2 (.slice (some ⟨bl, 0, none⟩) 4 4) [u1, u2, u3, u4] 200 wx ∧ Blk ba #[.int .i64 c.kind, .int .i64 c.point, .int .i64 c.other, .int .i64 c.off, .int .i64 c.err] 26 wx ∧ Blk bd #[.int .i64 d.kind, .int .i64 d.point, .int .i64 d.other, .int .i64 d.off, .int .i64 d.err] 26 wx)
  case first => as_aux_lemma =>
    refine wp_region_mix2 (.pur 0 (.pur 1 (.one 2 (.pur 3 (.pur 5 (.pur 6 (.one 7 (.pur 8 (.three 4 (.three 9 (.two 10 (.act 11 (.act 12 (.act 13 .fin))) 11 (.act 10 (.act 12 (.act 13 .fin)))) 10 (.two 9 (.act 11 (.act 12 (.act 13 .fin))) 11 (.act 9 (.act 12 (.act 13 .fin)))) 11 (.two 9 (.act 10 (.act 12 (.act 13 .fin))) 10 (.act 9 (.act 12 (.act 13 .fin))))) 10 (.two 4 (.two 9 (.act 11 (.act 12 (.act 13 .fin))) 11 (.act 9 (.act 12 (.act 13 .fin)))) 11 (.act 4 (.act 9 (.act 12 (.act 13 .fin))))) 11 (.two 4 (.two 9 (.act 10 (.act 12 (.act 13 .fin))) 10 (.act 9 (.act 12 (.act 13 .fin)))) 10 (.act 4 (.act 9 (.act 12 (.act 13 .fin)))))))))))))) 12 (Blk bx #[.int .i64 x.points, .int .i64 x.bend, .slice ax x.claims.length cx] 24) (fun _ => True) (by kernel_rfl) (by kernel_rfl) rfl (by kernel_rfl) (HX.out _ _ (hs0.qt ((Qt.refl _).drewN 1))) (fun wd hqd _ => ?_)
    have hs := hs0.qt hqd
    refine mix_pur2 rfl (fun K hK => ?_)
    go_simp
    first | refine ⟨_, fun _ => rfl, hK _ ?_⟩ | refine hK _ ?_
    clear hK K
    refine mix_pur2 rfl (fun K hK => ?_)
    go_simp
    first | refine ⟨_, fun _ => rfl, hK _ ?_⟩ | refine hK _ ?_
    clear hK K
    refine mix_load2 rfl rfl rfl (.int .i64 x.points) (fun w' h => by have h : (Blk bx #[.int .i64 x.points, .int .i64 x.bend, .slice ax x.claims.length cx] 24) w' := h; have e0 := h.cell 0; go_simp) rfl ?_
    refine mix_pur2 rfl (fun K hK => ?_)
    go_simp
    first | refine ⟨_, fun _ => rfl, hK _ ?_⟩ | refine hK _ ?_
    clear hK K
    refine mix_pur2 rfl (fun K hK => ?_)
    go_simp
    first | refine ⟨_, fun _ => rfl, hK _ ?_⟩ | refine hK _ ?_
    clear hK K
    refine mix_pur2 rfl (fun K hK => ?_)
    go_simp
    first | refine ⟨_, fun _ => rfl, hK _ ?_⟩ | refine hK _ ?_
    clear hK K
    refine mix_load2 rfl rfl rfl (.int .i64 x.points) (fun w' h => by have h : (Blk bx #[.int .i64 x.points, .int .i64 x.bend, .slice ax x.claims.length cx] 24) w' := h; have e0 := h.cell 0; go_simp) rfl ?_
    refine mix_pur2 rfl (fun K hK => ?_)
    go_simp
    first | refine ⟨_, fun _ => rfl, hK _ ?_⟩ | refine hK _ ?_
    clear hK K
    refine mix_three3 rfl rfl rfl false false false rfl rfl rfl (fun K hK => ?_) (fun K hK => ?_) (fun K hK => ?_)
    · obtain ⟨kk, hkk, hHH⟩ := hs.hnd
      have hco := claimOf_c hHH (by omega) hn4 hs.hL (fun h => h.1 rfl) (by show n ≤ 4; omega) h9
      rw [← HPN.out] at hco
      refine stq_fn rfl rfl rfl ent66 rfl rfl (by kernel_rfl) hco ?_
      rintro e wa1 ⟨⟨c, rfl, hcok⟩, ⟨k9, hk9, hH9⟩, hG9⟩
      refine ⟨_, rfl, ?_⟩
      have hs := hs.hand (K' := 121) ⟨k9, by omega, hH9⟩ hG9
      refine hK _ _ (HX.out _ _ hs) ?_
      clear hK K hHH hH9 hG9 hkk hk9 kk k9 hco
      refine mix_three3 rfl rfl rfl false false false rfl rfl rfl (fun K hK => ?_) (fun K hK => ?_) (fun K hK => ?_)
      · obtain ⟨kk, hkk, hHH⟩ := hs.hnd
        have hco := claimOf_c hHH (by omega) hn4 hs.hL (fun h => h.1 rfl) (by show n ≤ 4; omega) h9
        rw [← HPN.out] at hco
        refine stq_fn rfl rfl rfl ent66 rfl rfl (by kernel_rfl) hco ?_
        rintro e wa2 ⟨⟨d, rfl, hdok⟩, ⟨k9, hk9, hH9⟩, hG9⟩
        refine ⟨_, rfl, ?_⟩
        have hs := hs.hand (K' := 142) ⟨k9, by omega, hH9⟩ hG9
        refine hK _ _ (HX.out _ _ hs) ?_
        clear hK K hHH hH9 hG9 hkk hk9 kk k9 hco
        refine mix_two3 rfl rfl false false rfl rfl (fun K hK => ?_) (fun K hK => ?_)
        · refine stq_new rfl rfl rfl (new_run26 _) ?_
          have hgr := (Below.refl wa2.heap.size wa2).alloc (Nat.le_refl _) (.cells #[.int .i64 0, .int .i64 0, .int .i64 0, .int .i64 0, .int .i64 0] 26)
          have hAN := hs.hz
          have hs := hs.call hgr
          have hA := Blk.new wa2 #[.int .i64 0, .int .i64 0, .int .i64 0, .int .i64 0, .int .i64 0] 26
          refine hK _ _ (HX.out _ _ hs) ?_
          clear hK K hgr
          obtain ⟨ba, hba⟩ : ∃ b, b = wa2.heap.size := ⟨_, rfl⟩
          rw [← hba] at hA hAN ⊢
          generalize wa2.alloc (.cells #[.int .i64 0, .int .i64 0, .int .i64 0, .int .i64 0, .int .i64 0] 26) = wa3 at hs hA ⊢
          clear hba
          refine mix_eff3 rfl false rfl (fun K hK => ?_)
          refine stq_new rfl rfl rfl (new_run26 _) ?_
          have hgr := (Below.refl wa3.heap.size wa3).alloc (Nat.le_refl _) (.cells #[.int .i64 0, .int .i64 0, .int .i64 0, .int .i64 0, .int .i64 0] 26)
          have hne := hA.lt
          have hA := hA.call hgr
          have hDN := hs.hz
          have hs := hs.call hgr
          have hD := Blk.new wa3 #[.int .i64 0, .int .i64 0, .int .i64 0, .int .i64 0, .int .i64 0] 26
          refine hK _ _ (HX.out _ _ hs) ?_
          clear hK K hgr
          obtain ⟨bd, hbd⟩ : ∃ b, b = wa3.heap.size := ⟨_, rfl⟩
          rw [← hbd] at hD hDN ⊢
          rw [← hbd] at hne
          generalize wa3.alloc (.cells #[.int .i64 0, .int .i64 0, .int .i64 0, .int .i64 0, .int .i64 0] 26) = wa4 at hs hD hA ⊢
          clear hbd
          refine mix_eff3 rfl true rfl (fun K hK => ?_)
          refine stq_st rfl rfl rfl (st_run26 hA c.kind c.point c.other c.off c.err) (by kernel_rfl) (by kernel_rfl) ?_
          refine hK _ _ trivial ?_
          clear hK K
          obtain ⟨hs, hA, hD⟩ := hs.put hA hAN hD (by omega) rfl c
          generalize (((((wa4.setCell ⟨ba, 0, none⟩ (.int .i64 c.kind)).setCell ⟨ba, 1, none⟩ (.int .i64 c.point)).setCell ⟨ba, 2, none⟩ (.int .i64 c.other)).setCell ⟨ba, 3, none⟩ (.int .i64 c.off)).setCell ⟨ba, 4, none⟩ (.int .i64 c.err)) = wa5 at hs hA hD ⊢
          refine mix_eff3 rfl true rfl (fun K hK => ?_)
          refine stq_st rfl rfl rfl (st_run26 hD d.kind d.point d.other d.off d.err) (by kernel_rfl) (by kernel_rfl) ?_
          refine hK _ _ trivial ?_
          clear hK K
          obtain ⟨hs, hD, hA⟩ := hs.put hD hDN hA (by omega) rfl d
          generalize (((((wa5.setCell ⟨bd, 0, none⟩ (.int .i64 d.kind)).setCell ⟨bd, 1, none⟩ (.int .i64 d.point)).setCell ⟨bd, 2, none⟩ (.int .i64 d.other)).setCell ⟨bd, 3, none⟩ (.int .i64 d.off)).setCell ⟨bd, 4, none⟩ (.int .i64 d.err)) = wa6 at hs hA hD ⊢
          refine mix_done2 ?_
          go_wp2_with fail
          go_meet
          case rel => exact ⟨ba, bd, c, d, rfl, rfl, hcok, hdok, hs.mono (by omega), hA, hD⟩
        · refine stq_new rfl rfl rfl (new_run26 _) ?_
          have hgr := (Below.refl wa2.heap.size wa2).alloc (Nat.le_refl _) (.cells #[.int .i64 0, .int .i64 0, .int .i64 0, .int .i64 0, .int .i64 0] 26)
          have hDN := hs.hz
          have hs := hs.call hgr
          have hD := Blk.new wa2 #[.int .i64 0, .int .i64 0, .int .i64 0, .int .i64 0, .int .i64 0] 26
          refine hK _ _ (HX.out _ _ hs) ?_
          clear hK K hgr
          obtain ⟨bd, hbd⟩ : ∃ b, b = wa2.heap.size := ⟨_, rfl⟩
          rw [← hbd] at hD hDN ⊢
          generalize wa2.alloc (.cells #[.int .i64 0, .int .i64 0, .int .i64 0, .int .i64 0, .int .i64 0] 26) = wa3 at hs hD ⊢
          clear hbd
          refine mix_eff3 rfl false rfl (fun K hK => ?_)
          refine stq_new rfl rfl rfl (new_run26 _) ?_
          have hgr := (Below.refl wa3.heap.size wa3).alloc (Nat.le_refl _) (.cells #[.int .i64 0, .int .i64 0, .int .i64 0, .int .i64 0, .int .i64 0] 26)
          have hne := hD.lt
          have hD := hD.call hgr
          have hAN := hs.hz
          have hs := hs.call hgr
          have hA := Blk.new wa3 #[.int .i64 0, .int .i64 0, .int .i64 0, .int .i64 0, .int .i64 0] 26
          refine hK _ _ (HX.out _ _ hs) ?_
          clear hK K hgr
          obtain ⟨ba, hba⟩ : ∃ b, b = wa3.heap.size := ⟨_, rfl⟩
          rw [← hba] at hA hAN ⊢
          rw [← hba] at hne
          generalize wa3.alloc (.cells #[.int .i64 0, .int .i64 0, .int .i64 0, .int .i64 0, .int .i64 0] 26) = wa4 at hs hA hD ⊢
          clear hba
          refine mix_eff3 rfl true rfl (fun K hK => ?_)
          refine stq_st rfl rfl rfl (st_run26 hA c.kind c.point c.other c.off c.err) (by kernel_rfl) (by kernel_rfl) ?_
          refine hK _ _ trivial ?_
          clear hK K
          obtain ⟨hs, hA, hD⟩ := hs.put hA hAN hD (by omega) rfl c
          generalize (((((wa4.setCell ⟨ba, 0, none⟩ (.int .i64 c.kind)).setCell ⟨ba, 1, none⟩ (.int .i64 c.point)).setCell ⟨ba, 2, none⟩ (.int .i64 c.other)).setCell ⟨ba, 3, none⟩ (.int .i64 c.off)).setCell ⟨ba, 4, none⟩ (.int .i64 c.err)) = wa5 at hs hA hD ⊢
          refine mix_eff3 rfl true rfl (fun K hK => ?_)
          refine stq_st rfl rfl rfl (st_run26 hD d.kind d.point d.other d.off d.err) (by kernel_rfl) (by kernel_rfl) ?_
          refine hK _ _ trivial ?_
          clear hK K
          obtain ⟨hs, hD, hA⟩ := hs.put hD hDN hA (by omega) rfl d
          generalize (((((wa5.setCell ⟨bd, 0, none⟩ (.int .i64 d.kind)).setCell ⟨bd, 1, none⟩ (.int .i64 d.point)).setCell ⟨bd, 2, none⟩ (.int .i64 d.other)).setCell ⟨bd, 3, none⟩ (.int .i64 d.off)).setCell ⟨bd, 4, none⟩ (.int .i64 d.err)) = wa6 at hs hA hD ⊢
          refine mix_done2 ?_
          go_wp2_with fail
          go_meet
          case rel => exact ⟨ba, bd, c, d, rfl, rfl, hcok, hdok, hs.mono (by omega), hA, hD⟩
      · refine stq_new rfl rfl rfl (new_run26 _) ?_
        have hgr := (Below.refl wa1.heap.size wa1).alloc (Nat.le_refl _) (.cells #[.int .i64 0, .int .i64 0, .int .i64 0, .int .i64 0, .int .i64 0] 26)
        have hAN := hs.hz
        have hs := hs.call hgr
        have hA := Blk.new wa1 #[.int .i64 0, .int .i64 0, .int .i64 0, .int .i64 0, .int .i64 0] 26
        refine hK _ _ (HX.out _ _ hs) ?_
        clear hK K hgr
        obtain ⟨ba, hba⟩ : ∃ b, b = wa1.heap.size := ⟨_, rfl⟩
        rw [← hba] at hA hAN ⊢
        generalize wa1.alloc (.cells #[.int .i64 0, .int .i64 0, .int .i64 0, .int .i64 0, .int .i64 0] 26) = wa2 at hs hA ⊢
        clear hba
        refine mix_two3 rfl rfl false false rfl rfl (fun K hK => ?_) (fun K hK => ?_)
        · obtain ⟨kk, hkk, hHH⟩ := hs.hnd
          have hco := claimOf_c hHH (by omega) hn4 hs.hL (fun h => h.1 rfl) (by show n ≤ 4; omega) h9
          rw [← HPN.out] at hco
          refine stq_fn rfl rfl rfl ent66 rfl rfl (by kernel_rfl) hco ?_
          rintro e wa3 ⟨⟨d, rfl, hdok⟩, ⟨k9, hk9, hH9⟩, hG9⟩
          refine ⟨_, rfl, ?_⟩
          have hA := hA.hand hG9 (hA.ne_hnd hs.hnd (by decide))
          have hs := hs.hand (K' := 142) ⟨k9, by omega, hH9⟩ hG9
          refine hK _ _ (HX.out _ _ hs) ?_
          clear hK K hHH hH9 hG9 hkk hk9 kk k9 hco
          refine mix_eff3 rfl false rfl (fun K hK => ?_)
          refine stq_new rfl rfl rfl (new_run26 _) ?_
          have hgr := (Below.refl wa3.heap.size wa3).alloc (Nat.le_refl _) (.cells #[.int .i64 0, .int .i64 0, .int .i64 0, .int .i64 0, .int .i64 0] 26)
          have hne := hA.lt
          have hA := hA.call hgr
          have hDN := hs.hz
          have hs := hs.call hgr
          have hD := Blk.new wa3 #[.int .i64 0, .int .i64 0, .int .i64 0, .int .i64 0, .int .i64 0] 26
          refine hK _ _ (HX.out _ _ hs) ?_
          clear hK K hgr
          obtain ⟨bd, hbd⟩ : ∃ b, b = wa3.heap.size := ⟨_, rfl⟩
          rw [← hbd] at hD hDN ⊢
          rw [← hbd] at hne
          generalize wa3.alloc (.cells #[.int .i64 0, .int .i64 0, .int .i64 0, .int .i64 0, .int .i64 0] 26) = wa4 at hs hD hA ⊢
          clear hbd
          refine mix_eff3 rfl true rfl (fun K hK => ?_)
          refine stq_st rfl rfl rfl (st_run26 hA c.kind c.point c.other c.off c.err) (by kernel_rfl) (by kernel_rfl) ?_
          refine hK _ _ trivial ?_
          clear hK K
          obtain ⟨hs, hA, hD⟩ := hs.put hA hAN hD (by omega) rfl c
          generalize (((((wa4.setCell ⟨ba, 0, none⟩ (.int .i64 c.kind)).setCell ⟨ba, 1, none⟩ (.int .i64 c.point)).setCell ⟨ba, 2, none⟩ (.int .i64 c.other)).setCell ⟨ba, 3, none⟩ (.int .i64 c.off)).setCell ⟨ba, 4, none⟩ (.int .i64 c.err)) = wa5 at hs hA hD ⊢
          refine mix_eff3 rfl true rfl (fun K hK => ?_)
          refine stq_st rfl rfl rfl (st_run26 hD d.kind d.point d.other d.off d.err) (by kernel_rfl) (by kernel_rfl) ?_
          refine hK _ _ trivial ?_
          clear hK K
          obtain ⟨hs, hD, hA⟩ := hs.put hD hDN hA (by omega) rfl d
          generalize (((((wa5.setCell ⟨bd, 0, none⟩ (.int .i64 d.kind)).setCell ⟨bd, 1, none⟩ (.int .i64 d.point)).setCell ⟨bd, 2, none⟩ (.int .i64 d.other)).setCell ⟨bd, 3, none⟩ (.int .i64 d.off)).setCell ⟨bd, 4, none⟩ (.int .i64 d.err)) = wa6 at hs hA hD ⊢
          refine mix_done2 ?_
          go_wp2_with fail
          go_meet
          case rel => exact ⟨ba, bd, c, d, rfl, rfl, hcok, hdok, hs.mono (by omega), hA, hD⟩
        · refine stq_new rfl rfl rfl (new_run26 _) ?_
          have hgr := (Below.refl wa2.heap.size wa2).alloc (Nat.le_refl _) (.cells #[.int .i64 0, .int .i64 0, .int .i64 0, .int .i64 0, .int .i64 0] 26)
          have hne := hA.lt
          have hA := hA.call hgr
          have hDN := hs.hz
          have hs := hs.call hgr
          have hD := Blk.new wa2 #[.int .i64 0, .int .i64 0, .int .i64 0, .int .i64 0, .int .i64 0] 26
          refine hK _ _ (HX.out _ _ hs) ?_
          clear hK K hgr
          obtain ⟨bd, hbd⟩ : ∃ b, b = wa2.heap.size := ⟨_, rfl⟩
          rw [← hbd] at hD hDN ⊢
          rw [← hbd] at hne
          generalize wa2.alloc (.cells #[.int .i64 0, .int .i64 0, .int .i64 0, .int .i64 0, .int .i64 0] 26) = wa3 at hs hD hA ⊢
          clear hbd
          refine mix_eff3 rfl false rfl (fun K hK => ?_)
          obtain ⟨kk, hkk, hHH⟩ := hs.hnd
          have hco := claimOf_c hHH (by omega) hn4 hs.hL (fun h => h.1 rfl) (by show n ≤ 4; omega) h9
          rw [← HPN.out] at hco
          refine stq_fn rfl rfl rfl ent66 rfl rfl (by kernel_rfl) hco ?_
          rintro e wa4 ⟨⟨d, rfl, hdok⟩, ⟨k9, hk9, hH9⟩, hG9⟩
          refine ⟨_, rfl, ?_⟩
          have hA := hA.hand hG9 (hA.ne_hnd hs.hnd (by decide))
          have hD := hD.hand hG9 (hD.ne_hnd hs.hnd (by decide))
          have hs := hs.hand (K' := 142) ⟨k9, by omega, hH9⟩ hG9
          refine hK _ _ (HX.out _ _ hs) ?_
          clear hK K hHH hH9 hG9 hkk hk9 kk k9 hco
          refine mix_eff3 rfl true rfl (fun K hK => ?_)
          refine stq_st rfl rfl rfl (st_run26 hA c.kind c.point c.other c.off c.err) (by kernel_rfl) (by kernel_rfl) ?_
          refine hK _ _ trivial ?_
          clear hK K
          obtain ⟨hs, hA, hD⟩ := hs.put hA hAN hD (by omega) rfl c
          generalize (((((wa4.setCell ⟨ba, 0, none⟩ (.int .i64 c.kind)).setCell ⟨ba, 1, none⟩ (.int .i64 c.point)).setCell ⟨ba, 2, none⟩ (.int .i64 c.other)).setCell ⟨ba, 3, none⟩ (.int .i64 c.off)).setCell ⟨ba, 4, none⟩ (.int .i64 c.err)) = wa5 at hs hA hD ⊢
          refine mix_eff3 rfl true rfl (fun K hK => ?_)
          refine stq_st rfl rfl rfl (st_run26 hD d.kind d.point d.other d.off d.err) (by kernel_rfl) (by kernel_rfl) ?_
          refine hK _ _ trivial ?_
          clear hK K
          obtain ⟨hs, hD, hA⟩ := hs.put hD hDN hA (by omega) rfl d
          generalize (((((wa5.setCell ⟨bd, 0, none⟩ (.int .i64 d.kind)).setCell ⟨bd, 1, none⟩ (.int .i64 d.point)).setCell ⟨bd, 2, none⟩ (.int .i64 d.other)).setCell ⟨bd, 3, none⟩ (.int .i64 d.off)).setCell ⟨bd, 4, none⟩ (.int .i64 d.err)) = wa6 at hs hA hD ⊢
          refine mix_done2 ?_
          go_wp2_with fail
          go_meet
          case rel => exact ⟨ba, bd, c, d, rfl, rfl, hcok, hdok, hs.mono (by omega), hA, hD⟩
      · refine stq_new rfl rfl rfl (new_run26 _) ?_
        have hgr := (Below.refl wa1.heap.size wa1).alloc (Nat.le_refl _) (.cells #[.int .i64 0, .int .i64 0, .int .i64 0, .int .i64 0, .int .i64 0] 26)
        have hDN := hs.hz
        have hs := hs.call hgr
        have hD := Blk.new wa1 #[.int .i64 0, .int .i64 0, .int .i64 0, .int .i64 0, .int .i64 0] 26
        refine hK _ _ (HX.out _ _ hs) ?_
        clear hK K hgr
        obtain ⟨bd, hbd⟩ : ∃ b, b = wa1.heap.size := ⟨_, rfl⟩
        rw [← hbd] at hD hDN ⊢
        generalize wa1.alloc (.cells #[.int .i64 0, .int .i64 0, .int .i64 0, .int .i64 0, .int .i64 0] 26) = wa2 at hs hD ⊢
        clear hbd
        refine mix_two3 rfl rfl false false rfl rfl (fun K hK => ?_) (fun K hK => ?_)
        · obtain ⟨kk, hkk, hHH⟩ := hs.hnd
          have hco := claimOf_c hHH (by omega) hn4 hs.hL (fun h => h.1 rfl) (by show n ≤ 4; omega) h9
          rw [← HPN.out] at hco
          refine stq_fn rfl rfl rfl ent66 rfl rfl (by kernel_rfl) hco ?_
          rintro e wa3 ⟨⟨d, rfl, hdok⟩, ⟨k9, hk9, hH9⟩, hG9⟩
          refine ⟨_, rfl, ?_⟩
          have hD := hD.hand hG9 (hD.ne_hnd hs.hnd (by decide))
          have hs := hs.hand (K' := 142) ⟨k9, by omega, hH9⟩ hG9
          refine hK _ _ (HX.out _ _ hs) ?_
          clear hK K hHH hH9 hG9 hkk hk9 kk k9 hco
          refine mix_eff3 rfl false rfl (fun K hK => ?_)
          refine stq_new rfl rfl rfl (new_run26 _) ?_
          have hgr := (Below.refl wa3.heap.size wa3).alloc (Nat.le_refl _) (.cells #[.int .i64 0, .int .i64 0, .int .i64 0, .int .i64 0, .int .i64 0] 26)
          have hne := hD.lt
          have hD := hD.call hgr
          have hAN := hs.hz
          have hs := hs.call hgr
          have hA := Blk.new wa3 #[.int .i64 0, .int .i64 0, .int .i64 0, .int .i64 0, .int .i64 0] 26
          refine hK _ _ (HX.out _ _ hs) ?_
          clear hK K hgr
          obtain ⟨ba, hba⟩ : ∃ b, b = wa3.heap.size := ⟨_, rfl⟩
          rw [← hba] at hA hAN ⊢
          rw [← hba] at hne
          generalize wa3.alloc (.cells #[.int .i64 0, .int .i64 0, .int .i64 0, .int .i64 0, .int .i64 0] 26) = wa4 at hs hA hD ⊢
          clear hba
          refine mix_eff3 rfl true rfl (fun K hK => ?_)
          refine stq_st rfl rfl rfl (st_run26 hA c.kind c.point c.other c.off c.err) (by kernel_rfl) (by kernel_rfl) ?_
          refine hK _ _ trivial ?_
          clear hK K
          obtain ⟨hs, hA, hD⟩ := hs.put hA hAN hD (by omega) rfl c
          generalize (((((wa4.setCell ⟨ba, 0, none⟩ (.int .i64 c.kind)).setCell ⟨ba, 1, none⟩ (.int .i64 c.point)).setCell ⟨ba, 2, none⟩ (.int .i64 c.other)).setCell ⟨ba, 3, none⟩ (.int .i64 c.off)).setCell ⟨ba, 4, none⟩ (.int .i64 c.err)) = wa5 at hs hA hD ⊢
          refine mix_eff3 rfl true rfl (fun K hK => ?_)
          refine stq_st rfl rfl rfl (st_run26 hD d.kind d.point d.other d.off d.err) (by kernel_rfl) (by kernel_rfl) ?_
          refine hK _ _ trivial ?_
          clear hK K
          obtain ⟨hs, hD, hA⟩ := hs.put hD hDN hA (by omega) rfl d
          generalize (((((wa5.setCell ⟨bd, 0, none⟩ (.int .i64 d.kind)).setCell ⟨bd, 1, none⟩ (.int .i64 d.point)).setCell ⟨bd, 2, none⟩ (.int .i64 d.other)).setCell ⟨bd, 3, none⟩ (.int .i64 d.off)).setCell ⟨bd, 4, none⟩ (.int .i64 d.err)) = wa6 at hs hA hD ⊢
          refine mix_done2 ?_
          go_wp2_with fail
          go_meet
          case rel => exact ⟨ba, bd, c, d, rfl, rfl, hcok, hdok, hs.mono (by omega), hA, hD⟩
        · refine stq_new rfl rfl rfl (new_run26 _) ?_
          have hgr := (Below.refl wa2.heap.size wa2).alloc (Nat.le_refl _) (.cells #[.int .i64 0, .int .i64 0, .int .i64 0, .int .i64 0, .int .i64 0] 26)
          have hne := hD.lt
          have hD := hD.call hgr
          have hAN := hs.hz
          have hs := hs.call hgr
          have hA := Blk.new wa2 #[.int .i64 0, .int .i64 0, .int .i64 0, .int .i64 0, .int .i64 0] 26
          refine hK _ _ (HX.out _ _ hs) ?_
          clear hK K hgr
          obtain ⟨ba, hba⟩ : ∃ b, b = wa2.heap.size := ⟨_, rfl⟩
          rw [← hba] at hA hAN ⊢
          rw [← hba] at hne
          generalize wa2.alloc (.cells #[.int .i64 0, .int .i64 0, .int .i64 0, .int .i64 0, .int .i64 0] 26) = wa3 at hs hA hD ⊢
          clear hba
          refine mix_eff3 rfl false rfl (fun K hK => ?_)
          obtain ⟨kk, hkk, hHH⟩ := hs.hnd
          have hco := claimOf_c hHH (by omega) hn4 hs.hL (fun h => h.1 rfl) (by show n ≤ 4; omega) h9
          rw [← HPN.out] at hco
          refine stq_fn rfl rfl rfl ent66 rfl rfl (by kernel_rfl) hco ?_
          rintro e wa4 ⟨⟨d, rfl, hdok⟩, ⟨k9, hk9, hH9⟩, hG9⟩
          refine ⟨_, rfl, ?_⟩
          have hA := hA.hand hG9 (hA.ne_hnd hs.hnd (by decide))
          have hD := hD.hand hG9 (hD.ne_hnd hs.hnd (by decide))
          have hs := hs.hand (K' := 142) ⟨k9, by omega, hH9⟩ hG9
          refine hK _ _ (HX.out _ _ hs) ?_
          clear hK K hHH hH9 hG9 hkk hk9 kk k9 hco
          refine mix_eff3 rfl true rfl (fun K hK => ?_)
          refine stq_st rfl rfl rfl (st_run26 hA c.kind c.point c.other c.off c.err) (by kernel_rfl) (by kernel_rfl) ?_
          refine hK _ _ trivial ?_
          clear hK K
          obtain ⟨hs, hA, hD⟩ := hs.put hA hAN hD (by omega) rfl c
          generalize (((((wa4.setCell ⟨ba, 0, none⟩ (.int .i64 c.kind)).setCell ⟨ba, 1, none⟩ (.int .i64 c.point)).setCell ⟨ba, 2, none⟩ (.int .i64 c.other)).setCell ⟨ba, 3, none⟩ (.int .i64 c.off)).setCell ⟨ba, 4, none⟩ (.int .i64 c.err)) = wa5 at hs hA hD ⊢
          refine mix_eff3 rfl true rfl (fun K hK => ?_)
          refine stq_st rfl rfl rfl (st_run26 hD d.kind d.point d.other d.off d.err) (by kernel_rfl) (by kernel_rfl) ?_
          refine hK _ _ trivial ?_
          clear hK K
          obtain ⟨hs, hD, hA⟩ := hs.put hD hDN hA (by omega) rfl d
          generalize (((((wa5.setCell ⟨bd, 0, none⟩ (.int .i64 d.kind)).setCell ⟨bd, 1, none⟩ (.int .i64 d.point)).setCell ⟨bd, 2, none⟩ (.int .i64 d.other)).setCell ⟨bd, 3, none⟩ (.int .i64 d.off)).setCell ⟨bd, 4, none⟩ (.int .i64 d.err)) = wa6 at hs hA hD ⊢
          refine mix_done2 ?_
          go_wp2_with fail
          go_meet
          case rel => exact ⟨ba, bd, c, d, rfl, rfl, hcok, hdok, hs.mono (by omega), hA, hD⟩
    · refine stq_new rfl rfl rfl (new_run26 _) ?_
      have hgr := (Below.refl wd.heap.size wd).alloc (Nat.le_refl _) (.cells #[.int .i64 0, .int .i64 0, .int .i64 0, .int .i64 0, .int .i64 0] 26)
      have hAN := hs.hz
      have hs := hs.call hgr
      have hA := Blk.new wd #[.int .i64 0, .int .i64 0, .int .i64 0, .int .i64 0, .int .i64 0] 26
      refine hK _ _ (HX.out _ _ hs) ?_
      clear hK K hgr
      obtain ⟨ba, hba⟩ : ∃ b, b = wd.heap.size := ⟨_, rfl⟩
      rw [← hba] at hA hAN ⊢
      generalize wd.alloc (.cells #[.int .i64 0, .int .i64 0, .int .i64 0, .int .i64 0, .int .i64 0] 26) = wa1 at hs hA ⊢
      clear hba
      refine mix_two3 rfl rfl false false rfl rfl (fun K hK => ?_) (fun K hK => ?_)
      · obtain ⟨kk, hkk, hHH⟩ := hs.hnd
        have hco := claimOf_c hHH (by omega) hn4 hs.hL (fun h => h.1 rfl) (by show n ≤ 4; omega) h9
        rw [← HPN.out] at hco
        refine stq_fn rfl rfl rfl ent66 rfl rfl (by kernel_rfl) hco ?_
        rintro e wa2 ⟨⟨c, rfl, hcok⟩, ⟨k9, hk9, hH9⟩, hG9⟩
        refine ⟨_, rfl, ?_⟩
        have hA := hA.hand hG9 (hA.ne_hnd hs.hnd (by decide))
        have hs := hs.hand (K' := 121) ⟨k9, by omega, hH9⟩ hG9
        refine hK _ _ (HX.out _ _ hs) ?_
        clear hK K hHH hH9 hG9 hkk hk9 kk k9 hco
        refine mix_two3 rfl rfl false false rfl rfl (fun K hK => ?_) (fun K hK => ?_)
        · obtain ⟨kk, hkk, hHH⟩ := hs.hnd
          have hco := claimOf_c hHH (by omega) hn4 hs.hL (fun h => h.1 rfl) (by show n ≤ 4; omega) h9
          rw [← HPN.out] at hco
          refine stq_fn rfl rfl rfl ent66 rfl rfl (by kernel_rfl) hco ?_
          rintro e wa3 ⟨⟨d, rfl, hdok⟩, ⟨k9, hk9, hH9⟩, hG9⟩
          refine ⟨_, rfl, ?_⟩
          have hA := hA.hand hG9 (hA.ne_hnd hs.hnd (by decide))
          have hs := hs.hand (K' := 142) ⟨k9, by omega, hH9⟩ hG9
          refine hK _ _ (HX.out _ _ hs) ?_
          clear hK K hHH hH9 hG9 hkk hk9 kk k9 hco
          refine mix_eff3 rfl false rfl (fun K hK => ?_)
          refine stq_new rfl rfl rfl (new_run26 _) ?_
          have hgr := (Below.refl wa3.heap.size wa3).alloc (Nat.le_refl _) (.cells #[.int .i64 0, .int .i64 0, .int .i64 0, .int .i64 0, .int .i64 0] 26)
          have hne := hA.lt
          have hA := hA.call hgr
          have hDN := hs.hz
          have hs := hs.call hgr
          have hD := Blk.new wa3 #[.int .i64 0, .int .i64 0, .int .i64 0, .int .i64 0, .int .i64 0] 26
          refine hK _ _ (HX.out _ _ hs) ?_
          clear hK K hgr
          obtain ⟨bd, hbd⟩ : ∃ b, b = wa3.heap.size := ⟨_, rfl⟩
          rw [← hbd] at hD hDN ⊢
          rw [← hbd] at hne
          generalize wa3.alloc (.cells #[.int .i64 0, .int .i64 0, .int .i64 0, .int .i64 0, .int .i64 0] 26) = wa4 at hs hD hA ⊢
          clear hbd
          refine mix_eff3 rfl true rfl (fun K hK => ?_)
          refine stq_st rfl rfl rfl (st_run26 hA c.kind c.point c.other c.off c.err) (by kernel_rfl) (by kernel_rfl) ?_
          refine hK _ _ trivial ?_
          clear hK K
          obtain ⟨hs, hA, hD⟩ := hs.put hA hAN hD (by omega) rfl c
          generalize (((((wa4.setCell ⟨ba, 0, none⟩ (.int .i64 c.kind)).setCell ⟨ba, 1, none⟩ (.int .i64 c.point)).setCell ⟨ba, 2, none⟩ (.int .i64 c.other)).setCell ⟨ba, 3, none⟩ (.int .i64 c.off)).setCell ⟨ba, 4, none⟩ (.int .i64 c.err)) = wa5 at hs hA hD ⊢
          refine mix_eff3 rfl true rfl (fun K hK => ?_)
          refine stq_st rfl rfl rfl (st_run26 hD d.kind d.point d.other d.off d.err) (by kernel_rfl) (by kernel_rfl) ?_
          refine hK _ _ trivial ?_
          clear hK K
          obtain ⟨hs, hD, hA⟩ := hs.put hD hDN hA (by omega) rfl d
          generalize (((((wa5.setCell ⟨bd, 0, none⟩ (.int .i64 d.kind)).setCell ⟨bd, 1, none⟩ (.int .i64 d.point)).setCell ⟨bd, 2, none⟩ (.int .i64 d.other)).setCell ⟨bd, 3, none⟩ (.int .i64 d.off)).setCell ⟨bd, 4, none⟩ (.int .i64 d.err)) = wa6 at hs hA hD ⊢
          refine mix_done2 ?_
          go_wp2_with fail
          go_meet
          case rel => exact ⟨ba, bd, c, d, rfl, rfl, hcok, hdok, hs.mono (by omega), hA, hD⟩
        · refine stq_new rfl rfl rfl (new_run26 _) ?_
          have hgr := (Below.refl wa2.heap.size wa2).alloc (Nat.le_refl _) (.cells #[.int .i64 0, .int .i64 0, .int .i64 0, .int .i64 0, .int .i64 0] 26)
          have hne := hA.lt
          have hA := hA.call hgr
          have hDN := hs.hz
          have hs := hs.call hgr
          have hD := Blk.new wa2 #[.int .i64 0, .int .i64 0, .int .i64 0, .int .i64 0, .int .i64 0] 26
          refine hK _ _ (HX.out _ _ hs) ?_
          clear hK K hgr
          obtain ⟨bd, hbd⟩ : ∃ b, b = wa2.heap.size := ⟨_, rfl⟩
          rw [← hbd] at hD hDN ⊢
          rw [← hbd] at hne
          generalize wa2.alloc (.cells #[.int .i64 0, .int .i64 0, .int .i64 0, .int .i64 0, .int .i64 0] 26) = wa3 at hs hD hA ⊢
          clear hbd
          refine mix_eff3 rfl false rfl (fun K hK => ?_)
          obtain ⟨kk, hkk, hHH⟩ := hs.hnd
          have hco := claimOf_c hHH (by omega) hn4 hs.hL (fun h => h.1 rfl) (by show n ≤ 4; omega) h9
          rw [← HPN.out] at hco
          refine stq_fn rfl rfl rfl ent66 rfl rfl (by kernel_rfl) hco ?_
          rintro e wa4 ⟨⟨d, rfl, hdok⟩, ⟨k9, hk9, hH9⟩, hG9⟩
          refine ⟨_, rfl, ?_⟩
          have hA := hA.hand hG9 (hA.ne_hnd hs.hnd (by decide))
          have hD := hD.hand hG9 (hD.ne_hnd hs.hnd (by decide))
          have hs := hs.hand (K' := 142) ⟨k9, by omega, hH9⟩ hG9
          refine hK _ _ (HX.out _ _ hs) ?_
          clear hK K hHH hH9 hG9 hkk hk9 kk k9 hco
          refine mix_eff3 rfl true rfl (fun K hK => ?_)
          refine stq_st rfl rfl rfl (st_run26 hA c.kind c.point c.other c.off c.err) (by kernel_rfl) (by kernel_rfl) ?_
          refine hK _ _ trivial ?_
          clear hK K
          obtain ⟨hs, hA, hD⟩ := hs.put hA hAN hD (by omega) rfl c
          generalize (((((wa4.setCell ⟨ba, 0, none⟩ (.int .i64 c.kind)).setCell ⟨ba, 1, none⟩ (.int .i64 c.point)).setCell ⟨ba, 2, none⟩ (.int .i64 c.other)).setCell ⟨ba, 3, none⟩ (.int .i64 c.off)).setCell ⟨ba, 4, none⟩ (.int .i64 c.err)) = wa5 at hs hA hD ⊢
          refine mix_eff3 rfl true rfl (fun K hK => ?_)
          refine stq_st rfl rfl rfl (st_run26 hD d.kind d.point d.other d.off d.err) (by kernel_rfl) (by kernel_rfl) ?_
          refine hK _ _ trivial ?_
          clear hK K
          obtain ⟨hs, hD, hA⟩ := hs.put hD hDN hA (by omega) rfl d
          generalize (((((wa5.setCell ⟨bd, 0, none⟩ (.int .i64 d.kind)).setCell ⟨bd, 1, none⟩ (.int .i64 d.point)).setCell ⟨bd, 2, none⟩ (.int .i64 d.other)).setCell ⟨bd, 3, none⟩ (.int .i64 d.off)).setCell ⟨bd, 4, none⟩ (.int .i64 d.err)) = wa6 at hs hA hD ⊢
          refine mix_done2 ?_
          go_wp2_with fail
          go_meet
          case rel => exact ⟨ba, bd, c, d, rfl, rfl, hcok, hdok, hs.mono (by omega), hA, hD⟩
      · refine stq_new rfl rfl rfl (new_run26 _) ?_
        have hgr := (Below.refl wa1.heap.size wa1).alloc (Nat.le_refl _) (.cells #[.int .i64 0, .int .i64 0, .int .i64 0, .int .i64 0, .int .i64 0] 26)
        have hne := hA.lt
        have hA := hA.call hgr
        have hDN := hs.hz
        have hs := hs.call hgr
        have hD := Blk.new wa1 #[.int .i64 0, .int .i64 0, .int .i64 0, .int .i64 0, .int .i64 0] 26
        refine hK _ _ (HX.out _ _ hs) ?_
        clear hK K hgr
        obtain ⟨bd, hbd⟩ : ∃ b, b = wa1.heap.size := ⟨_, rfl⟩
        rw [← hbd] at hD hDN ⊢
        rw [← hbd] at hne
        generalize wa1.alloc (.cells #[.int .i64 0, .int .i64 0, .int .i64 0, .int .i64 0, .int .i64 0] 26) = wa2 at hs hD hA ⊢
        clear hbd
        refine mix_eff3 rfl false rfl (fun K hK => ?_)
        obtain ⟨kk, hkk, hHH⟩ := hs.hnd
        have hco := claimOf_c hHH (by omega) hn4 hs.hL (fun h => h.1 rfl) (by show n ≤ 4; omega) h9
        rw [← HPN.out] at hco
        refine stq_fn rfl rfl rfl ent66 rfl rfl (by kernel_rfl) hco ?_
        rintro e wa3 ⟨⟨c, rfl, hcok⟩, ⟨k9, hk9, hH9⟩, hG9⟩
        refine ⟨_, rfl, ?_⟩
        have hA := hA.hand hG9 (hA.ne_hnd hs.hnd (by decide))
        have hD := hD.hand hG9 (hD.ne_hnd hs.hnd (by decide))
        have hs := hs.hand (K' := 121) ⟨k9, by omega, hH9⟩ hG9
        refine hK _ _ (HX.out _ _ hs) ?_
        clear hK K hHH hH9 hG9 hkk hk9 kk k9 hco
        refine mix_eff3 rfl false rfl (fun K hK => ?_)
        obtain ⟨kk, hkk, hHH⟩ := hs.hnd
        have hco := claimOf_c hHH (by omega) hn4 hs.hL (fun h => h.1 rfl) (by show n ≤ 4; omega) h9
        rw [← HPN.out] at hco
        refine stq_fn rfl rfl rfl ent66 rfl rfl (by kernel_rfl) hco ?_
        rintro e wa4 ⟨⟨d, rfl, hdok⟩, ⟨k9, hk9, hH9⟩, hG9⟩
        refine ⟨_, rfl, ?_⟩
        have hA := hA.hand hG9 (hA.ne_hnd hs.hnd (by decide))
        have hD := hD.hand hG9 (hD.ne_hnd hs.hnd (by decide))
        have hs := hs.hand (K' := 142) ⟨k9, by omega, hH9⟩ hG9
        refine hK _ _ (HX.out _ _ hs) ?_
        clear hK K hHH hH9 hG9 hkk hk9 kk k9 hco
        refine mix_eff3 rfl true rfl (fun K hK => ?_)
        refine stq_st rfl rfl rfl (st_run26 hA c.kind c.point c.other c.off c.err) (by kernel_rfl) (by kernel_rfl) ?_
        refine hK _ _ trivial ?_
        clear hK K
        obtain ⟨hs, hA, hD⟩ := hs.put hA hAN hD (by omega) rfl c
        generalize (((((wa4.setCell ⟨ba, 0, none⟩ (.int .i64 c.kind)).setCell ⟨ba, 1, none⟩ (.int .i64 c.point)).setCell ⟨ba, 2, none⟩ (.int .i64 c.other)).setCell ⟨ba, 3, none⟩ (.int .i64 c.off)).setCell ⟨ba, 4, none⟩ (.int .i64 c.err)) = wa5 at hs hA hD ⊢
        refine mix_eff3 rfl true rfl (fun K hK => ?_)
        refine stq_st rfl rfl rfl (st_run26 hD d.kind d.point d.other d.off d.err) (by kernel_rfl) (by kernel_rfl) ?_
        refine hK _ _ trivial ?_
        clear hK K
        obtain ⟨hs, hD, hA⟩ := hs.put hD hDN hA (by omega) rfl d
        generalize (((((wa5.setCell ⟨bd, 0, none⟩ (.int .i64 d.kind)).setCell ⟨bd, 1, none⟩ (.int .i64 d.point)).setCell ⟨bd, 2, none⟩ (.int .i64 d.other)).setCell ⟨bd, 3, none⟩ (.int .i64 d.off)).setCell ⟨bd, 4, none⟩ (.int .i64 d.err)) = wa6 at hs hA hD ⊢
        refine mix_done2 ?_
        go_wp2_with fail
        go_meet
        case rel => exact ⟨ba, bd, c, d, rfl, rfl, hcok, hdok, hs.mono (by omega), hA, hD⟩
    · refine stq_new rfl rfl rfl (new_run26 _) ?_
      have hgr := (Below.refl wd.heap.size wd).alloc (Nat.le_refl _) (.cells #[.int .i64 0, .int .i64 0, .int .i64 0, .int .i64 0, .int .i64 0] 26)
      have hDN := hs.hz
      have hs := hs.call hgr
      have hD := Blk.new wd #[.int .i64 0, .int .i64 0, .int .i64 0, .int .i64 0, .int .i64 0] 26
      refine hK _ _ (HX.out _ _ hs) ?_
      clear hK K hgr
      obtain ⟨bd, hbd⟩ : ∃ b, b = wd.heap.size := ⟨_, rfl⟩
      rw [← hbd] at hD hDN ⊢
      generalize wd.alloc (.cells #[.int .i64 0, .int .i64 0, .int .i64 0, .int .i64 0, .int .i64 0] 26) = wa1 at hs hD ⊢
      clear hbd
      refine mix_two3 rfl rfl false false rfl rfl (fun K hK => ?_) (fun K hK => ?_)
      · obtain ⟨kk, hkk, hHH⟩ := hs.hnd
        have hco := claimOf_c hHH (by omega) hn4 hs.hL (fun h => h.1 rfl) (by show n ≤ 4; omega) h9
        rw [← HPN.out] at hco
        refine stq_fn rfl rfl rfl ent66 rfl rfl (by kernel_rfl) hco ?_
        rintro e wa2 ⟨⟨c, rfl, hcok⟩, ⟨k9, hk9, hH9⟩, hG9⟩
        refine ⟨_, rfl, ?_⟩
        have hD := hD.hand hG9 (hD.ne_hnd hs.hnd (by decide))
        have hs := hs.hand (K' := 121) ⟨k9, by omega, hH9⟩ hG9
        refine hK _ _ (HX.out _ _ hs) ?_
        clear hK K hHH hH9 hG9 hkk hk9 kk k9 hco
        refine mix_two3 rfl rfl false false rfl rfl (fun K hK => ?_) (fun K hK => ?_)
        · obtain ⟨kk, hkk, hHH⟩ := hs.hnd
          have hco := claimOf_c hHH (by omega) hn4 hs.hL (fun h => h.1 rfl) (by show n ≤ 4; omega) h9
          rw [← HPN.out] at hco
          refine stq_fn rfl rfl rfl ent66 rfl rfl (by kernel_rfl) hco ?_
          rintro e wa3 ⟨⟨d, rfl, hdok⟩, ⟨k9, hk9, hH9⟩, hG9⟩
          refine ⟨_, rfl, ?_⟩
          have hD := hD.hand hG9 (hD.ne_hnd hs.hnd (by decide))
          have hs := hs.hand (K' := 142) ⟨k9, by omega, hH9⟩ hG9
          refine hK _ _ (HX.out _ _ hs) ?_
          clear hK K hHH hH9 hG9 hkk hk9 kk k9 hco
          refine mix_eff3 rfl false rfl (fun K hK => ?_)
          refine stq_new rfl rfl rfl (new_run26 _) ?_
          have hgr := (Below.refl wa3.heap.size wa3).alloc (Nat.le_refl _) (.cells #[.int .i64 0, .int .i64 0, .int .i64 0, .int .i64 0, .int .i64 0] 26)
          have hne := hD.lt
          have hD := hD.call hgr
          have hAN := hs.hz
          have hs := hs.call hgr
          have hA := Blk.new wa3 #[.int .i64 0, .int .i64 0, .int .i64 0, .int .i64 0, .int .i64 0] 26
          refine hK _ _ (HX.out _ _ hs) ?_
          clear hK K hgr
          obtain ⟨ba, hba⟩ : ∃ b, b = wa3.heap.size := ⟨_, rfl⟩
          rw [← hba] at hA hAN ⊢
          rw [← hba] at hne
          generalize wa3.alloc (.cells #[.int .i64 0, .int .i64 0, .int .i64 0, .int .i64 0, .int .i64 0] 26) = wa4 at hs hA hD ⊢
          clear hba
          refine mix_eff3 rfl true rfl (fun K hK => ?_)
          refine stq_st rfl rfl rfl (st_run26 hA c.kind c.point c.other c.off c.err) (by kernel_rfl) (by kernel_rfl) ?_
          refine hK _ _ trivial ?_
          clear hK K
          obtain ⟨hs, hA, hD⟩ := hs.put hA hAN hD (by omega) rfl c
          generalize (((((wa4.setCell ⟨ba, 0, none⟩ (.int .i64 c.kind)).setCell ⟨ba, 1, none⟩ (.int .i64 c.point)).setCell ⟨ba, 2, none⟩ (.int .i64 c.other)).setCell ⟨ba, 3, none⟩ (.int .i64 c.off)).setCell ⟨ba, 4, none⟩ (.int .i64 c.err)) = wa5 at hs hA hD ⊢
          refine mix_eff3 rfl true rfl (fun K hK => ?_)
          refine stq_st rfl rfl rfl (st_run26 hD d.kind d.point d.other d.off d.err) (by kernel_rfl) (by kernel_rfl) ?_
          refine hK _ _ trivial ?_
          clear hK K
          obtain ⟨hs, hD, hA⟩ := hs.put hD hDN hA (by omega) rfl d
          generalize (((((wa5.setCell ⟨bd, 0, none⟩ (.int .i64 d.kind)).setCell ⟨bd, 1, none⟩ (.int .i64 d.point)).setCell ⟨bd, 2, none⟩ (.int .i64 d.other)).setCell ⟨bd, 3, none⟩ (.int .i64 d.off)).setCell ⟨bd, 4, none⟩ (.int .i64 d.err)) = wa6 at hs hA hD ⊢
          refine mix_done2 ?_
          go_wp2_with fail
          go_meet
          case rel => exact ⟨ba, bd, c, d, rfl, rfl, hcok, hdok, hs.mono (by omega), hA, hD⟩
        · refine stq_new rfl rfl rfl (new_run26 _) ?_
          have hgr := (Below.refl wa2.heap.size wa2).alloc (Nat.le_refl _) (.cells #[.int .i64 0, .int .i64 0, .int .i64 0, .int .i64 0, .int .i64 0] 26)
          have hne := hD.lt
          have hD := hD.call hgr
          have hAN := hs.hz
          have hs := hs.call hgr
          have hA := Blk.new wa2 #[.int .i64 0, .int .i64 0, .int .i64 0, .int .i64 0, .int .i64 0] 26
          refine hK _ _ (HX.out _ _ hs) ?_
          clear hK K hgr
          obtain ⟨ba, hba⟩ : ∃ b, b = wa2.heap.size := ⟨_, rfl⟩
          rw [← hba] at hA hAN ⊢
          rw [← hba] at hne
          generalize wa2.alloc (.cells #[.int .i64 0, .int .i64 0, .int .i64 0, .int .i64 0, .int .i64 0] 26) = wa3 at hs hA hD ⊢
          clear hba
          refine mix_eff3 rfl false rfl (fun K hK => ?_)
          obtain ⟨kk, hkk, hHH⟩ := hs.hnd
          have hco := claimOf_c hHH (by omega) hn4 hs.hL (fun h => h.1 rfl) (by show n ≤ 4; omega) h9
          rw [← HPN.out] at hco
          refine stq_fn rfl rfl rfl ent66 rfl rfl (by kernel_rfl) hco ?_
          rintro e wa4 ⟨⟨d, rfl, hdok⟩, ⟨k9, hk9, hH9⟩, hG9⟩
          refine ⟨_, rfl, ?_⟩
          have hA := hA.hand hG9 (hA.ne_hnd hs.hnd (by decide))
          have hD := hD.hand hG9 (hD.ne_hnd hs.hnd (by decide))
          have hs := hs.hand (K' := 142) ⟨k9, by omega, hH9⟩ hG9
          refine hK _ _ (HX.out _ _ hs) ?_
          clear hK K hHH hH9 hG9 hkk hk9 kk k9 hco
          refine mix_eff3 rfl true rfl (fun K hK => ?_)
          refine stq_st rfl rfl rfl (st_run26 hA c.kind c.point c.other c.off c.err) (by kernel_rfl) (by kernel_rfl) ?_
          refine hK _ _ trivial ?_
          clear hK K
          obtain ⟨hs, hA, hD⟩ := hs.put hA hAN hD (by omega) rfl c
          generalize (((((wa4.setCell ⟨ba, 0, none⟩ (.int .i64 c.kind)).setCell ⟨ba, 1, none⟩ (.int .i64 c.point)).setCell ⟨ba, 2, none⟩ (.int .i64 c.other)).setCell ⟨ba, 3, none⟩ (.int .i64 c.off)).setCell ⟨ba, 4, none⟩ (.int .i64 c.err)) = wa5 at hs hA hD ⊢
          refine mix_eff3 rfl true rfl (fun K hK => ?_)
          refine stq_st rfl rfl rfl (st_run26 hD d.kind d.point d.other d.off d.err) (by kernel_rfl) (by kernel_rfl) ?_
          refine hK _ _ trivial ?_
          clear hK K
          obtain ⟨hs, hD, hA⟩ := hs.put hD hDN hA (by omega) rfl d
          generalize (((((wa5.setCell ⟨bd, 0, none⟩ (.int .i64 d.kind)).setCell ⟨bd, 1, none⟩ (.int .i64 d.point)).setCell ⟨bd, 2, none⟩ (.int .i64 d.other)).setCell ⟨bd, 3, none⟩ (.int .i64 d.off)).setCell ⟨bd, 4, none⟩ (.int .i64 d.err)) = wa6 at hs hA hD ⊢
          refine mix_done2 ?_
          go_wp2_with fail
          go_meet
          case rel => exact ⟨ba, bd, c, d, rfl, rfl, hcok, hdok, hs.mono (by omega), hA, hD⟩
      · refine stq_new rfl rfl rfl (new_run26 _) ?_
        have hgr := (Below.refl wa1.heap.size wa1).alloc (Nat.le_refl _) (.cells #[.int .i64 0, .int .i64 0, .int .i64 0, .int .i64 0, .int .i64 0] 26)
        have hne := hD.lt
        have hD := hD.call hgr
        have hAN := hs.hz
        have hs := hs.call hgr
        have hA := Blk.new wa1 #[.int .i64 0, .int .i64 0, .int .i64 0, .int .i64 0, .int .i64 0] 26
        refine hK _ _ (HX.out _ _ hs) ?_
        clear hK K hgr
        obtain ⟨ba, hba⟩ : ∃ b, b = wa1.heap.size := ⟨_, rfl⟩
        rw [← hba] at hA hAN ⊢
        rw [← hba] at hne
        generalize wa1.alloc (.cells #[.int .i64 0, .int .i64 0, .int .i64 0, .int .i64 0, .int .i64 0] 26) = wa2 at hs hA hD ⊢
        clear hba
        refine mix_eff3 rfl false rfl (fun K hK => ?_)
        obtain ⟨kk, hkk, hHH⟩ := hs.hnd
        have hco := claimOf_c hHH (by omega) hn4 hs.hL (fun h => h.1 rfl) (by show n ≤ 4; omega) h9
        rw [← HPN.out] at hco
        refine stq_fn rfl rfl rfl ent66 rfl rfl (by kernel_rfl) hco ?_
        rintro e wa3 ⟨⟨c, rfl, hcok⟩, ⟨k9, hk9, hH9⟩, hG9⟩
        refine ⟨_, rfl, ?_⟩
        have hA := hA.hand hG9 (hA.ne_hnd hs.hnd (by decide))
        have hD := hD.hand hG9 (hD.ne_hnd hs.hnd (by decide))
        have hs := hs.hand (K' := 121) ⟨k9, by omega, hH9⟩ hG9
        refine hK _ _ (HX.out _ _ hs) ?_
        clear hK K hHH hH9 hG9 hkk hk9 kk k9 hco
        refine mix_eff3 rfl false rfl (fun K hK => ?_)
        obtain ⟨kk, hkk, hHH⟩ := hs.hnd
        have hco := claimOf_c hHH (by omega) hn4 hs.hL (fun h => h.1 rfl) (by show n ≤ 4; omega) h9
        rw [← HPN.out] at hco
        refine stq_fn rfl rfl rfl ent66 rfl rfl (by kernel_rfl) hco ?_
        rintro e wa4 ⟨⟨d, rfl, hdok⟩, ⟨k9, hk9, hH9⟩, hG9⟩
        refine ⟨_, rfl, ?_⟩
        have hA := hA.hand hG9 (hA.ne_hnd hs.hnd (by decide))
        have hD := hD.hand hG9 (hD.ne_hnd hs.hnd (by decide))
        have hs := hs.hand (K' := 142) ⟨k9, by omega, hH9⟩ hG9
        refine hK _ _ (HX.out _ _ hs) ?_
        clear hK K hHH hH9 hG9 hkk hk9 kk k9 hco
        refine mix_eff3 rfl true rfl (fun K hK => ?_)
        refine stq_st rfl rfl rfl (st_run26 hA c.kind c.point c.other c.off c.err) (by kernel_rfl) (by kernel_rfl) ?_
        refine hK _ _ trivial ?_
        clear hK K
        obtain ⟨hs, hA, hD⟩ := hs.put hA hAN hD (by omega) rfl c
        generalize (((((wa4.setCell ⟨ba, 0, none⟩ (.int .i64 c.kind)).setCell ⟨ba, 1, none⟩ (.int .i64 c.point)).setCell ⟨ba, 2, none⟩ (.int .i64 c.other)).setCell ⟨ba, 3, none⟩ (.int .i64 c.off)).setCell ⟨ba, 4, none⟩ (.int .i64 c.err)) = wa5 at hs hA hD ⊢
        refine mix_eff3 rfl true rfl (fun K hK => ?_)
        refine stq_st rfl rfl rfl (st_run26 hD d.kind d.point d.other d.off d.err) (by kernel_rfl) (by kernel_rfl) ?_
        refine hK _ _ trivial ?_
        clear hK K
        obtain ⟨hs, hD, hA⟩ := hs.put hD hDN hA (by omega) rfl d
        generalize (((((wa5.setCell ⟨bd, 0, none⟩ (.int .i64 d.kind)).setCell ⟨bd, 1, none⟩ (.int .i64 d.point)).setCell ⟨bd, 2, none⟩ (.int .i64 d.other)).setCell ⟨bd, 3, none⟩ (.int .i64 d.off)).setCell ⟨bd, 4, none⟩ (.int .i64 d.err)) = wa6 at hs hA hD ⊢
        refine mix_done2 ?_
        go_wp2_with fail
        go_meet
        case rel => exact ⟨ba, bd, c, d, rfl, rfl, hcok, hdok, hs.mono (by omega), hA, hD⟩
  case rest =>
  obtain ⟨ba, bd, c, d, rfl, rfl, hcok, hdok, hs9, hA9, hD9⟩ := hcut
  rename World => w9
  have hX9 := hs9.hX
  have hC9 : ClsM (fun q => q ≠ w.heap.size) w9 (.slice ax x.claims.length cx) x.claims := hs9.rx.wide fun q hq _ => hq.1
  have hB9 := hs9.below
  have hNN := hs9.hN
  obtain ⟨k9, hk9, hH9⟩ := hs9.hnd
  have hbaw := hA9.ne_hnd ⟨k9, Nat.le_refl _, hH9⟩ (by decide)
  have hbdw := hD9.ne_hnd ⟨k9, Nat.le_refl _, hH9⟩ (by decide)
  have hbxw : bx ≠ w.heap.size := hNN.2.2
  clear hs9 hs0 HX h9 hN2 hx7l hz8 hh7
  have x0 := hX9.cell 0
  have x1 := hX9.cell 1
  have x2 := hX9.cell 2
  go_wp2_with fail
  refine (furrowsOf_c hH9 (by omega) hx.p ax x.claims.length cx).mono ?_
  rintro e w10 ⟨⟨L, vf, rfl, hfx, hF10⟩, ⟨k10, hk10, hH10⟩, hG10⟩
  have hX10 := hX9.hand hG10 hbxw
  have hC10 := Elems.only hC9 hG10 (fun e => e rfl)
  have hA10 := hA9.hand hG10 hbaw
  have hD10 := hD9.hand hG10 hbdw
  have hB10 := bhand hB9 hG10 (Nat.le_refl _)
  obtain ⟨af, cf, rfl⟩ := own_slice hF10
  have hh9 := hH9.lt
  have hF10 : FusM (fun q => q ≠ w.heap.size) w10 (.slice af L.length cf) L := hF10.fus.wide fun q hq _ => by omega
  clear x0 x1 x2 hX9 hC9 hA9 hD9 hB9 hG10 hH9
  go_wp2_with fail
  refine (upto_c hH10 (by omega) 30 (by omega) (by omega)).mono ?_
  rintro e w11 ⟨⟨yr, rfl, hyr, hyrb⟩, ⟨k11, hk11, hH11⟩, hG11⟩
  have hX11 := hX10.hand hG11 hbxw
  have hC11 := Elems.only hC10 hG11 (fun e => e rfl)
  have hF11 := Elems.only hF10 hG11 (fun e => e rfl)
  have hA11 := hA10.hand hG11 hbaw
  have hD11 := hD10.hand hG11 hbdw
  have hB11 := bhand hB10 hG11 (Nat.le_refl _)
  clear hX10 hC10 hF10 hA10 hD10 hB10 hG11 hH10 hH11
  have hl7 : x.claims.length < 7 := by omega
  have hyok := add_okX hx hcok hl7
  have hcx := count_ok hx
  have hasked := asked_ok hx hcok
  have hcon := count25_c hC11
  rw [hcx] at hcon
  have HCON := Lib.hid hcon
  clear hcon
  have x0 := hX11.cell 0
  have x1 := hX11.cell 1
  have x2 := hX11.cell 2
  go_wp2_with fail
  refine HCON.out.mono ?_
  rintro e w12 ⟨rfl, hS12⟩
  have hX12 := hX11.call hS12
  have hC12 := hC11.call hS12
  have hF12 := hF11.call hS12
  have hA12 := hA11.call hS12
  have hD12 := hD11.call hS12
  have hB12 := bnx hB11 hS12
  clear HCON x0 x1 x2 hX11 hC11 hF11 hA11 hD11 hB11
  rcases bnd_cases hyok with ⟨htn, hbn, hht⟩ | ⟨s2, hs2, hbn2, hht⟩
  · have hadd : addX x c = (noE, 12) := by unfold addX; rw [if_neg (not_not_intro hasked), if_neg (by omega), if_pos hht]
    have hcon := add_c hC12 c
    rw [hadd] at hcon
    have HCON := Lib.hid hcon
    clear hcon
    have x0 := hX12.cell 0
    have x1 := hX12.cell 1
    have x2 := hX12.cell 2
    have a0 := hA12.cell 0
    have a1 := hA12.cell 1
    have a2 := hA12.cell 2
    have a3 := hA12.cell 3
    have a4 := hA12.cell 4
    go_wp2_with fail
    refine HCON.out.mono ?_
    rintro e w13 ⟨vy, rfl, hY13, hS13⟩
    have hX13 := hX12.call hS13
    have hC13 := hC12.call hS13
    have hA13 := hA12.call hS13
    have hB13 := bnx hB12 hS13
    clear HCON x0 x1 x2 a0 a1 a2 a3 a4 hX12 hC12 hA12 hB12
    obtain ⟨ay, cy, rfl, -, -⟩ := hY13.shape
    have hX14 := hX13.alloc (.cells #[.int .i64 noE.points, .int .i64 noE.bend, .slice ay noE.claims.length cy] 24)
    have hC14 := hC13.call ((Below.refl _ _).alloc (Nat.le_refl _) (.cells #[.int .i64 noE.points, .int .i64 noE.bend, .slice ay noE.claims.length cy] 24))
    have hA14 := hA13.alloc (.cells #[.int .i64 noE.points, .int .i64 noE.bend, .slice ay noE.claims.length cy] 24)
    have hB14 := bal2 (o := .cells #[.int .i64 noE.points, .int .i64 noE.bend, .slice ay noE.claims.length cy] 24) hB13
    go_upto_region 8 with fail
    generalize w13.alloc (.cells #[.int .i64 noE.points, .int .i64 noE.bend, .slice ay noE.claims.length cy] 24) = w14 at hX14 hC14 hA14 hB14 ⊢
    clear hX13 hC13 hA13 hB13 hY13
    have x0 := hX14.cell 0
    have x1 := hX14.cell 1
    have x2 := hX14.cell 2
    go_wp2_with fail
    refine (copyEdge_c hC14 (by omega)).mono ?_
    rintro e w15 ⟨vz, rfl, hO15, hS15⟩
    obtain ⟨az, cz, rfl⟩ := own_slice hO15
    obtain ⟨w16, hw16⟩ : ∃ w', w' = w15.alloc (.cells #[.int .i64 x.points, .int .i64 x.bend, .slice az x.claims.length cz] 24) := ⟨_, rfl⟩
    obtain ⟨bz, hbz⟩ : ∃ b, b = w15.heap.size := ⟨_, rfl⟩
    have hZ16 : Blk bz #[.int .i64 x.points, .int .i64 x.bend, .slice az x.claims.length cz] 24 w16 := by rw [hw16, hbz]; exact Blk.new _ _ _
    have hE16 : Below w14.heap.size w14 w16 := by rw [hw16]; exact bal2 hS15
    have hO16 : Own w14.heap.size w16 26 5 (.slice az x.claims.length cz) x.claims.length (x.claims.flatMap ccells) := by rw [hw16]; exact (own_from hO15 (by omega)).alloc _
    have hA16 := hA14.call hE16
    have hz16 := hE16.size
    have hbz14 : w14.heap.size ≤ bz := by rw [hbz]; exact hS15.size
    go_upto_region 12 with fail
    rw [← hw16, ← hbz]
    clear hw16 hbz hO15 hS15 x0 x1 x2 hX14 hC14 hA14
    have z2 := hZ16.cell 2
    have a0 := hA16.cell 0
    have a1 := hA16.cell 1
    have a2 := hA16.cell 2
    have a3 := hA16.cell 3
    have a4 := hA16.cell 4
    have ho6 := hO16.alloc (.cells #[.int .i64 c.kind, .int .i64 c.point, .int .i64 c.other, .int .i64 c.off, .int .i64 c.err] 26)
    have hZ6 := hZ16.alloc (.cells #[.int .i64 c.kind, .int .i64 c.point, .int .i64 c.other, .int .i64 c.off, .int .i64 c.err] 26)
    have hE6 := (Below.refl w16.heap.size w16).alloc (Nat.le_refl _) (.cells #[.int .i64 c.kind, .int .i64 c.point, .int .i64 c.other, .int .i64 c.off, .int .i64 c.err] 26)
    have ha6 := blk_arr (Blk.new w16 #[.int .i64 c.kind, .int .i64 c.point, .int .i64 c.other, .int .i64 c.off, .int .i64 c.err] 26) 1 (by omega)
    go_upto_region 13 with (at_builtin; go_loud (refine wpList_append_arr rfl _ _ 22 rfl 26 _ 5 40 Try.underlying22 Try.info26 rfl (by decide) (by decide) (by simp; omega) ho6 rfl ha6 rfl rfl (ccells_one c) (by omega) ?_; intro v7 w17 hO7 hT7; obtain ⟨a7, c7, rfl⟩ := own_slice hO7; have hZ7 := hZ6.keep (hT7.block _ hZ6.lt (fun e => by exact own_ne_t ho6 hZ6 (by decide) e)); have y2 := hZ7.cell 2; have f2 := hZ7.free 2))
    have hE7 := hT7.below2 (B' := w14.heap.size) ho6 (((Below.refl w14.heap.size w16)).alloc hz16 _) (by simp; omega) (Nat.le_refl _)
    have hZ8 := hZ7.set 2 (.slice a7 (x.claims.length + 1) c7)
    have hE8 := hE7.setCell (p := ⟨bz, 2, none⟩) hbz14 (.slice a7 (x.claims.length + 1) c7)
    have hO8 : Own w14.heap.size (w17.setCell ⟨bz, 2, none⟩ (.slice a7 (x.claims.length + 1) c7)) 26 5 (.slice a7 (x.claims.length + 1) c7) (x.claims.length + 1) (x.claims.flatMap ccells ++ ccells c) :=
      hO7.step fun q hq _ _ => Below.heap_setCell _ _ _ _ (fun e => own_ne_t hO7 hZ7 (by decide) (by rw [hq, e]))
    clear hZ7 hO7 hT7 y2 f2 hZ6 ho6 ha6 hE6 hE7 hZ16 hO16 z2 a0 a1 a2 a3 a4
    generalize w17.setCell ⟨bz, 2, none⟩ (.slice a7 (x.claims.length + 1) c7) = w18 at hZ8 hE8 hO8 ⊢
    have hB18 := hB14.trans ((hE16.trans hE8).mono hB14.size)
    have hl : (x.add c).claims.length = x.claims.length + 1 := by unfold Edg.add; simp
    have hc8 : ClsM (fun q => w14.heap.size ≤ q) w18 (.slice a7 (x.claims.length + 1) c7) (x.add c).claims := by
      rw [← hl]
      refine Own.cls ?_
      rw [hl]
      unfold Edg.add
      rw [cls_snoc]
      exact hO8
    have hcon := holds_c hc8 hyok
    rw [hht, show (x.add c).points = x.points from rfl, show (x.add c).bend = x.bend from rfl] at hcon
    have HCON := Lib.hid hcon
    have z0 := hZ8.cell 0
    have z1 := hZ8.cell 1
    have z2 := hZ8.cell 2
    clear hcon hO8 hc8
    go_wp2_with fail
    refine HCON.out.mono ?_
    rintro e w19 ⟨rfl, hS19⟩
    go_wp2_with fail
    refine (surveyed_c _).mono ?_
    rintro e w20 ⟨rfl, hS20⟩
    go_wp2_with fail
    go_ret
    exact ⟨rfl, bnx (bnx hB18 hS19) hS20⟩
  · have hn := HN.out
    have hadd : addX x c = (x.add c, 0) := by unfold addX; rw [if_neg (not_not_intro hasked), if_neg (by omega), if_neg (by rw [hht]; decide)]
    have htx : truthsF x ≠ [] := fun e => bndF_some hbn2 (by rw [truths_add, e]; rfl)
    obtain ⟨s1, hs1⟩ := bnd_exists hx htx
    have hbn1 := hs1.eq
    have hht1 : hasT x = true := by unfold hasT; cases hcc : truthsF x with | nil => exact absurd hcc htx | cons => rfl
    have hmc := more_count x c
    have hT0 : 0 < (truthsF (x.add c)).length := List.length_pos_iff.2 (bndF_some hbn2)
    have hcy := count_ok hyok
    have hbx1 := bounds_ok hx hbn1
    have hby1 := bounds_ok hyok hbn2
    have hfx1 := follows_ok hx hdok hht1
    have hfy1 := follows_ok hyok (c := d) hdok hht
    have hfy2 := follows_ok hyok (c := c) hcok hht
    rw [more_own] at hfy2
    have hvv := more_verd (l := truthsF x) (l' := truthsF (x.add c)) (fun a ha => by rw [truths_add] at ha; exact (List.mem_filter.1 ha).1) (q := fun t => d.holds (atL t)) (bndF_some hbn2)
    have hex := encr_ok hx hfx hbn1 (y := yr) (by omega)
    have hey := encr_ok hyok (l := L) hfx hbn2 (y := yr) (by omega)
    have hmb : ∀ p, p < n → gl s1 p ≤ gl s2 p ∧ gh s2 p ≤ gh s1 p := fun p hp => more_bounds hs1 hs2 (by omega)
    have hme : ∀ p, p < n → verdE (tkE L s1 p yr) ≠ 3 → verdE (tkE L s2 p yr) = verdE (tkE L s1 p yr) := fun p hp hv => by
      have h1 := hmb p hp
      have h2 := tkE_le hs1 L (p := p) (by omega) yr
      have h3 := tkE_le hs2 L (p := p) (by show p < x.n; omega) yr
      exact more_ends (tkF_mono _ h1.1) (tkF_mono _ h1.2) h2.1 h3.2 hv
    obtain ⟨y, hy⟩ : ∃ y, y = x.add c := ⟨_, rfl⟩
    have hyn : y.n = n := by rw [hn, hy]; rfl
    rw [← hy] at hadd hmc hT0 hcy hby1 hfy1 hfy2 hey hvv hs2 hyok
    obtain ⟨T1, hT1⟩ : ∃ T, T = ((truthsF x).length : Int) := ⟨_, rfl⟩
    obtain ⟨T2, hT2⟩ : ∃ T, T = ((truthsF y).length : Int) := ⟨_, rfl⟩
    obtain ⟨v1, hv1⟩ : ∃ v, v = verdF ((truthsF x).filter fun t => d.holds (atL t)).length (truthsF x).length := ⟨_, rfl⟩
    obtain ⟨v2, hv2⟩ : ∃ v, v = verdF ((truthsF y).filter fun t => d.holds (atL t)).length (truthsF y).length := ⟨_, rfl⟩
    rw [← hv1] at hfx1 hvv
    rw [← hv2] at hfy1 hvv
    rw [← hT2] at hcy
    have ht12 : T2 ≤ T1 := by omega
    have ht2 : 1 ≤ T2 := by omega
    have hs1a : s1.length ≤ n := by rw [hn]; exact Nat.le_of_eq hs1.len
    have hs1b : n ≤ s1.length := by rw [hn]; exact Nat.le_of_eq hs1.len.symm
    have hs2a : s2.length ≤ n := by rw [← hyn]; exact Nat.le_of_eq hs2.len
    have hs2b : n ≤ s2.length := by rw [← hyn]; exact Nat.le_of_eq hs2.len.symm
    rw [← hn] at hex
    rw [hyn] at hey
    obtain ⟨M1, hM1⟩ : ∃ M, M = (tkL L s1 yr n).map verdE := ⟨_, rfl⟩
    obtain ⟨M2, hM2⟩ : ∃ M, M = (tkL L s2 yr n).map verdE := ⟨_, rfl⟩
    have hml1 : M1.length ≤ n := by rw [hM1, List.length_map, tkL_len]; exact Nat.le_refl _
    have hml2 : M2.length ≤ n := by rw [hM2, List.length_map, tkL_len]; exact Nat.le_refl _
    have hml3 : n ≤ M1.length := by rw [hM1, List.length_map, tkL_len]; exact Nat.le_refl _
    have hml4 : n ≤ M2.length := by rw [hM2, List.length_map, tkL_len]; exact Nat.le_refl _
    have hmat : ∀ p, p < n → ∀ (h1 : p < M1.length) (h2 : p < M2.length), M1[p] = verdE (tkE L s1 p yr) ∧ M2[p] = verdE (tkE L s2 p yr) := fun p hp h1 h2 => by
      subst hM1
      subst hM2
      simp [tkL]
    rw [← hM1] at hex
    rw [← hM2] at hey
    have HMAT := Lib.hid hmat
    clear hM1 hM2 hmat
    have HSS := Lib.hid (show (∀ p, p < n → gl s1 p ≤ gl s2 p ∧ gh s2 p ≤ gh s1 p) ∧ ∀ p, p < n → verdE (tkE L s1 p yr) ≠ 3 → verdE (tkE L s2 p yr) = verdE (tkE L s1 p yr) from ⟨hmb, hme⟩)
    have HVV := Lib.hid hvv
    rw [← hT1]
    clear hmb hme hvv hmc hT0 hs1 hs2 hbn1 hbn2 hht hht1 htx hv1 hv2 hT2 hT1 hn hy hyn
    have hcon := add_c hC12 c
    rw [hadd] at hcon
    have HCON := Lib.hid hcon
    clear hcon
    have x0 := hX12.cell 0
    have x1 := hX12.cell 1
    have x2 := hX12.cell 2
    have a0 := hA12.cell 0
    have a1 := hA12.cell 1
    have a2 := hA12.cell 2
    have a3 := hA12.cell 3
    have a4 := hA12.cell 4
    go_wp2_with fail
    refine HCON.out.mono ?_
    rintro e w13 ⟨vy, rfl, hY13, hS13⟩
    have hX13 := hX12.call hS13
    have hC13 := hC12.call hS13
    have hF13 := hF12.call hS13
    have hA13 := hA12.call hS13
    have hD13 := hD12.call hS13
    have hB13 := bnx hB12 hS13
    clear HCON x0 x1 x2 a0 a1 a2 a3 a4 hX12 hC12 hF12 hA12 hD12 hB12
    obtain ⟨ay, cy, rfl, -, -⟩ := hY13.shape
    obtain ⟨w14, hw14⟩ : ∃ w', w' = w13.alloc (.cells #[.int .i64 y.points, .int .i64 y.bend, .slice ay y.claims.length cy] 24) := ⟨_, rfl⟩
    obtain ⟨by1, hby1'⟩ : ∃ b, b = w13.heap.size := ⟨_, rfl⟩
    have hY14 : Blk by1 #[.int .i64 y.points, .int .i64 y.bend, .slice ay y.claims.length cy] 24 w14 := by rw [hw14, hby1']; exact Blk.new _ _ _
    have hS14 : Below w13.heap.size w13 w14 := by rw [hw14]; exact (Below.refl _ _).alloc (Nat.le_refl _) _
    have hW14 := hY13.call hS14
    have hX14 := hX13.call hS14
    have hC14 := hC13.call hS14
    have hF14 := hF13.call hS14
    have hA14 := hA13.call hS14
    have hD14 := hD13.call hS14
    have hB14 := bnx hB13 hS14
    go_upto_region 8 with fail
    rw [← hw14, ← hby1']
    clear hw14 hby1' hS14 hX13 hC13 hF13 hA13 hD13 hB13 hY13
    have hcon := count25_c hW14
    rw [hcy] at hcon
    have HCON := Lib.hid hcon
    clear hcon
    have y0 := hY14.cell 0
    have y1 := hY14.cell 1
    have y2 := hY14.cell 2
    go_wp2_with fail
    refine HCON.out.mono ?_
    rintro e w15 ⟨rfl, hS15⟩
    have hX15 := hX14.call hS15
    have hC15 := hC14.call hS15
    have hF15 := hF14.call hS15
    have hA15 := hA14.call hS15
    have hD15 := hD14.call hS15
    have hY15 := hY14.call hS15
    have hW15 := hW14.call hS15
    have hB15 := bnx hB14 hS15
    clear HCON y0 y1 y2 hX14 hC14 hF14 hA14 hD14 hY14 hW14 hB14
    have hcon := bounds27_c hC15
    rw [hbx1] at hcon
    have HCON := Lib.hid hcon
    clear hcon
    have x0 := hX15.cell 0
    have x1 := hX15.cell 1
    have x2 := hX15.cell 2
    go_wp2_with fail
    refine HCON.out.mono ?_
    rintro e w16 ⟨va, rfl, hP16, hS16⟩
    have hX16 := hX15.call hS16
    have hC16 := hC15.call hS16
    have hF16 := hF15.call hS16
    have hA16 := hA15.call hS16
    have hD16 := hD15.call hS16
    have hY16 := hY15.call hS16
    have hW16 := hW15.call hS16
    have hB16 := bnx hB15 hS16
    clear HCON x0 x1 x2 hX15 hC15 hF15 hA15 hD15 hY15 hW15 hB15
    have hcon := bounds27_c hW16
    rw [hby1] at hcon
    have HCON := Lib.hid hcon
    clear hcon
    have y0 := hY16.cell 0
    have y1 := hY16.cell 1
    have y2 := hY16.cell 2
    go_wp2_with fail
    refine HCON.out.mono ?_
    rintro e w17 ⟨vb, rfl, hQ17, hS17⟩
    have hX17 := hX16.call hS17
    have hC17 := hC16.call hS17
    have hF17 := hF16.call hS17
    have hA17 := hA16.call hS17
    have hD17 := hD16.call hS17
    have hY17 := hY16.call hS17
    have hW17 := hW16.call hS17
    have hP17 := hP16.call hS17
    have hB17 := bnx hB16 hS17
    clear HCON y0 y1 y2 hX16 hC16 hF16 hA16 hD16 hY16 hW16 hP16 hB16
    have hcon := follows_c hC17 d
    rw [hfx1] at hcon
    have HCON := Lib.hid hcon
    clear hcon
    have x0 := hX17.cell 0
    have x1 := hX17.cell 1
    have x2 := hX17.cell 2
    have d0 := hD17.cell 0
    have d1 := hD17.cell 1
    have d2 := hD17.cell 2
    have d3 := hD17.cell 3
    have d4 := hD17.cell 4
    go_wp2_with fail
    refine HCON.out.mono ?_
    rintro e w18 ⟨rfl, hS18⟩
    have hX18 := hX17.call hS18
    have hC18 := hC17.call hS18
    have hF18 := hF17.call hS18
    have hA18 := hA17.call hS18
    have hD18 := hD17.call hS18
    have hY18 := hY17.call hS18
    have hW18 := hW17.call hS18
    have hP18 := hP17.call hS18
    have hQ18 := hQ17.call hS18
    have hB18 := bnx hB17 hS18
    clear HCON x0 x1 x2 d0 d1 d2 d3 d4 hX17 hC17 hF17 hA17 hD17 hY17 hW17 hP17 hQ17 hB17
    have hcon := follows_c hW18 d
    rw [hfy1] at hcon
    have HCON := Lib.hid hcon
    clear hcon
    have y0 := hY18.cell 0
    have y1 := hY18.cell 1
    have y2 := hY18.cell 2
    have d0 := hD18.cell 0
    have d1 := hD18.cell 1
    have d2 := hD18.cell 2
    have d3 := hD18.cell 3
    have d4 := hD18.cell 4
    go_wp2_with fail
    refine HCON.out.mono ?_
    rintro e w19 ⟨rfl, hS19⟩
    have hX19 := hX18.call hS19
    have hC19 := hC18.call hS19
    have hF19 := hF18.call hS19
    have hA19 := hA18.call hS19
    have hD19 := hD18.call hS19
    have hY19 := hY18.call hS19
    have hW19 := hW18.call hS19
    have hP19 := hP18.call hS19
    have hQ19 := hQ18.call hS19
    have hB19 := bnx hB18 hS19
    clear HCON y0 y1 y2 d0 d1 d2 d3 d4 hX18 hC18 hF18 hA18 hD18 hY18 hW18 hP18 hQ18 hB18
    obtain ⟨ga0, ca, rfl, -, -⟩ := hP19.shape
    obtain ⟨gb0, cb, rfl, -, -⟩ := hQ19.shape
    go_upto_region 20 with fail
    go_cut [177] from 128 to 177 (fun s177 wx => s177 = .bool false ∧ Qt w19 wx)
    case first =>
      have x0 := hX19.cell 0
      have b1 : decide (T2 > T1) = false := decide_eq_false (by omega)
      have b2 : decide (T2 < 1) = false := decide_eq_false (by omega)
      have hpn := HPN.out
      have b3 : ((s1.length : Int) != x.points) = false := by rw [bne_eq_false_iff_eq]; omega
      have b4 : ((s2.length : Int) != x.points) = false := by rw [bne_eq_false_iff_eq]; omega
      clear hpn
      by_cases hv3 : v1 = 3
      · have b5 : (v1 != 3) = false := by rw [bne_eq_false_iff_eq]; exact hv3
        clear hv3
        go_wp2_with fail
        go_meet
        case rel => exact ⟨rfl, Qt.refl _⟩
      · have b5 : (v1 != 3) = true := by rw [bne_iff_ne]; exact hv3
        have b6 : (v1 != v2) = false := by rw [bne_eq_false_iff_eq]; exact (HVV.out hv3).symm
        clear hv3
        go_wp2_with fail
        go_meet
        case rel => exact ⟨rfl, Qt.refl _⟩
    case rest =>
    obtain ⟨rfl, hq9⟩ := hcut
    rename World => w20
    have hX20 := hX19.call (hq9.below _)
    have hC20 := hC19.call (hq9.below _)
    have hF20 := hF19.call (hq9.below _)
    have hA20 := hA19.call (hq9.below _)
    have hD20 := hD19.call (hq9.below _)
    have hY20 := hY19.call (hq9.below _)
    have hW20 := hW19.call (hq9.below _)
    have hP20 := hP19.call (hq9.below _)
    have hQ20 := hQ19.call (hq9.below _)
    have hB20 := hB19.trans (hq9.below _)
    clear hq9 hX19 hC19 hF19 hA19 hD19 hY19 hW19 hP19 hQ19 hB19
    have hcon := encr_c hC20 hF20 yr
    rw [hex] at hcon
    have HCON := Lib.hid hcon
    clear hcon
    have x0 := hX20.cell 0
    have x1 := hX20.cell 1
    have x2 := hX20.cell 2
    go_wp2_with fail
    refine HCON.out.mono ?_
    rintro e w21 ⟨vp, rfl, hM21, hS21⟩
    have hX21 := hX20.call hS21
    have hC21 := hC20.call hS21
    have hF21 := hF20.call hS21
    have hA21 := hA20.call hS21
    have hD21 := hD20.call hS21
    have hY21 := hY20.call hS21
    have hW21 := hW20.call hS21
    have hP21 := hP20.call hS21
    have hQ21 := hQ20.call hS21
    have hB21 := bnx hB20 hS21
    clear HCON x0 x1 x2 hX20 hC20 hF20 hA20 hD20 hY20 hW20 hP20 hQ20 hB20
    have hcon := encr_c hW21 hF21 yr
    rw [hey] at hcon
    have HCON := Lib.hid hcon
    clear hcon
    have y0 := hY21.cell 0
    have y1 := hY21.cell 1
    have y2 := hY21.cell 2
    go_wp2_with fail
    refine HCON.out.mono ?_
    rintro e w22 ⟨vq, rfl, hN22, hS22⟩
    have hX22 := hX21.call hS22
    have hC22 := hC21.call hS22
    have hF22 := hF21.call hS22
    have hA22 := hA21.call hS22
    have hD22 := hD21.call hS22
    have hY22 := hY21.call hS22
    have hW22 := hW21.call hS22
    have hP22 := hP21.call hS22
    have hQ22 := hQ21.call hS22
    have hM22 := hM21.call hS22
    have hB22 := bnx hB21 hS22
    clear HCON y0 y1 y2 hX21 hC21 hF21 hA21 hD21 hY21 hW21 hP21 hQ21 hM21 hB21
    have hcon := follows_c hW22 c
    rw [hfy2] at hcon
    have HCON := Lib.hid hcon
    clear hcon
    have y0 := hY22.cell 0
    have y1 := hY22.cell 1
    have y2 := hY22.cell 2
    have a0 := hA22.cell 0
    have a1 := hA22.cell 1
    have a2 := hA22.cell 2
    have a3 := hA22.cell 3
    have a4 := hA22.cell 4
    go_wp2_with fail
    refine HCON.out.mono ?_
    rintro e w23 ⟨rfl, hS23⟩
    have hX23 := hX22.call hS23
    have hP23 := hP22.call hS23
    have hQ23 := hQ22.call hS23
    have hM23 := hM22.call hS23
    have hN23 := hN22.call hS23
    have hB23 := bnx hB22 hS23
    clear HCON y0 y1 y2 a0 a1 a2 a3 a4 hX22 hP22 hQ22 hM22 hN22 hB22
    obtain ⟨gp0, cp, rfl, -, -⟩ := hM23.shape
    obtain ⟨gq0, cq, rfl, -, -⟩ := hN23.shape
    clear hF22 hD22 hC22 hA22 hW22 hY22
    go_upto_region 25 with fail
    go_cut [225] from 198 to 225 (fun s225 wx => s225 = .bool false ∧ Qt w23 wx)
    case first =>
      have x0 := hX23.cell 0
      have hpn := HPN.out
      have b3 : ((M1.length : Int) != x.points) = false := by rw [bne_eq_false_iff_eq]; omega
      have b4 : ((M2.length : Int) != x.points) = false := by rw [bne_eq_false_iff_eq]; omega
      clear hpn
      go_wp2_with fail
      go_meet
      case rel => exact ⟨rfl, Qt.refl _⟩
    case rest =>
    obtain ⟨rfl, hq9⟩ := hcut
    rename World => w24
    have hX24 := hX23.call (hq9.below _)
    have hP24 := hP23.call (hq9.below _)
    have hQ24 := hQ23.call (hq9.below _)
    have hM24 := hM23.call (hq9.below _)
    have hN24 := hN23.call (hq9.below _)
    have hB24 := hB23.trans (hq9.below _)
    clear hq9 hX23 hP23 hQ23 hM23 hN23 hB23
    have hsat : ∀ p, p < n → ∀ (h1 : p < s1.length) (h2 : p < s2.length), s1[p].1 = gl s1 p ∧ s1[p].2 = gh s1 p ∧ s2[p].1 = gl s2 p ∧ s2[p].2 = gh s2 p := fun p hp h1 h2 => by
      refine ⟨?_, ?_, ?_, ?_⟩ <;> simp [gl, gh, List.getD_eq_getElem?_getD, h1, h2]
    have HSAT := Lib.hid hsat
    clear hsat
    go_wp2_with fail
    go_loopw [28] (fun vi wr => ∃ i : Nat, i ≤ n ∧ vi = .int .i64 i ∧ Below w24.heap.size w24 wr) (fun vi _ => n - (intOf vi).toNat)
    case atStart => exact ⟨0, Nat.zero_le _, rfl, Below.refl _ _⟩
    case round =>
      obtain ⟨i, hi, rfl, hBr⟩ := hrel
      have hXr := hX24.call hBr
      have x0 := hXr.cell 0
      rw [HPN.out] at x0
      by_cases hin : i < n
      · obtain ⟨ga, oa, rfl, -, -⟩ := rgs_addr hP24 (by omega)
        obtain ⟨gb, ob, rfl, -, -⟩ := rgs_addr hQ24 (by omega)
        obtain ⟨gp, op, rfl, -, -, -⟩ := hM24.addr (by omega)
        obtain ⟨gq, oq, rfl, -, -, -⟩ := hN24.addr (by omega)
        have hm := HMAT.out i hin (by omega) (by omega)
        have hsg := HSAT.out i hin (by omega) (by omega)
        have hb1 := HSS.out.1 i hin
        have hb2 := HSS.out.2 i hin
        rw [← hm.1, ← hm.2] at hb2
        rw [← hsg.1, ← hsg.2.1, ← hsg.2.2.1, ← hsg.2.2.2] at hb1
        have hmr0 : ∀ w', Below w24.heap.size w24 w' → MoR gb (ob + i * 2) (s2[i]'(by omega)) ga (oa + i * 2) (s1[i]'(by omega)) gp (op + i) (M1[i]'(by omega)) gq (oq + i) (M2[i]'(by omega)) w' := fun w' hb => ⟨rgs_at (hQ24.call hb) i (by omega), rgs_at (hP24.call hb) i (by omega), (hM24.call hb).cell i (by omega), (hN24.call hb).cell i (by omega)⟩
        generalize (s2[i]'(by omega)) = V2 at hb1 hmr0
        generalize (s1[i]'(by omega)) = V1 at hb1 hmr0
        generalize (M1[i]'(by omega)) = e1 at hb2 hmr0
        generalize (M2[i]'(by omega)) = e2 at hb2 hmr0
        have j1 : i < s1.length := by omega
        have j2 : i < s2.length := by omega
        have j3 : i < M1.length := by omega
        have j4 : i < M2.length := by omega
        have hmr : ∀ w', Below _ _ w' → (MoR gb (ob + i * 2) V2 ga (oa + i * 2) V1 gp (op + i) e1 gq (oq + i) e2) w' := fun w' hb => hmr0 w' (bnx hBr hb)
        have HMR := Lib.hid hmr
        have b1 : decide (V2.1 < V1.1) = false := decide_eq_false (by omega)
        have b2 : decide (V2.2 > V1.2) = false := decide_eq_false (by omega)
        clear hm hsg hb1 hmr0 hmr
        by_cases he3 : e1 = 3
        · have b3 : (e1 != 3) = false := by rw [bne_eq_false_iff_eq]; exact he3
          clear he3 hb2
          go_upto_region 30 with fail
          refine wp_region_mix2 (.pur 0 (.pur 1 (.pur 2 (.pur 3 (.one 4 (.pur 5 (.pur 6 (.pur 7 (.pur 8 (.one 9 (.pur 10 (.pur 11 (.pur 12 (.pur 13 (.pur 14 (.pur 15 (.one 16 (.pur 17 (.pur 18 (.pur 19 (.pur 20 (.one 21 (.pur 22 (.pur 23 (.pur 24 (.pur 25 (.pur 26 (.pur 27 (.one 28 (.pur 29 (.pur 30 (.pur 31 (.pur 32 (.pur 33 (.pur 34 (.pur 35 (.pur 36 (.pur 37 (.pur 38 (.pur 39 (.pur 40 (.pur 41 .fin)))))))))))))))))))))))))))))))))))))))))) 99 (MoR gb (ob + i * 2) V2 ga (oa + i * 2) V1 gp (op + i) e1 gq (oq + i) e2) (fun _ => True) (by kernel_rfl) (by kernel_rfl) rfl (by kernel_rfl) (HMR.out _ (((Qt.refl _).drewN 1).below _)) (fun wd hqd _ => ?_)
          refine mix_pur2 rfl (fun K hK => ?_)
          go_simp
          first | refine ⟨_, fun _ => rfl, hK _ ?_⟩ | refine hK _ ?_
          clear hK K
          refine mix_pur2 rfl (fun K hK => ?_)
          go_simp
          first | refine ⟨_, fun _ => rfl, hK _ ?_⟩ | refine hK _ ?_
          clear hK K
          refine mix_pur2 rfl (fun K hK => ?_)
          go_simp
          first | refine ⟨_, fun _ => rfl, hK _ ?_⟩ | refine hK _ ?_
          clear hK K
          refine mix_pur2 rfl (fun K hK => ?_)
          go_simp
          first | refine ⟨_, fun _ => rfl, hK _ ?_⟩ | refine hK _ ?_
          clear hK K
          refine mix_load2 rfl rfl rfl (.int .i64 V2.1) (fun w' h => by have h : (MoR gb (ob + i * 2) V2 ga (oa + i * 2) V1 gp (op + i) e1 gq (oq + i) e2) w' := h; have e0 := h.1.1; go_simp) rfl ?_
          refine mix_pur2 rfl (fun K hK => ?_)
          go_simp
          first | refine ⟨_, fun _ => rfl, hK _ ?_⟩ | refine hK _ ?_
          clear hK K
          refine mix_pur2 rfl (fun K hK => ?_)
          go_simp
          first | refine ⟨_, fun _ => rfl, hK _ ?_⟩ | refine hK _ ?_
          clear hK K
          refine mix_pur2 rfl (fun K hK => ?_)
          go_simp
          first | refine ⟨_, fun _ => rfl, hK _ ?_⟩ | refine hK _ ?_
          clear hK K
          refine mix_pur2 rfl (fun K hK => ?_)
          go_simp
          first | refine ⟨_, fun _ => rfl, hK _ ?_⟩ | refine hK _ ?_
          clear hK K
          refine mix_load2 rfl rfl rfl (.int .i64 V1.1) (fun w' h => by have h : (MoR gb (ob + i * 2) V2 ga (oa + i * 2) V1 gp (op + i) e1 gq (oq + i) e2) w' := h; have e0 := h.2.1.1; go_simp) rfl ?_
          refine mix_pur2 rfl (fun K hK => ?_)
          go_simp
          first | refine ⟨_, fun _ => rfl, hK _ ?_⟩ | refine hK _ ?_
          clear hK K
          refine mix_pur2 rfl (fun K hK => ?_)
          go_simp
          first | refine ⟨_, fun _ => rfl, hK _ ?_⟩ | refine hK _ ?_
          clear hK K
          refine mix_pur2 rfl (fun K hK => ?_)
          go_simp
          first | refine ⟨_, fun _ => rfl, hK _ ?_⟩ | refine hK _ ?_
          clear hK K
          refine mix_pur2 rfl (fun K hK => ?_)
          go_simp
          first | refine ⟨_, fun _ => rfl, hK _ ?_⟩ | refine hK _ ?_
          clear hK K
          refine mix_pur2 rfl (fun K hK => ?_)
          go_simp
          first | refine ⟨_, fun _ => rfl, hK _ ?_⟩ | refine hK _ ?_
          clear hK K
          refine mix_pur2 rfl (fun K hK => ?_)
          go_simp
          first | refine ⟨_, fun _ => rfl, hK _ ?_⟩ | refine hK _ ?_
          clear hK K
          refine mix_loadg2 rfl rfl (.int .i64 V2.2) (by go_simp) (fun w' h => by have h : (MoR gb (ob + i * 2) V2 ga (oa + i * 2) V1 gp (op + i) e1 gq (oq + i) e2) w' := h; have e0 := h.1.2; go_simp) rfl ?_
          refine mix_pur2 rfl (fun K hK => ?_)
          go_simp
          first | refine ⟨_, fun _ => rfl, hK _ ?_⟩ | refine hK _ ?_
          clear hK K
          refine mix_pur2 rfl (fun K hK => ?_)
          go_simp
          first | refine ⟨_, fun _ => rfl, hK _ ?_⟩ | refine hK _ ?_
          clear hK K
          refine mix_pur2 rfl (fun K hK => ?_)
          go_simp
          first | refine ⟨_, fun _ => rfl, hK _ ?_⟩ | refine hK _ ?_
          clear hK K
          refine mix_pur2 rfl (fun K hK => ?_)
          go_simp
          first | refine ⟨_, fun _ => rfl, hK _ ?_⟩ | refine hK _ ?_
          clear hK K
          refine mix_loadg2 rfl rfl (.int .i64 V1.2) (by go_simp) (fun w' h => by have h : (MoR gb (ob + i * 2) V2 ga (oa + i * 2) V1 gp (op + i) e1 gq (oq + i) e2) w' := h; have e0 := h.2.1.2; go_simp) rfl ?_
          refine mix_pur2 rfl (fun K hK => ?_)
          go_simp
          first | refine ⟨_, fun _ => rfl, hK _ ?_⟩ | refine hK _ ?_
          clear hK K
          refine mix_pur2 rfl (fun K hK => ?_)
          go_simp
          first | refine ⟨_, fun _ => rfl, hK _ ?_⟩ | refine hK _ ?_
          clear hK K
          refine mix_pur2 rfl (fun K hK => ?_)
          go_simp
          first | refine ⟨_, fun _ => rfl, hK _ ?_⟩ | refine hK _ ?_
          clear hK K
          refine mix_pur2 rfl (fun K hK => ?_)
          go_simp
          first | refine ⟨_, fun _ => rfl, hK _ ?_⟩ | refine hK _ ?_
          clear hK K
          refine mix_pur2 rfl (fun K hK => ?_)
          go_simp
          first | refine ⟨_, fun _ => rfl, hK _ ?_⟩ | refine hK _ ?_
          clear hK K
          refine mix_pur2 rfl (fun K hK => ?_)
          go_simp
          first | refine ⟨_, fun _ => rfl, hK _ ?_⟩ | refine hK _ ?_
          clear hK K
          refine mix_loadg2 rfl rfl (.int .i64 e1) (by go_simp) (fun w' h => by have h : (MoR gb (ob + i * 2) V2 ga (oa + i * 2) V1 gp (op + i) e1 gq (oq + i) e2) w' := h; have e0 := h.2.2.1; go_simp) rfl ?_
          refine mix_pur2 rfl (fun K hK => ?_)
          go_simp
          first | refine ⟨_, fun _ => rfl, hK _ ?_⟩ | refine hK _ ?_
          clear hK K
          refine mix_pur2 rfl (fun K hK => ?_)
          go_simp
          first | refine ⟨_, fun _ => rfl, hK _ ?_⟩ | refine hK _ ?_
          clear hK K
          refine mix_pur2 rfl (fun K hK => ?_)
          go_simp
          first | refine ⟨_, fun _ => rfl, hK _ ?_⟩ | refine hK _ ?_
          clear hK K
          refine mix_pur2 rfl (fun K hK => ?_)
          go_simp
          first | refine ⟨_, fun _ => rfl, hK _ ?_⟩ | refine hK _ ?_
          clear hK K
          refine mix_pur2 rfl (fun K hK => ?_)
          go_simp
          first | refine ⟨_, fun _ => rfl, hK _ ?_⟩ | refine hK _ ?_
          clear hK K
          refine mix_pur2 rfl (fun K hK => ?_)
          go_simp
          first | refine ⟨_, fun _ => rfl, hK _ ?_⟩ | refine hK _ ?_
          clear hK K
          refine mix_pur2 rfl (fun K hK => ?_)
          go_simp
          first | refine ⟨_, fun _ => rfl, hK _ ?_⟩ | refine hK _ ?_
          clear hK K
          refine mix_pur2 rfl (fun K hK => ?_)
          go_simp
          first | refine ⟨_, fun _ => rfl, hK _ ?_⟩ | refine hK _ ?_
          clear hK K
          refine mix_pur2 rfl (fun K hK => ?_)
          go_simp
          first | refine ⟨_, fun _ => rfl, hK _ ?_⟩ | refine hK _ ?_
          clear hK K
          refine mix_pur2 rfl (fun K hK => ?_)
          go_simp
          first | refine ⟨_, fun _ => rfl, hK _ ?_⟩ | refine hK _ ?_
          clear hK K
          refine mix_pur2 rfl (fun K hK => ?_)
          go_simp
          first | refine ⟨_, fun _ => rfl, hK _ ?_⟩ | refine hK _ ?_
          clear hK K
          refine mix_pur2 rfl (fun K hK => ?_)
          go_simp
          first | refine ⟨_, fun _ => rfl, hK _ ?_⟩ | refine hK _ ?_
          clear hK K
          refine mix_pur2 rfl (fun K hK => ?_)
          go_simp
          first | refine ⟨_, fun _ => rfl, hK _ ?_⟩ | refine hK _ ?_
          clear hK K
          refine mix_done2 ?_
          go_wp2_with fail
          go_roundw
          case rel => exact ⟨i + 1, by omega, by go_num, hBr.trans (hqd.below _)⟩
          case measure => simp [intOf]; omega
        · have b3 : (e1 != 3) = true := by rw [bne_iff_ne]; exact he3
          have b4 : (e1 != e2) = false := by rw [bne_eq_false_iff_eq]; exact (hb2 he3).symm
          clear he3 hb2
          go_upto_region 30 with fail
          refine wp_region_mix2 (.pur 0 (.pur 1 (.pur 2 (.pur 3 (.one 4 (.pur 5 (.pur 6 (.pur 7 (.pur 8 (.one 9 (.pur 10 (.pur 11 (.pur 12 (.pur 13 (.pur 14 (.pur 15 (.one 16 (.pur 17 (.pur 18 (.pur 19 (.pur 20 (.one 21 (.pur 22 (.pur 23 (.pur 24 (.pur 25 (.pur 26 (.pur 27 (.one 28 (.pur 29 (.pur 30 (.pur 31 (.pur 32 (.pur 33 (.one 34 (.pur 35 (.pur 36 (.pur 37 (.one 38 (.pur 39 (.pur 40 (.pur 41 .fin)))))))))))))))))))))))))))))))))))))))))) 99 (MoR gb (ob + i * 2) V2 ga (oa + i * 2) V1 gp (op + i) e1 gq (oq + i) e2) (fun _ => True) (by kernel_rfl) (by kernel_rfl) rfl (by kernel_rfl) (HMR.out _ (((Qt.refl _).drewN 1).below _)) (fun wd hqd _ => ?_)
          refine mix_pur2 rfl (fun K hK => ?_)
          go_simp
          first | refine ⟨_, fun _ => rfl, hK _ ?_⟩ | refine hK _ ?_
          clear hK K
          refine mix_pur2 rfl (fun K hK => ?_)
          go_simp
          first | refine ⟨_, fun _ => rfl, hK _ ?_⟩ | refine hK _ ?_
          clear hK K
          refine mix_pur2 rfl (fun K hK => ?_)
          go_simp
          first | refine ⟨_, fun _ => rfl, hK _ ?_⟩ | refine hK _ ?_
          clear hK K
          refine mix_pur2 rfl (fun K hK => ?_)
          go_simp
          first | refine ⟨_, fun _ => rfl, hK _ ?_⟩ | refine hK _ ?_
          clear hK K
          refine mix_load2 rfl rfl rfl (.int .i64 V2.1) (fun w' h => by have h : (MoR gb (ob + i * 2) V2 ga (oa + i * 2) V1 gp (op + i) e1 gq (oq + i) e2) w' := h; have e0 := h.1.1; go_simp) rfl ?_
          refine mix_pur2 rfl (fun K hK => ?_)
          go_simp
          first | refine ⟨_, fun _ => rfl, hK _ ?_⟩ | refine hK _ ?_
          clear hK K
          refine mix_pur2 rfl (fun K hK => ?_)
          go_simp
          first | refine ⟨_, fun _ => rfl, hK _ ?_⟩ | refine hK _ ?_
          clear hK K
          refine mix_pur2 rfl (fun K hK => ?_)
          go_simp
          first | refine ⟨_, fun _ => rfl, hK _ ?_⟩ | refine hK _ ?_
          clear hK K
          refine mix_pur2 rfl (fun K hK => ?_)
          go_simp
          first | refine ⟨_, fun _ => rfl, hK _ ?_⟩ | refine hK _ ?_
          clear hK K
          refine mix_load2 rfl rfl rfl (.int .i64 V1.1) (fun w' h => by have h : (MoR gb (ob + i * 2) V2 ga (oa + i * 2) V1 gp (op + i) e1 gq (oq + i) e2) w' := h; have e0 := h.2.1.1; go_simp) rfl ?_
          refine mix_pur2 rfl (fun K hK => ?_)
          go_simp
          first | refine ⟨_, fun _ => rfl, hK _ ?_⟩ | refine hK _ ?_
          clear hK K
          refine mix_pur2 rfl (fun K hK => ?_)
          go_simp
          first | refine ⟨_, fun _ => rfl, hK _ ?_⟩ | refine hK _ ?_
          clear hK K
          refine mix_pur2 rfl (fun K hK => ?_)
          go_simp
          first | refine ⟨_, fun _ => rfl, hK _ ?_⟩ | refine hK _ ?_
          clear hK K
          refine mix_pur2 rfl (fun K hK => ?_)
          go_simp
          first | refine ⟨_, fun _ => rfl, hK _ ?_⟩ | refine hK _ ?_
          clear hK K
          refine mix_pur2 rfl (fun K hK => ?_)
          go_simp
          first | refine ⟨_, fun _ => rfl, hK _ ?_⟩ | refine hK _ ?_
          clear hK K
          refine mix_pur2 rfl (fun K hK => ?_)
          go_simp
          first | refine ⟨_, fun _ => rfl, hK _ ?_⟩ | refine hK _ ?_
          clear hK K
          refine mix_loadg2 rfl rfl (.int .i64 V2.2) (by go_simp) (fun w' h => by have h : (MoR gb (ob + i * 2) V2 ga (oa + i * 2) V1 gp (op + i) e1 gq (oq + i) e2) w' := h; have e0 := h.1.2; go_simp) rfl ?_
          refine mix_pur2 rfl (fun K hK => ?_)
          go_simp
          first | refine ⟨_, fun _ => rfl, hK _ ?_⟩ | refine hK _ ?_
          clear hK K
          refine mix_pur2 rfl (fun K hK => ?_)
          go_simp
          first | refine ⟨_, fun _ => rfl, hK _ ?_⟩ | refine hK _ ?_
          clear hK K
          refine mix_pur2 rfl (fun K hK => ?_)
          go_simp
          first | refine ⟨_, fun _ => rfl, hK _ ?_⟩ | refine hK _ ?_
          clear hK K
          refine mix_pur2 rfl (fun K hK => ?_)
          go_simp
          first | refine ⟨_, fun _ => rfl, hK _ ?_⟩ | refine hK _ ?_
          clear hK K
          refine mix_loadg2 rfl rfl (.int .i64 V1.2) (by go_simp) (fun w' h => by have h : (MoR gb (ob + i * 2) V2 ga (oa + i * 2) V1 gp (op + i) e1 gq (oq + i) e2) w' := h; have e0 := h.2.1.2; go_simp) rfl ?_
          refine mix_pur2 rfl (fun K hK => ?_)
          go_simp
          first | refine ⟨_, fun _ => rfl, hK _ ?_⟩ | refine hK _ ?_
          clear hK K
          refine mix_pur2 rfl (fun K hK => ?_)
          go_simp
          first | refine ⟨_, fun _ => rfl, hK _ ?_⟩ | refine hK _ ?_
          clear hK K
          refine mix_pur2 rfl (fun K hK => ?_)
          go_simp
          first | refine ⟨_, fun _ => rfl, hK _ ?_⟩ | refine hK _ ?_
          clear hK K
          refine mix_pur2 rfl (fun K hK => ?_)
          go_simp
          first | refine ⟨_, fun _ => rfl, hK _ ?_⟩ | refine hK _ ?_
          clear hK K
          refine mix_pur2 rfl (fun K hK => ?_)
          go_simp
          first | refine ⟨_, fun _ => rfl, hK _ ?_⟩ | refine hK _ ?_
          clear hK K
          refine mix_pur2 rfl (fun K hK => ?_)
          go_simp
          first | refine ⟨_, fun _ => rfl, hK _ ?_⟩ | refine hK _ ?_
          clear hK K
          refine mix_loadg2 rfl rfl (.int .i64 e1) (by go_simp) (fun w' h => by have h : (MoR gb (ob + i * 2) V2 ga (oa + i * 2) V1 gp (op + i) e1 gq (oq + i) e2) w' := h; have e0 := h.2.2.1; go_simp) rfl ?_
          refine mix_pur2 rfl (fun K hK => ?_)
          go_simp
          first | refine ⟨_, fun _ => rfl, hK _ ?_⟩ | refine hK _ ?_
          clear hK K
          refine mix_pur2 rfl (fun K hK => ?_)
          go_simp
          first | refine ⟨_, fun _ => rfl, hK _ ?_⟩ | refine hK _ ?_
          clear hK K
          refine mix_pur2 rfl (fun K hK => ?_)
          go_simp
          first | refine ⟨_, fun _ => rfl, hK _ ?_⟩ | refine hK _ ?_
          clear hK K
          refine mix_pur2 rfl (fun K hK => ?_)
          go_simp
          first | refine ⟨_, fun _ => rfl, hK _ ?_⟩ | refine hK _ ?_
          clear hK K
          refine mix_pur2 rfl (fun K hK => ?_)
          go_simp
          first | refine ⟨_, fun _ => rfl, hK _ ?_⟩ | refine hK _ ?_
          clear hK K
          refine mix_loadg2 rfl rfl (.int .i64 e1) (by go_simp) (fun w' h => by have h : (MoR gb (ob + i * 2) V2 ga (oa + i * 2) V1 gp (op + i) e1 gq (oq + i) e2) w' := h; have e0 := h.2.2.1; go_simp) rfl ?_
          refine mix_pur2 rfl (fun K hK => ?_)
          go_simp
          first | refine ⟨_, fun _ => rfl, hK _ ?_⟩ | refine hK _ ?_
          clear hK K
          refine mix_pur2 rfl (fun K hK => ?_)
          go_simp
          first | refine ⟨_, fun _ => rfl, hK _ ?_⟩ | refine hK _ ?_
          clear hK K
          refine mix_pur2 rfl (fun K hK => ?_)
          go_simp
          first | refine ⟨_, fun _ => rfl, hK _ ?_⟩ | refine hK _ ?_
          clear hK K
          refine mix_loadg2 rfl rfl (.int .i64 e2) (by go_simp) (fun w' h => by have h : (MoR gb (ob + i * 2) V2 ga (oa + i * 2) V1 gp (op + i) e1 gq (oq + i) e2) w' := h; have e0 := h.2.2.2; go_simp) rfl ?_
          refine mix_pur2 rfl (fun K hK => ?_)
          go_simp
          first | refine ⟨_, fun _ => rfl, hK _ ?_⟩ | refine hK _ ?_
          clear hK K
          refine mix_pur2 rfl (fun K hK => ?_)
          go_simp
          first | refine ⟨_, fun _ => rfl, hK _ ?_⟩ | refine hK _ ?_
          clear hK K
          refine mix_pur2 rfl (fun K hK => ?_)
          go_simp
          first | refine ⟨_, fun _ => rfl, hK _ ?_⟩ | refine hK _ ?_
          clear hK K
          refine mix_done2 ?_
          go_wp2_with fail
          go_roundw
          case rel => exact ⟨i + 1, by omega, by go_num, hBr.trans (hqd.below _)⟩
          case measure => simp [intOf]; omega
      · obtain rfl : i = n := by omega
        go_wp2_with fail
        refine (surveyed_c _).mono ?_
        rintro e w25 ⟨rfl, hS25⟩
        go_wp2_with fail
        go_ret
        exact ⟨rfl, bnx (bnx hB24 hBr) hS25⟩

end Go.Proofs.Ytgdifckmjdjcpaa
