/- part and holds of mestalaw06 (edge); conditions: the claims read as a list, some numbers too. -/
import Derived.Test.YtgdifckmjdjcpaaTq
namespace Go.Proofs.Ytgdifckmjdjcpaa
open Go.RowKit

/-- What the region that takes a claim reads. -/
def PtS (b0 : Nat) (P B : Int) (vx vl : Value) (A : Nat → Prop) (l : List Cl) (w : World) : Prop := Blk b0 #[.int .i64 P, .int .i64 B, vx] 24 w ∧ Blk (b0 + 2) #[.int .i64 P, .int .i64 B, vl] 24 w ∧ ClsM A w vx l
/-- Is a claim kept? -/
def keepS (S : List Int) (but : Bool) (i : Nat) : Bool := decide ((i : Int) ∈ S) != but

set_option maxRecDepth 100000 in
set_option maxHeartbeats 2000000 in
theorem part_c {A A' : Nat → Prop} {w : World} {x : Edg} {v vs : Value} {S : List Int} (h : ClsM A w v x.claims) (hS : Ints A' w vs S) (hm : x.claims.length ≤ 100) (but : Bool) :
    Calls Try.prog 45 #[.agg #[.int .i64 x.points, .int .i64 x.bend, v], vs, .bool but] w fun e w' => ∃ v', e = .returned (.agg #[.int .i64 x.points, .int .i64 x.bend, v']) ∧ ClsM (fun k => w.heap.size ≤ k) w' v' (partF x (keepS S but)).claims ∧ Below w.heap.size w w' := by
  obtain ⟨a1, c1, rfl, hc1, hm1⟩ := h.shape
  obtain ⟨aS, cS, rfl, _, _⟩ := hS.shape
  have n1 := h.len
  obtain ⟨w1, hw1⟩ : ∃ w1, w1 = (w.alloc (.cells #[.int .i64 x.points, .int .i64 x.bend, .slice a1 x.claims.length c1] 24)).alloc (.cells #[.int .i64 0, .int .i64 0, .slice none 0 0] 24) := ⟨_, rfl⟩
  obtain ⟨b0, hb0⟩ : ∃ b, b = w.heap.size := ⟨_, rfl⟩
  have hX1 : Blk b0 #[.int .i64 x.points, .int .i64 x.bend, .slice a1 x.claims.length c1] 24 w1 := by rw [hw1, hb0]; exact (Blk.new w _ _).alloc _
  have hR1 : Blk (b0 + 1) #[.int .i64 0, .int .i64 0, .slice none 0 0] 24 w1 := by rw [hw1, hb0]; exact blk_at (by simp) _ _
  have hB1 : Below w.heap.size w w1 := by rw [hw1]; exact bal2 ((Below.refl _ w).alloc (Nat.le_refl _) _)
  have hz1 : w1.heap.size ≤ b0 + 2 := by rw [hw1, hb0]; simp
  have hz1' : b0 + 2 ≤ w1.heap.size := by rw [hw1, hb0]; simp
  go_enter Try.func45, Try.ntmps45
  go_upto_region 1 with fail
  rw [← hw1, ← hb0]
  have hbw : w.heap.size ≤ b0 := Nat.le_of_eq hb0.symm
  have hbw2 : b0 ≤ w.heap.size := Nat.le_of_eq hb0
  clear hw1 hb0
  have c0 := hX1.cell 0
  have c1' := hX1.cell 1
  have c2 := hX1.cell 2
  obtain ⟨w2, hw2⟩ : ∃ w2, w2 = w1.alloc (.cells #[.int .i64 x.points, .int .i64 x.bend, .slice a1 x.claims.length c1] 24) := ⟨_, rfl⟩
  have hE2 : Blk (b0 + 2) #[.int .i64 x.points, .int .i64 x.bend, .slice a1 x.claims.length c1] 24 w2 := by rw [hw2]; exact blk_at (by omega) _ _
  have hX2 : Blk b0 #[.int .i64 x.points, .int .i64 x.bend, .slice a1 x.claims.length c1] 24 w2 := by rw [hw2]; exact hX1.alloc _
  have hR2 : Blk (b0 + 1) #[.int .i64 0, .int .i64 0, .slice none 0 0] 24 w2 := by rw [hw2]; exact hR1.alloc _
  have hB2 : Below w.heap.size w w2 := by rw [hw2]; exact bal2 hB1
  go_upto_region 2 with fail
  rw [← hw2, show w1.heap.size = b0 + 2 by omega]
  have e2 := hE2.cell 2
  have f2 := hE2.free 2
  have hX3 := hX2.other (a := ⟨b0 + 2, 2, none⟩) (by show b0 ≠ b0 + 2; omega) (.slice none 0 0)
  have hR3 := hR2.other (a := ⟨b0 + 2, 2, none⟩) (by show b0 + 1 ≠ b0 + 2; omega) (.slice none 0 0)
  have hE3 : Blk (b0 + 2) #[.int .i64 x.points, .int .i64 x.bend, .slice none 0 0] 24 (w2.setCell ⟨b0 + 2, 2, none⟩ (.slice none 0 0)) := by simpa using hE2.set 2 (.slice none 0 0)
  have hB3 := hB2.setCell (p := ⟨b0 + 2, 2, none⟩) (by show w.heap.size ≤ b0 + 2; omega) (.slice none 0 0)
  clear c0 c1' c2 hw2 hX1 hR1 hB1
  go_upto_region 3 with fail
  clear e2 f2 hX2 hR2 hE2 hB2
  generalize w2.setCell ⟨b0 + 2, 2, none⟩ (.slice none 0 0) = w3 at hX3 hR3 hE3 hB3 ⊢
  have hC3 : ClsM (fun k => k < w.heap.size) w3 (.slice a1 x.claims.length c1) x.claims := (h.wide fun k _ hk => hk).below hB3 fun k hk _ => hk
  have hS3 : Ints (fun k => k < w.heap.size) w3 (.slice aS S.length cS) S := (hS.wide fun k _ hk => hk).below hB3 fun k hk _ => hk
  have hbl3 := hE3.lt
  go_wp2_with fail
  go_loopw [8] (fun i wr => ∃ (k : Nat) (vl : Value), k ≤ x.claims.length ∧ i = .int .i64 k ∧ EM (b0 + 3) (b0 + 2) x.points x.bend (keepL (keepS S but) (x.claims.take k) 0) vl wr ∧ Blk b0 #[.int .i64 x.points, .int .i64 x.bend, .slice a1 x.claims.length c1] 24 wr ∧ Blk (b0 + 1) #[.int .i64 0, .int .i64 0, .slice none 0 0] 24 wr ∧ Below w.heap.size w3 wr) (fun i _ => x.claims.length - (intOf i).toNat)
  case atStart => exact ⟨0, _, Nat.zero_le _, rfl, ⟨hE3, Own.nil, by omega⟩, hX3, hR3, Below.refl _ _⟩
  case round =>
    obtain ⟨k, vl, hk, rfl, hE, hX0, hRr, hB⟩ := hrel
    clear hX3 hR3 hE3
    have hCr : ClsM (fun k => k < w.heap.size) wr (.slice a1 x.claims.length c1) x.claims := hC3.below hB fun k hk _ => hk
    have hSr : Ints (fun k => k < w.heap.size) wr (.slice aS S.length cS) S := hS3.below hB fun k hk _ => hk
    have hbl := hE.blk.lt
    have x2 := hX0.cell 2
    by_cases hlt : k < x.claims.length
    · obtain ⟨gc, o, rfl, hA, hgc⟩ := cls_addr hCr (by omega)
      have HT := Lib.hid (keepL_take (keep := keepS S but) hlt)
      have hpl := place_c (k : Int) hSr
      have HPL := Lib.hid hpl
      clear hpl
      have hkl := keepL_len (keep := keepS S but) (x.claims.take k) 0
      rw [List.length_take] at hkl
      obtain ⟨av, cv, rfl⟩ := own_slice hE.own
      obtain ⟨L, hL⟩ : ∃ L, L = keepL (keepS S but) (x.claims.take k) 0 := ⟨_, rfl⟩
      rw [← hL] at hE hkl
      have HL := Lib.hid hL
      clear hL
      have hwz : w.heap.size ≤ wr.heap.size := by omega
      by_cases hmem : (k : Int) ∈ S
      · have hp0 := (placeOf_nonneg S (k : Int)).2 hmem
        cases but with
        | true =>
          go_wp2_with fail
          refine HPL.out.mono ?_
          rintro e w5 ⟨rfl, hq5⟩
          have hX5 := hX0.qt hq5
          have hE5 := hE.blk.qt hq5
          have hO5 := hE.own.qt hq5
          have hC5 := hCr.qt hq5
          have hR5 := hRr.qt hq5
          have hB5 := hB.trans (hq5.below _)
          have HKB := Lib.hid (show keepS S true k = false by unfold keepS; rw [decide_eq_true hmem]; rfl)
          go_wp2_with fail
          go_roundw
          case rel => exact ⟨k + 1, _, by omega, by go_num, ⟨hE5, by rw [HT.out, HKB.out]; simpa [HL.out] using hO5, hE.low⟩, hX5, hR5, hB5⟩
          case measure => simp [intOf]; omega
        | false =>
          go_wp2_with fail
          refine HPL.out.mono ?_
          rintro e w5 ⟨rfl, hq5⟩
          have hX5 := hX0.qt hq5
          have hE5 := hE.blk.qt hq5
          have hO5 := hE.own.qt hq5
          have hC5 := hCr.qt hq5
          have hR5 := hRr.qt hq5
          have hB5 := hB.trans (hq5.below _)
          have HKB := Lib.hid (show keepS S false k = true by unfold keepS; rw [decide_eq_true hmem]; rfl)
          go_wp2_with fail
          refine wp_region_mix2 (.pur 0 (.one 1 (.pur 2 (.one 3 (.pur 4 (.pur 5 (.one 6 (.act 7 (.act 8 (.pur 9 (.act 10 .fin))))))))))) 8 (PtS b0 x.points x.bend (.slice (some ⟨gc, o, none⟩) x.claims.length c1) (.slice av L.length cv) (fun q => q < w.heap.size) x.claims) (fun _ => True) (by kernel_rfl) (by kernel_rfl) rfl (by kernel_rfl) ⟨hX5.qt ((Qt.refl _).drewN 1), hE5.qt ((Qt.refl _).drewN 1), hC5.qt ((Qt.refl _).drewN 1)⟩ (fun wd hqd _ => ?_)
          have hSd : (PtS b0 x.points x.bend (.slice (some ⟨gc, o, none⟩) x.claims.length c1) (.slice av L.length cv) (fun q => q < w.heap.size) x.claims) wd := ⟨hX5.qt hqd, hE5.qt hqd, hC5.qt hqd⟩
          have hOd := hO5.qt hqd
          have hRd := hR5.qt hqd
          have hBd := hB5.trans (hqd.below _)
          refine mix_pur2 rfl (fun K hK => ?_)
          go_simp
          first | refine ⟨_, fun _ => rfl, hK _ ?_⟩ | refine hK _ ?_
          clear hK K
          refine mix_load2 rfl rfl rfl (.slice av L.length cv) (fun w' h => by have h : (PtS b0 x.points x.bend (.slice (some ⟨gc, o, none⟩) x.claims.length c1) (.slice av L.length cv) (fun q => q < w.heap.size) x.claims) w' := h; have h0 := h.2.1.cell 2; go_simp) rfl ?_
          refine mix_pur2 rfl (fun K hK => ?_)
          go_simp
          first | refine ⟨_, fun _ => rfl, hK _ ?_⟩ | refine hK _ ?_
          clear hK K
          refine mix_load2 rfl rfl rfl (.slice (some ⟨gc, o, none⟩) x.claims.length c1) (fun w' h => by have h : (PtS b0 x.points x.bend (.slice (some ⟨gc, o, none⟩) x.claims.length c1) (.slice av L.length cv) (fun q => q < w.heap.size) x.claims) w' := h; have h0 := h.1.cell 2; go_simp) rfl ?_
          refine mix_pur2 rfl (fun K hK => ?_)
          go_simp
          first | refine ⟨_, fun _ => rfl, hK _ ?_⟩ | refine hK _ ?_
          clear hK K
          refine mix_pur2 rfl (fun K hK => ?_)
          go_simp
          first | refine ⟨_, fun _ => rfl, hK _ ?_⟩ | refine hK _ ?_
          clear hK K
          refine mix_load2 rfl rfl rfl (.agg #[.int .i64 x.claims[k].kind, .int .i64 x.claims[k].point, .int .i64 x.claims[k].other, .int .i64 x.claims[k].off, .int .i64 x.claims[k].err]) (fun w' h => by have h : (PtS b0 x.points x.bend (.slice (some ⟨gc, o, none⟩) x.claims.length c1) (.slice av L.length cv) (fun q => q < w.heap.size) x.claims) w' := h; obtain ⟨d0, d1, d2, d3, d4⟩ := cls_at h.2.2 k hlt; go_simp) rfl ?_
          refine mix_eff2 rfl false rfl (fun K hK => ?_)
          go_simp
          refine hK _ _ ⟨hSd.1.alloc _, hSd.2.1.alloc _, hSd.2.2.call ((Below.refl _ _).alloc (Nat.le_refl _) _)⟩ ?_
          clear hK K
          refine mix_eff2 rfl true rfl (fun K hK => ?_)
          have hblt := hSd.2.1.lt
          have hrlt := hSd.1.lt
          refine step_append_arr rfl _ _ 22 rfl 26 _ 5 40 Try.underlying22 Try.info26 rfl (by decide) (by decide) (by simp; omega) (hOd.alloc _) rfl (Own.arr (own_lit wd 26 5 #[.int .i64 x.claims[k].kind, .int .i64 x.claims[k].point, .int .i64 x.claims[k].other, .int .i64 x.claims[k].off, .int .i64 x.claims[k].err] 1 rfl (by omega))) rfl rfl (ccells_one _) (by omega) ?_
          intro v' w4 hown hT
          obtain ⟨a4, c4, rfl⟩ := own_slice hown
          have howl := fun q e => (World.ownsRow.lt (hOd.alloc (.cells #[.int .i64 x.claims[k].kind, .int .i64 x.claims[k].point, .int .i64 x.claims[k].other, .int .i64 x.claims[k].off, .int .i64 x.claims[k].err] 26)) q e).1
          have hb4 := (hSd.2.1.alloc (.cells #[.int .i64 x.claims[k].kind, .int .i64 x.claims[k].point, .int .i64 x.claims[k].other, .int .i64 x.claims[k].off, .int .i64 x.claims[k].err] 26)).keep (hT.block _ (by simp; omega) (fun e => by have := howl _ e; omega))
          have hx4 := (hSd.1.alloc (.cells #[.int .i64 x.claims[k].kind, .int .i64 x.claims[k].point, .int .i64 x.claims[k].other, .int .i64 x.claims[k].off, .int .i64 x.claims[k].err] 26)).keep (hT.block _ (by simp; omega) (fun e => by have := howl _ e; omega))
          have hr4 := (hRd.alloc (.cells #[.int .i64 x.claims[k].kind, .int .i64 x.claims[k].point, .int .i64 x.claims[k].other, .int .i64 x.claims[k].off, .int .i64 x.claims[k].err] 26)).keep (hT.block _ (by simp; omega) (fun e => by have := howl _ e; omega))
          have hB4 := hT.below2 (B' := w.heap.size) (hOd.alloc (.cells #[.int .i64 x.claims[k].kind, .int .i64 x.claims[k].point, .int .i64 x.claims[k].other, .int .i64 x.claims[k].off, .int .i64 x.claims[k].err] 26)) (hBd.alloc (by omega) _) (by simp; omega) (by omega)
          have e4 := hb4.cell 2
          have f4 := hb4.free 2
          refine hK _ _ trivial ?_
          clear hK K
          refine mix_pur2 rfl (fun K hK => ?_)
          go_simp
          first | refine ⟨_, fun _ => rfl, hK _ ?_⟩ | refine hK _ ?_
          clear hK K
          refine mix_eff2 rfl true rfl (fun K hK => ?_)
          go_simp
          refine hK _ _ trivial ?_
          clear hK K
          refine mix_done2 ?_
          have hE8 : EM (b0 + 3) (b0 + 2) x.points x.bend (keepL (keepS S false) (x.claims.take (k + 1)) 0) (.slice a4 (L.length + 1) c4) (w4.setCell ⟨b0 + 2, 2, none⟩ (.slice a4 (L.length + 1) c4)) := by
            refine ⟨by simpa using hb4.set 2 (.slice a4 (L.length + 1) c4), ?_, by omega⟩
            rw [HT.out, HKB.out, if_pos rfl, ← HL.out, List.length_append, List.length_singleton, cls_snoc]
            exact hown.step fun q _ hq _ => Below.heap_setCell _ _ _ _ (show q ≠ b0 + 2 by omega)
          have hX8 := hx4.other (a := ⟨b0 + 2, 2, none⟩) (by show b0 ≠ b0 + 2; omega) (.slice a4 (L.length + 1) c4)
          have hR8 := hr4.other (a := ⟨b0 + 2, 2, none⟩) (by show b0 + 1 ≠ b0 + 2; omega) (.slice a4 (L.length + 1) c4)
          have hB8 := hB4.setCell (p := ⟨b0 + 2, 2, none⟩) (by show w.heap.size ≤ b0 + 2; omega) (.slice a4 (L.length + 1) c4)
          clear hown hT hb4 e4 f4 hx4 hr4 hB4
          generalize w4.setCell ⟨b0 + 2, 2, none⟩ (.slice a4 (L.length + 1) c4) = w6 at hE8 hX8 hR8 hB8 ⊢
          go_wp2_with fail
          go_roundw
          case rel => exact ⟨k + 1, _, by omega, by go_num, hE8, hX8, hR8, hB8⟩
          case measure => simp [intOf]; omega
      · have hp0 : decide (0 ≤ placeOf S (k : Int)) = false := decide_eq_false fun h => hmem ((placeOf_nonneg S (k : Int)).1 h)
        cases but with
        | true =>
          go_wp2_with fail
          refine HPL.out.mono ?_
          rintro e w5 ⟨rfl, hq5⟩
          have hX5 := hX0.qt hq5
          have hE5 := hE.blk.qt hq5
          have hO5 := hE.own.qt hq5
          have hC5 := hCr.qt hq5
          have hR5 := hRr.qt hq5
          have hB5 := hB.trans (hq5.below _)
          have HKB := Lib.hid (show keepS S true k = true by unfold keepS; rw [decide_eq_false hmem]; rfl)
          go_wp2_with fail
          refine wp_region_mix2 (.pur 0 (.one 1 (.pur 2 (.one 3 (.pur 4 (.pur 5 (.one 6 (.act 7 (.act 8 (.pur 9 (.act 10 .fin))))))))))) 8 (PtS b0 x.points x.bend (.slice (some ⟨gc, o, none⟩) x.claims.length c1) (.slice av L.length cv) (fun q => q < w.heap.size) x.claims) (fun _ => True) (by kernel_rfl) (by kernel_rfl) rfl (by kernel_rfl) ⟨hX5.qt ((Qt.refl _).drewN 1), hE5.qt ((Qt.refl _).drewN 1), hC5.qt ((Qt.refl _).drewN 1)⟩ (fun wd hqd _ => ?_)
          have hSd : (PtS b0 x.points x.bend (.slice (some ⟨gc, o, none⟩) x.claims.length c1) (.slice av L.length cv) (fun q => q < w.heap.size) x.claims) wd := ⟨hX5.qt hqd, hE5.qt hqd, hC5.qt hqd⟩
          have hOd := hO5.qt hqd
          have hRd := hR5.qt hqd
          have hBd := hB5.trans (hqd.below _)
          refine mix_pur2 rfl (fun K hK => ?_)
          go_simp
          first | refine ⟨_, fun _ => rfl, hK _ ?_⟩ | refine hK _ ?_
          clear hK K
          refine mix_load2 rfl rfl rfl (.slice av L.length cv) (fun w' h => by have h : (PtS b0 x.points x.bend (.slice (some ⟨gc, o, none⟩) x.claims.length c1) (.slice av L.length cv) (fun q => q < w.heap.size) x.claims) w' := h; have h0 := h.2.1.cell 2; go_simp) rfl ?_
          refine mix_pur2 rfl (fun K hK => ?_)
          go_simp
          first | refine ⟨_, fun _ => rfl, hK _ ?_⟩ | refine hK _ ?_
          clear hK K
          refine mix_load2 rfl rfl rfl (.slice (some ⟨gc, o, none⟩) x.claims.length c1) (fun w' h => by have h : (PtS b0 x.points x.bend (.slice (some ⟨gc, o, none⟩) x.claims.length c1) (.slice av L.length cv) (fun q => q < w.heap.size) x.claims) w' := h; have h0 := h.1.cell 2; go_simp) rfl ?_
          refine mix_pur2 rfl (fun K hK => ?_)
          go_simp
          first | refine ⟨_, fun _ => rfl, hK _ ?_⟩ | refine hK _ ?_
          clear hK K
          refine mix_pur2 rfl (fun K hK => ?_)
          go_simp
          first | refine ⟨_, fun _ => rfl, hK _ ?_⟩ | refine hK _ ?_
          clear hK K
          refine mix_load2 rfl rfl rfl (.agg #[.int .i64 x.claims[k].kind, .int .i64 x.claims[k].point, .int .i64 x.claims[k].other, .int .i64 x.claims[k].off, .int .i64 x.claims[k].err]) (fun w' h => by have h : (PtS b0 x.points x.bend (.slice (some ⟨gc, o, none⟩) x.claims.length c1) (.slice av L.length cv) (fun q => q < w.heap.size) x.claims) w' := h; obtain ⟨d0, d1, d2, d3, d4⟩ := cls_at h.2.2 k hlt; go_simp) rfl ?_
          refine mix_eff2 rfl false rfl (fun K hK => ?_)
          go_simp
          refine hK _ _ ⟨hSd.1.alloc _, hSd.2.1.alloc _, hSd.2.2.call ((Below.refl _ _).alloc (Nat.le_refl _) _)⟩ ?_
          clear hK K
          refine mix_eff2 rfl true rfl (fun K hK => ?_)
          have hblt := hSd.2.1.lt
          have hrlt := hSd.1.lt
          refine step_append_arr rfl _ _ 22 rfl 26 _ 5 40 Try.underlying22 Try.info26 rfl (by decide) (by decide) (by simp; omega) (hOd.alloc _) rfl (Own.arr (own_lit wd 26 5 #[.int .i64 x.claims[k].kind, .int .i64 x.claims[k].point, .int .i64 x.claims[k].other, .int .i64 x.claims[k].off, .int .i64 x.claims[k].err] 1 rfl (by omega))) rfl rfl (ccells_one _) (by omega) ?_
          intro v' w4 hown hT
          obtain ⟨a4, c4, rfl⟩ := own_slice hown
          have howl := fun q e => (World.ownsRow.lt (hOd.alloc (.cells #[.int .i64 x.claims[k].kind, .int .i64 x.claims[k].point, .int .i64 x.claims[k].other, .int .i64 x.claims[k].off, .int .i64 x.claims[k].err] 26)) q e).1
          have hb4 := (hSd.2.1.alloc (.cells #[.int .i64 x.claims[k].kind, .int .i64 x.claims[k].point, .int .i64 x.claims[k].other, .int .i64 x.claims[k].off, .int .i64 x.claims[k].err] 26)).keep (hT.block _ (by simp; omega) (fun e => by have := howl _ e; omega))
          have hx4 := (hSd.1.alloc (.cells #[.int .i64 x.claims[k].kind, .int .i64 x.claims[k].point, .int .i64 x.claims[k].other, .int .i64 x.claims[k].off, .int .i64 x.claims[k].err] 26)).keep (hT.block _ (by simp; omega) (fun e => by have := howl _ e; omega))
          have hr4 := (hRd.alloc (.cells #[.int .i64 x.claims[k].kind, .int .i64 x.claims[k].point, .int .i64 x.claims[k].other, .int .i64 x.claims[k].off, .int .i64 x.claims[k].err] 26)).keep (hT.block _ (by simp; omega) (fun e => by have := howl _ e; omega))
          have hB4 := hT.below2 (B' := w.heap.size) (hOd.alloc (.cells #[.int .i64 x.claims[k].kind, .int .i64 x.claims[k].point, .int .i64 x.claims[k].other, .int .i64 x.claims[k].off, .int .i64 x.claims[k].err] 26)) (hBd.alloc (by omega) _) (by simp; omega) (by omega)
          have e4 := hb4.cell 2
          have f4 := hb4.free 2
          refine hK _ _ trivial ?_
          clear hK K
          refine mix_pur2 rfl (fun K hK => ?_)
          go_simp
          first | refine ⟨_, fun _ => rfl, hK _ ?_⟩ | refine hK _ ?_
          clear hK K
          refine mix_eff2 rfl true rfl (fun K hK => ?_)
          go_simp
          refine hK _ _ trivial ?_
          clear hK K
          refine mix_done2 ?_
          have hE8 : EM (b0 + 3) (b0 + 2) x.points x.bend (keepL (keepS S true) (x.claims.take (k + 1)) 0) (.slice a4 (L.length + 1) c4) (w4.setCell ⟨b0 + 2, 2, none⟩ (.slice a4 (L.length + 1) c4)) := by
            refine ⟨by simpa using hb4.set 2 (.slice a4 (L.length + 1) c4), ?_, by omega⟩
            rw [HT.out, HKB.out, if_pos rfl, ← HL.out, List.length_append, List.length_singleton, cls_snoc]
            exact hown.step fun q _ hq _ => Below.heap_setCell _ _ _ _ (show q ≠ b0 + 2 by omega)
          have hX8 := hx4.other (a := ⟨b0 + 2, 2, none⟩) (by show b0 ≠ b0 + 2; omega) (.slice a4 (L.length + 1) c4)
          have hR8 := hr4.other (a := ⟨b0 + 2, 2, none⟩) (by show b0 + 1 ≠ b0 + 2; omega) (.slice a4 (L.length + 1) c4)
          have hB8 := hB4.setCell (p := ⟨b0 + 2, 2, none⟩) (by show w.heap.size ≤ b0 + 2; omega) (.slice a4 (L.length + 1) c4)
          clear hown hT hb4 e4 f4 hx4 hr4 hB4
          generalize w4.setCell ⟨b0 + 2, 2, none⟩ (.slice a4 (L.length + 1) c4) = w6 at hE8 hX8 hR8 hB8 ⊢
          go_wp2_with fail
          go_roundw
          case rel => exact ⟨k + 1, _, by omega, by go_num, hE8, hX8, hR8, hB8⟩
          case measure => simp [intOf]; omega
        | false =>
          go_wp2_with fail
          refine HPL.out.mono ?_
          rintro e w5 ⟨rfl, hq5⟩
          have hX5 := hX0.qt hq5
          have hE5 := hE.blk.qt hq5
          have hO5 := hE.own.qt hq5
          have hC5 := hCr.qt hq5
          have hR5 := hRr.qt hq5
          have hB5 := hB.trans (hq5.below _)
          have HKB := Lib.hid (show keepS S false k = false by unfold keepS; rw [decide_eq_false hmem]; rfl)
          go_wp2_with fail
          go_roundw
          case rel => exact ⟨k + 1, _, by omega, by go_num, ⟨hE5, by rw [HT.out, HKB.out]; simpa [HL.out] using hO5, hE.low⟩, hX5, hR5, hB5⟩
          case measure => simp [intOf]; omega
    · obtain rfl : k = x.claims.length := by omega
      rw [List.take_length] at hE
      obtain ⟨L, hL⟩ : ∃ L, L = keepL (keepS S but) x.claims 0 := ⟨_, rfl⟩
      rw [← hL] at hE
      have HL := Lib.hid hL
      clear hL
      obtain ⟨av, cv, rfl⟩ := own_slice hE.own
      have c0 := hE.blk.cell 0
      have c1' := hE.blk.cell 1
      have c2 := hE.blk.cell 2
      have d0 := hRr.cell 0
      have d1 := hRr.cell 1
      have d2 := hRr.cell 2
      have f0 := hRr.free 0
      have f1 := hRr.free 1
      have f2 := hRr.free 2
      go_wp2
      have hR4 := hRr.set3 (x' := .int .i64 x.points) (y' := .int .i64 x.bend) (z' := .slice av L.length cv)
      have hB4 := (((hB3.trans hB).setCell (p := ⟨b0 + 1, 0, none⟩) (by show w.heap.size ≤ b0 + 1; omega) (.int .i64 x.points)).setCell (p := ⟨b0 + 1, 1, none⟩) (by show w.heap.size ≤ b0 + 1; omega) (.int .i64 x.bend)).setCell (p := ⟨b0 + 1, 2, none⟩) (by show w.heap.size ≤ b0 + 1; omega) (.slice av L.length cv)
      have hO4 : ClsM (fun q => b0 + 3 ≤ q) (((wr.setCell ⟨b0 + 1, 0, none⟩ (.int .i64 x.points)).setCell ⟨b0 + 1, 1, none⟩ (.int .i64 x.bend)).setCell ⟨b0 + 1, 2, none⟩ (.slice av L.length cv)) (.slice av L.length cv) L :=
        hE.own.cls.step (by simp [World.setCell]) fun q hq _ => (Below.heap_setCell _ _ _ _ (show q ≠ b0 + 1 by omega)).trans ((Below.heap_setCell _ _ _ _ (show q ≠ b0 + 1 by omega)).trans (Below.heap_setCell _ _ _ _ (show q ≠ b0 + 1 by omega)))
      generalize ((wr.setCell ⟨b0 + 1, 0, none⟩ (.int .i64 x.points)).setCell ⟨b0 + 1, 1, none⟩ (.int .i64 x.bend)).setCell ⟨b0 + 1, 2, none⟩ (.slice av L.length cv) = wf at hR4 hB4 hO4 ⊢
      have x0 := hR4.cell 0
      have x1 := hR4.cell 1
      have x2 := hR4.cell 2
      exact bodyPost_ret (v := .agg #[.int .i64 x.points, .int .i64 x.bend, .slice av L.length cv]) (by simp [results, Try.results45, go_sem, x0, x1, x2]) rfl ⟨_, rfl, by show ClsM _ _ _ (keepL _ _ _); rw [← HL.out]; exact hO4.wide fun q hq _ => by omega, hB4⟩

set_option maxHeartbeats 1000000 in
theorem holds_c {A : Nat → Prop} {w : World} {x : Edg} {v : Value} (h : ClsM A w v x.claims) (hx : x.Ok) :
    Calls Try.prog 44 #[.agg #[.int .i64 x.points, .int .i64 x.bend, v]] w fun e w' => e = .returned (.tuple #[.bool (hasT x), .bool true]) ∧ Below w.heap.size w w' := by
  obtain ⟨a1, c1, rfl, hc1, hm1⟩ := h.shape
  obtain ⟨w1, hw1⟩ : ∃ w1, w1 = w.alloc (.cells #[.int .i64 x.points, .int .i64 x.bend, .slice a1 x.claims.length c1] 24) := ⟨_, rfl⟩
  obtain ⟨b1, hb1⟩ : ∃ b, b = w.heap.size := ⟨_, rfl⟩
  have hX : Blk b1 #[.int .i64 x.points, .int .i64 x.bend, .slice a1 x.claims.length c1] 24 w1 := by rw [hw1, hb1]; exact blk_at rfl _ _
  have hB : Below w.heap.size w w1 := by rw [hw1]; exact (Below.refl _ w).alloc (Nat.le_refl _) _
  have h1 := h.call (hB)
  have hcn := count25_c h1
  rw [show countX x = (((truthsF x).length : Int), 0) by unfold countX; rw [if_neg (not_not_intro (checkX_zero.2 hx))]] at hcn
  have HCN := Lib.hid hcn
  clear hcn
  go_enter Try.func44, Try.ntmps44
  go_upto_region 1 with fail
  rw [← hw1, ← hb1]
  clear hw1 hb1
  have c0 := hX.cell 0
  have c1' := hX.cell 1
  have c2 := hX.cell 2
  go_wp2_with fail
  refine HCN.out.mono ?_
  rintro e w2 ⟨rfl, hB2⟩
  have key : decide (0 < (truthsF x).length) = hasT x := by
    unfold hasT
    cases truthsF x <;> simp
  have key2 : decide ((0 : Int) < ((truthsF x).length : Int)) = hasT x := by
    rw [← key]
    exact decide_eq_decide.2 (by omega)
  go_wp2_with fail
  go_ret2
  first | (rw [key2]; exact ⟨rfl, bnx hB hB2⟩) | (rw [key]; exact ⟨rfl, bnx hB hB2⟩) | exact ⟨rfl, bnx hB hB2⟩

end Go.Proofs.Ytgdifckmjdjcpaa
