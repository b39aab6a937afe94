/- Contract of the reference's Add (edge); conditions: the claims read as a list. -/
import Derived.Test.YtgdifckmjdjcpaaGro
import Derived.Test.YtgdifckmjdjcpaaAdd
namespace Go.Proofs.Ytgdifckmjdjcpaa
open Go.RowKit

set_option maxRecDepth 100000 in
set_option maxHeartbeats 2000000 in
theorem radd_c {A : Nat → Prop} {w : World} {x : Edg} {v : Value} (h : ClsM A w v x.claims) (c : Cl) :
    Calls Try.prog 73 #[.agg #[.int .i64 x.points, .int .i64 x.bend, v], .agg #[.int .i64 c.kind, .int .i64 c.point, .int .i64 c.other, .int .i64 c.off, .int .i64 c.err]] w fun e w' => ∃ v', e = .returned (.tuple #[.agg #[.int .i64 (addX x c).1.points, .int .i64 (addX x c).1.bend, v'], .int .i64 (addX x c).2]) ∧ ClsM (fun q => w.heap.size ≤ q) w' v' (addX x c).1.claims ∧ Below w.heap.size w w' := by
  obtain ⟨a1, c1, rfl, hcl1, hcm1⟩ := h.shape
  obtain ⟨w1, hw1⟩ : ∃ w1, w1 = ((w.alloc (.cells #[.int .i64 x.points, .int .i64 x.bend, .slice a1 x.claims.length c1] 24)).alloc (.cells #[.int .i64 c.kind, .int .i64 c.point, .int .i64 c.other, .int .i64 c.off, .int .i64 c.err] 26)).alloc (.cells #[.int .i64 0, .int .i64 0, .slice none 0 0] 24) := ⟨_, rfl⟩
  obtain ⟨b1, hb1⟩ : ∃ b, b = w.heap.size := ⟨_, rfl⟩
  have hX1 : Blk b1 #[.int .i64 x.points, .int .i64 x.bend, .slice a1 x.claims.length c1] 24 w1 := by rw [hw1, hb1]; exact ((Blk.new w _ _).alloc _).alloc _
  have hC1 : Blk (b1 + 1) #[.int .i64 c.kind, .int .i64 c.point, .int .i64 c.other, .int .i64 c.off, .int .i64 c.err] 26 w1 := by rw [hw1, hb1]; exact (blk_at (by simp) _ _).alloc _
  have hR1 : Blk (b1 + 2) #[.int .i64 0, .int .i64 0, .slice none 0 0] 24 w1 := by rw [hw1, hb1]; exact blk_at (by simp) _ _
  have hB1 : Below w.heap.size w w1 := by rw [hw1]; exact bal2 (bal2 ((Below.refl _ w).alloc (Nat.le_refl _) _))
  have h1 := h.call hB1
  go_enter Try.func73, Try.ntmps73
  go_upto_region 1 with fail
  rw [← hw1, ← hb1]
  simp only [show b1 + 1 + 1 = b1 + 2 from rfl]
  have hbw : w.heap.size ≤ b1 := Nat.le_of_eq hb1.symm
  clear hw1 hb1
  have c0 := hX1.cell 0
  have c1' := hX1.cell 1
  have c2 := hX1.cell 2
  have d0 := hC1.cell 0
  have d1 := hC1.cell 1
  have d2 := hC1.cell 2
  have d3 := hC1.cell 3
  have d4 := hC1.cell 4
  go_wp2_with fail
  refine (rasked_c h1 c).mono ?_
  rintro e w2 ⟨rfl, hB2⟩
  have hX2 := hX1.call hB2
  have hC2 := hC1.call hB2
  have hR2 := hR1.call hB2
  have h2 := h1.call hB2
  have hBw2 := bnx hB1 hB2
  clear c0 c1' c2 d0 d1 d2 d3 d4 hX1 hC1 hR1 h1 hB1 hB2
  have fine : ∀ (W : World), Blk (b1 + 2) #[.int .i64 0, .int .i64 0, .slice none 0 0] 24 W → Below w.heap.size w W → ∀ (a : Act) (er : Int), addX x c = (noE, er) → a.defers = [] → a.tmps[4]? = some (.pointer (some ⟨b1 + 2, 0, none⟩)) → a.tmps[5]? = some (.int .i64 er) →
      bodyPost Try.prog Try.f73 (fun e w' => ∃ v', e = .returned (.tuple #[.agg #[.int .i64 (addX x c).1.points, .int .i64 (addX x c).1.bend, v'], .int .i64 (addX x c).2]) ∧ ClsM (fun q => w.heap.size ≤ q) w' v' (addX x c).1.claims ∧ Below w.heap.size w w') .ret a (((W.setCell ⟨b1 + 2, 0, none⟩ (.int .i64 0)).setCell ⟨b1 + 2, 1, none⟩ (.int .i64 0)).setCell ⟨b1 + 2, 2, none⟩ (.slice none 0 0)) := by
    intro W hR hB a er he hd h4 h5
    have hR3 := hR.set3 (x' := .int .i64 0) (y' := .int .i64 0) (z' := .slice none 0 0)
    have hB3 := ((hB.setCell (p := ⟨b1 + 2, 0, none⟩) (by show w.heap.size ≤ b1 + 2; omega) (.int .i64 0)).setCell (p := ⟨b1 + 2, 1, none⟩) (by show w.heap.size ≤ b1 + 2; omega) (.int .i64 0)).setCell (p := ⟨b1 + 2, 2, none⟩) (by show w.heap.size ≤ b1 + 2; omega) (.slice none 0 0)
    generalize ((W.setCell ⟨b1 + 2, 0, none⟩ (.int .i64 0)).setCell ⟨b1 + 2, 1, none⟩ (.int .i64 0)).setCell ⟨b1 + 2, 2, none⟩ (.slice none 0 0) = wf at hR3 hB3 ⊢
    have y0 := hR3.cell 0
    have y1 := hR3.cell 1
    have y2 := hR3.cell 2
    rw [he]
    exact bodyPost_ret (v := .tuple #[.agg #[.int .i64 0, .int .i64 0, .slice none 0 0], .int .i64 er]) (by rw [results, Try.results73]; simp [go_sem, h4, h5, y0, y1, y2]) hd ⟨_, rfl, cls_nil _ _, hB3⟩
  have FINE0 := Lib.hid fine
  clear fine
  have hX3 := hX2
  have hC3 := hC2
  have hR3 := hR2
  have h3 := h2
  obtain ⟨w3, hw3⟩ : ∃ w3, w3 = w2 := ⟨_, rfl⟩
  rw [← hw3] at hX3 hC3 hR3 h3 hBw2 ⊢
  have hBw3 := hBw2
  clear hX2 hC2 hR2 h2 hBw2 hw3
  have FINE := Lib.hid (FINE0.out w3 hR3 hBw3)
  have r0 := hR3.cell 0
  have r1 := hR3.cell 1
  have r2 := hR3.cell 2
  have fr0 := hR3.free 0
  have fr1 := hR3.free 1
  have fr2 := hR3.free 2
  have c2 := hX3.cell 2
  by_cases has : askedX x c = 0
  · have hck : checkX x = 0 := by
      by_cases h0 : checkX x = 0
      · exact h0
      · unfold askedX at has; rw [if_pos h0] at has; exact absurd has h0
    have hx := checkX_zero.1 hck
    have hxm := hx.m
    have hok : c.Ok x.points := by
      unfold askedX at has
      rw [if_neg (not_not_intro hck)] at has
      exact claimE_zero.1 has
    · have hb : (askedX x c != 0) = false := by rw [has]; rfl
      have hfo : addX x c = if 7 ≤ x.claims.length then (noE, 6) else if hasT (x.add c) = false then (noE, 12) else (x.add c, 0) := by
        unfold addX; rw [if_neg (not_not_intro has)]
      have HFO := Lib.hid hfo
      clear hfo has hck
      by_cases hm7 : 7 ≤ x.claims.length
      · have hd7 : decide (7 ≤ x.claims.length) = true := decide_eq_true hm7
        have he : addX x c = (noE, 6) := by rw [HFO.out, if_pos hm7]
        have HE := Lib.hid he
        clear he
        go_wp2_with fail
        refine FINE.out _ _ HE.out ?_ ?_ ?_ <;> rfl
      · have hm6 : x.claims.length ≤ 6 := by omega
        have hfo : addX x c = if hasT (x.add c) = false then (noE, 12) else (x.add c, 0) := by rw [HFO.out, if_neg hm7]
        have HFO2 := Lib.hid hfo
        have hyok : (x.add c).Ok := by
          refine ⟨hx.p, hx.b, by unfold Edg.add; simp only [List.length_append, List.length_singleton]; omega, fun d hd => ?_⟩
          unfold Edg.add at hd ⊢
          simp only [List.mem_append, List.mem_singleton] at hd
          rcases hd with hd | rfl
          · exact hx.c d hd
          · exact hok
        clear hfo hm7
        have hbl3 := hR3.lt
        have fin9 : ∀ (wn : World) (a7 : Option Addr) (c7 : Nat), Below w3.heap.size w3 wn → Own w3.heap.size wn 26 5 (.slice a7 (x.claims.length + 1) c7) (x.claims.length + 1) (x.claims.flatMap ccells ++ ccells c) →
            ∃ (ay : Option Addr) (cy : Nat), Blk b1 #[.int .i64 x.points, .int .i64 x.bend, .slice ay (x.claims.length + 1) cy] 24 (wn.setCell ⟨b1, 2, none⟩ (.slice a7 (x.claims.length + 1) c7)) ∧ ClsM (fun q => w3.heap.size ≤ q) (wn.setCell ⟨b1, 2, none⟩ (.slice a7 (x.claims.length + 1) c7)) (.slice ay (x.claims.length + 1) cy) (x.add c).claims ∧ Blk (b1 + 2) #[.int .i64 0, .int .i64 0, .slice none 0 0] 24 (wn.setCell ⟨b1, 2, none⟩ (.slice a7 (x.claims.length + 1) c7)) ∧ Below w.heap.size w (wn.setCell ⟨b1, 2, none⟩ (.slice a7 (x.claims.length + 1) c7)) := by
          intro wn a7 c7 hBn hO
          have e : (x.add c).claims.length = x.claims.length + 1 := by unfold Edg.add; simp
          refine ⟨a7, c7, (hX3.call hBn).set 2 _, ?_, (hR3.call hBn).other (a := ⟨b1, 2, none⟩) (by show b1 + 2 ≠ b1; omega) _, (bnx hBw3 hBn).setCell (p := ⟨b1, 2, none⟩) hbw _⟩
          rw [← e]
          refine Own.cls ?_
          rw [e]
          unfold Edg.add
          rw [cls_snoc]
          exact hO.step fun q hq hl _ => Below.heap_setCell _ _ _ _ (show q ≠ b1 by omega)
        have FIN9a := Lib.hid fin9
        clear fin9
        go_upto_region 6 with fail
        clear r0 r1 r2 fr0 fr1 fr2
        go_cut [] from 7 (fun wx => ∃ (ay : Option Addr) (cy : Nat), Blk b1 #[.int .i64 x.points, .int .i64 x.bend, .slice ay (x.claims.length + 1) cy] 24 wx ∧ ClsM (fun q => w3.heap.size ≤ q) wx (.slice ay (x.claims.length + 1) cy) (x.add c).claims ∧ Blk (b1 + 2) #[.int .i64 0, .int .i64 0, .slice none 0 0] 24 wx ∧ Below w.heap.size w wx)
        case first =>
          clear c2
          refine wp_region_mix2 (.pur 1 (.one 2 (.one 4 (.two 0 (.two 3 (.act 5 (.act 6 (.pur 7 (.act 8 .fin)))) 5 (.act 3 (.act 6 (.pur 7 (.act 8 .fin))))) 5 (.act 0 (.act 3 (.act 6 (.pur 7 (.act 8 .fin))))))))) 6 (AdS b1 x.points x.bend (.slice a1 x.claims.length c1) c) (fun _ => True) (by kernel_rfl) (by kernel_rfl) rfl (by kernel_rfl) ⟨hX3.qt ((Qt.refl _).drewN 1), hC3.qt ((Qt.refl _).drewN 1)⟩ (fun wd hqd _ => ?_)
          have hS3 : (AdS b1 x.points x.bend (.slice a1 x.claims.length c1) c) w3 := ⟨hX3, hC3⟩
          have hBwd : Below w3.heap.size w3 wd := hqd.below _
          refine mix_pur2 rfl (fun K hK => ?_)
          go_simp
          first | refine ⟨_, fun _ => rfl, hK _ ?_⟩ | refine hK _ ?_
          clear hK K
          refine mix_load2 rfl rfl rfl (.slice a1 x.claims.length c1) (fun w' h => by have h : (AdS b1 x.points x.bend (.slice a1 x.claims.length c1) c) w' := h; have h2 := h.1.cell 2; go_simp) rfl ?_
          refine mix_load2 rfl rfl rfl (.agg #[.int .i64 c.kind, .int .i64 c.point, .int .i64 c.other, .int .i64 c.off, .int .i64 c.err]) (fun w' h => by have h : (AdS b1 x.points x.bend (.slice a1 x.claims.length c1) c) w' := h; have e0 := h.2.cell 0; have e1 := h.2.cell 1; have e2 := h.2.cell 2; have e3 := h.2.cell 3; have e4 := h.2.cell 4; go_simp) rfl ?_
          refine mix_two2 rfl rfl false false rfl rfl (fun K hK => ?_) (fun K hK => ?_)
          · go_simp
            have hOk := own_from (own_lit wd 26 5 #[] 0 rfl (by omega)) hBwd.size
            have hBl := (Below.refl wd.heap.size wd).alloc (Nat.le_refl _) (.cells #[] 26)
            have hBwa1 : Below w3.heap.size w3 (wd.alloc (.cells #[] 26)) := bnx hBwd hBl
            refine hK _ _ (hS3.call hBwa1) ?_
            clear hK K hBl
            obtain ⟨b0, hb0⟩ : ∃ b, b = wd.heap.size := ⟨_, rfl⟩
            rw [← hb0] at hOk ⊢
            generalize wd.alloc (.cells #[] 26) = wa1 at hOk hBwa1 ⊢
            clear hb0
            refine mix_two2 rfl rfl false false rfl rfl (fun K hK => ?_) (fun K hK => ?_)
            · refine step_append_arr rfl _ _ 22 rfl 26 _ 5 40 Try.underlying22 Try.info26 rfl (by decide) (by decide) (by have := hBwa1.size; omega) hOk rfl (h3.call hBwa1) rfl (flat_len ccells_len x.claims) (cls_one x.claims) (by omega) ?_
              intro v3 wa2 hO3 hT3
              rw [List.nil_append] at hO3
              simp only [Nat.zero_add] at hO3 ⊢
              obtain ⟨ak, ck, rfl⟩ := own_slice hO3
              have hBwa2 := hT3.below2 (B' := w3.heap.size) hOk hBwa1 hBwa1.size (Nat.le_refl _)
              refine hK _ _ (hS3.call hBwa2) ?_
              have hOk := hO3
              clear hK K hO3 hT3
              refine mix_eff2 rfl false rfl (fun K hK => ?_)
              go_simp
              have hL : Blk wa2.heap.size #[.int .i64 c.kind, .int .i64 c.point, .int .i64 c.other, .int .i64 c.off, .int .i64 c.err] 26 (wa2.alloc (.cells #[.int .i64 c.kind, .int .i64 c.point, .int .i64 c.other, .int .i64 c.off, .int .i64 c.err] 26)) := Blk.new _ _ _
              have hBl := (Below.refl wa2.heap.size wa2).alloc (Nat.le_refl _) (.cells #[.int .i64 c.kind, .int .i64 c.point, .int .i64 c.other, .int .i64 c.off, .int .i64 c.err] 26)
              have hne : ∀ q, (Value.slice ak x.claims.length ck).ownBlock = some q → q ≠ wa2.heap.size := fun q e => by have := (World.ownsRow.lt hOk q e).2; omega
              have hOk := hOk.call hBl
              have hBwa3 : Below w3.heap.size w3 (wa2.alloc (.cells #[.int .i64 c.kind, .int .i64 c.point, .int .i64 c.other, .int .i64 c.off, .int .i64 c.err] 26)) := bnx hBwa2 hBl
              refine hK _ _ (hS3.call hBwa3) ?_
              clear hK K hBl
              obtain ⟨bl, hbl⟩ : ∃ b, b = wa2.heap.size := ⟨_, rfl⟩
              rw [← hbl] at hL hne ⊢
              generalize wa2.alloc (.cells #[.int .i64 c.kind, .int .i64 c.point, .int .i64 c.other, .int .i64 c.off, .int .i64 c.err] 26) = wa3 at hL hBwa3 hOk ⊢
              clear hbl
              refine mix_eff2 rfl true rfl (fun K hK => ?_)
              have hlL := hL.lt
              refine step_append_arr rfl _ _ 22 rfl 26 _ 5 40 Try.underlying22 Try.info26 rfl (by decide) (by decide) (by have := hBwa3.size; omega) hOk rfl (blk_arr hL 1 (by omega)) rfl rfl (ccells_one c) (by omega) ?_
              intro v7 wa4 hO7 hT7
              obtain ⟨a7, c7, rfl⟩ := own_slice hO7
              have hBwa4 := hT7.below2 (B' := w3.heap.size) hOk hBwa3 hBwa3.size (Nat.le_refl _)
              have hX7 := hX3.call hBwa4
              have x2 := hX7.cell 2
              have f2 := hX7.free 2
              refine hK _ _ trivial ?_
              clear hK K
              refine mix_pur2 rfl (fun K hK => ?_)
              go_simp
              first | refine ⟨_, fun _ => rfl, hK _ ?_⟩ | refine hK _ ?_
              clear hK K
              refine mix_eff2 rfl true rfl (fun K hK => ?_)
              go_simp
              refine hK _ _ trivial ?_
              clear hK K
              refine mix_done2 ?_
              go_wp2_with fail
              go_meet
              case rel => exact FIN9a.out wa4 a7 c7 hBwa4 hO7
            · go_simp
              have hL : Blk wa1.heap.size #[.int .i64 c.kind, .int .i64 c.point, .int .i64 c.other, .int .i64 c.off, .int .i64 c.err] 26 (wa1.alloc (.cells #[.int .i64 c.kind, .int .i64 c.point, .int .i64 c.other, .int .i64 c.off, .int .i64 c.err] 26)) := Blk.new _ _ _
              have hBl := (Below.refl wa1.heap.size wa1).alloc (Nat.le_refl _) (.cells #[.int .i64 c.kind, .int .i64 c.point, .int .i64 c.other, .int .i64 c.off, .int .i64 c.err] 26)
              have hne : ∀ q, (Value.slice (some ⟨b0, 0, none⟩) 0 0).ownBlock = some q → q ≠ wa1.heap.size := fun q e => by have := (World.ownsRow.lt hOk q e).2; omega
              have hOk := hOk.call hBl
              have hBwa2 : Below w3.heap.size w3 (wa1.alloc (.cells #[.int .i64 c.kind, .int .i64 c.point, .int .i64 c.other, .int .i64 c.off, .int .i64 c.err] 26)) := bnx hBwa1 hBl
              refine hK _ _ (hS3.call hBwa2) ?_
              clear hK K hBl
              obtain ⟨bl, hbl⟩ : ∃ b, b = wa1.heap.size := ⟨_, rfl⟩
              rw [← hbl] at hL hne ⊢
              generalize wa1.alloc (.cells #[.int .i64 c.kind, .int .i64 c.point, .int .i64 c.other, .int .i64 c.off, .int .i64 c.err] 26) = wa2 at hL hBwa2 hOk ⊢
              clear hbl
              refine mix_eff2 rfl false rfl (fun K hK => ?_)
              refine step_append_arr rfl _ _ 22 rfl 26 _ 5 40 Try.underlying22 Try.info26 rfl (by decide) (by decide) (by have := hBwa2.size; omega) hOk rfl (h3.call hBwa2) rfl (flat_len ccells_len x.claims) (cls_one x.claims) (by omega) ?_
              intro v3 wa3 hO3 hT3
              rw [List.nil_append] at hO3
              simp only [Nat.zero_add] at hO3 ⊢
              obtain ⟨ak, ck, rfl⟩ := own_slice hO3
              have hBwa3 := hT3.below2 (B' := w3.heap.size) hOk hBwa2 hBwa2.size (Nat.le_refl _)
              have hbl2 := hL.lt
              have hL := hL.keep (hT3.block _ hL.lt (fun e => hne _ e rfl))
              have hne : ∀ q, (Value.slice ak x.claims.length ck).ownBlock = some q → q ≠ bl := fun q e => by
                rcases hT3.place with e1 | e1
                · exact hne q (e1 ▸ e)
                · rw [e1] at e
                  injection e with e
                  omega
              refine hK _ _ (hS3.call hBwa3) ?_
              have hOk := hO3
              clear hK K hO3 hT3
              refine mix_eff2 rfl true rfl (fun K hK => ?_)
              have hlL := hL.lt
              refine step_append_arr rfl _ _ 22 rfl 26 _ 5 40 Try.underlying22 Try.info26 rfl (by decide) (by decide) (by have := hBwa3.size; omega) hOk rfl (blk_arr hL 1 (by omega)) rfl rfl (ccells_one c) (by omega) ?_
              intro v7 wa4 hO7 hT7
              obtain ⟨a7, c7, rfl⟩ := own_slice hO7
              have hBwa4 := hT7.below2 (B' := w3.heap.size) hOk hBwa3 hBwa3.size (Nat.le_refl _)
              have hX7 := hX3.call hBwa4
              have x2 := hX7.cell 2
              have f2 := hX7.free 2
              refine hK _ _ trivial ?_
              clear hK K
              refine mix_pur2 rfl (fun K hK => ?_)
              go_simp
              first | refine ⟨_, fun _ => rfl, hK _ ?_⟩ | refine hK _ ?_
              clear hK K
              refine mix_eff2 rfl true rfl (fun K hK => ?_)
              go_simp
              refine hK _ _ trivial ?_
              clear hK K
              refine mix_done2 ?_
              go_wp2_with fail
              go_meet
              case rel => exact FIN9a.out wa4 a7 c7 hBwa4 hO7
          · go_simp
            have hL : Blk wd.heap.size #[.int .i64 c.kind, .int .i64 c.point, .int .i64 c.other, .int .i64 c.off, .int .i64 c.err] 26 (wd.alloc (.cells #[.int .i64 c.kind, .int .i64 c.point, .int .i64 c.other, .int .i64 c.off, .int .i64 c.err] 26)) := Blk.new _ _ _
            have hBl := (Below.refl wd.heap.size wd).alloc (Nat.le_refl _) (.cells #[.int .i64 c.kind, .int .i64 c.point, .int .i64 c.other, .int .i64 c.off, .int .i64 c.err] 26)
            have hBwa1 : Below w3.heap.size w3 (wd.alloc (.cells #[.int .i64 c.kind, .int .i64 c.point, .int .i64 c.other, .int .i64 c.off, .int .i64 c.err] 26)) := bnx hBwd hBl
            refine hK _ _ (hS3.call hBwa1) ?_
            clear hK K hBl
            obtain ⟨bl, hbl⟩ : ∃ b, b = wd.heap.size := ⟨_, rfl⟩
            rw [← hbl] at hL ⊢
            generalize wd.alloc (.cells #[.int .i64 c.kind, .int .i64 c.point, .int .i64 c.other, .int .i64 c.off, .int .i64 c.err] 26) = wa1 at hL hBwa1 ⊢
            clear hbl
            refine mix_eff2 rfl false rfl (fun K hK => ?_)
            go_simp
            have hOk := own_from (own_lit wa1 26 5 #[] 0 rfl (by omega)) hBwa1.size
            have hBl := (Below.refl wa1.heap.size wa1).alloc (Nat.le_refl _) (.cells #[] 26)
            have hlL0 := hL.lt
            have hne : ∀ q, (Value.slice (some ⟨wa1.heap.size, 0, none⟩) 0 0).ownBlock = some q → q ≠ bl := fun q e => by simp [Value.ownBlock] at e; omega
            have hL := hL.call hBl
            have hBwa2 : Below w3.heap.size w3 (wa1.alloc (.cells #[] 26)) := bnx hBwa1 hBl
            refine hK _ _ (hS3.call hBwa2) ?_
            clear hK K hBl
            obtain ⟨b0, hb0⟩ : ∃ b, b = wa1.heap.size := ⟨_, rfl⟩
            rw [← hb0] at hOk hne ⊢
            generalize wa1.alloc (.cells #[] 26) = wa2 at hOk hBwa2 hL ⊢
            clear hb0
            refine mix_eff2 rfl false rfl (fun K hK => ?_)
            refine step_append_arr rfl _ _ 22 rfl 26 _ 5 40 Try.underlying22 Try.info26 rfl (by decide) (by decide) (by have := hBwa2.size; omega) hOk rfl (h3.call hBwa2) rfl (flat_len ccells_len x.claims) (cls_one x.claims) (by omega) ?_
            intro v3 wa3 hO3 hT3
            rw [List.nil_append] at hO3
            simp only [Nat.zero_add] at hO3 ⊢
            obtain ⟨ak, ck, rfl⟩ := own_slice hO3
            have hBwa3 := hT3.below2 (B' := w3.heap.size) hOk hBwa2 hBwa2.size (Nat.le_refl _)
            have hbl2 := hL.lt
            have hL := hL.keep (hT3.block _ hL.lt (fun e => hne _ e rfl))
            have hne : ∀ q, (Value.slice ak x.claims.length ck).ownBlock = some q → q ≠ bl := fun q e => by
              rcases hT3.place with e1 | e1
              · exact hne q (e1 ▸ e)
              · rw [e1] at e
                injection e with e
                omega
            refine hK _ _ (hS3.call hBwa3) ?_
            have hOk := hO3
            clear hK K hO3 hT3
            refine mix_eff2 rfl true rfl (fun K hK => ?_)
            have hlL := hL.lt
            refine step_append_arr rfl _ _ 22 rfl 26 _ 5 40 Try.underlying22 Try.info26 rfl (by decide) (by decide) (by have := hBwa3.size; omega) hOk rfl (blk_arr hL 1 (by omega)) rfl rfl (ccells_one c) (by omega) ?_
            intro v7 wa4 hO7 hT7
            obtain ⟨a7, c7, rfl⟩ := own_slice hO7
            have hBwa4 := hT7.below2 (B' := w3.heap.size) hOk hBwa3 hBwa3.size (Nat.le_refl _)
            have hX7 := hX3.call hBwa4
            have x2 := hX7.cell 2
            have f2 := hX7.free 2
            refine hK _ _ trivial ?_
            clear hK K
            refine mix_pur2 rfl (fun K hK => ?_)
            go_simp
            first | refine ⟨_, fun _ => rfl, hK _ ?_⟩ | refine hK _ ?_
            clear hK K
            refine mix_eff2 rfl true rfl (fun K hK => ?_)
            go_simp
            refine hK _ _ trivial ?_
            clear hK K
            refine mix_done2 ?_
            go_wp2_with fail
            go_meet
            case rel => exact FIN9a.out wa4 a7 c7 hBwa4 hO7
        case rest =>
          obtain ⟨ay, cy, hY4, hCy, hR4, hBw4⟩ := hcut
          rename World => w4
          clear c2 hX3 hC3 hR3
          have c0 := hY4.cell 0
          have c1' := hY4.cell 1
          have c2 := hY4.cell 2
          have hbo := rtruths_c (x := x.add c) hCy hyok
          rw [show (x.add c).points = x.points from rfl, show (x.add c).bend = x.bend from rfl] at hbo
          have HBO := Lib.hid hbo
          clear hbo
          go_wp2_with fail
          refine HBO.out.mono ?_
          rintro e w5 ⟨vb, rfl, hGb, hB5⟩
          obtain ⟨ag, cg, rfl, _, _⟩ := hGb.shape
          have hY5 := hY4.call hB5
          have hCy5 := hCy.call hB5
          have hR5 := hR4.call hB5
          have hBw5 := bnx hBw4 hB5
          clear c0 c1' c2 hY4 hCy hR4 hBw4 hB5
          have r0 := hR5.cell 0
          have r1 := hR5.cell 1
          have r2 := hR5.cell 2
          have fr0 := hR5.free 0
          have fr1 := hR5.free 1
          have fr2 := hR5.free 2
          cases hh : hasT (x.add c) with
          | false =>
            have he : addX x c = (noE, 12) := by rw [HFO2.out, if_pos hh]
            have HE := Lib.hid he
            have FINF := Lib.hid (FINE0.out w5 hR5 hBw5)
            have hl0 : (((truthsF (x.add c)).length : Int) == 0) = true := by unfold hasT at hh; rw [beq_iff_eq]; cases ht : truthsF (x.add c) with | nil => rfl | cons a l => rw [ht] at hh; simp at hh
            clear he hh
            go_wp2_with fail
            refine FINF.out _ _ HE.out ?_ ?_ ?_ <;> rfl
          | true =>
            have he : addX x c = (x.add c, 0) := by rw [HFO2.out, if_neg (by rw [hh]; decide)]
            have HE := Lib.hid he
            have hl0 : (((truthsF (x.add c)).length : Int) == 0) = false := by unfold hasT at hh; rw [beq_eq_false_iff_ne]; cases ht : truthsF (x.add c) with | nil => rw [ht] at hh; simp at hh | cons a l => simp; omega
            clear he hh
            have c0 := hY5.cell 0
            have c1' := hY5.cell 1
            have c2 := hY5.cell 2
            have hlR := hR5.lt
            have hzw := hBw3.size
            go_wp2_with fail
            have hR6 := hR5.set3 (x' := .int .i64 x.points) (y' := .int .i64 x.bend) (z' := .slice ay (x.claims.length + 1) cy)
            have hB6 := ((hBw5.setCell (p := ⟨b1 + 2, 0, none⟩) (by show w.heap.size ≤ b1 + 2; omega) (.int .i64 x.points)).setCell (p := ⟨b1 + 2, 1, none⟩) (by show w.heap.size ≤ b1 + 2; omega) (.int .i64 x.bend)).setCell (p := ⟨b1 + 2, 2, none⟩) (by show w.heap.size ≤ b1 + 2; omega) (.slice ay (x.claims.length + 1) cy)
            have hC6 : ClsM (fun q => w3.heap.size ≤ q) (((w5.setCell ⟨b1 + 2, 0, none⟩ (.int .i64 x.points)).setCell ⟨b1 + 2, 1, none⟩ (.int .i64 x.bend)).setCell ⟨b1 + 2, 2, none⟩ (.slice ay (x.claims.length + 1) cy)) (.slice ay (x.claims.length + 1) cy) (x.add c).claims :=
              hCy5.step (by simp [World.setCell]) fun q hq _ => (Below.heap_setCell _ _ _ _ (show q ≠ b1 + 2 by omega)).trans ((Below.heap_setCell _ _ _ _ (show q ≠ b1 + 2 by omega)).trans (Below.heap_setCell _ _ _ _ (show q ≠ b1 + 2 by omega)))
            generalize ((w5.setCell ⟨b1 + 2, 0, none⟩ (.int .i64 x.points)).setCell ⟨b1 + 2, 1, none⟩ (.int .i64 x.bend)).setCell ⟨b1 + 2, 2, none⟩ (.slice ay (x.claims.length + 1) cy) = wf at hR6 hB6 hC6 ⊢
            have y0 := hR6.cell 0
            have y1 := hR6.cell 1
            have y2 := hR6.cell 2
            rw [HE.out]
            exact bodyPost_ret (v := .tuple #[.agg #[.int .i64 x.points, .int .i64 x.bend, .slice ay (x.claims.length + 1) cy], .int .i64 0]) (by simp [results, Try.results73, go_sem, y0, y1, y2]) rfl ⟨_, rfl, hC6.wide fun q hq _ => by omega, hB6⟩
  · have hb : (askedX x c != 0) = true := by simpa using has
    have he : addX x c = (noE, askedX x c) := by unfold addX; rw [if_pos has]
    have HE := Lib.hid he
    clear he has
    go_wp2_with fail
    refine FINE.out _ _ HE.out ?_ ?_ ?_ <;> rfl

end Go.Proofs.Ytgdifckmjdjcpaa
