/- Contracts of Add, and of the copy of claims it makes (edge); conditions: the claims read as a list. -/
import Derived.Test.YtgljiabmfcobiaaDoorIdl
import Derived.Test.YtgljiabmfcobiaaDoorSur
import Derived.Lib.SliceRun
namespace Go.Proofs.YtgljiabmfcobiaaDoor
open Go.RowKit

theorem own_from {B B' : Nat} {w : World} {e : TypeId} {sz n : Nat} {v : Value} {xs : List Value} (h : Own B w e sz v n xs) (hB : B' ≤ B) : Own B' w e sz v n xs := by
  refine ⟨h.1, ?_⟩
  rcases h.2 with hn | ⟨g, cap, cur, rfl, h0, hg, rest⟩
  · exact .inl hn
  · exact .inr ⟨g, cap, cur, rfl, Nat.le_trans hB h0, hg, rest⟩


theorem blk_arr {b : Nat} {cs : Array Value} {t : TypeId} {w : World} (h : Blk b cs t w) (n : Nat) (hn : n ≤ 1000) : Arr (fun q => q = b) w (.slice (some ⟨b, 0, none⟩) n n) n cs.toList :=
  ⟨_, n, rfl, Nat.le_refl _, ⟨by unfold maxLen; omega, by simp⟩, .inr ⟨b, 0, rfl, rfl, h.lt, fun j v hj => by
    rw [Nat.zero_add, h.cell j, ← hj]; simp⟩⟩
theorem clone_c {A : Nat → Prop} {w : World} {v : Value} {l : List Cl} (h : ClsM A w v l) (hl : l.length ≤ 1000) :
    Calls Tryd.prog 29 #[v] w fun e w' => ∃ v', e = .returned v' ∧ Own w.heap.size w' 27 5 v' l.length (l.flatMap ccells) ∧ Below w.heap.size w w' := by
  obtain ⟨a1, c1, rfl, hc1, hm1⟩ := h.shape
  have n1 := h.len
  have qT : ∀ (w : World) (a : Option Addr) (n c n' c' : Nat), (binOp .eql 22 (.slice a n c) (.slice none n' c')).run Tryd.prog w = .ok (.bool a.isNone) w := fun w a n c n' c' => Lib.run_eql_slice_nil w _ _ a n c n' c' Tryd.underlying22
  cases a1 with
  | none =>
    have h0 : l = [] := by
      obtain ⟨ao, cp, hv, h1, ⟨h2, h3⟩, -⟩ := h
      injection hv with e1 e2 e3
      have := h3 e1.symm
      exact List.eq_nil_of_length_eq_zero (by omega)
    subst h0
    go_enter Tryd.func29, Tryd.ntmps29
    go_wp2_with fail
    go_ret
    exact ⟨_, rfl, Own.nil, Below.refl _ _⟩
  | some ad =>
    have hh := h.call ((Below.refl w.heap.size w).alloc (Nat.le_refl _) (.cells #[] 27))
    have ho := own_lit w 27 5 #[] 0 rfl (by omega)
    go_enter Tryd.func29, Tryd.ntmps29
    go_wp2_with (at_builtin; refine wpList_append_arr rfl _ _ 22 rfl 27 _ 5 40 Tryd.underlying22 Tryd.info27 rfl (by decide) (by decide) (by simp) ho rfl hh rfl (flat_len ccells_len l) (cls_one l) (by omega) ?_; intro v' w' hown hT)
    go_ret
    rw [Nat.zero_add, List.nil_append] at hown
    exact ⟨_, rfl, hown, hT.below ho ((Below.refl w.heap.size w).alloc (Nat.le_refl _) _) (by simp)⟩

theorem cls_nil (A : Nat → Prop) (w : World) : ClsM A w (.slice none 0 0) [] := ⟨none, 0, rfl, Nat.le_refl _, ⟨by unfold maxLen; omega, fun _ => rfl⟩, .inl rfl⟩
/-- What the region that puts a claim behind the others reads. -/
def AdS (b : Nat) (P B : Int) (v : Value) (c : Cl) (w : World) : Prop := Blk b #[.int .i64 P, .int .i64 B, v] 24 w ∧ Blk (b + 1) #[.int .i64 c.kind, .int .i64 c.point, .int .i64 c.other, .int .i64 c.off, .int .i64 c.err] 27 w
theorem AdS.call {b : Nat} {P B : Int} {v : Value} {c : Cl} {w w' : World} (h : AdS b P B v c w) (hB : Below w.heap.size w w') : AdS b P B v c w' := ⟨h.1.call hB, h.2.call hB⟩

set_option maxRecDepth 100000 in
set_option maxHeartbeats 2000000 in
theorem add_c {A : Nat → Prop} {w : World} {x : Edg} {v : Value} (h : ClsM A w v x.claims) (c : Cl) :
    Calls Tryd.prog 11 #[.agg #[.int .i64 x.points, .int .i64 x.bend, v], .agg #[.int .i64 c.kind, .int .i64 c.point, .int .i64 c.other, .int .i64 c.off, .int .i64 c.err]] w fun e w' => ∃ v', e = .returned (.tuple #[.agg #[.int .i64 (addX x c).1.points, .int .i64 (addX x c).1.bend, v'], .int .i64 (addX x c).2]) ∧ ClsM (fun q => w.heap.size ≤ q) w' v' (addX x c).1.claims ∧ Below w.heap.size w w' := by
  obtain ⟨a1, c1, rfl, hcl1, hcm1⟩ := h.shape
  obtain ⟨w1, hw1⟩ : ∃ w1, w1 = ((w.alloc (.cells #[.int .i64 x.points, .int .i64 x.bend, .slice a1 x.claims.length c1] 24)).alloc (.cells #[.int .i64 c.kind, .int .i64 c.point, .int .i64 c.other, .int .i64 c.off, .int .i64 c.err] 27)).alloc (.cells #[.int .i64 0, .int .i64 0, .slice none 0 0] 24) := ⟨_, rfl⟩
  obtain ⟨b1, hb1⟩ : ∃ b, b = w.heap.size := ⟨_, rfl⟩
  have hX1 : Blk b1 #[.int .i64 x.points, .int .i64 x.bend, .slice a1 x.claims.length c1] 24 w1 := by rw [hw1, hb1]; exact ((Blk.new w _ _).alloc _).alloc _
  have hC1 : Blk (b1 + 1) #[.int .i64 c.kind, .int .i64 c.point, .int .i64 c.other, .int .i64 c.off, .int .i64 c.err] 27 w1 := by rw [hw1, hb1]; exact (blk_at (by simp) _ _).alloc _
  have hR1 : Blk (b1 + 2) #[.int .i64 0, .int .i64 0, .slice none 0 0] 24 w1 := by rw [hw1, hb1]; exact blk_at (by simp) _ _
  have hB1 : Below w.heap.size w w1 := by rw [hw1]; exact bal2 (bal2 ((Below.refl _ w).alloc (Nat.le_refl _) _))
  have h1 := h.call hB1
  go_enter Tryd.func11, Tryd.ntmps11
  go_upto_region 1 with fail
  rw [← hw1, ← hb1]
  simp only [show b1 + 1 + 1 = b1 + 2 from rfl]
  have hbw : w.heap.size ≤ b1 := Nat.le_of_eq hb1.symm
  clear hw1 hb1
  have c0 := hX1.cell 0
  have c1' := hX1.cell 1
  have c2 := hX1.cell 2
  go_wp2_with fail
  refine (check_c h1).mono ?_
  rintro e w2 ⟨rfl, hB2⟩
  have hX2 := hX1.call hB2
  have hC2 := hC1.call hB2
  have hR2 := hR1.call hB2
  have h2 := h1.call hB2
  have hBw2 := bnx hB1 hB2
  clear c0 c1' c2 hX1 hC1 hR1 h1 hB1 hB2
  have fine : ∀ (W : World), Blk (b1 + 2) #[.int .i64 0, .int .i64 0, .slice none 0 0] 24 W → Below w.heap.size w W → ∀ (a : Act) (er : Int), addX x c = (noE, er) → a.defers = [] → a.tmps[4]? = some (.pointer (some ⟨b1 + 2, 0, none⟩)) → a.tmps[5]? = some (.int .i64 er) →
      bodyPost Tryd.prog Tryd.f11 (fun e w' => ∃ v', e = .returned (.tuple #[.agg #[.int .i64 (addX x c).1.points, .int .i64 (addX x c).1.bend, v'], .int .i64 (addX x c).2]) ∧ ClsM (fun q => w.heap.size ≤ q) w' v' (addX x c).1.claims ∧ Below w.heap.size w w') .ret a (((W.setCell ⟨b1 + 2, 0, none⟩ (.int .i64 0)).setCell ⟨b1 + 2, 1, none⟩ (.int .i64 0)).setCell ⟨b1 + 2, 2, none⟩ (.slice none 0 0)) := by
    intro W hR hB a er he hd h4 h5
    have hR3 := hR.set3 (x' := .int .i64 0) (y' := .int .i64 0) (z' := .slice none 0 0)
    have hB3 := ((hB.setCell (p := ⟨b1 + 2, 0, none⟩) (by show w.heap.size ≤ b1 + 2; omega) (.int .i64 0)).setCell (p := ⟨b1 + 2, 1, none⟩) (by show w.heap.size ≤ b1 + 2; omega) (.int .i64 0)).setCell (p := ⟨b1 + 2, 2, none⟩) (by show w.heap.size ≤ b1 + 2; omega) (.slice none 0 0)
    generalize ((W.setCell ⟨b1 + 2, 0, none⟩ (.int .i64 0)).setCell ⟨b1 + 2, 1, none⟩ (.int .i64 0)).setCell ⟨b1 + 2, 2, none⟩ (.slice none 0 0) = wf at hR3 hB3 ⊢
    have y0 := hR3.cell 0
    have y1 := hR3.cell 1
    have y2 := hR3.cell 2
    rw [he]
    exact bodyPost_ret (v := .tuple #[.agg #[.int .i64 0, .int .i64 0, .slice none 0 0], .int .i64 er]) (by rw [results, Tryd.results11]; simp [go_sem, h4, h5, y0, y1, y2]) hd ⟨_, rfl, cls_nil _ _, hB3⟩
  have FINE0 := Lib.hid fine
  clear fine
  by_cases hck : checkX x = 0
  · have hx := checkX_zero.1 hck
    have hb : (checkX x != 0) = false := by rw [hck]; rfl
    have has : askedX x c = claimE x.points c := by unfold askedX; rw [if_neg (not_not_intro hck)]
    have HAS := Lib.hid has
    clear has hck
    have hxp := hx.p
    have hxm := hx.m
    have c0 := hX2.cell 0
    have c1' := hX2.cell 1
    have c2 := hX2.cell 2
    have d0 := hC2.cell 0
    have d1 := hC2.cell 1
    have d2 := hC2.cell 2
    have d3 := hC2.cell 3
    have d4 := hC2.cell 4
    go_wp2_with fail
    refine (claimErr_c hxp x.bend _ c _).mono ?_
    rintro e w3 ⟨rfl, hB3⟩
    have hX3 := hX2.call hB3
    have hC3 := hC2.call hB3
    have hR3 := hR2.call hB3
    have h3 := h2.call hB3
    have hBw3 := bnx hBw2 hB3
    have FINE := Lib.hid (FINE0.out w3 hR3 hBw3)
    clear c0 c1' c2 d0 d1 d2 d3 d4 hX2 hC2 hR2 h2 hBw2 hB3 hb
    have r0 := hR3.cell 0
    have r1 := hR3.cell 1
    have r2 := hR3.cell 2
    have fr0 := hR3.free 0
    have fr1 := hR3.free 1
    have fr2 := hR3.free 2
    have c2 := hX3.cell 2
    by_cases hce : claimE x.points c = 0
    · have hok := claimE_zero.1 hce
      have hb : (claimE x.points c != 0) = false := by rw [hce]; rfl
      have hfo : addX x c = if 7 ≤ x.claims.length then (noE, 6) else if hasT (x.add c) = false then (noE, 12) else (x.add c, 0) := by
        unfold addX; rw [if_neg (not_not_intro (by rw [HAS.out]; exact hce))]
      have HFO := Lib.hid hfo
      clear hfo hce
      by_cases hm7 : 7 ≤ x.claims.length
      · have hd7 : decide (7 ≤ x.claims.length) = true := decide_eq_true hm7
        have he : addX x c = (noE, 6) := by rw [HFO.out, if_pos hm7]
        have HE := Lib.hid he
        clear he
        go_wp2_with fail
        refine FINE.out _ _ HE.out ?_ ?_ ?_ <;> rfl
      · have hm6 : x.claims.length ≤ 6 := by omega
        have hfo : addX x c = if hasT (x.add c) = false then (noE, 12) else (x.add c, 0) := by rw [HFO.out, if_neg hm7]
        have HFO2 := Lib.hid hfo
        have hyok : (x.add c).Ok := by
          refine ⟨hx.p, hx.b, by unfold Edg.add; simp only [List.length_append, List.length_singleton]; omega, fun d hd => ?_⟩
          unfold Edg.add at hd ⊢
          simp only [List.mem_append, List.mem_singleton] at hd
          rcases hd with hd | rfl
          · exact hx.c d hd
          · exact hok
        clear hfo hm7
        have hbl3 := hR3.lt
        have fin9 : ∀ (wn : World) (a7 : Option Addr) (c7 : Nat), Below w3.heap.size w3 wn → Own w3.heap.size wn 27 5 (.slice a7 (x.claims.length + 1) c7) (x.claims.length + 1) (x.claims.flatMap ccells ++ ccells c) →
            ∃ (ay : Option Addr) (cy : Nat), Blk b1 #[.int .i64 x.points, .int .i64 x.bend, .slice ay (x.claims.length + 1) cy] 24 (wn.setCell ⟨b1, 2, none⟩ (.slice a7 (x.claims.length + 1) c7)) ∧ ClsM (fun q => w3.heap.size ≤ q) (wn.setCell ⟨b1, 2, none⟩ (.slice a7 (x.claims.length + 1) c7)) (.slice ay (x.claims.length + 1) cy) (x.add c).claims ∧ Blk (b1 + 2) #[.int .i64 0, .int .i64 0, .slice none 0 0] 24 (wn.setCell ⟨b1, 2, none⟩ (.slice a7 (x.claims.length + 1) c7)) ∧ Below w.heap.size w (wn.setCell ⟨b1, 2, none⟩ (.slice a7 (x.claims.length + 1) c7)) := by
          intro wn a7 c7 hBn hO
          have e : (x.add c).claims.length = x.claims.length + 1 := by unfold Edg.add; simp
          refine ⟨a7, c7, (hX3.call hBn).set 2 _, ?_, (hR3.call hBn).other (a := ⟨b1, 2, none⟩) (by show b1 + 2 ≠ b1; omega) _, (bnx hBw3 hBn).setCell (p := ⟨b1, 2, none⟩) hbw _⟩
          rw [← e]
          refine Own.cls ?_
          rw [e]
          unfold Edg.add
          rw [cls_snoc]
          exact hO.step fun q hq hl _ => Below.heap_setCell _ _ _ _ (show q ≠ b1 by omega)
        have FIN9a := Lib.hid fin9
        clear fin9
        go_upto_region 9 with fail
        clear r0 r1 r2 fr0 fr1 fr2
        go_cut [] from 10 (fun wx => ∃ (ay : Option Addr) (cy : Nat), Blk b1 #[.int .i64 x.points, .int .i64 x.bend, .slice ay (x.claims.length + 1) cy] 24 wx ∧ ClsM (fun q => w3.heap.size ≤ q) wx (.slice ay (x.claims.length + 1) cy) (x.add c).claims ∧ Blk (b1 + 2) #[.int .i64 0, .int .i64 0, .slice none 0 0] 24 wx ∧ Below w.heap.size w wx)
        case first =>
          clear c2
          refine wp_region_mix2 (.pur 0 (.one 1 (.one 3 (.two 2 (.act 4 (.act 5 (.pur 6 (.act 7 .fin)))) 4 (.act 2 (.act 5 (.pur 6 (.act 7 .fin)))))))) 5 (AdS b1 x.points x.bend (.slice a1 x.claims.length c1) c) (fun _ => True) (by kernel_rfl) (by kernel_rfl) rfl (by kernel_rfl) ⟨hX3.qt ((Qt.refl _).drewN 1), hC3.qt ((Qt.refl _).drewN 1)⟩ (fun wd hqd _ => ?_)
          have hSd : (AdS b1 x.points x.bend (.slice a1 x.claims.length c1) c) wd := ⟨hX3.qt hqd, hC3.qt hqd⟩
          have hCd := h3.qt hqd
          have hBwd : Below wd.heap.size wd wd := Below.refl _ _
          have hB3d : Below w3.heap.size w3 wd := hqd.below _
          refine mix_pur2 rfl (fun K hK => ?_)
          go_simp
          first | refine ⟨_, fun _ => rfl, hK _ ?_⟩ | refine hK _ ?_
          clear hK K
          refine mix_load2 rfl rfl rfl (.slice a1 x.claims.length c1) (fun w' h => by have h : (AdS b1 x.points x.bend (.slice a1 x.claims.length c1) c) w' := h; have h2 := h.1.cell 2; go_simp) rfl ?_
          refine mix_load2 rfl rfl rfl (.agg #[.int .i64 c.kind, .int .i64 c.point, .int .i64 c.other, .int .i64 c.off, .int .i64 c.err]) (fun w' h => by have h : (AdS b1 x.points x.bend (.slice a1 x.claims.length c1) c) w' := h; have e0 := h.2.cell 0; have e1 := h.2.cell 1; have e2 := h.2.cell 2; have e3 := h.2.cell 3; have e4 := h.2.cell 4; go_simp) rfl ?_
          refine mix_two2 rfl rfl false false rfl rfl (fun K hK => ?_) (fun K hK => ?_)
          · go_simp
            refine (clone_c (hCd.call hBwd) (by omega)).mono ?_
            rintro e wa1 ⟨vk, rfl, hOk, hBk⟩
            obtain ⟨ak, ck, rfl⟩ := own_slice hOk
            have hOk := own_from hOk (show wd.heap.size ≤ wd.heap.size from hBwd.size)
            have hBwa1 : Below wd.heap.size wd wa1 := bnx hBwd hBk
            refine hK _ _ (hSd.call hBwa1) ?_
            clear hK K
            refine mix_eff2 rfl false rfl (fun K hK => ?_)
            go_simp
            have hL : Blk wa1.heap.size #[.int .i64 c.kind, .int .i64 c.point, .int .i64 c.other, .int .i64 c.off, .int .i64 c.err] 27 (wa1.alloc (.cells #[.int .i64 c.kind, .int .i64 c.point, .int .i64 c.other, .int .i64 c.off, .int .i64 c.err] 27)) := Blk.new _ _ _
            have hBl := (Below.refl wa1.heap.size wa1).alloc (Nat.le_refl _) (.cells #[.int .i64 c.kind, .int .i64 c.point, .int .i64 c.other, .int .i64 c.off, .int .i64 c.err] 27)
            have hne : ∀ q, (Value.slice ak x.claims.length ck).ownBlock = some q → q ≠ wa1.heap.size := fun q e => by have := (World.ownsRow.lt hOk q e).2; omega
            have hOk := hOk.call hBl
            have hBwa2 : Below wd.heap.size wd (wa1.alloc (.cells #[.int .i64 c.kind, .int .i64 c.point, .int .i64 c.other, .int .i64 c.off, .int .i64 c.err] 27)) := bnx hBwa1 hBl
            refine hK _ _ (hSd.call hBwa2) ?_
            clear hK K hBl
            obtain ⟨bl, hbl⟩ : ∃ b, b = wa1.heap.size := ⟨_, rfl⟩
            rw [← hbl] at hL hne ⊢
            generalize wa1.alloc (.cells #[.int .i64 c.kind, .int .i64 c.point, .int .i64 c.other, .int .i64 c.off, .int .i64 c.err] 27) = wa2 at hL hBwa2 hOk ⊢
            clear hbl
            refine mix_eff2 rfl true rfl (fun K hK => ?_)
            have hlL := hL.lt
            refine step_append_arr rfl _ _ 22 rfl 27 _ 5 40 Tryd.underlying22 Tryd.info27 rfl (by decide) (by decide) (by have := hBwa2.size; omega) hOk rfl (blk_arr hL 1 (by omega)) rfl rfl (ccells_one c) (by omega) ?_
            intro v7 wa3 hO7 hT7
            obtain ⟨a7, c7, rfl⟩ := own_slice hO7
            have hBwa3 := hT7.below2 (B' := wd.heap.size) hOk hBwa2 hBwa2.size (Nat.le_refl _)
            have hX7 := hSd.1.call hBwa3
            have x2 := hX7.cell 2
            have f2 := hX7.free 2
            refine hK _ _ trivial ?_
            clear hK K
            refine mix_pur2 rfl (fun K hK => ?_)
            go_simp
            first | refine ⟨_, fun _ => rfl, hK _ ?_⟩ | refine hK _ ?_
            clear hK K
            refine mix_eff2 rfl true rfl (fun K hK => ?_)
            go_simp
            refine hK _ _ trivial ?_
            clear hK K
            refine mix_done2 ?_
            go_wp2_with fail
            go_meet
            case rel => exact FIN9a.out wa3 a7 c7 (hB3d.trans (hBwa3.mono hB3d.size)) (own_from hO7 hB3d.size)
          · go_simp
            have hL : Blk wd.heap.size #[.int .i64 c.kind, .int .i64 c.point, .int .i64 c.other, .int .i64 c.off, .int .i64 c.err] 27 (wd.alloc (.cells #[.int .i64 c.kind, .int .i64 c.point, .int .i64 c.other, .int .i64 c.off, .int .i64 c.err] 27)) := Blk.new _ _ _
            have hBl := (Below.refl wd.heap.size wd).alloc (Nat.le_refl _) (.cells #[.int .i64 c.kind, .int .i64 c.point, .int .i64 c.other, .int .i64 c.off, .int .i64 c.err] 27)
            have hBwa1 : Below wd.heap.size wd (wd.alloc (.cells #[.int .i64 c.kind, .int .i64 c.point, .int .i64 c.other, .int .i64 c.off, .int .i64 c.err] 27)) := bnx hBwd hBl
            refine hK _ _ (hSd.call hBwa1) ?_
            clear hK K hBl
            obtain ⟨bl, hbl⟩ : ∃ b, b = wd.heap.size := ⟨_, rfl⟩
            rw [← hbl] at hL ⊢
            generalize wd.alloc (.cells #[.int .i64 c.kind, .int .i64 c.point, .int .i64 c.other, .int .i64 c.off, .int .i64 c.err] 27) = wa1 at hL hBwa1 ⊢
            clear hbl
            refine mix_eff2 rfl false rfl (fun K hK => ?_)
            go_simp
            refine (clone_c (hCd.call hBwa1) (by omega)).mono ?_
            rintro e wa2 ⟨vk, rfl, hOk, hBk⟩
            obtain ⟨ak, ck, rfl⟩ := own_slice hOk
            have hlL0 := hL.lt
            have hne : ∀ q, (Value.slice ak x.claims.length ck).ownBlock = some q → q ≠ bl := fun q e => by have := (World.ownsRow.lt hOk q e).1; omega
            have hL := hL.call hBk
            have hOk := own_from hOk (show wd.heap.size ≤ wa1.heap.size from hBwa1.size)
            have hBwa2 : Below wd.heap.size wd wa2 := bnx hBwa1 hBk
            refine hK _ _ (hSd.call hBwa2) ?_
            clear hK K
            refine mix_eff2 rfl true rfl (fun K hK => ?_)
            have hlL := hL.lt
            refine step_append_arr rfl _ _ 22 rfl 27 _ 5 40 Tryd.underlying22 Tryd.info27 rfl (by decide) (by decide) (by have := hBwa2.size; omega) hOk rfl (blk_arr hL 1 (by omega)) rfl rfl (ccells_one c) (by omega) ?_
            intro v7 wa3 hO7 hT7
            obtain ⟨a7, c7, rfl⟩ := own_slice hO7
            have hBwa3 := hT7.below2 (B' := wd.heap.size) hOk hBwa2 hBwa2.size (Nat.le_refl _)
            have hX7 := hSd.1.call hBwa3
            have x2 := hX7.cell 2
            have f2 := hX7.free 2
            refine hK _ _ trivial ?_
            clear hK K
            refine mix_pur2 rfl (fun K hK => ?_)
            go_simp
            first | refine ⟨_, fun _ => rfl, hK _ ?_⟩ | refine hK _ ?_
            clear hK K
            refine mix_eff2 rfl true rfl (fun K hK => ?_)
            go_simp
            refine hK _ _ trivial ?_
            clear hK K
            refine mix_done2 ?_
            go_wp2_with fail
            go_meet
            case rel => exact FIN9a.out wa3 a7 c7 (hB3d.trans (hBwa3.mono hB3d.size)) (own_from hO7 hB3d.size)
        case rest =>
          obtain ⟨ay, cy, hY4, hCy, hR4, hBw4⟩ := hcut
          rename World => w4
          clear c2 hX3 hC3 hR3
          have c0 := hY4.cell 0
          have c1' := hY4.cell 1
          have c2 := hY4.cell 2
          have hbo := bound_c (x := x.add c) hCy hyok
          rw [show (x.add c).points = x.points from rfl, show (x.add c).bend = x.bend from rfl] at hbo
          have HBO := Lib.hid hbo
          clear hbo
          go_wp2_with fail
          refine HBO.out.mono ?_
          rintro e w5 ⟨vb, rfl, hB5⟩
          have hY5 := hY4.call hB5
          have hCy5 := hCy.call hB5
          have hR5 := hR4.call hB5
          have hBw5 := bnx hBw4 hB5
          clear c0 c1' c2 hY4 hCy hR4 hBw4 hB5
          have r0 := hR5.cell 0
          have r1 := hR5.cell 1
          have r2 := hR5.cell 2
          have fr0 := hR5.free 0
          have fr1 := hR5.free 1
          have fr2 := hR5.free 2
          cases hh : hasT (x.add c) with
          | false =>
            have he : addX x c = (noE, 12) := by rw [HFO2.out, if_pos hh]
            have HE := Lib.hid he
            have FINF := Lib.hid (FINE0.out w5 hR5 hBw5)
            clear he
            go_wp2_with fail
            refine FINF.out _ _ HE.out ?_ ?_ ?_ <;> rfl
          | true =>
            have he : addX x c = (x.add c, 0) := by rw [HFO2.out, if_neg (by rw [hh]; decide)]
            have HE := Lib.hid he
            clear he
            have c0 := hY5.cell 0
            have c1' := hY5.cell 1
            have c2 := hY5.cell 2
            have hlR := hR5.lt
            have hzw := hBw3.size
            go_wp2_with fail
            have hR6 := hR5.set3 (x' := .int .i64 x.points) (y' := .int .i64 x.bend) (z' := .slice ay (x.claims.length + 1) cy)
            have hB6 := ((hBw5.setCell (p := ⟨b1 + 2, 0, none⟩) (by show w.heap.size ≤ b1 + 2; omega) (.int .i64 x.points)).setCell (p := ⟨b1 + 2, 1, none⟩) (by show w.heap.size ≤ b1 + 2; omega) (.int .i64 x.bend)).setCell (p := ⟨b1 + 2, 2, none⟩) (by show w.heap.size ≤ b1 + 2; omega) (.slice ay (x.claims.length + 1) cy)
            have hC6 : ClsM (fun q => w3.heap.size ≤ q) (((w5.setCell ⟨b1 + 2, 0, none⟩ (.int .i64 x.points)).setCell ⟨b1 + 2, 1, none⟩ (.int .i64 x.bend)).setCell ⟨b1 + 2, 2, none⟩ (.slice ay (x.claims.length + 1) cy)) (.slice ay (x.claims.length + 1) cy) (x.add c).claims :=
              hCy5.step (by simp [World.setCell]) fun q hq _ => (Below.heap_setCell _ _ _ _ (show q ≠ b1 + 2 by omega)).trans ((Below.heap_setCell _ _ _ _ (show q ≠ b1 + 2 by omega)).trans (Below.heap_setCell _ _ _ _ (show q ≠ b1 + 2 by omega)))
            generalize ((w5.setCell ⟨b1 + 2, 0, none⟩ (.int .i64 x.points)).setCell ⟨b1 + 2, 1, none⟩ (.int .i64 x.bend)).setCell ⟨b1 + 2, 2, none⟩ (.slice ay (x.claims.length + 1) cy) = wf at hR6 hB6 hC6 ⊢
            have y0 := hR6.cell 0
            have y1 := hR6.cell 1
            have y2 := hR6.cell 2
            rw [HE.out]
            exact bodyPost_ret (v := .tuple #[.agg #[.int .i64 x.points, .int .i64 x.bend, .slice ay (x.claims.length + 1) cy], .int .i64 0]) (by simp [results, Tryd.results11, go_sem, y0, y1, y2]) rfl ⟨_, rfl, hC6.wide fun q hq _ => by omega, hB6⟩
    · have hb : (claimE x.points c != 0) = true := by simpa using hce
      have he : addX x c = (noE, claimE x.points c) := by unfold addX; rw [HAS.out, if_pos hce]
      have HE := Lib.hid he
      clear he hce
      go_wp2_with fail
      refine FINE.out _ _ HE.out ?_ ?_ ?_ <;> rfl
  · have hb : (checkX x != 0) = true := by simpa using hck
    have he : addX x c = (noE, checkX x) := by unfold addX askedX; rw [if_pos hck, if_pos hck]
    have HE := Lib.hid he
    have FINE := Lib.hid (FINE0.out w2 hR2 hBw2)
    clear he hck
    have r0 := hR2.cell 0
    have r1 := hR2.cell 1
    have r2 := hR2.cell 2
    have fr0 := hR2.free 0
    have fr1 := hR2.free 1
    have fr2 := hR2.free 2
    go_wp2_with fail
    refine FINE.out _ _ HE.out ?_ ?_ ?_ <;> rfl

end Go.Proofs.YtgljiabmfcobiaaDoor
