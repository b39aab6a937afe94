/- The walk of LotsDraws: it hands back true, whatever the arguments; conditions: they read as commons, lists and a number. -/
import Derived.Test.YthchpoabncdicaaYR1
import Derived.Test.YthchpoabncdicaaPre1
import Derived.Test.YthchpoabncdicaaShort
import Derived.Test.YthchpoabncdicaaLTrades
namespace Go.Proofs.Ythchpoabncdicaa
open Go.RowKit

/-- What a round over the commons, the orders and the years reads. -/
def DrS (b1 o1 : Nat) (vm vv : Value) (b2 o2 : Nat) (vd : Value) (b3 : Nat) (y : Int) (w : World) : Prop := w.cell? ⟨b1, o1, none⟩ = some vm ∧ w.cell? ⟨b1, o1 + 1, none⟩ = some vv ∧ w.cell? ⟨b2, o2, none⟩ = some vd ∧ w.cell? ⟨b3, o2, none⟩ = some (.int .i64 y)
theorem DrS.drew {b1 o1 : Nat} {vm vv : Value} {b2 o2 : Nat} {vd : Value} {b3 : Nat} {y : Int} {w : World} (h : DrS b1 o1 vm vv b2 o2 vd b3 y w) : DrS b1 o1 vm vv b2 o2 vd b3 y w.drew := h
def DrX (b1 o1 : Nat) (vm vv : Value) (b2 o2 : Nat) (vd : Value) (b3 : Nat) (y : Int) (X : Nat) (mx vx : Value) (w : World) : Prop := DrS b1 o1 vm vv b2 o2 vd b3 y w ∧ Blk X #[mx, vx] 25 w
theorem DrX.drew {b1 o1 : Nat} {vm vv : Value} {b2 o2 : Nat} {vd : Value} {b3 : Nat} {y : Int} {X : Nat} {mx vx : Value} {w : World} (h : DrX b1 o1 vm vv b2 o2 vd b3 y X mx vx w) : DrX b1 o1 vm vv b2 o2 vd b3 y X mx vx w.drew := h

set_option maxRecDepth 100000 in
set_option maxHeartbeats 8000000 in
theorem lotsDraws_c {A A1 A2 : Nat → Prop} {w : World} {vm vv vd vn : Value} {c : Com} {dv nums : List Int} (hc : Cm A w vm vv c) (hd : Ints A1 w vd dv) (ys : Int) (_hy : -9223372036854775808 ≤ ys ∧ ys ≤ 9223372036854775807) (hn : Ints A2 w vn nums) :
    Calls Try.prog 15 #[.agg #[vm, vv], vd, .int .i64 ys, vn] w fun e w' => e = .returned (.bool true) ∧ Below w.heap.size w w' := by
  obtain ⟨am, cpm, rfl, _, _⟩ := hc.1.shape
  obtain ⟨av, cpv, rfl, _, _⟩ := hc.2.shape
  obtain ⟨ad, cpd, rfl, _, _⟩ := hd.shape
  have ndl := hd.len
  have hB0 : Below w.heap.size w (w.alloc (.cells #[.slice am c.mountains.length cpm, .slice av c.villages.length cpv] 25)) := (Below.refl _ w).alloc (Nat.le_refl _) _
  have hbx : Blk w.heap.size #[.slice am c.mountains.length cpm, .slice av c.villages.length cpv] 25 (w.alloc (.cells #[.slice am c.mountains.length cpm, .slice av c.villages.length cpv] 25)) := Blk.new w _ _
  have hc0 := hc.call hB0
  have hd0 := hd.call hB0
  have hn0 := hn.call hB0
  go_enter Try.func15, Try.ntmps15
  go_wp2_with fail
  refine (short_c hc0).mono ?_
  rintro e w1 ⟨b, rfl, hb, hB1⟩
  have hc1 := hc0.call hB1
  have hd1 := hd0.call hB1
  have hn1 := hn0.call hB1
  have hbx1 := hbx.call hB1
  have hT1 := bnx hB0 hB1
  clear hc0 hd0 hn0 hbx hB0 hB1
  cases b with
  | false =>
    clear hb
    go_wp2_with (go_at_call 21; refine (drawn_c _).mono ?_; rintro e wz ⟨rfl, hBz⟩)
    go_ret
    exact ⟨rfl, bnx hT1 hBz⟩
  | true =>
    have hsh := hb rfl
    clear hb
    by_cases hdl : dv.length ≤ 20
    · have b1 : decide ((dv.length : Int) > 20) = false := decide_eq_false (by omega)
      go_wp2_with fail
      clear b1
      refine (newHand_c hn1).mono ?_
      rintro e w2 ⟨rfl, hH, hB2⟩
      have hs2 := hH.lt
      have hl1 := hbx1.lt
      clear hn1
      go_wp2_with fail
      refine (commonsOf_c hH (by omega) 4 (by omega) (by omega)).mono ?_
      rintro e w3 ⟨vmm, vmv, rfl, ⟨md, hM, hok⟩, ⟨k2, hk2, hH⟩, hG⟩
      have hs3 := hG.size
      have hT3 : Below w1.heap.size w1 w3 := hB2.grown hG (by omega) (fun k e => by injection e with e; omega)
      clear hG hB2
      obtain ⟨mm, mmc, rfl, _, _⟩ := hM.1.shape
      obtain ⟨mv, mvc, rfl, _, _⟩ := hM.2.shape
      have hml4 : md.mountains.length ≤ 4 := hok.n2
      have hml1 : 1 ≤ md.mountains.length := hok.n1
      have hH := hH.call ((Below.refl w3.heap.size w3).alloc (Nat.le_refl _) (.cells #[.slice mm md.mountains.length mmc, .slice mv md.villages.length mvc] 25))
      have hbm : Blk w3.heap.size #[.slice mm md.mountains.length mmc, .slice mv md.villages.length mvc] 25 (w3.alloc (.cells #[.slice mm md.mountains.length mmc, .slice mv md.villages.length mvc] 25)) := Blk.new w3 _ _
      have hM := hM.alloc (.cells #[.slice mm md.mountains.length mmc, .slice mv md.villages.length mvc] 25)
      have hT := hT3.alloc (by omega) (.cells #[.slice mm md.mountains.length mmc, .slice mv md.villages.length mvc] 25)
      have hbx4 : Blk w.heap.size #[.slice am c.mountains.length cpm, .slice av c.villages.length cpv] 25 (w3.alloc (.cells #[.slice mm md.mountains.length mmc, .slice mv md.villages.length mvc] 25)) := hbx1.keep (hT.block _ hl1)
      have hvl4 : md.villages.length ≤ 4 := by have := hok.vl; omega
      have hP : Pre w1 w1.heap.size w2.heap.size w.heap.size w3.heap.size #[.slice am c.mountains.length cpm, .slice av c.villages.length cpv] #[.slice mm md.mountains.length mmc, .slice mv md.villages.length mvc] (.slice mm md.mountains.length mmc) (.slice mv md.villages.length mvc) md 100 (w3.alloc (.cells #[.slice mm md.mountains.length mmc, .slice mv md.villages.length mvc] 25)) := ⟨⟨k2, by omega, hH⟩, Nat.le_refl _, hs2, hs3, hbx4, hl1, hbm, hM, hT⟩
      go_upto_region 5 with fail
      obtain ⟨hb, hhb⟩ : ∃ hb, hb = w1.heap.size := ⟨_, rfl⟩
      obtain ⟨B, hBB⟩ : ∃ B, B = w2.heap.size := ⟨_, rfl⟩
      obtain ⟨bM, hbM⟩ : ∃ bM, bM = w3.heap.size := ⟨_, rfl⟩
      rw [← hbM, ← hBB] at hP
      have hP : Pre w1 hb B w.heap.size bM #[.slice am c.mountains.length cpm, .slice av c.villages.length cpv] #[.slice mm md.mountains.length mmc, .slice mv md.villages.length mvc] (.slice mm md.mountains.length mmc) (.slice mv md.villages.length mvc) md 100 (w3.alloc (.cells #[.slice mm md.mountains.length mmc, .slice mv md.villages.length mvc] 25)) := by rw [hhb]; exact hP
      rw [← hbM, ← hhb]
      have HHB := Lib.hid hhb
      generalize w3.alloc (.cells #[.slice mm md.mountains.length mmc, .slice mv md.villages.length mvc] 25) = w4 at *
      have hc4 := hc1.call hT
      have hd4 := hd1.call hT
      clear hH hbm hM hT hbx4 hbM hBB hT3 hbx1 hs2 hs3 hl1 hhb
      go_cut [11, 12, 13] (fun s11 s12 s13 wx => ∃ (bc bo by2 : Nat) (own : List Int) (ao : Option Addr) (co : Nat) (u : Int), s11 = .slice (some ⟨bc, 0, none⟩) 3 3 ∧ s12 = .slice (some ⟨bo, 0, none⟩) 3 3 ∧ s13 = .slice (some ⟨by2, 0, none⟩) 3 3 ∧ Blk bc #[.slice am c.mountains.length cpm, .slice av c.villages.length cpv, .slice mm md.mountains.length mmc, .slice mv md.villages.length mvc, .slice mm md.mountains.length mmc, .slice mv md.villages.length mvc] 25 wx ∧ Blk bo #[.slice ad dv.length cpd, .slice ao own.length co, .slice ad dv.length cpd] 22 wx ∧ Blk by2 #[.int .i64 ys, .int .i64 u, .int .i64 ys] 3 wx ∧ Ints (fun _ => True) wx (.slice ao own.length co) own ∧ own.length ≤ 4 ∧ 1 ≤ u ∧ u ≤ 8 ∧ Pre w1 hb B w.heap.size bM #[.slice am c.mountains.length cpm, .slice av c.villages.length cpv] #[.slice mm md.mountains.length mmc, .slice mv md.villages.length mvc] (.slice mm md.mountains.length mmc) (.slice mv md.villages.length mvc) md 300 wx)
      case first =>
        refine wp_region_mix2 (.one 0 (.one 1 (.one 2 (.pur 4 (.pur 5 (.pur 6 (.one 7 (.pur 8 (.pur 10 (.pur 12 (.pur 13 (.pur 15 (.two 3 (.act 9 (.two 11 (.act 14 (.pur 17 (.pur 18 (.act 16 (.pur 19 .fin))))) 14 (.pur 17 (.two 11 (.pur 18 (.act 16 (.pur 19 .fin))) 16 (.act 11 (.pur 18 (.pur 19 .fin))))))) 9 (.three 3 (.two 11 (.act 14 (.pur 17 (.pur 18 (.act 16 (.pur 19 .fin))))) 14 (.pur 17 (.two 11 (.pur 18 (.act 16 (.pur 19 .fin))) 16 (.act 11 (.pur 18 (.pur 19 .fin)))))) 11 (.two 3 (.act 14 (.pur 17 (.pur 18 (.act 16 (.pur 19 .fin))))) 14 (.two 3 (.pur 17 (.pur 18 (.act 16 (.pur 19 .fin)))) 16 (.act 3 (.pur 17 (.pur 18 (.pur 19 .fin)))))) 14 (.three 3 (.pur 17 (.two 11 (.pur 18 (.act 16 (.pur 19 .fin))) 16 (.act 11 (.pur 18 (.pur 19 .fin))))) 11 (.two 3 (.pur 17 (.pur 18 (.act 16 (.pur 19 .fin)))) 16 (.act 3 (.pur 17 (.pur 18 (.pur 19 .fin))))) 16 (.two 3 (.pur 17 (.act 11 (.pur 18 (.pur 19 .fin)))) 11 (.act 3 (.pur 17 (.pur 18 (.pur 19 .fin)))))))))))))))))))) 99 (Pre w1 hb B w.heap.size bM #[.slice am c.mountains.length cpm, .slice av c.villages.length cpv] #[.slice mm md.mountains.length mmc, .slice mv md.villages.length mvc] (.slice mm md.mountains.length mmc) (.slice mv md.villages.length mvc) md 300) (fun _ => True) (by kernel_rfl) (by kernel_rfl) rfl (by kernel_rfl) (hP.mono (by omega)).drew (fun wd hqd _ => ?_)
        have hP := hP.qt hqd
        clear hqd
        refine mix_load2 rfl rfl rfl (.agg #[.slice am c.mountains.length cpm, .slice av c.villages.length cpv]) (fun w' h => by have h : (Pre w1 hb B w.heap.size bM #[.slice am c.mountains.length cpm, .slice av c.villages.length cpv] #[.slice mm md.mountains.length mmc, .slice mv md.villages.length mvc] (.slice mm md.mountains.length mmc) (.slice mv md.villages.length mvc) md 300) w' := h; have h0 := h.bx.cell 0; have h1 := h.bx.cell 1; go_simp) rfl ?_
        refine mix_load2 rfl rfl rfl (.agg #[.slice mm md.mountains.length mmc, .slice mv md.villages.length mvc]) (fun w' h => by have h : (Pre w1 hb B w.heap.size bM #[.slice am c.mountains.length cpm, .slice av c.villages.length cpv] #[.slice mm md.mountains.length mmc, .slice mv md.villages.length mvc] (.slice mm md.mountains.length mmc) (.slice mv md.villages.length mvc) md 300) w' := h; have h0 := h.bm.cell 0; have h1 := h.bm.cell 1; go_simp) rfl ?_
        refine mix_load2 rfl rfl rfl (.agg #[.slice mm md.mountains.length mmc, .slice mv md.villages.length mvc]) (fun w' h => by have h : (Pre w1 hb B w.heap.size bM #[.slice am c.mountains.length cpm, .slice av c.villages.length cpv] #[.slice mm md.mountains.length mmc, .slice mv md.villages.length mvc] (.slice mm md.mountains.length mmc) (.slice mv md.villages.length mvc) md 300) w' := h; have h0 := h.bm.cell 0; have h1 := h.bm.cell 1; go_simp) rfl ?_
        refine mix_pur2 rfl (fun K hK => ?_)
        go_simp
        first | refine ⟨_, fun _ => rfl, hK _ ?_⟩ | refine hK _ ?_
        clear hK K
        refine mix_pur2 rfl (fun K hK => ?_)
        go_simp
        first | refine ⟨_, fun _ => rfl, hK _ ?_⟩ | refine hK _ ?_
        clear hK K
        refine mix_pur2 rfl (fun K hK => ?_)
        go_simp
        first | refine ⟨_, fun _ => rfl, hK _ ?_⟩ | refine hK _ ?_
        clear hK K
        refine mix_load2 rfl rfl rfl (.slice mv md.villages.length mvc) (fun w' h => by have h : (Pre w1 hb B w.heap.size bM #[.slice am c.mountains.length cpm, .slice av c.villages.length cpv] #[.slice mm md.mountains.length mmc, .slice mv md.villages.length mvc] (.slice mm md.mountains.length mmc) (.slice mv md.villages.length mvc) md 300) w' := h; have h1 := h.bm.cell 1; go_simp) rfl ?_
        refine mix_pur2 rfl (fun K hK => ?_)
        go_simp
        first | refine ⟨_, fun _ => rfl, hK _ ?_⟩ | refine hK _ ?_
        clear hK K
        refine mix_pur2 rfl (fun K hK => ?_)
        go_simp
        first | refine ⟨_, fun _ => rfl, hK _ ?_⟩ | refine hK _ ?_
        clear hK K
        refine mix_pur2 rfl (fun K hK => ?_)
        go_simp
        first | refine ⟨_, fun _ => rfl, hK _ ?_⟩ | refine hK _ ?_
        clear hK K
        refine mix_pur2 rfl (fun K hK => ?_)
        go_simp
        first | refine ⟨_, fun _ => rfl, hK _ ?_⟩ | refine hK _ ?_
        clear hK K
        refine mix_pur2 rfl (fun K hK => ?_)
        go_simp
        first | refine ⟨_, fun _ => rfl, hK _ ?_⟩ | refine hK _ ?_
        clear hK K
        refine mix_two2 rfl rfl false false rfl rfl (fun K hK => ?_) (fun K hK => ?_)
        · go_simp
          have hBc : Blk wd.heap.size #[.slice am c.mountains.length cpm, .slice av c.villages.length cpv, .slice mm md.mountains.length mmc, .slice mv md.villages.length mvc, .slice mm md.mountains.length mmc, .slice mv md.villages.length mvc] 25 (wd.alloc (.cells #[.slice am c.mountains.length cpm, .slice av c.villages.length cpv, .slice mm md.mountains.length mmc, .slice mv md.villages.length mvc, .slice mm md.mountains.length mmc, .slice mv md.villages.length mvc] 25)) := Blk.new wd _ _
          have hBcl : hb < wd.heap.size := hP.hlt
          have hBn := (Below.refl wd.heap.size wd).alloc (Nat.le_refl _) (.cells #[.slice am c.mountains.length cpm, .slice av c.villages.length cpv, .slice mm md.mountains.length mmc, .slice mv md.villages.length mvc, .slice mm md.mountains.length mmc, .slice mv md.villages.length mvc] 25)
          have hP := hP.call hBn
          refine hK _ _ (hP.mono (by omega)) ?_
          clear hK K hBn
          obtain ⟨bc, hbc⟩ : ∃ b, b = wd.heap.size := ⟨_, rfl⟩
          rw [← hbc] at hBc hBcl ⊢
          generalize wd.alloc (.cells #[.slice am c.mountains.length cpm, .slice av c.villages.length cpv, .slice mm md.mountains.length mmc, .slice mv md.villages.length mvc, .slice mm md.mountains.length mmc, .slice mv md.villages.length mvc] 25) = wa1 at *
          clear hbc
          refine mix_eff2 rfl false rfl (fun K hK => ?_)
          go_simp
          have hsc := hP.hlt
          refine (Pre.row hP md.villages.length (by omega) (by omega)).mono ?_
          rintro e wa2 ⟨⟨vo, rfl, own, ho, hpo⟩, hP, hG⟩
          have hBc := hBc.hand hG (by omega)
          have ho := ho.wide (A' := fun b => hb < b) (fun b hb _ => by omega)
          have hol := hpo.len
          have hol4 : own.length ≤ 4 := by omega
          clear hol hpo hsc
          obtain ⟨ao, co, rfl, _, _⟩ := ho.shape
          have hP := hP.mono (K' := 200) (by omega)
          refine hK _ _ (hP.mono (by omega)) ?_
          clear hK K hG
          refine mix_two2 rfl rfl false false rfl rfl (fun K hK => ?_) (fun K hK => ?_)
          · go_simp
            have hBo : Blk wa2.heap.size #[.slice ad dv.length cpd, .slice ao own.length co, .slice ad dv.length cpd] 22 (wa2.alloc (.cells #[.slice ad dv.length cpd, .slice ao own.length co, .slice ad dv.length cpd] 22)) := Blk.new wa2 _ _
            have hBol : hb < wa2.heap.size := hP.hlt
            have hBn := (Below.refl wa2.heap.size wa2).alloc (Nat.le_refl _) (.cells #[.slice ad dv.length cpd, .slice ao own.length co, .slice ad dv.length cpd] 22)
            have hP := hP.call hBn
            have hBc := hBc.call hBn
            have ho := ho.call hBn
            refine hK _ _ (hP.mono (by omega)) ?_
            clear hK K hBn
            obtain ⟨bo, hbo⟩ : ∃ b, b = wa2.heap.size := ⟨_, rfl⟩
            rw [← hbo] at hBo hBol ⊢
            generalize wa2.alloc (.cells #[.slice ad dv.length cpd, .slice ao own.length co, .slice ad dv.length cpd] 22) = wa3 at *
            clear hbo
            refine mix_eff2 rfl false rfl (fun K hK => ?_)
            go_simp
            refine (Pre.among hP 1 8 (by omega) (by omega) (by omega) (by omega) (by omega)).mono ?_
            rintro e wa4 ⟨⟨u, rfl, hu1, hu2⟩, hP, hG⟩
            have hBc := hBc.hand hG (by omega)
            have ho := ho.only hG (by omega)
            have hBo := hBo.hand hG (by omega)
            have hu8 : u ≤ 8 := by omega
            have hP := hP.mono (K' := 300) (by omega)
            refine hK _ _ hP ?_
            clear hK K hG hu2
            refine mix_pur2 rfl (fun K hK => ?_)
            go_simp
            first | refine ⟨_, fun _ => rfl, hK _ ?_⟩ | refine hK _ ?_
            clear hK K
            refine mix_pur2 rfl (fun K hK => ?_)
            go_simp
            first | refine ⟨_, fun _ => rfl, hK _ ?_⟩ | refine hK _ ?_
            clear hK K
            refine mix_eff2 rfl false rfl (fun K hK => ?_)
            go_simp
            have hBy : Blk wa4.heap.size #[.int .i64 ys, .int .i64 u, .int .i64 ys] 3 (wa4.alloc (.cells #[.int .i64 ys, .int .i64 u, .int .i64 ys] 3)) := Blk.new wa4 _ _
            have hByl : hb < wa4.heap.size := hP.hlt
            have hBn := (Below.refl wa4.heap.size wa4).alloc (Nat.le_refl _) (.cells #[.int .i64 ys, .int .i64 u, .int .i64 ys] 3)
            have hP := hP.call hBn
            have hBc := hBc.call hBn
            have ho := ho.call hBn
            have hBo := hBo.call hBn
            refine hK _ _ (hP.mono (by omega)) ?_
            clear hK K hBn
            obtain ⟨by2, hby2⟩ : ∃ b, b = wa4.heap.size := ⟨_, rfl⟩
            rw [← hby2] at hBy hByl ⊢
            generalize wa4.alloc (.cells #[.int .i64 ys, .int .i64 u, .int .i64 ys] 3) = wa5 at *
            clear hby2
            refine mix_pur2 rfl (fun K hK => ?_)
            go_simp
            first | refine ⟨_, fun _ => rfl, hK _ ?_⟩ | refine hK _ ?_
            clear hK K
            refine mix_done2 ?_
            go_wp2_with fail
            go_meet
            exact ⟨bc, bo, by2, own, ao, co, u, rfl, rfl, rfl, hBc, hBo, hBy, ho.wide (fun _ _ _ => trivial), hol4, hu1, hu8, hP⟩
          · go_simp
            refine (Pre.among hP 1 8 (by omega) (by omega) (by omega) (by omega) (by omega)).mono ?_
            rintro e wa3 ⟨⟨u, rfl, hu1, hu2⟩, hP, hG⟩
            have hBc := hBc.hand hG (by omega)
            have ho := ho.only hG (by omega)
            have hu8 : u ≤ 8 := by omega
            have hP := hP.mono (K' := 300) (by omega)
            refine hK _ _ hP ?_
            clear hK K hG hu2
            refine mix_pur2 rfl (fun K hK => ?_)
            go_simp
            first | refine ⟨_, fun _ => rfl, hK _ ?_⟩ | refine hK _ ?_
            clear hK K
            refine mix_two2 rfl rfl false false rfl rfl (fun K hK => ?_) (fun K hK => ?_)
            · go_simp
              have hBo : Blk wa3.heap.size #[.slice ad dv.length cpd, .slice ao own.length co, .slice ad dv.length cpd] 22 (wa3.alloc (.cells #[.slice ad dv.length cpd, .slice ao own.length co, .slice ad dv.length cpd] 22)) := Blk.new wa3 _ _
              have hBol : hb < wa3.heap.size := hP.hlt
              have hBn := (Below.refl wa3.heap.size wa3).alloc (Nat.le_refl _) (.cells #[.slice ad dv.length cpd, .slice ao own.length co, .slice ad dv.length cpd] 22)
              have hP := hP.call hBn
              have hBc := hBc.call hBn
              have ho := ho.call hBn
              refine hK _ _ (hP.mono (by omega)) ?_
              clear hK K hBn
              obtain ⟨bo, hbo⟩ : ∃ b, b = wa3.heap.size := ⟨_, rfl⟩
              rw [← hbo] at hBo hBol ⊢
              generalize wa3.alloc (.cells #[.slice ad dv.length cpd, .slice ao own.length co, .slice ad dv.length cpd] 22) = wa4 at *
              clear hbo
              refine mix_pur2 rfl (fun K hK => ?_)
              go_simp
              first | refine ⟨_, fun _ => rfl, hK _ ?_⟩ | refine hK _ ?_
              clear hK K
              refine mix_eff2 rfl false rfl (fun K hK => ?_)
              go_simp
              have hBy : Blk wa4.heap.size #[.int .i64 ys, .int .i64 u, .int .i64 ys] 3 (wa4.alloc (.cells #[.int .i64 ys, .int .i64 u, .int .i64 ys] 3)) := Blk.new wa4 _ _
              have hByl : hb < wa4.heap.size := hP.hlt
              have hBn := (Below.refl wa4.heap.size wa4).alloc (Nat.le_refl _) (.cells #[.int .i64 ys, .int .i64 u, .int .i64 ys] 3)
              have hP := hP.call hBn
              have hBc := hBc.call hBn
              have ho := ho.call hBn
              have hBo := hBo.call hBn
              refine hK _ _ (hP.mono (by omega)) ?_
              clear hK K hBn
              obtain ⟨by2, hby2⟩ : ∃ b, b = wa4.heap.size := ⟨_, rfl⟩
              rw [← hby2] at hBy hByl ⊢
              generalize wa4.alloc (.cells #[.int .i64 ys, .int .i64 u, .int .i64 ys] 3) = wa5 at *
              clear hby2
              refine mix_pur2 rfl (fun K hK => ?_)
              go_simp
              first | refine ⟨_, fun _ => rfl, hK _ ?_⟩ | refine hK _ ?_
              clear hK K
              refine mix_done2 ?_
              go_wp2_with fail
              go_meet
              exact ⟨bc, bo, by2, own, ao, co, u, rfl, rfl, rfl, hBc, hBo, hBy, ho.wide (fun _ _ _ => trivial), hol4, hu1, hu8, hP⟩
            · go_simp
              have hBy : Blk wa3.heap.size #[.int .i64 ys, .int .i64 u, .int .i64 ys] 3 (wa3.alloc (.cells #[.int .i64 ys, .int .i64 u, .int .i64 ys] 3)) := Blk.new wa3 _ _
              have hByl : hb < wa3.heap.size := hP.hlt
              have hBn := (Below.refl wa3.heap.size wa3).alloc (Nat.le_refl _) (.cells #[.int .i64 ys, .int .i64 u, .int .i64 ys] 3)
              have hP := hP.call hBn
              have hBc := hBc.call hBn
              have ho := ho.call hBn
              refine hK _ _ (hP.mono (by omega)) ?_
              clear hK K hBn
              obtain ⟨by2, hby2⟩ : ∃ b, b = wa3.heap.size := ⟨_, rfl⟩
              rw [← hby2] at hBy hByl ⊢
              generalize wa3.alloc (.cells #[.int .i64 ys, .int .i64 u, .int .i64 ys] 3) = wa4 at *
              clear hby2
              refine mix_eff2 rfl false rfl (fun K hK => ?_)
              go_simp
              have hBo : Blk wa4.heap.size #[.slice ad dv.length cpd, .slice ao own.length co, .slice ad dv.length cpd] 22 (wa4.alloc (.cells #[.slice ad dv.length cpd, .slice ao own.length co, .slice ad dv.length cpd] 22)) := Blk.new wa4 _ _
              have hBol : hb < wa4.heap.size := hP.hlt
              have hBn := (Below.refl wa4.heap.size wa4).alloc (Nat.le_refl _) (.cells #[.slice ad dv.length cpd, .slice ao own.length co, .slice ad dv.length cpd] 22)
              have hP := hP.call hBn
              have hBc := hBc.call hBn
              have ho := ho.call hBn
              have hBy := hBy.call hBn
              refine hK _ _ (hP.mono (by omega)) ?_
              clear hK K hBn
              obtain ⟨bo, hbo⟩ : ∃ b, b = wa4.heap.size := ⟨_, rfl⟩
              rw [← hbo] at hBo hBol ⊢
              generalize wa4.alloc (.cells #[.slice ad dv.length cpd, .slice ao own.length co, .slice ad dv.length cpd] 22) = wa5 at *
              clear hbo
              refine mix_pur2 rfl (fun K hK => ?_)
              go_simp
              first | refine ⟨_, fun _ => rfl, hK _ ?_⟩ | refine hK _ ?_
              clear hK K
              refine mix_pur2 rfl (fun K hK => ?_)
              go_simp
              first | refine ⟨_, fun _ => rfl, hK _ ?_⟩ | refine hK _ ?_
              clear hK K
              refine mix_done2 ?_
              go_wp2_with fail
              go_meet
              exact ⟨bc, bo, by2, own, ao, co, u, rfl, rfl, rfl, hBc, hBo, hBy, ho.wide (fun _ _ _ => trivial), hol4, hu1, hu8, hP⟩
        · go_simp
          have hsc := hP.hlt
          refine (Pre.row hP md.villages.length (by omega) (by omega)).mono ?_
          rintro e wa1 ⟨⟨vo, rfl, own, ho, hpo⟩, hP, hG⟩
          have ho := ho.wide (A' := fun b => hb < b) (fun b hb _ => by omega)
          have hol := hpo.len
          have hol4 : own.length ≤ 4 := by omega
          clear hol hpo hsc
          obtain ⟨ao, co, rfl, _, _⟩ := ho.shape
          have hP := hP.mono (K' := 200) (by omega)
          refine hK _ _ (hP.mono (by omega)) ?_
          clear hK K hG
          refine mix_three2 rfl rfl rfl false false false rfl rfl rfl (fun K hK => ?_) (fun K hK => ?_) (fun K hK => ?_)
          · go_simp
            have hBc : Blk wa1.heap.size #[.slice am c.mountains.length cpm, .slice av c.villages.length cpv, .slice mm md.mountains.length mmc, .slice mv md.villages.length mvc, .slice mm md.mountains.length mmc, .slice mv md.villages.length mvc] 25 (wa1.alloc (.cells #[.slice am c.mountains.length cpm, .slice av c.villages.length cpv, .slice mm md.mountains.length mmc, .slice mv md.villages.length mvc, .slice mm md.mountains.length mmc, .slice mv md.villages.length mvc] 25)) := Blk.new wa1 _ _
            have hBcl : hb < wa1.heap.size := hP.hlt
            have hBn := (Below.refl wa1.heap.size wa1).alloc (Nat.le_refl _) (.cells #[.slice am c.mountains.length cpm, .slice av c.villages.length cpv, .slice mm md.mountains.length mmc, .slice mv md.villages.length mvc, .slice mm md.mountains.length mmc, .slice mv md.villages.length mvc] 25)
            have hP := hP.call hBn
            have ho := ho.call hBn
            refine hK _ _ (hP.mono (by omega)) ?_
            clear hK K hBn
            obtain ⟨bc, hbc⟩ : ∃ b, b = wa1.heap.size := ⟨_, rfl⟩
            rw [← hbc] at hBc hBcl ⊢
            generalize wa1.alloc (.cells #[.slice am c.mountains.length cpm, .slice av c.villages.length cpv, .slice mm md.mountains.length mmc, .slice mv md.villages.length mvc, .slice mm md.mountains.length mmc, .slice mv md.villages.length mvc] 25) = wa2 at *
            clear hbc
            refine mix_two2 rfl rfl false false rfl rfl (fun K hK => ?_) (fun K hK => ?_)
            · go_simp
              have hBo : Blk wa2.heap.size #[.slice ad dv.length cpd, .slice ao own.length co, .slice ad dv.length cpd] 22 (wa2.alloc (.cells #[.slice ad dv.length cpd, .slice ao own.length co, .slice ad dv.length cpd] 22)) := Blk.new wa2 _ _
              have hBol : hb < wa2.heap.size := hP.hlt
              have hBn := (Below.refl wa2.heap.size wa2).alloc (Nat.le_refl _) (.cells #[.slice ad dv.length cpd, .slice ao own.length co, .slice ad dv.length cpd] 22)
              have hP := hP.call hBn
              have hBc := hBc.call hBn
              have ho := ho.call hBn
              refine hK _ _ (hP.mono (by omega)) ?_
              clear hK K hBn
              obtain ⟨bo, hbo⟩ : ∃ b, b = wa2.heap.size := ⟨_, rfl⟩
              rw [← hbo] at hBo hBol ⊢
              generalize wa2.alloc (.cells #[.slice ad dv.length cpd, .slice ao own.length co, .slice ad dv.length cpd] 22) = wa3 at *
              clear hbo
              refine mix_eff2 rfl false rfl (fun K hK => ?_)
              go_simp
              refine (Pre.among hP 1 8 (by omega) (by omega) (by omega) (by omega) (by omega)).mono ?_
              rintro e wa4 ⟨⟨u, rfl, hu1, hu2⟩, hP, hG⟩
              have hBc := hBc.hand hG (by omega)
              have ho := ho.only hG (by omega)
              have hBo := hBo.hand hG (by omega)
              have hu8 : u ≤ 8 := by omega
              have hP := hP.mono (K' := 300) (by omega)
              refine hK _ _ hP ?_
              clear hK K hG hu2
              refine mix_pur2 rfl (fun K hK => ?_)
              go_simp
              first | refine ⟨_, fun _ => rfl, hK _ ?_⟩ | refine hK _ ?_
              clear hK K
              refine mix_pur2 rfl (fun K hK => ?_)
              go_simp
              first | refine ⟨_, fun _ => rfl, hK _ ?_⟩ | refine hK _ ?_
              clear hK K
              refine mix_eff2 rfl false rfl (fun K hK => ?_)
              go_simp
              have hBy : Blk wa4.heap.size #[.int .i64 ys, .int .i64 u, .int .i64 ys] 3 (wa4.alloc (.cells #[.int .i64 ys, .int .i64 u, .int .i64 ys] 3)) := Blk.new wa4 _ _
              have hByl : hb < wa4.heap.size := hP.hlt
              have hBn := (Below.refl wa4.heap.size wa4).alloc (Nat.le_refl _) (.cells #[.int .i64 ys, .int .i64 u, .int .i64 ys] 3)
              have hP := hP.call hBn
              have hBc := hBc.call hBn
              have ho := ho.call hBn
              have hBo := hBo.call hBn
              refine hK _ _ (hP.mono (by omega)) ?_
              clear hK K hBn
              obtain ⟨by2, hby2⟩ : ∃ b, b = wa4.heap.size := ⟨_, rfl⟩
              rw [← hby2] at hBy hByl ⊢
              generalize wa4.alloc (.cells #[.int .i64 ys, .int .i64 u, .int .i64 ys] 3) = wa5 at *
              clear hby2
              refine mix_pur2 rfl (fun K hK => ?_)
              go_simp
              first | refine ⟨_, fun _ => rfl, hK _ ?_⟩ | refine hK _ ?_
              clear hK K
              refine mix_done2 ?_
              go_wp2_with fail
              go_meet
              exact ⟨bc, bo, by2, own, ao, co, u, rfl, rfl, rfl, hBc, hBo, hBy, ho.wide (fun _ _ _ => trivial), hol4, hu1, hu8, hP⟩
            · go_simp
              refine (Pre.among hP 1 8 (by omega) (by omega) (by omega) (by omega) (by omega)).mono ?_
              rintro e wa3 ⟨⟨u, rfl, hu1, hu2⟩, hP, hG⟩
              have hBc := hBc.hand hG (by omega)
              have ho := ho.only hG (by omega)
              have hu8 : u ≤ 8 := by omega
              have hP := hP.mono (K' := 300) (by omega)
              refine hK _ _ hP ?_
              clear hK K hG hu2
              refine mix_pur2 rfl (fun K hK => ?_)
              go_simp
              first | refine ⟨_, fun _ => rfl, hK _ ?_⟩ | refine hK _ ?_
              clear hK K
              refine mix_two2 rfl rfl false false rfl rfl (fun K hK => ?_) (fun K hK => ?_)
              · go_simp
                have hBo : Blk wa3.heap.size #[.slice ad dv.length cpd, .slice ao own.length co, .slice ad dv.length cpd] 22 (wa3.alloc (.cells #[.slice ad dv.length cpd, .slice ao own.length co, .slice ad dv.length cpd] 22)) := Blk.new wa3 _ _
                have hBol : hb < wa3.heap.size := hP.hlt
                have hBn := (Below.refl wa3.heap.size wa3).alloc (Nat.le_refl _) (.cells #[.slice ad dv.length cpd, .slice ao own.length co, .slice ad dv.length cpd] 22)
                have hP := hP.call hBn
                have hBc := hBc.call hBn
                have ho := ho.call hBn
                refine hK _ _ (hP.mono (by omega)) ?_
                clear hK K hBn
                obtain ⟨bo, hbo⟩ : ∃ b, b = wa3.heap.size := ⟨_, rfl⟩
                rw [← hbo] at hBo hBol ⊢
                generalize wa3.alloc (.cells #[.slice ad dv.length cpd, .slice ao own.length co, .slice ad dv.length cpd] 22) = wa4 at *
                clear hbo
                refine mix_pur2 rfl (fun K hK => ?_)
                go_simp
                first | refine ⟨_, fun _ => rfl, hK _ ?_⟩ | refine hK _ ?_
                clear hK K
                refine mix_eff2 rfl false rfl (fun K hK => ?_)
                go_simp
                have hBy : Blk wa4.heap.size #[.int .i64 ys, .int .i64 u, .int .i64 ys] 3 (wa4.alloc (.cells #[.int .i64 ys, .int .i64 u, .int .i64 ys] 3)) := Blk.new wa4 _ _
                have hByl : hb < wa4.heap.size := hP.hlt
                have hBn := (Below.refl wa4.heap.size wa4).alloc (Nat.le_refl _) (.cells #[.int .i64 ys, .int .i64 u, .int .i64 ys] 3)
                have hP := hP.call hBn
                have hBc := hBc.call hBn
                have ho := ho.call hBn
                have hBo := hBo.call hBn
                refine hK _ _ (hP.mono (by omega)) ?_
                clear hK K hBn
                obtain ⟨by2, hby2⟩ : ∃ b, b = wa4.heap.size := ⟨_, rfl⟩
                rw [← hby2] at hBy hByl ⊢
                generalize wa4.alloc (.cells #[.int .i64 ys, .int .i64 u, .int .i64 ys] 3) = wa5 at *
                clear hby2
                refine mix_pur2 rfl (fun K hK => ?_)
                go_simp
                first | refine ⟨_, fun _ => rfl, hK _ ?_⟩ | refine hK _ ?_
                clear hK K
                refine mix_done2 ?_
                go_wp2_with fail
                go_meet
                exact ⟨bc, bo, by2, own, ao, co, u, rfl, rfl, rfl, hBc, hBo, hBy, ho.wide (fun _ _ _ => trivial), hol4, hu1, hu8, hP⟩
              · go_simp
                have hBy : Blk wa3.heap.size #[.int .i64 ys, .int .i64 u, .int .i64 ys] 3 (wa3.alloc (.cells #[.int .i64 ys, .int .i64 u, .int .i64 ys] 3)) := Blk.new wa3 _ _
                have hByl : hb < wa3.heap.size := hP.hlt
                have hBn := (Below.refl wa3.heap.size wa3).alloc (Nat.le_refl _) (.cells #[.int .i64 ys, .int .i64 u, .int .i64 ys] 3)
                have hP := hP.call hBn
                have hBc := hBc.call hBn
                have ho := ho.call hBn
                refine hK _ _ (hP.mono (by omega)) ?_
                clear hK K hBn
                obtain ⟨by2, hby2⟩ : ∃ b, b = wa3.heap.size := ⟨_, rfl⟩
                rw [← hby2] at hBy hByl ⊢
                generalize wa3.alloc (.cells #[.int .i64 ys, .int .i64 u, .int .i64 ys] 3) = wa4 at *
                clear hby2
                refine mix_eff2 rfl false rfl (fun K hK => ?_)
                go_simp
                have hBo : Blk wa4.heap.size #[.slice ad dv.length cpd, .slice ao own.length co, .slice ad dv.length cpd] 22 (wa4.alloc (.cells #[.slice ad dv.length cpd, .slice ao own.length co, .slice ad dv.length cpd] 22)) := Blk.new wa4 _ _
                have hBol : hb < wa4.heap.size := hP.hlt
                have hBn := (Below.refl wa4.heap.size wa4).alloc (Nat.le_refl _) (.cells #[.slice ad dv.length cpd, .slice ao own.length co, .slice ad dv.length cpd] 22)
                have hP := hP.call hBn
                have hBc := hBc.call hBn
                have ho := ho.call hBn
                have hBy := hBy.call hBn
                refine hK _ _ (hP.mono (by omega)) ?_
                clear hK K hBn
                obtain ⟨bo, hbo⟩ : ∃ b, b = wa4.heap.size := ⟨_, rfl⟩
                rw [← hbo] at hBo hBol ⊢
                generalize wa4.alloc (.cells #[.slice ad dv.length cpd, .slice ao own.length co, .slice ad dv.length cpd] 22) = wa5 at *
                clear hbo
                refine mix_pur2 rfl (fun K hK => ?_)
                go_simp
                first | refine ⟨_, fun _ => rfl, hK _ ?_⟩ | refine hK _ ?_
                clear hK K
                refine mix_pur2 rfl (fun K hK => ?_)
                go_simp
                first | refine ⟨_, fun _ => rfl, hK _ ?_⟩ | refine hK _ ?_
                clear hK K
                refine mix_done2 ?_
                go_wp2_with fail
                go_meet
                exact ⟨bc, bo, by2, own, ao, co, u, rfl, rfl, rfl, hBc, hBo, hBy, ho.wide (fun _ _ _ => trivial), hol4, hu1, hu8, hP⟩
          · go_simp
            have hBo : Blk wa1.heap.size #[.slice ad dv.length cpd, .slice ao own.length co, .slice ad dv.length cpd] 22 (wa1.alloc (.cells #[.slice ad dv.length cpd, .slice ao own.length co, .slice ad dv.length cpd] 22)) := Blk.new wa1 _ _
            have hBol : hb < wa1.heap.size := hP.hlt
            have hBn := (Below.refl wa1.heap.size wa1).alloc (Nat.le_refl _) (.cells #[.slice ad dv.length cpd, .slice ao own.length co, .slice ad dv.length cpd] 22)
            have hP := hP.call hBn
            have ho := ho.call hBn
            refine hK _ _ (hP.mono (by omega)) ?_
            clear hK K hBn
            obtain ⟨bo, hbo⟩ : ∃ b, b = wa1.heap.size := ⟨_, rfl⟩
            rw [← hbo] at hBo hBol ⊢
            generalize wa1.alloc (.cells #[.slice ad dv.length cpd, .slice ao own.length co, .slice ad dv.length cpd] 22) = wa2 at *
            clear hbo
            refine mix_two2 rfl rfl false false rfl rfl (fun K hK => ?_) (fun K hK => ?_)
            · go_simp
              have hBc : Blk wa2.heap.size #[.slice am c.mountains.length cpm, .slice av c.villages.length cpv, .slice mm md.mountains.length mmc, .slice mv md.villages.length mvc, .slice mm md.mountains.length mmc, .slice mv md.villages.length mvc] 25 (wa2.alloc (.cells #[.slice am c.mountains.length cpm, .slice av c.villages.length cpv, .slice mm md.mountains.length mmc, .slice mv md.villages.length mvc, .slice mm md.mountains.length mmc, .slice mv md.villages.length mvc] 25)) := Blk.new wa2 _ _
              have hBcl : hb < wa2.heap.size := hP.hlt
              have hBn := (Below.refl wa2.heap.size wa2).alloc (Nat.le_refl _) (.cells #[.slice am c.mountains.length cpm, .slice av c.villages.length cpv, .slice mm md.mountains.length mmc, .slice mv md.villages.length mvc, .slice mm md.mountains.length mmc, .slice mv md.villages.length mvc] 25)
              have hP := hP.call hBn
              have ho := ho.call hBn
              have hBo := hBo.call hBn
              refine hK _ _ (hP.mono (by omega)) ?_
              clear hK K hBn
              obtain ⟨bc, hbc⟩ : ∃ b, b = wa2.heap.size := ⟨_, rfl⟩
              rw [← hbc] at hBc hBcl ⊢
              generalize wa2.alloc (.cells #[.slice am c.mountains.length cpm, .slice av c.villages.length cpv, .slice mm md.mountains.length mmc, .slice mv md.villages.length mvc, .slice mm md.mountains.length mmc, .slice mv md.villages.length mvc] 25) = wa3 at *
              clear hbc
              refine mix_eff2 rfl false rfl (fun K hK => ?_)
              go_simp
              refine (Pre.among hP 1 8 (by omega) (by omega) (by omega) (by omega) (by omega)).mono ?_
              rintro e wa4 ⟨⟨u, rfl, hu1, hu2⟩, hP, hG⟩
              have hBc := hBc.hand hG (by omega)
              have ho := ho.only hG (by omega)
              have hBo := hBo.hand hG (by omega)
              have hu8 : u ≤ 8 := by omega
              have hP := hP.mono (K' := 300) (by omega)
              refine hK _ _ hP ?_
              clear hK K hG hu2
              refine mix_pur2 rfl (fun K hK => ?_)
              go_simp
              first | refine ⟨_, fun _ => rfl, hK _ ?_⟩ | refine hK _ ?_
              clear hK K
              refine mix_pur2 rfl (fun K hK => ?_)
              go_simp
              first | refine ⟨_, fun _ => rfl, hK _ ?_⟩ | refine hK _ ?_
              clear hK K
              refine mix_eff2 rfl false rfl (fun K hK => ?_)
              go_simp
              have hBy : Blk wa4.heap.size #[.int .i64 ys, .int .i64 u, .int .i64 ys] 3 (wa4.alloc (.cells #[.int .i64 ys, .int .i64 u, .int .i64 ys] 3)) := Blk.new wa4 _ _
              have hByl : hb < wa4.heap.size := hP.hlt
              have hBn := (Below.refl wa4.heap.size wa4).alloc (Nat.le_refl _) (.cells #[.int .i64 ys, .int .i64 u, .int .i64 ys] 3)
              have hP := hP.call hBn
              have hBc := hBc.call hBn
              have ho := ho.call hBn
              have hBo := hBo.call hBn
              refine hK _ _ (hP.mono (by omega)) ?_
              clear hK K hBn
              obtain ⟨by2, hby2⟩ : ∃ b, b = wa4.heap.size := ⟨_, rfl⟩
              rw [← hby2] at hBy hByl ⊢
              generalize wa4.alloc (.cells #[.int .i64 ys, .int .i64 u, .int .i64 ys] 3) = wa5 at *
              clear hby2
              refine mix_pur2 rfl (fun K hK => ?_)
              go_simp
              first | refine ⟨_, fun _ => rfl, hK _ ?_⟩ | refine hK _ ?_
              clear hK K
              refine mix_done2 ?_
              go_wp2_with fail
              go_meet
              exact ⟨bc, bo, by2, own, ao, co, u, rfl, rfl, rfl, hBc, hBo, hBy, ho.wide (fun _ _ _ => trivial), hol4, hu1, hu8, hP⟩
            · go_simp
              refine (Pre.among hP 1 8 (by omega) (by omega) (by omega) (by omega) (by omega)).mono ?_
              rintro e wa3 ⟨⟨u, rfl, hu1, hu2⟩, hP, hG⟩
              have ho := ho.only hG (by omega)
              have hBo := hBo.hand hG (by omega)
              have hu8 : u ≤ 8 := by omega
              have hP := hP.mono (K' := 300) (by omega)
              refine hK _ _ hP ?_
              clear hK K hG hu2
              refine mix_two2 rfl rfl false false rfl rfl (fun K hK => ?_) (fun K hK => ?_)
              · go_simp
                have hBc : Blk wa3.heap.size #[.slice am c.mountains.length cpm, .slice av c.villages.length cpv, .slice mm md.mountains.length mmc, .slice mv md.villages.length mvc, .slice mm md.mountains.length mmc, .slice mv md.villages.length mvc] 25 (wa3.alloc (.cells #[.slice am c.mountains.length cpm, .slice av c.villages.length cpv, .slice mm md.mountains.length mmc, .slice mv md.villages.length mvc, .slice mm md.mountains.length mmc, .slice mv md.villages.length mvc] 25)) := Blk.new wa3 _ _
                have hBcl : hb < wa3.heap.size := hP.hlt
                have hBn := (Below.refl wa3.heap.size wa3).alloc (Nat.le_refl _) (.cells #[.slice am c.mountains.length cpm, .slice av c.villages.length cpv, .slice mm md.mountains.length mmc, .slice mv md.villages.length mvc, .slice mm md.mountains.length mmc, .slice mv md.villages.length mvc] 25)
                have hP := hP.call hBn
                have ho := ho.call hBn
                have hBo := hBo.call hBn
                refine hK _ _ (hP.mono (by omega)) ?_
                clear hK K hBn
                obtain ⟨bc, hbc⟩ : ∃ b, b = wa3.heap.size := ⟨_, rfl⟩
                rw [← hbc] at hBc hBcl ⊢
                generalize wa3.alloc (.cells #[.slice am c.mountains.length cpm, .slice av c.villages.length cpv, .slice mm md.mountains.length mmc, .slice mv md.villages.length mvc, .slice mm md.mountains.length mmc, .slice mv md.villages.length mvc] 25) = wa4 at *
                clear hbc
                refine mix_pur2 rfl (fun K hK => ?_)
                go_simp
                first | refine ⟨_, fun _ => rfl, hK _ ?_⟩ | refine hK _ ?_
                clear hK K
                refine mix_pur2 rfl (fun K hK => ?_)
                go_simp
                first | refine ⟨_, fun _ => rfl, hK _ ?_⟩ | refine hK _ ?_
                clear hK K
                refine mix_eff2 rfl false rfl (fun K hK => ?_)
                go_simp
                have hBy : Blk wa4.heap.size #[.int .i64 ys, .int .i64 u, .int .i64 ys] 3 (wa4.alloc (.cells #[.int .i64 ys, .int .i64 u, .int .i64 ys] 3)) := Blk.new wa4 _ _
                have hByl : hb < wa4.heap.size := hP.hlt
                have hBn := (Below.refl wa4.heap.size wa4).alloc (Nat.le_refl _) (.cells #[.int .i64 ys, .int .i64 u, .int .i64 ys] 3)
                have hP := hP.call hBn
                have hBc := hBc.call hBn
                have ho := ho.call hBn
                have hBo := hBo.call hBn
                refine hK _ _ (hP.mono (by omega)) ?_
                clear hK K hBn
                obtain ⟨by2, hby2⟩ : ∃ b, b = wa4.heap.size := ⟨_, rfl⟩
                rw [← hby2] at hBy hByl ⊢
                generalize wa4.alloc (.cells #[.int .i64 ys, .int .i64 u, .int .i64 ys] 3) = wa5 at *
                clear hby2
                refine mix_pur2 rfl (fun K hK => ?_)
                go_simp
                first | refine ⟨_, fun _ => rfl, hK _ ?_⟩ | refine hK _ ?_
                clear hK K
                refine mix_done2 ?_
                go_wp2_with fail
                go_meet
                exact ⟨bc, bo, by2, own, ao, co, u, rfl, rfl, rfl, hBc, hBo, hBy, ho.wide (fun _ _ _ => trivial), hol4, hu1, hu8, hP⟩
              · go_simp
                have hBy : Blk wa3.heap.size #[.int .i64 ys, .int .i64 u, .int .i64 ys] 3 (wa3.alloc (.cells #[.int .i64 ys, .int .i64 u, .int .i64 ys] 3)) := Blk.new wa3 _ _
                have hByl : hb < wa3.heap.size := hP.hlt
                have hBn := (Below.refl wa3.heap.size wa3).alloc (Nat.le_refl _) (.cells #[.int .i64 ys, .int .i64 u, .int .i64 ys] 3)
                have hP := hP.call hBn
                have ho := ho.call hBn
                have hBo := hBo.call hBn
                refine hK _ _ (hP.mono (by omega)) ?_
                clear hK K hBn
                obtain ⟨by2, hby2⟩ : ∃ b, b = wa3.heap.size := ⟨_, rfl⟩
                rw [← hby2] at hBy hByl ⊢
                generalize wa3.alloc (.cells #[.int .i64 ys, .int .i64 u, .int .i64 ys] 3) = wa4 at *
                clear hby2
                refine mix_eff2 rfl false rfl (fun K hK => ?_)
                go_simp
                have hBc : Blk wa4.heap.size #[.slice am c.mountains.length cpm, .slice av c.villages.length cpv, .slice mm md.mountains.length mmc, .slice mv md.villages.length mvc, .slice mm md.mountains.length mmc, .slice mv md.villages.length mvc] 25 (wa4.alloc (.cells #[.slice am c.mountains.length cpm, .slice av c.villages.length cpv, .slice mm md.mountains.length mmc, .slice mv md.villages.length mvc, .slice mm md.mountains.length mmc, .slice mv md.villages.length mvc] 25)) := Blk.new wa4 _ _
                have hBcl : hb < wa4.heap.size := hP.hlt
                have hBn := (Below.refl wa4.heap.size wa4).alloc (Nat.le_refl _) (.cells #[.slice am c.mountains.length cpm, .slice av c.villages.length cpv, .slice mm md.mountains.length mmc, .slice mv md.villages.length mvc, .slice mm md.mountains.length mmc, .slice mv md.villages.length mvc] 25)
                have hP := hP.call hBn
                have ho := ho.call hBn
                have hBo := hBo.call hBn
                have hBy := hBy.call hBn
                refine hK _ _ (hP.mono (by omega)) ?_
                clear hK K hBn
                obtain ⟨bc, hbc⟩ : ∃ b, b = wa4.heap.size := ⟨_, rfl⟩
                rw [← hbc] at hBc hBcl ⊢
                generalize wa4.alloc (.cells #[.slice am c.mountains.length cpm, .slice av c.villages.length cpv, .slice mm md.mountains.length mmc, .slice mv md.villages.length mvc, .slice mm md.mountains.length mmc, .slice mv md.villages.length mvc] 25) = wa5 at *
                clear hbc
                refine mix_pur2 rfl (fun K hK => ?_)
                go_simp
                first | refine ⟨_, fun _ => rfl, hK _ ?_⟩ | refine hK _ ?_
                clear hK K
                refine mix_pur2 rfl (fun K hK => ?_)
                go_simp
                first | refine ⟨_, fun _ => rfl, hK _ ?_⟩ | refine hK _ ?_
                clear hK K
                refine mix_pur2 rfl (fun K hK => ?_)
                go_simp
                first | refine ⟨_, fun _ => rfl, hK _ ?_⟩ | refine hK _ ?_
                clear hK K
                refine mix_done2 ?_
                go_wp2_with fail
                go_meet
                exact ⟨bc, bo, by2, own, ao, co, u, rfl, rfl, rfl, hBc, hBo, hBy, ho.wide (fun _ _ _ => trivial), hol4, hu1, hu8, hP⟩
          · go_simp
            refine (Pre.among hP 1 8 (by omega) (by omega) (by omega) (by omega) (by omega)).mono ?_
            rintro e wa2 ⟨⟨u, rfl, hu1, hu2⟩, hP, hG⟩
            have ho := ho.only hG (by omega)
            have hu8 : u ≤ 8 := by omega
            have hP := hP.mono (K' := 300) (by omega)
            refine hK _ _ hP ?_
            clear hK K hG hu2
            refine mix_three2 rfl rfl rfl false false false rfl rfl rfl (fun K hK => ?_) (fun K hK => ?_) (fun K hK => ?_)
            · go_simp
              have hBc : Blk wa2.heap.size #[.slice am c.mountains.length cpm, .slice av c.villages.length cpv, .slice mm md.mountains.length mmc, .slice mv md.villages.length mvc, .slice mm md.mountains.length mmc, .slice mv md.villages.length mvc] 25 (wa2.alloc (.cells #[.slice am c.mountains.length cpm, .slice av c.villages.length cpv, .slice mm md.mountains.length mmc, .slice mv md.villages.length mvc, .slice mm md.mountains.length mmc, .slice mv md.villages.length mvc] 25)) := Blk.new wa2 _ _
              have hBcl : hb < wa2.heap.size := hP.hlt
              have hBn := (Below.refl wa2.heap.size wa2).alloc (Nat.le_refl _) (.cells #[.slice am c.mountains.length cpm, .slice av c.villages.length cpv, .slice mm md.mountains.length mmc, .slice mv md.villages.length mvc, .slice mm md.mountains.length mmc, .slice mv md.villages.length mvc] 25)
              have hP := hP.call hBn
              have ho := ho.call hBn
              refine hK _ _ (hP.mono (by omega)) ?_
              clear hK K hBn
              obtain ⟨bc, hbc⟩ : ∃ b, b = wa2.heap.size := ⟨_, rfl⟩
              rw [← hbc] at hBc hBcl ⊢
              generalize wa2.alloc (.cells #[.slice am c.mountains.length cpm, .slice av c.villages.length cpv, .slice mm md.mountains.length mmc, .slice mv md.villages.length mvc, .slice mm md.mountains.length mmc, .slice mv md.villages.length mvc] 25) = wa3 at *
              clear hbc
              refine mix_pur2 rfl (fun K hK => ?_)
              go_simp
              first | refine ⟨_, fun _ => rfl, hK _ ?_⟩ | refine hK _ ?_
              clear hK K
              refine mix_two2 rfl rfl false false rfl rfl (fun K hK => ?_) (fun K hK => ?_)
              · go_simp
                have hBo : Blk wa3.heap.size #[.slice ad dv.length cpd, .slice ao own.length co, .slice ad dv.length cpd] 22 (wa3.alloc (.cells #[.slice ad dv.length cpd, .slice ao own.length co, .slice ad dv.length cpd] 22)) := Blk.new wa3 _ _
                have hBol : hb < wa3.heap.size := hP.hlt
                have hBn := (Below.refl wa3.heap.size wa3).alloc (Nat.le_refl _) (.cells #[.slice ad dv.length cpd, .slice ao own.length co, .slice ad dv.length cpd] 22)
                have hP := hP.call hBn
                have hBc := hBc.call hBn
                have ho := ho.call hBn
                refine hK _ _ (hP.mono (by omega)) ?_
                clear hK K hBn
                obtain ⟨bo, hbo⟩ : ∃ b, b = wa3.heap.size := ⟨_, rfl⟩
                rw [← hbo] at hBo hBol ⊢
                generalize wa3.alloc (.cells #[.slice ad dv.length cpd, .slice ao own.length co, .slice ad dv.length cpd] 22) = wa4 at *
                clear hbo
                refine mix_pur2 rfl (fun K hK => ?_)
                go_simp
                first | refine ⟨_, fun _ => rfl, hK _ ?_⟩ | refine hK _ ?_
                clear hK K
                refine mix_eff2 rfl false rfl (fun K hK => ?_)
                go_simp
                have hBy : Blk wa4.heap.size #[.int .i64 ys, .int .i64 u, .int .i64 ys] 3 (wa4.alloc (.cells #[.int .i64 ys, .int .i64 u, .int .i64 ys] 3)) := Blk.new wa4 _ _
                have hByl : hb < wa4.heap.size := hP.hlt
                have hBn := (Below.refl wa4.heap.size wa4).alloc (Nat.le_refl _) (.cells #[.int .i64 ys, .int .i64 u, .int .i64 ys] 3)
                have hP := hP.call hBn
                have hBc := hBc.call hBn
                have ho := ho.call hBn
                have hBo := hBo.call hBn
                refine hK _ _ (hP.mono (by omega)) ?_
                clear hK K hBn
                obtain ⟨by2, hby2⟩ : ∃ b, b = wa4.heap.size := ⟨_, rfl⟩
                rw [← hby2] at hBy hByl ⊢
                generalize wa4.alloc (.cells #[.int .i64 ys, .int .i64 u, .int .i64 ys] 3) = wa5 at *
                clear hby2
                refine mix_pur2 rfl (fun K hK => ?_)
                go_simp
                first | refine ⟨_, fun _ => rfl, hK _ ?_⟩ | refine hK _ ?_
                clear hK K
                refine mix_done2 ?_
                go_wp2_with fail
                go_meet
                exact ⟨bc, bo, by2, own, ao, co, u, rfl, rfl, rfl, hBc, hBo, hBy, ho.wide (fun _ _ _ => trivial), hol4, hu1, hu8, hP⟩
              · go_simp
                have hBy : Blk wa3.heap.size #[.int .i64 ys, .int .i64 u, .int .i64 ys] 3 (wa3.alloc (.cells #[.int .i64 ys, .int .i64 u, .int .i64 ys] 3)) := Blk.new wa3 _ _
                have hByl : hb < wa3.heap.size := hP.hlt
                have hBn := (Below.refl wa3.heap.size wa3).alloc (Nat.le_refl _) (.cells #[.int .i64 ys, .int .i64 u, .int .i64 ys] 3)
                have hP := hP.call hBn
                have hBc := hBc.call hBn
                have ho := ho.call hBn
                refine hK _ _ (hP.mono (by omega)) ?_
                clear hK K hBn
                obtain ⟨by2, hby2⟩ : ∃ b, b = wa3.heap.size := ⟨_, rfl⟩
                rw [← hby2] at hBy hByl ⊢
                generalize wa3.alloc (.cells #[.int .i64 ys, .int .i64 u, .int .i64 ys] 3) = wa4 at *
                clear hby2
                refine mix_eff2 rfl false rfl (fun K hK => ?_)
                go_simp
                have hBo : Blk wa4.heap.size #[.slice ad dv.length cpd, .slice ao own.length co, .slice ad dv.length cpd] 22 (wa4.alloc (.cells #[.slice ad dv.length cpd, .slice ao own.length co, .slice ad dv.length cpd] 22)) := Blk.new wa4 _ _
                have hBol : hb < wa4.heap.size := hP.hlt
                have hBn := (Below.refl wa4.heap.size wa4).alloc (Nat.le_refl _) (.cells #[.slice ad dv.length cpd, .slice ao own.length co, .slice ad dv.length cpd] 22)
                have hP := hP.call hBn
                have hBc := hBc.call hBn
                have ho := ho.call hBn
                have hBy := hBy.call hBn
                refine hK _ _ (hP.mono (by omega)) ?_
                clear hK K hBn
                obtain ⟨bo, hbo⟩ : ∃ b, b = wa4.heap.size := ⟨_, rfl⟩
                rw [← hbo] at hBo hBol ⊢
                generalize wa4.alloc (.cells #[.slice ad dv.length cpd, .slice ao own.length co, .slice ad dv.length cpd] 22) = wa5 at *
                clear hbo
                refine mix_pur2 rfl (fun K hK => ?_)
                go_simp
                first | refine ⟨_, fun _ => rfl, hK _ ?_⟩ | refine hK _ ?_
                clear hK K
                refine mix_pur2 rfl (fun K hK => ?_)
                go_simp
                first | refine ⟨_, fun _ => rfl, hK _ ?_⟩ | refine hK _ ?_
                clear hK K
                refine mix_done2 ?_
                go_wp2_with fail
                go_meet
                exact ⟨bc, bo, by2, own, ao, co, u, rfl, rfl, rfl, hBc, hBo, hBy, ho.wide (fun _ _ _ => trivial), hol4, hu1, hu8, hP⟩
            · go_simp
              have hBo : Blk wa2.heap.size #[.slice ad dv.length cpd, .slice ao own.length co, .slice ad dv.length cpd] 22 (wa2.alloc (.cells #[.slice ad dv.length cpd, .slice ao own.length co, .slice ad dv.length cpd] 22)) := Blk.new wa2 _ _
              have hBol : hb < wa2.heap.size := hP.hlt
              have hBn := (Below.refl wa2.heap.size wa2).alloc (Nat.le_refl _) (.cells #[.slice ad dv.length cpd, .slice ao own.length co, .slice ad dv.length cpd] 22)
              have hP := hP.call hBn
              have ho := ho.call hBn
              refine hK _ _ (hP.mono (by omega)) ?_
              clear hK K hBn
              obtain ⟨bo, hbo⟩ : ∃ b, b = wa2.heap.size := ⟨_, rfl⟩
              rw [← hbo] at hBo hBol ⊢
              generalize wa2.alloc (.cells #[.slice ad dv.length cpd, .slice ao own.length co, .slice ad dv.length cpd] 22) = wa3 at *
              clear hbo
              refine mix_two2 rfl rfl false false rfl rfl (fun K hK => ?_) (fun K hK => ?_)
              · go_simp
                have hBc : Blk wa3.heap.size #[.slice am c.mountains.length cpm, .slice av c.villages.length cpv, .slice mm md.mountains.length mmc, .slice mv md.villages.length mvc, .slice mm md.mountains.length mmc, .slice mv md.villages.length mvc] 25 (wa3.alloc (.cells #[.slice am c.mountains.length cpm, .slice av c.villages.length cpv, .slice mm md.mountains.length mmc, .slice mv md.villages.length mvc, .slice mm md.mountains.length mmc, .slice mv md.villages.length mvc] 25)) := Blk.new wa3 _ _
                have hBcl : hb < wa3.heap.size := hP.hlt
                have hBn := (Below.refl wa3.heap.size wa3).alloc (Nat.le_refl _) (.cells #[.slice am c.mountains.length cpm, .slice av c.villages.length cpv, .slice mm md.mountains.length mmc, .slice mv md.villages.length mvc, .slice mm md.mountains.length mmc, .slice mv md.villages.length mvc] 25)
                have hP := hP.call hBn
                have ho := ho.call hBn
                have hBo := hBo.call hBn
                refine hK _ _ (hP.mono (by omega)) ?_
                clear hK K hBn
                obtain ⟨bc, hbc⟩ : ∃ b, b = wa3.heap.size := ⟨_, rfl⟩
                rw [← hbc] at hBc hBcl ⊢
                generalize wa3.alloc (.cells #[.slice am c.mountains.length cpm, .slice av c.villages.length cpv, .slice mm md.mountains.length mmc, .slice mv md.villages.length mvc, .slice mm md.mountains.length mmc, .slice mv md.villages.length mvc] 25) = wa4 at *
                clear hbc
                refine mix_pur2 rfl (fun K hK => ?_)
                go_simp
                first | refine ⟨_, fun _ => rfl, hK _ ?_⟩ | refine hK _ ?_
                clear hK K
                refine mix_pur2 rfl (fun K hK => ?_)
                go_simp
                first | refine ⟨_, fun _ => rfl, hK _ ?_⟩ | refine hK _ ?_
                clear hK K
                refine mix_eff2 rfl false rfl (fun K hK => ?_)
                go_simp
                have hBy : Blk wa4.heap.size #[.int .i64 ys, .int .i64 u, .int .i64 ys] 3 (wa4.alloc (.cells #[.int .i64 ys, .int .i64 u, .int .i64 ys] 3)) := Blk.new wa4 _ _
                have hByl : hb < wa4.heap.size := hP.hlt
                have hBn := (Below.refl wa4.heap.size wa4).alloc (Nat.le_refl _) (.cells #[.int .i64 ys, .int .i64 u, .int .i64 ys] 3)
                have hP := hP.call hBn
                have hBc := hBc.call hBn
                have ho := ho.call hBn
                have hBo := hBo.call hBn
                refine hK _ _ (hP.mono (by omega)) ?_
                clear hK K hBn
                obtain ⟨by2, hby2⟩ : ∃ b, b = wa4.heap.size := ⟨_, rfl⟩
                rw [← hby2] at hBy hByl ⊢
                generalize wa4.alloc (.cells #[.int .i64 ys, .int .i64 u, .int .i64 ys] 3) = wa5 at *
                clear hby2
                refine mix_pur2 rfl (fun K hK => ?_)
                go_simp
                first | refine ⟨_, fun _ => rfl, hK _ ?_⟩ | refine hK _ ?_
                clear hK K
                refine mix_done2 ?_
                go_wp2_with fail
                go_meet
                exact ⟨bc, bo, by2, own, ao, co, u, rfl, rfl, rfl, hBc, hBo, hBy, ho.wide (fun _ _ _ => trivial), hol4, hu1, hu8, hP⟩
              · go_simp
                have hBy : Blk wa3.heap.size #[.int .i64 ys, .int .i64 u, .int .i64 ys] 3 (wa3.alloc (.cells #[.int .i64 ys, .int .i64 u, .int .i64 ys] 3)) := Blk.new wa3 _ _
                have hByl : hb < wa3.heap.size := hP.hlt
                have hBn := (Below.refl wa3.heap.size wa3).alloc (Nat.le_refl _) (.cells #[.int .i64 ys, .int .i64 u, .int .i64 ys] 3)
                have hP := hP.call hBn
                have ho := ho.call hBn
                have hBo := hBo.call hBn
                refine hK _ _ (hP.mono (by omega)) ?_
                clear hK K hBn
                obtain ⟨by2, hby2⟩ : ∃ b, b = wa3.heap.size := ⟨_, rfl⟩
                rw [← hby2] at hBy hByl ⊢
                generalize wa3.alloc (.cells #[.int .i64 ys, .int .i64 u, .int .i64 ys] 3) = wa4 at *
                clear hby2
                refine mix_eff2 rfl false rfl (fun K hK => ?_)
                go_simp
                have hBc : Blk wa4.heap.size #[.slice am c.mountains.length cpm, .slice av c.villages.length cpv, .slice mm md.mountains.length mmc, .slice mv md.villages.length mvc, .slice mm md.mountains.length mmc, .slice mv md.villages.length mvc] 25 (wa4.alloc (.cells #[.slice am c.mountains.length cpm, .slice av c.villages.length cpv, .slice mm md.mountains.length mmc, .slice mv md.villages.length mvc, .slice mm md.mountains.length mmc, .slice mv md.villages.length mvc] 25)) := Blk.new wa4 _ _
                have hBcl : hb < wa4.heap.size := hP.hlt
                have hBn := (Below.refl wa4.heap.size wa4).alloc (Nat.le_refl _) (.cells #[.slice am c.mountains.length cpm, .slice av c.villages.length cpv, .slice mm md.mountains.length mmc, .slice mv md.villages.length mvc, .slice mm md.mountains.length mmc, .slice mv md.villages.length mvc] 25)
                have hP := hP.call hBn
                have ho := ho.call hBn
                have hBo := hBo.call hBn
                have hBy := hBy.call hBn
                refine hK _ _ (hP.mono (by omega)) ?_
                clear hK K hBn
                obtain ⟨bc, hbc⟩ : ∃ b, b = wa4.heap.size := ⟨_, rfl⟩
                rw [← hbc] at hBc hBcl ⊢
                generalize wa4.alloc (.cells #[.slice am c.mountains.length cpm, .slice av c.villages.length cpv, .slice mm md.mountains.length mmc, .slice mv md.villages.length mvc, .slice mm md.mountains.length mmc, .slice mv md.villages.length mvc] 25) = wa5 at *
                clear hbc
                refine mix_pur2 rfl (fun K hK => ?_)
                go_simp
                first | refine ⟨_, fun _ => rfl, hK _ ?_⟩ | refine hK _ ?_
                clear hK K
                refine mix_pur2 rfl (fun K hK => ?_)
                go_simp
                first | refine ⟨_, fun _ => rfl, hK _ ?_⟩ | refine hK _ ?_
                clear hK K
                refine mix_pur2 rfl (fun K hK => ?_)
                go_simp
                first | refine ⟨_, fun _ => rfl, hK _ ?_⟩ | refine hK _ ?_
                clear hK K
                refine mix_done2 ?_
                go_wp2_with fail
                go_meet
                exact ⟨bc, bo, by2, own, ao, co, u, rfl, rfl, rfl, hBc, hBo, hBy, ho.wide (fun _ _ _ => trivial), hol4, hu1, hu8, hP⟩
            · go_simp
              have hBy : Blk wa2.heap.size #[.int .i64 ys, .int .i64 u, .int .i64 ys] 3 (wa2.alloc (.cells #[.int .i64 ys, .int .i64 u, .int .i64 ys] 3)) := Blk.new wa2 _ _
              have hByl : hb < wa2.heap.size := hP.hlt
              have hBn := (Below.refl wa2.heap.size wa2).alloc (Nat.le_refl _) (.cells #[.int .i64 ys, .int .i64 u, .int .i64 ys] 3)
              have hP := hP.call hBn
              have ho := ho.call hBn
              refine hK _ _ (hP.mono (by omega)) ?_
              clear hK K hBn
              obtain ⟨by2, hby2⟩ : ∃ b, b = wa2.heap.size := ⟨_, rfl⟩
              rw [← hby2] at hBy hByl ⊢
              generalize wa2.alloc (.cells #[.int .i64 ys, .int .i64 u, .int .i64 ys] 3) = wa3 at *
              clear hby2
              refine mix_two2 rfl rfl false false rfl rfl (fun K hK => ?_) (fun K hK => ?_)
              · go_simp
                have hBc : Blk wa3.heap.size #[.slice am c.mountains.length cpm, .slice av c.villages.length cpv, .slice mm md.mountains.length mmc, .slice mv md.villages.length mvc, .slice mm md.mountains.length mmc, .slice mv md.villages.length mvc] 25 (wa3.alloc (.cells #[.slice am c.mountains.length cpm, .slice av c.villages.length cpv, .slice mm md.mountains.length mmc, .slice mv md.villages.length mvc, .slice mm md.mountains.length mmc, .slice mv md.villages.length mvc] 25)) := Blk.new wa3 _ _
                have hBcl : hb < wa3.heap.size := hP.hlt
                have hBn := (Below.refl wa3.heap.size wa3).alloc (Nat.le_refl _) (.cells #[.slice am c.mountains.length cpm, .slice av c.villages.length cpv, .slice mm md.mountains.length mmc, .slice mv md.villages.length mvc, .slice mm md.mountains.length mmc, .slice mv md.villages.length mvc] 25)
                have hP := hP.call hBn
                have ho := ho.call hBn
                have hBy := hBy.call hBn
                refine hK _ _ (hP.mono (by omega)) ?_
                clear hK K hBn
                obtain ⟨bc, hbc⟩ : ∃ b, b = wa3.heap.size := ⟨_, rfl⟩
                rw [← hbc] at hBc hBcl ⊢
                generalize wa3.alloc (.cells #[.slice am c.mountains.length cpm, .slice av c.villages.length cpv, .slice mm md.mountains.length mmc, .slice mv md.villages.length mvc, .slice mm md.mountains.length mmc, .slice mv md.villages.length mvc] 25) = wa4 at *
                clear hbc
                refine mix_pur2 rfl (fun K hK => ?_)
                go_simp
                first | refine ⟨_, fun _ => rfl, hK _ ?_⟩ | refine hK _ ?_
                clear hK K
                refine mix_eff2 rfl false rfl (fun K hK => ?_)
                go_simp
                have hBo : Blk wa4.heap.size #[.slice ad dv.length cpd, .slice ao own.length co, .slice ad dv.length cpd] 22 (wa4.alloc (.cells #[.slice ad dv.length cpd, .slice ao own.length co, .slice ad dv.length cpd] 22)) := Blk.new wa4 _ _
                have hBol : hb < wa4.heap.size := hP.hlt
                have hBn := (Below.refl wa4.heap.size wa4).alloc (Nat.le_refl _) (.cells #[.slice ad dv.length cpd, .slice ao own.length co, .slice ad dv.length cpd] 22)
                have hP := hP.call hBn
                have hBc := hBc.call hBn
                have ho := ho.call hBn
                have hBy := hBy.call hBn
                refine hK _ _ (hP.mono (by omega)) ?_
                clear hK K hBn
                obtain ⟨bo, hbo⟩ : ∃ b, b = wa4.heap.size := ⟨_, rfl⟩
                rw [← hbo] at hBo hBol ⊢
                generalize wa4.alloc (.cells #[.slice ad dv.length cpd, .slice ao own.length co, .slice ad dv.length cpd] 22) = wa5 at *
                clear hbo
                refine mix_pur2 rfl (fun K hK => ?_)
                go_simp
                first | refine ⟨_, fun _ => rfl, hK _ ?_⟩ | refine hK _ ?_
                clear hK K
                refine mix_pur2 rfl (fun K hK => ?_)
                go_simp
                first | refine ⟨_, fun _ => rfl, hK _ ?_⟩ | refine hK _ ?_
                clear hK K
                refine mix_done2 ?_
                go_wp2_with fail
                go_meet
                exact ⟨bc, bo, by2, own, ao, co, u, rfl, rfl, rfl, hBc, hBo, hBy, ho.wide (fun _ _ _ => trivial), hol4, hu1, hu8, hP⟩
              · go_simp
                have hBo : Blk wa3.heap.size #[.slice ad dv.length cpd, .slice ao own.length co, .slice ad dv.length cpd] 22 (wa3.alloc (.cells #[.slice ad dv.length cpd, .slice ao own.length co, .slice ad dv.length cpd] 22)) := Blk.new wa3 _ _
                have hBol : hb < wa3.heap.size := hP.hlt
                have hBn := (Below.refl wa3.heap.size wa3).alloc (Nat.le_refl _) (.cells #[.slice ad dv.length cpd, .slice ao own.length co, .slice ad dv.length cpd] 22)
                have hP := hP.call hBn
                have ho := ho.call hBn
                have hBy := hBy.call hBn
                refine hK _ _ (hP.mono (by omega)) ?_
                clear hK K hBn
                obtain ⟨bo, hbo⟩ : ∃ b, b = wa3.heap.size := ⟨_, rfl⟩
                rw [← hbo] at hBo hBol ⊢
                generalize wa3.alloc (.cells #[.slice ad dv.length cpd, .slice ao own.length co, .slice ad dv.length cpd] 22) = wa4 at *
                clear hbo
                refine mix_eff2 rfl false rfl (fun K hK => ?_)
                go_simp
                have hBc : Blk wa4.heap.size #[.slice am c.mountains.length cpm, .slice av c.villages.length cpv, .slice mm md.mountains.length mmc, .slice mv md.villages.length mvc, .slice mm md.mountains.length mmc, .slice mv md.villages.length mvc] 25 (wa4.alloc (.cells #[.slice am c.mountains.length cpm, .slice av c.villages.length cpv, .slice mm md.mountains.length mmc, .slice mv md.villages.length mvc, .slice mm md.mountains.length mmc, .slice mv md.villages.length mvc] 25)) := Blk.new wa4 _ _
                have hBcl : hb < wa4.heap.size := hP.hlt
                have hBn := (Below.refl wa4.heap.size wa4).alloc (Nat.le_refl _) (.cells #[.slice am c.mountains.length cpm, .slice av c.villages.length cpv, .slice mm md.mountains.length mmc, .slice mv md.villages.length mvc, .slice mm md.mountains.length mmc, .slice mv md.villages.length mvc] 25)
                have hP := hP.call hBn
                have ho := ho.call hBn
                have hBo := hBo.call hBn
                have hBy := hBy.call hBn
                refine hK _ _ (hP.mono (by omega)) ?_
                clear hK K hBn
                obtain ⟨bc, hbc⟩ : ∃ b, b = wa4.heap.size := ⟨_, rfl⟩
                rw [← hbc] at hBc hBcl ⊢
                generalize wa4.alloc (.cells #[.slice am c.mountains.length cpm, .slice av c.villages.length cpv, .slice mm md.mountains.length mmc, .slice mv md.villages.length mvc, .slice mm md.mountains.length mmc, .slice mv md.villages.length mvc] 25) = wa5 at *
                clear hbc
                refine mix_pur2 rfl (fun K hK => ?_)
                go_simp
                first | refine ⟨_, fun _ => rfl, hK _ ?_⟩ | refine hK _ ?_
                clear hK K
                refine mix_pur2 rfl (fun K hK => ?_)
                go_simp
                first | refine ⟨_, fun _ => rfl, hK _ ?_⟩ | refine hK _ ?_
                clear hK K
                refine mix_pur2 rfl (fun K hK => ?_)
                go_simp
                first | refine ⟨_, fun _ => rfl, hK _ ?_⟩ | refine hK _ ?_
                clear hK K
                refine mix_done2 ?_
                go_wp2_with fail
                go_meet
                exact ⟨bc, bo, by2, own, ao, co, u, rfl, rfl, rfl, hBc, hBo, hBy, ho.wide (fun _ _ _ => trivial), hol4, hu1, hu8, hP⟩
      case rest =>
        obtain ⟨bc, bo, by2, own, ao, co, u, rfl, rfl, rfl, hBc, hBo, hBy, ho8, hol4, hu1, hu8, hP⟩ := hcut
        rename World => w8
        have hT8 := hP.below
        have hc8 := hc1.call hT8
        have hd8 := hd1.call hT8
        have hM8 := hP.md
        have hcl := hBc.lt
        have hdl8 := hBo.lt
        have hyl8 := hBy.lt
        have hrow : ∀ i, i < 3 → ∃ (cc : Com) (dd : List Int) (yy : Int) (ma va da : Option Addr) (mc vc dc : Nat), DrS bc (i * 2) (.slice ma cc.mountains.length mc) (.slice va cc.villages.length vc) bo i (.slice da dd.length dc) by2 yy w8 ∧ Cm (fun _ => True) w8 (.slice ma cc.mountains.length mc) (.slice va cc.villages.length vc) cc ∧ cc.Sm ∧ Ints (fun _ => True) w8 (.slice da dd.length dc) dd ∧ dd.length ≤ 1000 := by
          intro i hi
          have hi3 : i = 0 ∨ i = 1 ∨ i = 2 := by omega
          rcases hi3 with rfl | rfl | rfl
          · exact ⟨c, dv, ys, am, av, ad, cpm, cpv, cpd, ⟨hBc.cell 0, hBc.cell 1, hBo.cell 0, hBy.cell 0⟩, hc8.wide (fun _ _ _ => trivial), hsh.sm, hd8.wide (fun _ _ _ => trivial), by omega⟩
          · exact ⟨md, own, u, mm, mv, ao, mmc, mvc, co, ⟨hBc.cell 2, hBc.cell 3, hBo.cell 1, hBy.cell 1⟩, hM8.wide (fun _ _ _ => trivial), hok.sm (by omega), ho8, by omega⟩
          · exact ⟨md, dv, ys, mm, mv, ad, mmc, mvc, cpd, ⟨hBc.cell 4, hBc.cell 5, hBo.cell 2, hBy.cell 2⟩, hM8.wide (fun _ _ _ => trivial), hok.sm (by omega), hd8.wide (fun _ _ _ => trivial), by omega⟩
        have HROW := Lib.hid hrow
        clear hrow hBc hBo hBy hc8 hd8 hM8 ho8 hP hc1 hd1 hc4 hd4
        go_wp2_with fail
        go_loopw [14] (fun s wr => ∃ i : Nat, i ≤ 3 ∧ s = .int .i64 i ∧ Below w8.heap.size w8 wr) (fun s _ => 3 - (intOf s).toNat)
        case atStart => exact ⟨0, Nat.zero_le _, rfl, Below.refl _ _⟩
        case round =>
          obtain ⟨i, hi, rfl, hB⟩ := hrel
          by_cases hi3 : i < 3
          · obtain ⟨cc, dd, yy, ma, va, da, mc, vc, dc, hS8, hC8, hSm, hD8, hdd⟩ := HROW.out i hi3
            have hE : ∀ w', Below w8.heap.size w8 w' → (DrS bc (i * 2) (.slice ma cc.mountains.length mc) (.slice va cc.villages.length vc) bo i (.slice da dd.length dc) by2 yy) w' := fun w' h => ⟨(World.cell?_of_block (h.block bc hcl)).trans hS8.1, (World.cell?_of_block (h.block bc hcl)).trans hS8.2.1, (World.cell?_of_block (h.block bo hdl8)).trans hS8.2.2.1, (World.cell?_of_block (h.block by2 hyl8)).trans hS8.2.2.2⟩
            clear hS8
            go_upto_region 9 with fail
            go_cut [15, 16] (fun s18 s19 wx => ∃ (X : Nat) (amx avx adx : Option Addr) (cmx cvx cdx : Nat), s18 = .pointer (some ⟨X, 0, none⟩) ∧ s19 = (.slice adx dd.length cdx) ∧ Blk X #[(.slice amx cc.mountains.length cmx), (.slice avx cc.villages.length cvx)] 25 wx ∧ Cm (fun _ => True) wx (.slice amx cc.mountains.length cmx) (.slice avx cc.villages.length cvx) cc ∧ Ints (fun _ => True) wx (.slice adx dd.length cdx) dd ∧ Below w8.heap.size w8 wx)
            case first =>
              refine wp_region_mix2 (.pur 0 (.pur 1 (.pur 2 (.one 3 (.pur 5 (.pur 6 (.pur 7 (.one 8 (.two 4 (.two 9 (.act 10 (.act 11 (.act 12 .fin))) 10 (.act 9 (.act 11 (.act 12 .fin)))) 10 (.act 4 (.act 9 (.act 11 (.act 12 .fin))))))))))))) 99 (DrS bc (i * 2) (.slice ma cc.mountains.length mc) (.slice va cc.villages.length vc) bo i (.slice da dd.length dc) by2 yy) (fun _ => True) (by kernel_rfl) (by kernel_rfl) rfl (by kernel_rfl) (hE _ hB).drew (fun wd hqd _ => ?_)
              have hBq := hB.trans (hqd.below _)
              refine mix_pur2 rfl (fun K hK => ?_)
              go_simp
              first | refine ⟨_, fun _ => rfl, hK _ ?_⟩ | refine hK _ ?_
              clear hK K
              refine mix_pur2 rfl (fun K hK => ?_)
              go_simp
              first | refine ⟨_, fun _ => rfl, hK _ ?_⟩ | refine hK _ ?_
              clear hK K
              refine mix_pur2 rfl (fun K hK => ?_)
              go_simp
              first | refine ⟨_, fun _ => rfl, hK _ ?_⟩ | refine hK _ ?_
              clear hK K
              refine mix_loadg2 rfl rfl (.agg #[(.slice ma cc.mountains.length mc), (.slice va cc.villages.length vc)]) (by go_simp) (fun w' h => by have h : (DrS bc (i * 2) (.slice ma cc.mountains.length mc) (.slice va cc.villages.length vc) bo i (.slice da dd.length dc) by2 yy) w' := h; have h0 := h.1; have h1 := h.2.1; go_simp) rfl ?_
              refine mix_pur2 rfl (fun K hK => ?_)
              go_simp
              first | refine ⟨_, fun _ => rfl, hK _ ?_⟩ | refine hK _ ?_
              clear hK K
              refine mix_pur2 rfl (fun K hK => ?_)
              go_simp
              first | refine ⟨_, fun _ => rfl, hK _ ?_⟩ | refine hK _ ?_
              clear hK K
              refine mix_pur2 rfl (fun K hK => ?_)
              go_simp
              first | refine ⟨_, fun _ => rfl, hK _ ?_⟩ | refine hK _ ?_
              clear hK K
              refine mix_loadg2 rfl rfl (.slice da dd.length dc) (by go_simp) (fun w' h => by have h : (DrS bc (i * 2) (.slice ma cc.mountains.length mc) (.slice va cc.villages.length vc) bo i (.slice da dd.length dc) by2 yy) w' := h; have h0 := h.2.2.1; go_simp) rfl ?_
              refine mix_two2 rfl rfl false false rfl rfl (fun K hK => ?_) (fun K hK => ?_)
              · go_simp
                refine (copyCommons_c (hC8.call hBq) hSm).mono ?_
                rintro e wq0 ⟨mx, vx, rfl, hX, hBn⟩
                obtain ⟨amx, cmx, rfl, _, _⟩ := hX.1.shape
                obtain ⟨avx, cvx, rfl, _, _⟩ := hX.2.shape
                have hBq := hBq.trans (hBn.mono hBq.size)
                refine hK _ _ (hE _ hBq) ?_
                clear hK K hBn
                refine mix_two2 rfl rfl false false rfl rfl (fun K hK => ?_) (fun K hK => ?_)
                · go_simp
                  refine (copyInts_c (hD8.call hBq) (by omega)).mono ?_
                  rintro e wq1 ⟨dx, rfl, hDx, hBn⟩
                  obtain ⟨adx, cdx, rfl, _, _⟩ := hDx.shape
                  have hX := hX.call hBn
                  have hBq := hBq.trans (hBn.mono hBq.size)
                  refine hK _ _ (hE _ hBq) ?_
                  clear hK K hBn
                  refine mix_eff2 rfl false rfl (fun K hK => ?_)
                  go_simp
                  have hBn := (Below.refl wq1.heap.size wq1).alloc (Nat.le_refl _) (.cells #[.slice none 0 0, .slice none 0 0] 25)
                  have hXs : w8.heap.size ≤ wq1.heap.size := hBq.size
                  have hXb : Blk wq1.heap.size #[.slice none 0 0, .slice none 0 0] 25 (wq1.alloc (.cells #[.slice none 0 0, .slice none 0 0] 25)) := Blk.new wq1 _ _
                  have hX := (hX.wide (A' := fun b => b ≠ wq1.heap.size) (fun b _ hl => by omega)).call hBn
                  have hDx := (hDx.wide (A' := fun b => b ≠ wq1.heap.size) (fun b _ hl => by omega)).call hBn
                  have hBq := hBq.trans (hBn.mono hBq.size)
                  refine hK _ _ (hE _ hBq) ?_
                  clear hK K hBn
                  generalize wq1.alloc (.cells #[.slice none 0 0, .slice none 0 0] 25) = wa at *
                  refine mix_eff2 rfl false rfl (fun K hK => ?_)
                  obtain ⟨d0, d1, f0, f1⟩ := cells2_at hXb
                  go_simp
                  have hXb2 : Blk wq1.heap.size #[(.slice amx cc.mountains.length cmx), (.slice avx cc.villages.length cvx)] 25 ((wa.setCell ⟨wq1.heap.size, 0, none⟩ (.slice amx cc.mountains.length cmx)).setCell ⟨wq1.heap.size, 1, none⟩ (.slice avx cc.villages.length cvx)) := two_set hXb (.slice amx cc.mountains.length cmx) (.slice avx cc.villages.length cvx)
                  have hoth : ∀ k, k ≠ wq1.heap.size → ((wa.setCell ⟨wq1.heap.size, 0, none⟩ (.slice amx cc.mountains.length cmx)).setCell ⟨wq1.heap.size, 1, none⟩ (.slice avx cc.villages.length cvx)).heap[k]? = wa.heap[k]? := fun k hk => (Below.heap_setCell _ _ _ _ (show k ≠ wq1.heap.size from hk)).trans (Below.heap_setCell _ _ _ _ (show k ≠ wq1.heap.size from hk))
                  have hss : wa.heap.size ≤ ((wa.setCell ⟨wq1.heap.size, 0, none⟩ (.slice amx cc.mountains.length cmx)).setCell ⟨wq1.heap.size, 1, none⟩ (.slice avx cc.villages.length cvx)).heap.size := by simp [World.setCell]
                  have hX2 := hX.step hss (fun k hk _ => hoth k hk)
                  have hDx2 := hDx.step hss (fun k hk _ => hoth k hk)
                  have hBq2 : Below w8.heap.size w8 ((wa.setCell ⟨wq1.heap.size, 0, none⟩ (.slice amx cc.mountains.length cmx)).setCell ⟨wq1.heap.size, 1, none⟩ (.slice avx cc.villages.length cvx)) := (hBq.setCell (show w8.heap.size ≤ wq1.heap.size by omega) _).setCell (show w8.heap.size ≤ wq1.heap.size by omega) _
                  refine hK _ _ (hE _ hBq2) ?_
                  clear hK K d0 d1 f0 f1
                  refine mix_eff2 rfl false rfl (fun K hK => ?_)
                  go_simp
                  refine hK _ _ (hE _ hBq2) ?_
                  clear hK K
                  refine mix_done2 ?_
                  go_wp2_with fail
                  go_meet
                  exact ⟨wq1.heap.size, _, _, _, _, _, _, rfl, rfl, hXb2, hX2.wide (fun _ _ _ => trivial), hDx2.wide (fun _ _ _ => trivial), hBq2⟩
                · go_simp
                  have hBn := (Below.refl wq0.heap.size wq0).alloc (Nat.le_refl _) (.cells #[.slice none 0 0, .slice none 0 0] 25)
                  have hXs : w8.heap.size ≤ wq0.heap.size := hBq.size
                  have hXb : Blk wq0.heap.size #[.slice none 0 0, .slice none 0 0] 25 (wq0.alloc (.cells #[.slice none 0 0, .slice none 0 0] 25)) := Blk.new wq0 _ _
                  have hX := (hX.wide (A' := fun b => b ≠ wq0.heap.size) (fun b _ hl => by omega)).call hBn
                  have hBq := hBq.trans (hBn.mono hBq.size)
                  refine hK _ _ (hE _ hBq) ?_
                  clear hK K hBn
                  generalize wq0.alloc (.cells #[.slice none 0 0, .slice none 0 0] 25) = wa at *
                  refine mix_eff2 rfl false rfl (fun K hK => ?_)
                  go_simp
                  refine (copyInts_c (hD8.call hBq) (by omega)).mono ?_
                  rintro e wq2 ⟨dx, rfl, hDx, hBn⟩
                  obtain ⟨adx, cdx, rfl, _, _⟩ := hDx.shape
                  have hX := hX.call hBn
                  have hXl := hXb.lt
                  have hXb := hXb.call hBn
                  have hDx := hDx.wide (A' := fun b => b ≠ wq0.heap.size) (fun b hb _ => by omega)
                  clear hXl
                  have hBq := hBq.trans (hBn.mono hBq.size)
                  refine hK _ _ (hE _ hBq) ?_
                  clear hK K hBn
                  refine mix_eff2 rfl false rfl (fun K hK => ?_)
                  obtain ⟨d0, d1, f0, f1⟩ := cells2_at hXb
                  go_simp
                  have hXb2 : Blk wq0.heap.size #[(.slice amx cc.mountains.length cmx), (.slice avx cc.villages.length cvx)] 25 ((wq2.setCell ⟨wq0.heap.size, 0, none⟩ (.slice amx cc.mountains.length cmx)).setCell ⟨wq0.heap.size, 1, none⟩ (.slice avx cc.villages.length cvx)) := two_set hXb (.slice amx cc.mountains.length cmx) (.slice avx cc.villages.length cvx)
                  have hoth : ∀ k, k ≠ wq0.heap.size → ((wq2.setCell ⟨wq0.heap.size, 0, none⟩ (.slice amx cc.mountains.length cmx)).setCell ⟨wq0.heap.size, 1, none⟩ (.slice avx cc.villages.length cvx)).heap[k]? = wq2.heap[k]? := fun k hk => (Below.heap_setCell _ _ _ _ (show k ≠ wq0.heap.size from hk)).trans (Below.heap_setCell _ _ _ _ (show k ≠ wq0.heap.size from hk))
                  have hss : wq2.heap.size ≤ ((wq2.setCell ⟨wq0.heap.size, 0, none⟩ (.slice amx cc.mountains.length cmx)).setCell ⟨wq0.heap.size, 1, none⟩ (.slice avx cc.villages.length cvx)).heap.size := by simp [World.setCell]
                  have hX2 := hX.step hss (fun k hk _ => hoth k hk)
                  have hDx2 := hDx.step hss (fun k hk _ => hoth k hk)
                  have hBq2 : Below w8.heap.size w8 ((wq2.setCell ⟨wq0.heap.size, 0, none⟩ (.slice amx cc.mountains.length cmx)).setCell ⟨wq0.heap.size, 1, none⟩ (.slice avx cc.villages.length cvx)) := (hBq.setCell (show w8.heap.size ≤ wq0.heap.size by omega) _).setCell (show w8.heap.size ≤ wq0.heap.size by omega) _
                  refine hK _ _ (hE _ hBq2) ?_
                  clear hK K d0 d1 f0 f1
                  refine mix_eff2 rfl false rfl (fun K hK => ?_)
                  go_simp
                  refine hK _ _ (hE _ hBq2) ?_
                  clear hK K
                  refine mix_done2 ?_
                  go_wp2_with fail
                  go_meet
                  exact ⟨wq0.heap.size, _, _, _, _, _, _, rfl, rfl, hXb2, hX2.wide (fun _ _ _ => trivial), hDx2.wide (fun _ _ _ => trivial), hBq2⟩
              · go_simp
                have hBn := (Below.refl wd.heap.size wd).alloc (Nat.le_refl _) (.cells #[.slice none 0 0, .slice none 0 0] 25)
                have hXs : w8.heap.size ≤ wd.heap.size := hBq.size
                have hXb : Blk wd.heap.size #[.slice none 0 0, .slice none 0 0] 25 (wd.alloc (.cells #[.slice none 0 0, .slice none 0 0] 25)) := Blk.new wd _ _
                have hBq := hBq.trans (hBn.mono hBq.size)
                refine hK _ _ (hE _ hBq) ?_
                clear hK K hBn
                generalize wd.alloc (.cells #[.slice none 0 0, .slice none 0 0] 25) = wa at *
                refine mix_eff2 rfl false rfl (fun K hK => ?_)
                go_simp
                refine (copyCommons_c (hC8.call hBq) hSm).mono ?_
                rintro e wq1 ⟨mx, vx, rfl, hX, hBn⟩
                obtain ⟨amx, cmx, rfl, _, _⟩ := hX.1.shape
                obtain ⟨avx, cvx, rfl, _, _⟩ := hX.2.shape
                have hXl := hXb.lt
                have hXb := hXb.call hBn
                have hX := hX.wide (A' := fun b => b ≠ wd.heap.size) (fun b hb _ => by omega)
                clear hXl
                have hBq := hBq.trans (hBn.mono hBq.size)
                refine hK _ _ (hE _ hBq) ?_
                clear hK K hBn
                refine mix_eff2 rfl false rfl (fun K hK => ?_)
                go_simp
                refine (copyInts_c (hD8.call hBq) (by omega)).mono ?_
                rintro e wq2 ⟨dx, rfl, hDx, hBn⟩
                obtain ⟨adx, cdx, rfl, _, _⟩ := hDx.shape
                have hX := hX.call hBn
                have hXl := hXb.lt
                have hXb := hXb.call hBn
                have hDx := hDx.wide (A' := fun b => b ≠ wd.heap.size) (fun b hb _ => by omega)
                clear hXl
                have hBq := hBq.trans (hBn.mono hBq.size)
                refine hK _ _ (hE _ hBq) ?_
                clear hK K hBn
                refine mix_eff2 rfl false rfl (fun K hK => ?_)
                obtain ⟨d0, d1, f0, f1⟩ := cells2_at hXb
                go_simp
                have hXb2 : Blk wd.heap.size #[(.slice amx cc.mountains.length cmx), (.slice avx cc.villages.length cvx)] 25 ((wq2.setCell ⟨wd.heap.size, 0, none⟩ (.slice amx cc.mountains.length cmx)).setCell ⟨wd.heap.size, 1, none⟩ (.slice avx cc.villages.length cvx)) := two_set hXb (.slice amx cc.mountains.length cmx) (.slice avx cc.villages.length cvx)
                have hoth : ∀ k, k ≠ wd.heap.size → ((wq2.setCell ⟨wd.heap.size, 0, none⟩ (.slice amx cc.mountains.length cmx)).setCell ⟨wd.heap.size, 1, none⟩ (.slice avx cc.villages.length cvx)).heap[k]? = wq2.heap[k]? := fun k hk => (Below.heap_setCell _ _ _ _ (show k ≠ wd.heap.size from hk)).trans (Below.heap_setCell _ _ _ _ (show k ≠ wd.heap.size from hk))
                have hss : wq2.heap.size ≤ ((wq2.setCell ⟨wd.heap.size, 0, none⟩ (.slice amx cc.mountains.length cmx)).setCell ⟨wd.heap.size, 1, none⟩ (.slice avx cc.villages.length cvx)).heap.size := by simp [World.setCell]
                have hX2 := hX.step hss (fun k hk _ => hoth k hk)
                have hDx2 := hDx.step hss (fun k hk _ => hoth k hk)
                have hBq2 : Below w8.heap.size w8 ((wq2.setCell ⟨wd.heap.size, 0, none⟩ (.slice amx cc.mountains.length cmx)).setCell ⟨wd.heap.size, 1, none⟩ (.slice avx cc.villages.length cvx)) := (hBq.setCell (show w8.heap.size ≤ wd.heap.size by omega) _).setCell (show w8.heap.size ≤ wd.heap.size by omega) _
                refine hK _ _ (hE _ hBq2) ?_
                clear hK K d0 d1 f0 f1
                refine mix_eff2 rfl false rfl (fun K hK => ?_)
                go_simp
                refine hK _ _ (hE _ hBq2) ?_
                clear hK K
                refine mix_done2 ?_
                go_wp2_with fail
                go_meet
                exact ⟨wd.heap.size, _, _, _, _, _, _, rfl, rfl, hXb2, hX2.wide (fun _ _ _ => trivial), hDx2.wide (fun _ _ _ => trivial), hBq2⟩
            case rest =>
              obtain ⟨X, amx, avx, adx, cmx, cvx, cdx, rfl, rfl, hXb, hX, hDx, hB9⟩ := hcut
              rename World => w9
              have c0 := hXb.cell 0
              have c1 := hXb.cell 1
              have htr := drawR_c hX hDx
              have HTR := Lib.hid htr
              clear htr
              go_wp2_with fail
              clear c0 c1
              refine HTR.out.mono ?_
              rintro e w10 ⟨v20, rfl, h20, hB10a⟩
              have hB10 := hB9.trans (hB10a.mono hB9.size)
              have hXb10 := hXb.call hB10a
              have hX10 := hX.call hB10a
              have hDx10 := hDx.call hB10a
              clear HTR hXb hX hDx
              go_wp2_with fail
              refine wp_region_mix2 (.pur 0 (.pur 1 (.pur 2 (.one 3 (.pur 4 (.pur 5 (.pur 6 (.one 7 (.act 8 (.pur 9 (.pur 10 (.pur 11 (.pur 12 (.pur 13 .fin)))))))))))))) 99 (DrS bc (i * 2) (.slice ma cc.mountains.length mc) (.slice va cc.villages.length vc) bo i (.slice da dd.length dc) by2 yy) (fun _ => True) (by kernel_rfl) (by kernel_rfl) rfl (by kernel_rfl) (hE _ hB10).drew (fun wd hqd _ => ?_)
              have hBd := hB10.trans (hqd.below _)
              refine mix_pur2 rfl (fun K hK => ?_)
              go_simp
              first | refine ⟨_, fun _ => rfl, hK _ ?_⟩ | refine hK _ ?_
              clear hK K
              refine mix_pur2 rfl (fun K hK => ?_)
              go_simp
              first | refine ⟨_, fun _ => rfl, hK _ ?_⟩ | refine hK _ ?_
              clear hK K
              refine mix_pur2 rfl (fun K hK => ?_)
              go_simp
              first | refine ⟨_, fun _ => rfl, hK _ ?_⟩ | refine hK _ ?_
              clear hK K
              refine mix_loadg2 rfl rfl (.agg #[(.slice ma cc.mountains.length mc), (.slice va cc.villages.length vc)]) (by go_simp) (fun w' h => by have h : (DrS bc (i * 2) (.slice ma cc.mountains.length mc) (.slice va cc.villages.length vc) bo i (.slice da dd.length dc) by2 yy) w' := h; have h0 := h.1; have h1 := h.2.1; go_simp) rfl ?_
              refine mix_pur2 rfl (fun K hK => ?_)
              go_simp
              first | refine ⟨_, fun _ => rfl, hK _ ?_⟩ | refine hK _ ?_
              clear hK K
              refine mix_pur2 rfl (fun K hK => ?_)
              go_simp
              first | refine ⟨_, fun _ => rfl, hK _ ?_⟩ | refine hK _ ?_
              clear hK K
              refine mix_pur2 rfl (fun K hK => ?_)
              go_simp
              first | refine ⟨_, fun _ => rfl, hK _ ?_⟩ | refine hK _ ?_
              clear hK K
              refine mix_loadg2 rfl rfl (.slice da dd.length dc) (by go_simp) (fun w' h => by have h : (DrS bc (i * 2) (.slice ma cc.mountains.length mc) (.slice va cc.villages.length vc) bo i (.slice da dd.length dc) by2 yy) w' := h; have h0 := h.2.2.1; go_simp) rfl ?_
              refine mix_eff2 rfl false rfl (fun K hK => ?_)
              go_simp
              refine (rdrawR_c (hC8.call hBd) (hD8.call hBd)).mono ?_
              rintro e w11 ⟨v22, rfl, h22, hB11⟩
              have hB11' := hBd.trans (hB11.mono hBd.size)
              refine hK _ _ (hE _ hB11') ?_
              clear hK K
              refine mix_pur2 rfl (fun K hK => ?_)
              go_simp
              first | refine ⟨_, fun _ => rfl, hK _ ?_⟩ | refine hK _ ?_
              clear hK K
              refine mix_pur2 rfl (fun K hK => ?_)
              go_simp
              first | refine ⟨_, fun _ => rfl, hK _ ?_⟩ | refine hK _ ?_
              clear hK K
              refine mix_pur2 rfl (fun K hK => ?_)
              go_simp
              first | refine ⟨_, fun _ => rfl, hK _ ?_⟩ | refine hK _ ?_
              clear hK K
              refine mix_pur2 rfl (fun K hK => ?_)
              go_simp
              first | refine ⟨_, fun _ => rfl, hK _ ?_⟩ | refine hK _ ?_
              clear hK K
              refine mix_pur2 rfl (fun K hK => ?_)
              go_simp
              first | refine ⟨_, fun _ => rfl, hK _ ?_⟩ | refine hK _ ?_
              clear hK K
              refine mix_done2 ?_
              have hBd := hqd.below w10.heap.size
              have hB11a : Below w10.heap.size w10 w11 := hBd.trans (hB11.mono hBd.size)
              have hXb11 := hXb10.call hB11a
              have hX11 := hX10.call hB11a
              have hDx11 := hDx10.call hB11a
              have h20b := h20.call hB11a
              clear hXb10 hX10 hDx10 h20 hqd hBd hB11
              have hF11 : ∀ w', Below w11.heap.size w11 w' → (DrX bc (i * 2) (.slice ma cc.mountains.length mc) (.slice va cc.villages.length vc) bo i (.slice da dd.length dc) by2 yy X (.slice amx cc.mountains.length cmx) (.slice avx cc.villages.length cvx)) w' := fun w' h => ⟨hE w' (hB11'.trans (h.mono hB11'.size)), hXb11.call h⟩
              go_wp2_with fail
              refine wp_region_mix2 (.one 0 (.pur 1 (.pur 2 (.pur 3 (.one 4 (.act 5 (.pur 6 (.pur 7 (.pur 8 (.pur 9 (.pur 10 .fin))))))))))) 99 (DrX bc (i * 2) (.slice ma cc.mountains.length mc) (.slice va cc.villages.length vc) bo i (.slice da dd.length dc) by2 yy X (.slice amx cc.mountains.length cmx) (.slice avx cc.villages.length cvx)) (fun _ => True) (by kernel_rfl) (by kernel_rfl) rfl (by kernel_rfl) (hF11 _ (Below.refl _ _)).drew (fun wd hqd _ => ?_)
              refine mix_loadg2 rfl rfl (.agg #[(.slice amx cc.mountains.length cmx), (.slice avx cc.villages.length cvx)]) (by go_simp) (fun w' h => by have h : (DrX bc (i * 2) (.slice ma cc.mountains.length mc) (.slice va cc.villages.length vc) bo i (.slice da dd.length dc) by2 yy X (.slice amx cc.mountains.length cmx) (.slice avx cc.villages.length cvx)) w' := h; have h0 := h.2.cell 0; have h1 := h.2.cell 1; go_simp) rfl ?_
              refine mix_pur2 rfl (fun K hK => ?_)
              go_simp
              first | refine ⟨_, fun _ => rfl, hK _ ?_⟩ | refine hK _ ?_
              clear hK K
              refine mix_pur2 rfl (fun K hK => ?_)
              go_simp
              first | refine ⟨_, fun _ => rfl, hK _ ?_⟩ | refine hK _ ?_
              clear hK K
              refine mix_pur2 rfl (fun K hK => ?_)
              go_simp
              first | refine ⟨_, fun _ => rfl, hK _ ?_⟩ | refine hK _ ?_
              clear hK K
              refine mix_loadg2 rfl rfl (.int .i64 yy) (by go_simp) (fun w' h => by have h : (DrX bc (i * 2) (.slice ma cc.mountains.length mc) (.slice va cc.villages.length vc) bo i (.slice da dd.length dc) by2 yy X (.slice amx cc.mountains.length cmx) (.slice avx cc.villages.length cvx)) w' := h; have h0 := h.1.2.2.2; go_simp) rfl ?_
              refine mix_eff2 rfl false rfl (fun K hK => ?_)
              go_simp
              refine (years_c (hX11.call (hqd.below _)) yy).mono ?_
              rintro e w12 ⟨v24, rfl, h24, hB12a⟩
              have hB12b : Below w11.heap.size w11 w12 := (hqd.below _).trans (hB12a.mono (hqd.below w11.heap.size).size)
              refine hK _ _ (hF11 _ hB12b) ?_
              clear hK K
              refine mix_pur2 rfl (fun K hK => ?_)
              go_simp
              first | refine ⟨_, fun _ => rfl, hK _ ?_⟩ | refine hK _ ?_
              clear hK K
              refine mix_pur2 rfl (fun K hK => ?_)
              go_simp
              first | refine ⟨_, fun _ => rfl, hK _ ?_⟩ | refine hK _ ?_
              clear hK K
              refine mix_pur2 rfl (fun K hK => ?_)
              go_simp
              first | refine ⟨_, fun _ => rfl, hK _ ?_⟩ | refine hK _ ?_
              clear hK K
              refine mix_pur2 rfl (fun K hK => ?_)
              go_simp
              first | refine ⟨_, fun _ => rfl, hK _ ?_⟩ | refine hK _ ?_
              clear hK K
              refine mix_pur2 rfl (fun K hK => ?_)
              go_simp
              first | refine ⟨_, fun _ => rfl, hK _ ?_⟩ | refine hK _ ?_
              clear hK K
              refine mix_done2 ?_
              have hB12 := hB11'.trans (hB12b.mono hB11'.size)
              have hXb12 := hXb11.call hB12b
              have hX12 := hX11.call hB12b
              have hDx12 := hDx11.call hB12b
              have h20c := h20b.call hB12b
              have h22c := h22.call hB12b
              clear hXb11 hX11 hDx11 h20b h22 hqd hB12a hF11
              go_wp2_with fail
              refine wp_region_mix2 (.pur 0 (.pur 1 (.pur 2 (.one 3 (.pur 4 (.pur 5 (.pur 6 (.one 7 (.act 8 (.pur 9 (.pur 10 (.pur 11 (.pur 12 (.pur 13 .fin)))))))))))))) 99 (DrS bc (i * 2) (.slice ma cc.mountains.length mc) (.slice va cc.villages.length vc) bo i (.slice da dd.length dc) by2 yy) (fun _ => True) (by kernel_rfl) (by kernel_rfl) rfl (by kernel_rfl) (hE _ hB12).drew (fun wd hqd _ => ?_)
              have hBd := hB12.trans (hqd.below _)
              refine mix_pur2 rfl (fun K hK => ?_)
              go_simp
              first | refine ⟨_, fun _ => rfl, hK _ ?_⟩ | refine hK _ ?_
              clear hK K
              refine mix_pur2 rfl (fun K hK => ?_)
              go_simp
              first | refine ⟨_, fun _ => rfl, hK _ ?_⟩ | refine hK _ ?_
              clear hK K
              refine mix_pur2 rfl (fun K hK => ?_)
              go_simp
              first | refine ⟨_, fun _ => rfl, hK _ ?_⟩ | refine hK _ ?_
              clear hK K
              refine mix_loadg2 rfl rfl (.agg #[(.slice ma cc.mountains.length mc), (.slice va cc.villages.length vc)]) (by go_simp) (fun w' h => by have h : (DrS bc (i * 2) (.slice ma cc.mountains.length mc) (.slice va cc.villages.length vc) bo i (.slice da dd.length dc) by2 yy) w' := h; have h0 := h.1; have h1 := h.2.1; go_simp) rfl ?_
              refine mix_pur2 rfl (fun K hK => ?_)
              go_simp
              first | refine ⟨_, fun _ => rfl, hK _ ?_⟩ | refine hK _ ?_
              clear hK K
              refine mix_pur2 rfl (fun K hK => ?_)
              go_simp
              first | refine ⟨_, fun _ => rfl, hK _ ?_⟩ | refine hK _ ?_
              clear hK K
              refine mix_pur2 rfl (fun K hK => ?_)
              go_simp
              first | refine ⟨_, fun _ => rfl, hK _ ?_⟩ | refine hK _ ?_
              clear hK K
              refine mix_loadg2 rfl rfl (.int .i64 yy) (by go_simp) (fun w' h => by have h : (DrS bc (i * 2) (.slice ma cc.mountains.length mc) (.slice va cc.villages.length vc) bo i (.slice da dd.length dc) by2 yy) w' := h; have h0 := h.2.2.2; go_simp) rfl ?_
              refine mix_eff2 rfl false rfl (fun K hK => ?_)
              go_simp
              refine (ryears_c (hC8.call hBd) yy).mono ?_
              rintro e wz ⟨v27, rfl, h27, hB13⟩
              have hB13' := hBd.trans (hB13.mono hBd.size)
              refine hK _ _ (hE _ hB13') ?_
              clear hK K
              refine mix_pur2 rfl (fun K hK => ?_)
              go_simp
              first | refine ⟨_, fun _ => rfl, hK _ ?_⟩ | refine hK _ ?_
              clear hK K
              refine mix_pur2 rfl (fun K hK => ?_)
              go_simp
              first | refine ⟨_, fun _ => rfl, hK _ ?_⟩ | refine hK _ ?_
              clear hK K
              refine mix_pur2 rfl (fun K hK => ?_)
              go_simp
              first | refine ⟨_, fun _ => rfl, hK _ ?_⟩ | refine hK _ ?_
              clear hK K
              refine mix_pur2 rfl (fun K hK => ?_)
              go_simp
              first | refine ⟨_, fun _ => rfl, hK _ ?_⟩ | refine hK _ ?_
              clear hK K
              refine mix_pur2 rfl (fun K hK => ?_)
              go_simp
              first | refine ⟨_, fun _ => rfl, hK _ ?_⟩ | refine hK _ ?_
              clear hK K
              refine mix_done2 ?_
              have hBd := hqd.below w12.heap.size
              have hB13a : Below w12.heap.size w12 wz := hBd.trans (hB13.mono hBd.size)
              have hXbz := hXb12.call hB13a
              have hXz := hX12.call hB13a
              have hDz := hDx12.call hB13a
              have hr20 := h20c.call hB13a
              have hr22 := h22c.call hB13a
              have hr24 := h24.call hB13a
              have hr27 := h27
              clear hXb12 hX12 hDx12 h20c h22c h24 h27 hqd hBd hB13 hB13a
              have hBz := hB13'
              have hF : ∀ w', Below wz.heap.size wz w' → (DrX bc (i * 2) (.slice ma cc.mountains.length mc) (.slice va cc.villages.length vc) bo i (.slice da dd.length dc) by2 yy X (.slice amx cc.mountains.length cmx) (.slice avx cc.villages.length cvx)) w' := fun w' h => ⟨hE w' (hBz.trans (h.mono hBz.size)), hXbz.call h⟩
              have bd0 : (divE cc dd != divE cc dd) = false := by simp
              have bd1 : (yrsE cc yy != yrsE cc yy) = false := by simp
              go_wp2_with fail
              refine wp_region_mix2 (.pur 0 (.pur 1 (.pur 2 (.pur 3 (.pur 4 (.pur 5 (.pur 6 (.pur 7 (.pur 8 (.pur 9 (.pur 10 (.act 11 (.pur 12 (.pur 13 (.pur 14 (.pur 15 (.pur 16 (.act 17 (.pur 18 (.pur 19 (.pur 20 (.pur 21 (.pur 22 (.pur 23 (.pur 24 (.one 25 (.act 26 (.pur 27 (.pur 28 (.pur 29 (.one 30 (.pur 31 (.pur 32 (.pur 33 (.one 34 (.act 35 (.pur 36 (.pur 37 .fin)))))))))))))))))))))))))))))))))))))) 99 (DrX bc (i * 2) (.slice ma cc.mountains.length mc) (.slice va cc.villages.length vc) bo i (.slice da dd.length dc) by2 yy X (.slice amx cc.mountains.length cmx) (.slice avx cc.villages.length cvx)) (fun _ => True) (by kernel_rfl) (by kernel_rfl) rfl (by kernel_rfl) (hF _ (Below.refl _ _)).drew (fun wd hqd _ => ?_)
              have z0 : Below wz.heap.size wz wd := hqd.below _
              refine mix_pur2 rfl (fun K hK => ?_)
              go_simp
              first | refine ⟨_, fun _ => rfl, hK _ ?_⟩ | refine hK _ ?_
              clear hK K
              refine mix_pur2 rfl (fun K hK => ?_)
              go_simp
              first | refine ⟨_, fun _ => rfl, hK _ ?_⟩ | refine hK _ ?_
              clear hK K
              refine mix_pur2 rfl (fun K hK => ?_)
              go_simp
              first | refine ⟨_, fun _ => rfl, hK _ ?_⟩ | refine hK _ ?_
              clear hK K
              refine mix_pur2 rfl (fun K hK => ?_)
              go_simp
              first | refine ⟨_, fun _ => rfl, hK _ ?_⟩ | refine hK _ ?_
              clear hK K
              refine mix_pur2 rfl (fun K hK => ?_)
              go_simp
              first | refine ⟨_, fun _ => rfl, hK _ ?_⟩ | refine hK _ ?_
              clear hK K
              refine mix_pur2 rfl (fun K hK => ?_)
              go_simp
              first | refine ⟨_, fun _ => rfl, hK _ ?_⟩ | refine hK _ ?_
              clear hK K
              refine mix_pur2 rfl (fun K hK => ?_)
              go_simp
              first | refine ⟨_, fun _ => rfl, hK _ ?_⟩ | refine hK _ ?_
              clear hK K
              refine mix_pur2 rfl (fun K hK => ?_)
              go_simp
              first | refine ⟨_, fun _ => rfl, hK _ ?_⟩ | refine hK _ ?_
              clear hK K
              refine mix_pur2 rfl (fun K hK => ?_)
              go_simp
              first | refine ⟨_, fun _ => rfl, hK _ ?_⟩ | refine hK _ ?_
              clear hK K
              refine mix_pur2 rfl (fun K hK => ?_)
              go_simp
              first | refine ⟨_, fun _ => rfl, hK _ ?_⟩ | refine hK _ ?_
              clear hK K
              refine mix_pur2 rfl (fun K hK => ?_)
              go_simp
              first | refine ⟨_, fun _ => rfl, hK _ ?_⟩ | refine hK _ ?_
              clear hK K
              refine mix_eff2 rfl false rfl (fun K hK => ?_)
              go_simp
              refine (sameInts_t (hr20.call z0) (hr22.call z0)).mono ?_
              rintro e y1 ⟨rfl, hy1⟩
              have z1 := z0.trans (hy1.mono z0.size)
              refine hK _ _ (hF _ z1) ?_
              clear hK K
              refine mix_pur2 rfl (fun K hK => ?_)
              go_simp
              first | refine ⟨_, fun _ => rfl, hK _ ?_⟩ | refine hK _ ?_
              clear hK K
              refine mix_pur2 rfl (fun K hK => ?_)
              go_simp
              first | refine ⟨_, fun _ => rfl, hK _ ?_⟩ | refine hK _ ?_
              clear hK K
              refine mix_pur2 rfl (fun K hK => ?_)
              go_simp
              first | refine ⟨_, fun _ => rfl, hK _ ?_⟩ | refine hK _ ?_
              clear hK K
              refine mix_pur2 rfl (fun K hK => ?_)
              go_simp
              first | refine ⟨_, fun _ => rfl, hK _ ?_⟩ | refine hK _ ?_
              clear hK K
              refine mix_pur2 rfl (fun K hK => ?_)
              go_simp
              first | refine ⟨_, fun _ => rfl, hK _ ?_⟩ | refine hK _ ?_
              clear hK K
              refine mix_eff2 rfl false rfl (fun K hK => ?_)
              go_simp
              refine (sameGrids_t (hr24.call z1) (hr27.call z1)).mono ?_
              rintro e y2 ⟨rfl, hy2⟩
              have z2 := z1.trans (hy2.mono z1.size)
              refine hK _ _ (hF _ z2) ?_
              clear hK K
              refine mix_pur2 rfl (fun K hK => ?_)
              go_simp
              first | refine ⟨_, fun _ => rfl, hK _ ?_⟩ | refine hK _ ?_
              clear hK K
              refine mix_pur2 rfl (fun K hK => ?_)
              go_simp
              first | refine ⟨_, fun _ => rfl, hK _ ?_⟩ | refine hK _ ?_
              clear hK K
              refine mix_pur2 rfl (fun K hK => ?_)
              go_simp
              first | refine ⟨_, fun _ => rfl, hK _ ?_⟩ | refine hK _ ?_
              clear hK K
              refine mix_pur2 rfl (fun K hK => ?_)
              go_simp
              first | refine ⟨_, fun _ => rfl, hK _ ?_⟩ | refine hK _ ?_
              clear hK K
              refine mix_pur2 rfl (fun K hK => ?_)
              go_simp
              first | refine ⟨_, fun _ => rfl, hK _ ?_⟩ | refine hK _ ?_
              clear hK K
              refine mix_pur2 rfl (fun K hK => ?_)
              go_simp
              first | refine ⟨_, fun _ => rfl, hK _ ?_⟩ | refine hK _ ?_
              clear hK K
              refine mix_pur2 rfl (fun K hK => ?_)
              go_simp
              first | refine ⟨_, fun _ => rfl, hK _ ?_⟩ | refine hK _ ?_
              clear hK K
              refine mix_loadg2 rfl rfl (.slice da dd.length dc) (by go_simp) (fun w' h => by have h : (DrX bc (i * 2) (.slice ma cc.mountains.length mc) (.slice va cc.villages.length vc) bo i (.slice da dd.length dc) by2 yy X (.slice amx cc.mountains.length cmx) (.slice avx cc.villages.length cvx)) w' := h; have h0 := h.1.2.2.1; go_simp) rfl ?_
              refine mix_eff2 rfl false rfl (fun K hK => ?_)
              go_simp
              refine (sameInts_t (hDz.call z2) ((hD8.call hBz).call z2)).mono ?_
              rintro e y3 ⟨rfl, hy3⟩
              have z3 := z2.trans (hy3.mono z2.size)
              refine hK _ _ (hF _ z3) ?_
              clear hK K
              refine mix_pur2 rfl (fun K hK => ?_)
              go_simp
              first | refine ⟨_, fun _ => rfl, hK _ ?_⟩ | refine hK _ ?_
              clear hK K
              refine mix_pur2 rfl (fun K hK => ?_)
              go_simp
              first | refine ⟨_, fun _ => rfl, hK _ ?_⟩ | refine hK _ ?_
              clear hK K
              refine mix_pur2 rfl (fun K hK => ?_)
              go_simp
              first | refine ⟨_, fun _ => rfl, hK _ ?_⟩ | refine hK _ ?_
              clear hK K
              refine mix_loadg2 rfl rfl (.agg #[(.slice amx cc.mountains.length cmx), (.slice avx cc.villages.length cvx)]) (by go_simp) (fun w' h => by have h : (DrX bc (i * 2) (.slice ma cc.mountains.length mc) (.slice va cc.villages.length vc) bo i (.slice da dd.length dc) by2 yy X (.slice amx cc.mountains.length cmx) (.slice avx cc.villages.length cvx)) w' := h; have h0 := h.2.cell 0; have h1 := h.2.cell 1; go_simp) rfl ?_
              refine mix_pur2 rfl (fun K hK => ?_)
              go_simp
              first | refine ⟨_, fun _ => rfl, hK _ ?_⟩ | refine hK _ ?_
              clear hK K
              refine mix_pur2 rfl (fun K hK => ?_)
              go_simp
              first | refine ⟨_, fun _ => rfl, hK _ ?_⟩ | refine hK _ ?_
              clear hK K
              refine mix_pur2 rfl (fun K hK => ?_)
              go_simp
              first | refine ⟨_, fun _ => rfl, hK _ ?_⟩ | refine hK _ ?_
              clear hK K
              refine mix_loadg2 rfl rfl (.agg #[(.slice ma cc.mountains.length mc), (.slice va cc.villages.length vc)]) (by go_simp) (fun w' h => by have h : (DrX bc (i * 2) (.slice ma cc.mountains.length mc) (.slice va cc.villages.length vc) bo i (.slice da dd.length dc) by2 yy X (.slice amx cc.mountains.length cmx) (.slice avx cc.villages.length cvx)) w' := h; have h0 := h.1.1; have h1 := h.1.2.1; go_simp) rfl ?_
              refine mix_eff2 rfl false rfl (fun K hK => ?_)
              go_simp
              refine (sameCommons_t (hXz.call z3) ((hC8.call hBz).call z3)).mono ?_
              rintro e y4 ⟨rfl, hy4⟩
              have z4 := z3.trans (hy4.mono z3.size)
              refine hK _ _ (hF _ z4) ?_
              clear hK K
              refine mix_pur2 rfl (fun K hK => ?_)
              go_simp
              first | refine ⟨_, fun _ => rfl, hK _ ?_⟩ | refine hK _ ?_
              clear hK K
              refine mix_pur2 rfl (fun K hK => ?_)
              go_simp
              first | refine ⟨_, fun _ => rfl, hK _ ?_⟩ | refine hK _ ?_
              clear hK K
              refine mix_done2 ?_
              go_wp2_with fail
              go_roundw
              case rel => exact ⟨i + 1, by omega, by go_num, hBz.trans (z4.mono hBz.size)⟩
              case measure => simp [intOf]; omega
          · obtain rfl : i = 3 := by omega
            go_wp2_with (go_at_call 21; refine (drawn_c _).mono ?_; rintro e wz ⟨rfl, hBz⟩)
            go_ret
            exact ⟨rfl, bnx hT1 (bnx hT8 (bnx hB hBz))⟩
    · have b1 : decide ((dv.length : Int) > 20) = true := decide_eq_true (by omega)
      go_wp2_with (go_at_call 21; refine (drawn_c _).mono ?_; rintro e wz ⟨rfl, hBz⟩)
      go_ret
      exact ⟨rfl, bnx hT1 hBz⟩

end Go.Proofs.Ythchpoabncdicaa
