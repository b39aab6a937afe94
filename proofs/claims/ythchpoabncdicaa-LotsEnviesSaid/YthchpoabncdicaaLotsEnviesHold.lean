/- LotsEnvies hands back true for all arguments, which read afterwards as before; conditions: none. -/
import Derived.Test.YthchpoabncdicaaRows
import Derived.Test.YthchpoabncdicaaGrp5
import Derived.Test.YthchpoabncdicaaPre1
import Derived.Great.BuildSlice
import Derived.Test.YthchpoabncdicaaShort
import Derived.Test.YthchpoabncdicaaLTrades
namespace Go.Proofs.Ythchpoabncdicaa
open Go.RowKit

theorem Try.info25 : (Try.prog.info? 25).map (fun i => (i.zero, i.size, i.bytes)) = some (some (.agg #[.slice none 0 0, .slice none 0 0]), 2, 48) := by kernel_rfl
theorem step_build34 {ops : Array Oper} {o : Oper} {a : Act} {w : World} {K : Act → World → Prop} {Q : Exit → Act → World → Prop} {E : Prop} (hg : o.guard = none) {y0 y1 y2 : Operand} (ho : o.op = .buildSlice 34 3 #[(0, y0), (1, y1), (2, y2)])
    {a0 a1 a2 a3 a4 a5 : Value} (h0 : a.eval y0 = .agg #[a0, a1]) (h1 : a.eval y1 = .agg #[a2, a3]) (h2 : a.eval y2 = .agg #[a4, a5])
    (h : K (a.put o.dst (.slice (some ⟨w.heap.size, 0, none⟩) 3 3)) (w.alloc (.cells #[a0, a1, a2, a3, a4, a5] 25))) : if Region.wanted o (yielded ops a.tmps) = true then Oper.wp Try.prog o a w K Q else E := by
  rw [if_pos (by simp [Region.wanted, hg])]
  obtain ⟨i, hi, hz, hs, -⟩ := info_parts Try.info25
  exact wp_buildSlice 34 25 3 _ ho #[a0, a1, a2, a3, a4, a5] i _ Try.underlying34 hi hz (by rw [hs]; decide) (by rw [hs]; decide) (by rw [hs]; simp only [List.map_toArray, List.map_cons, List.map_nil, h0, h1, h2]; kernel_rfl) h
theorem step_build35 {ops : Array Oper} {o : Oper} {a : Act} {w : World} {K : Act → World → Prop} {Q : Exit → Act → World → Prop} {E : Prop} (hg : o.guard = none) {y0 y1 y2 : Operand} (ho : o.op = .buildSlice 35 3 #[(0, y0), (1, y1), (2, y2)])
    {x0 x1 x2 : Option Addr} {n0 n1 n2 c0 c1 c2 : Nat} (h0 : a.eval y0 = .slice x0 n0 c0) (h1 : a.eval y1 = .slice x1 n1 c1) (h2 : a.eval y2 = .slice x2 n2 c2)
    (h : K (a.put o.dst (.slice (some ⟨w.heap.size, 0, none⟩) 3 3)) (w.alloc (.cells #[.slice x0 n0 c0, .slice x1 n1 c1, .slice x2 n2 c2] 22))) : if Region.wanted o (yielded ops a.tmps) = true then Oper.wp Try.prog o a w K Q else E := by
  rw [if_pos (by simp [Region.wanted, hg])]
  obtain ⟨i, hi, hz, hs, -⟩ := info_parts Try.info22
  exact wp_buildSlice 35 22 3 _ ho #[.slice x0 n0 c0, .slice x1 n1 c1, .slice x2 n2 c2] i _ Try.underlying35 hi hz (by rw [hs]; decide) (by rw [hs]; decide) (by rw [hs]; simp only [List.map_toArray, List.map_cons, List.map_nil, h0, h1, h2]; kernel_rfl) h


set_option maxRecDepth 100000 in
set_option maxHeartbeats 8000000 in
theorem lotsEnvies_c {A A1 A2 : Nat → Prop} {w : World} {vm vv vd vn : Value} {c : Com} {dv nums : List Int} (hc : Cm A w vm vv c) (hd : Ints A1 w vd dv) (hn : Ints A2 w vn nums) :
    Calls Try.prog 19 #[.agg #[vm, vv], vd, vn] w fun e w' => e = .returned (.bool true) ∧ Below w.heap.size w w' := by
  obtain ⟨am, cpm, rfl, _, _⟩ := hc.1.shape
  obtain ⟨av, cpv, rfl, _, _⟩ := hc.2.shape
  obtain ⟨ad, cpd, rfl, _, _⟩ := hd.shape
  have ndl := hd.len
  have hB0 : Below w.heap.size w (w.alloc (.cells #[.slice am c.mountains.length cpm, .slice av c.villages.length cpv] 25)) := (Below.refl _ w).alloc (Nat.le_refl _) _
  have hbx : Blk w.heap.size #[.slice am c.mountains.length cpm, .slice av c.villages.length cpv] 25 (w.alloc (.cells #[.slice am c.mountains.length cpm, .slice av c.villages.length cpv] 25)) := Blk.new w _ _
  have hc0 := hc.call hB0
  have hd0 := hd.call hB0
  have hn0 := hn.call hB0
  go_enter Try.func19, Try.ntmps19
  go_wp2_with fail
  refine (short_c hc0).mono ?_
  rintro e w1 ⟨b, rfl, hb, hB1⟩
  have hc1 := hc0.call hB1
  have hd1 := hd0.call hB1
  have hn1 := hn0.call hB1
  have hbx1 := hbx.call hB1
  have hT1 := bnx hB0 hB1
  clear hc0 hd0 hn0 hbx hB0 hB1
  cases b with
  | false =>
    clear hb
    go_wp2_with (go_at_call 21; refine (drawn_c _).mono ?_; rintro e wz ⟨rfl, hBz⟩)
    go_ret
    exact ⟨rfl, bnx hT1 hBz⟩
  | true =>
    have hsh := hb rfl
    clear hb
    by_cases hdl : dv.length ≤ 20
    · have b1 : decide ((dv.length : Int) > 20) = false := decide_eq_false (by omega)
      go_wp2_with fail
      clear b1
      refine (newHand_c hn1).mono ?_
      rintro e w2 ⟨rfl, hH, hB2⟩
      have hs2 := hH.lt
      have hl1 := hbx1.lt
      clear hn1
      go_wp2_with fail
      refine (commonsOf_c hH (by omega) 4 (by omega) (by omega)).mono ?_
      rintro e w3 ⟨vmm, vmv, rfl, ⟨md, hM, hok⟩, ⟨k2, hk2, hH⟩, hG⟩
      have hs3 := hG.size
      have hT3 : Below w1.heap.size w1 w3 := hB2.grown hG (by omega) (fun k e => by injection e with e; omega)
      clear hG hB2
      obtain ⟨mm, mmc, rfl, _, _⟩ := hM.1.shape
      obtain ⟨mv, mvc, rfl, _, _⟩ := hM.2.shape
      have hml4 : md.mountains.length ≤ 4 := hok.n2
      have hml1 : 1 ≤ md.mountains.length := hok.n1
      have hH := hH.call ((Below.refl w3.heap.size w3).alloc (Nat.le_refl _) (.cells #[.slice mm md.mountains.length mmc, .slice mv md.villages.length mvc] 25))
      have hbm : Blk w3.heap.size #[.slice mm md.mountains.length mmc, .slice mv md.villages.length mvc] 25 (w3.alloc (.cells #[.slice mm md.mountains.length mmc, .slice mv md.villages.length mvc] 25)) := Blk.new w3 _ _
      have hM := hM.alloc (.cells #[.slice mm md.mountains.length mmc, .slice mv md.villages.length mvc] 25)
      have hT := hT3.alloc (by omega) (.cells #[.slice mm md.mountains.length mmc, .slice mv md.villages.length mvc] 25)
      have hbx4 : Blk w.heap.size #[.slice am c.mountains.length cpm, .slice av c.villages.length cpv] 25 (w3.alloc (.cells #[.slice mm md.mountains.length mmc, .slice mv md.villages.length mvc] 25)) := hbx1.keep (hT.block _ hl1)
      have hP : Pre w1 w1.heap.size w2.heap.size w.heap.size w3.heap.size #[.slice am c.mountains.length cpm, .slice av c.villages.length cpv] #[.slice mm md.mountains.length mmc, .slice mv md.villages.length mvc] (.slice mm md.mountains.length mmc) (.slice mv md.villages.length mvc) md 100 (w3.alloc (.cells #[.slice mm md.mountains.length mmc, .slice mv md.villages.length mvc] 25)) := ⟨⟨k2, by omega, hH⟩, Nat.le_refl _, hs2, hs3, hbx4, hl1, hbm, hM, hT⟩
      go_upto_region 5 with fail
      obtain ⟨hb, hhb⟩ : ∃ hb, hb = w1.heap.size := ⟨_, rfl⟩
      obtain ⟨B, hBB⟩ : ∃ B, B = w2.heap.size := ⟨_, rfl⟩
      obtain ⟨bM, hbM⟩ : ∃ bM, bM = w3.heap.size := ⟨_, rfl⟩
      rw [← hbM, ← hBB] at hP
      have hP : Pre w1 hb B w.heap.size bM #[.slice am c.mountains.length cpm, .slice av c.villages.length cpv] #[.slice mm md.mountains.length mmc, .slice mv md.villages.length mvc] (.slice mm md.mountains.length mmc) (.slice mv md.villages.length mvc) md 100 (w3.alloc (.cells #[.slice mm md.mountains.length mmc, .slice mv md.villages.length mvc] 25)) := by rw [hhb]; exact hP
      rw [← hbM, ← hhb]
      have HHB := Lib.hid hhb
      generalize w3.alloc (.cells #[.slice mm md.mountains.length mmc, .slice mv md.villages.length mvc] 25) = w4 at *
      clear hH hbm hM hT hbx4 hbM hBB hT3 hbx1 hs2 hs3 hl1 hhb
      go_cut [9, 10] (fun s11 s12 wx => ∃ (bc bo : Nat) (own : List Int) (ao : Option Addr) (co : Nat), s11 = .slice (some ⟨bc, 0, none⟩) 3 3 ∧ s12 = .slice (some ⟨bo, 0, none⟩) 3 3 ∧ Blk bc #[.slice am c.mountains.length cpm, .slice av c.villages.length cpv, .slice mm md.mountains.length mmc, .slice mv md.villages.length mvc, .slice mm md.mountains.length mmc, .slice mv md.villages.length mvc] 25 wx ∧ Blk bo #[.slice ad dv.length cpd, .slice ao own.length co, .slice ad dv.length cpd] 22 wx ∧ Ints (fun _ => True) wx (.slice ao own.length co) own ∧ own.length ≤ 4 ∧ Pre w1 hb B w.heap.size bM #[.slice am c.mountains.length cpm, .slice av c.villages.length cpv] #[.slice mm md.mountains.length mmc, .slice mv md.villages.length mvc] (.slice mm md.mountains.length mmc) (.slice mv md.villages.length mvc) md 300 wx)
      case first =>
        as_aux_lemma =>
          refine wp_region_mix2 (.one 0 (.one 1 (.one 2 (.pur 4 (.pur 5 (.pur 6 (.one 7 (.pur 8 (.pur 10 (.two 3 (.act 9 (.pur 12 (.act 11 (.pur 13 .fin)))) 9 (.two 3 (.pur 12 (.act 11 (.pur 13 .fin))) 11 (.act 3 (.pur 12 (.pur 13 .fin)))))))))))))) 99 (Pre w1 hb B w.heap.size bM #[.slice am c.mountains.length cpm, .slice av c.villages.length cpv] #[.slice mm md.mountains.length mmc, .slice mv md.villages.length mvc] (.slice mm md.mountains.length mmc) (.slice mv md.villages.length mvc) md 300) (fun _ => True) (by kernel_rfl) (by kernel_rfl) rfl (by kernel_rfl) (hP.mono (by omega)).drew (fun wd hqd _ => ?_)
          have hP := hP.qt hqd
          clear hqd
          refine mix_load2 rfl rfl rfl (.agg #[.slice am c.mountains.length cpm, .slice av c.villages.length cpv]) (fun w' h => by have h : (Pre w1 hb B w.heap.size bM #[.slice am c.mountains.length cpm, .slice av c.villages.length cpv] #[.slice mm md.mountains.length mmc, .slice mv md.villages.length mvc] (.slice mm md.mountains.length mmc) (.slice mv md.villages.length mvc) md 300) w' := h; have h0 := h.bx.cell 0; have h1 := h.bx.cell 1; go_simp) rfl ?_
          refine mix_load2 rfl rfl rfl (.agg #[.slice mm md.mountains.length mmc, .slice mv md.villages.length mvc]) (fun w' h => by have h : (Pre w1 hb B w.heap.size bM #[.slice am c.mountains.length cpm, .slice av c.villages.length cpv] #[.slice mm md.mountains.length mmc, .slice mv md.villages.length mvc] (.slice mm md.mountains.length mmc) (.slice mv md.villages.length mvc) md 300) w' := h; have h0 := h.bm.cell 0; have h1 := h.bm.cell 1; go_simp) rfl ?_
          refine mix_load2 rfl rfl rfl (.agg #[.slice mm md.mountains.length mmc, .slice mv md.villages.length mvc]) (fun w' h => by have h : (Pre w1 hb B w.heap.size bM #[.slice am c.mountains.length cpm, .slice av c.villages.length cpv] #[.slice mm md.mountains.length mmc, .slice mv md.villages.length mvc] (.slice mm md.mountains.length mmc) (.slice mv md.villages.length mvc) md 300) w' := h; have h0 := h.bm.cell 0; have h1 := h.bm.cell 1; go_simp) rfl ?_
          refine mix_pur2 rfl (fun K hK => ?_)
          go_simp
          first | refine ⟨_, fun _ => rfl, hK _ ?_⟩ | refine hK _ ?_
          clear hK K
          refine mix_pur2 rfl (fun K hK => ?_)
          go_simp
          first | refine ⟨_, fun _ => rfl, hK _ ?_⟩ | refine hK _ ?_
          clear hK K
          refine mix_pur2 rfl (fun K hK => ?_)
          go_simp
          first | refine ⟨_, fun _ => rfl, hK _ ?_⟩ | refine hK _ ?_
          clear hK K
          refine mix_load2 rfl rfl rfl (.slice mm md.mountains.length mmc) (fun w' h => by have h : (Pre w1 hb B w.heap.size bM #[.slice am c.mountains.length cpm, .slice av c.villages.length cpv] #[.slice mm md.mountains.length mmc, .slice mv md.villages.length mvc] (.slice mm md.mountains.length mmc) (.slice mv md.villages.length mvc) md 300) w' := h; have h1 := h.bm.cell 0; go_simp) rfl ?_
          refine mix_pur2 rfl (fun K hK => ?_)
          go_simp
          first | refine ⟨_, fun _ => rfl, hK _ ?_⟩ | refine hK _ ?_
          clear hK K
          refine mix_pur2 rfl (fun K hK => ?_)
          go_simp
          first | refine ⟨_, fun _ => rfl, hK _ ?_⟩ | refine hK _ ?_
          clear hK K
          refine mix_two2 rfl rfl false false rfl rfl (fun K hK => ?_) (fun K hK => ?_)
          · refine step_build34 rfl rfl rfl rfl rfl ?_
            go_simp
            have hBc : Blk wd.heap.size #[.slice am c.mountains.length cpm, .slice av c.villages.length cpv, .slice mm md.mountains.length mmc, .slice mv md.villages.length mvc, .slice mm md.mountains.length mmc, .slice mv md.villages.length mvc] 25 (wd.alloc (.cells #[.slice am c.mountains.length cpm, .slice av c.villages.length cpv, .slice mm md.mountains.length mmc, .slice mv md.villages.length mvc, .slice mm md.mountains.length mmc, .slice mv md.villages.length mvc] 25)) := Blk.new wd _ _
            have hBcl : hb < wd.heap.size := hP.hlt
            have hBn := (Below.refl wd.heap.size wd).alloc (Nat.le_refl _) (.cells #[.slice am c.mountains.length cpm, .slice av c.villages.length cpv, .slice mm md.mountains.length mmc, .slice mv md.villages.length mvc, .slice mm md.mountains.length mmc, .slice mv md.villages.length mvc] 25)
            have hP := hP.call hBn
            refine hK _ _ (hP.mono (by omega)) ?_
            clear hK K hBn
            obtain ⟨bc, hbc⟩ : ∃ b, b = wd.heap.size := ⟨_, rfl⟩
            rw [← hbc] at hBc hBcl ⊢
            generalize wd.alloc (.cells #[.slice am c.mountains.length cpm, .slice av c.villages.length cpv, .slice mm md.mountains.length mmc, .slice mv md.villages.length mvc, .slice mm md.mountains.length mmc, .slice mv md.villages.length mvc] 25) = wa1 at *
            clear hbc
            refine mix_eff2 rfl false rfl (fun K hK => ?_)
            go_simp
            have hsc := hP.hlt
            refine (Pre.row hP md.mountains.length (by omega) (by omega)).mono ?_
            rintro e wa2 ⟨⟨vo, rfl, own, ho, hpo⟩, hP, hG⟩
            have hBc := hBc.hand hG (by omega)
            have ho := ho.wide (A' := fun b => hb < b) (fun b hb _ => by omega)
            have hol := hpo.len
            have hol4 : own.length ≤ 4 := by omega
            clear hol hpo hsc
            obtain ⟨ao, co, rfl, _, _⟩ := ho.shape
            have hP := hP.mono (K' := 200) (by omega)
            refine hK _ _ (hP.mono (by omega)) ?_
            clear hK K hG
            refine mix_pur2 rfl (fun K hK => ?_)
            go_simp
            first | refine ⟨_, fun _ => rfl, hK _ ?_⟩ | refine hK _ ?_
            clear hK K
            refine mix_eff2 rfl false rfl (fun K hK => ?_)
            refine step_build35 rfl rfl rfl rfl rfl ?_
            go_simp
            have hBo : Blk wa2.heap.size #[.slice ad dv.length cpd, .slice ao own.length co, .slice ad dv.length cpd] 22 (wa2.alloc (.cells #[.slice ad dv.length cpd, .slice ao own.length co, .slice ad dv.length cpd] 22)) := Blk.new wa2 _ _
            have hBol : hb < wa2.heap.size := hP.hlt
            have hBn := (Below.refl wa2.heap.size wa2).alloc (Nat.le_refl _) (.cells #[.slice ad dv.length cpd, .slice ao own.length co, .slice ad dv.length cpd] 22)
            have hP := hP.call hBn
            have hBc := hBc.call hBn
            have ho := ho.call hBn
            refine hK _ _ (hP.mono (by omega)) ?_
            clear hK K hBn
            obtain ⟨bo, hbo⟩ : ∃ b, b = wa2.heap.size := ⟨_, rfl⟩
            rw [← hbo] at hBo hBol ⊢
            generalize wa2.alloc (.cells #[.slice ad dv.length cpd, .slice ao own.length co, .slice ad dv.length cpd] 22) = wa3 at *
            clear hbo
            refine mix_pur2 rfl (fun K hK => ?_)
            go_simp
            first | refine ⟨_, fun _ => rfl, hK _ ?_⟩ | refine hK _ ?_
            clear hK K
            refine mix_done2 ?_
            go_wp2_with fail
            go_meet
            exact ⟨bc, bo, own, ao, co, rfl, rfl, hBc, hBo, ho.wide (fun _ _ _ => trivial), hol4, hP.mono (by omega)⟩
          · go_simp
            have hsc := hP.hlt
            refine (Pre.row hP md.mountains.length (by omega) (by omega)).mono ?_
            rintro e wa1 ⟨⟨vo, rfl, own, ho, hpo⟩, hP, hG⟩
            have ho := ho.wide (A' := fun b => hb < b) (fun b hb _ => by omega)
            have hol := hpo.len
            have hol4 : own.length ≤ 4 := by omega
            clear hol hpo hsc
            obtain ⟨ao, co, rfl, _, _⟩ := ho.shape
            have hP := hP.mono (K' := 200) (by omega)
            refine hK _ _ (hP.mono (by omega)) ?_
            clear hK K hG
            refine mix_two2 rfl rfl false false rfl rfl (fun K hK => ?_) (fun K hK => ?_)
            · refine step_build34 rfl rfl rfl rfl rfl ?_
              go_simp
              have hBc : Blk wa1.heap.size #[.slice am c.mountains.length cpm, .slice av c.villages.length cpv, .slice mm md.mountains.length mmc, .slice mv md.villages.length mvc, .slice mm md.mountains.length mmc, .slice mv md.villages.length mvc] 25 (wa1.alloc (.cells #[.slice am c.mountains.length cpm, .slice av c.villages.length cpv, .slice mm md.mountains.length mmc, .slice mv md.villages.length mvc, .slice mm md.mountains.length mmc, .slice mv md.villages.length mvc] 25)) := Blk.new wa1 _ _
              have hBcl : hb < wa1.heap.size := hP.hlt
              have hBn := (Below.refl wa1.heap.size wa1).alloc (Nat.le_refl _) (.cells #[.slice am c.mountains.length cpm, .slice av c.villages.length cpv, .slice mm md.mountains.length mmc, .slice mv md.villages.length mvc, .slice mm md.mountains.length mmc, .slice mv md.villages.length mvc] 25)
              have hP := hP.call hBn
              have ho := ho.call hBn
              refine hK _ _ (hP.mono (by omega)) ?_
              clear hK K hBn
              obtain ⟨bc, hbc⟩ : ∃ b, b = wa1.heap.size := ⟨_, rfl⟩
              rw [← hbc] at hBc hBcl ⊢
              generalize wa1.alloc (.cells #[.slice am c.mountains.length cpm, .slice av c.villages.length cpv, .slice mm md.mountains.length mmc, .slice mv md.villages.length mvc, .slice mm md.mountains.length mmc, .slice mv md.villages.length mvc] 25) = wa2 at *
              clear hbc
              refine mix_pur2 rfl (fun K hK => ?_)
              go_simp
              first | refine ⟨_, fun _ => rfl, hK _ ?_⟩ | refine hK _ ?_
              clear hK K
              refine mix_eff2 rfl false rfl (fun K hK => ?_)
              refine step_build35 rfl rfl rfl rfl rfl ?_
              go_simp
              have hBo : Blk wa2.heap.size #[.slice ad dv.length cpd, .slice ao own.length co, .slice ad dv.length cpd] 22 (wa2.alloc (.cells #[.slice ad dv.length cpd, .slice ao own.length co, .slice ad dv.length cpd] 22)) := Blk.new wa2 _ _
              have hBol : hb < wa2.heap.size := hP.hlt
              have hBn := (Below.refl wa2.heap.size wa2).alloc (Nat.le_refl _) (.cells #[.slice ad dv.length cpd, .slice ao own.length co, .slice ad dv.length cpd] 22)
              have hP := hP.call hBn
              have hBc := hBc.call hBn
              have ho := ho.call hBn
              refine hK _ _ (hP.mono (by omega)) ?_
              clear hK K hBn
              obtain ⟨bo, hbo⟩ : ∃ b, b = wa2.heap.size := ⟨_, rfl⟩
              rw [← hbo] at hBo hBol ⊢
              generalize wa2.alloc (.cells #[.slice ad dv.length cpd, .slice ao own.length co, .slice ad dv.length cpd] 22) = wa3 at *
              clear hbo
              refine mix_pur2 rfl (fun K hK => ?_)
              go_simp
              first | refine ⟨_, fun _ => rfl, hK _ ?_⟩ | refine hK _ ?_
              clear hK K
              refine mix_done2 ?_
              go_wp2_with fail
              go_meet
              exact ⟨bc, bo, own, ao, co, rfl, rfl, hBc, hBo, ho.wide (fun _ _ _ => trivial), hol4, hP.mono (by omega)⟩
            · refine step_build35 rfl rfl rfl rfl rfl ?_
              go_simp
              have hBo : Blk wa1.heap.size #[.slice ad dv.length cpd, .slice ao own.length co, .slice ad dv.length cpd] 22 (wa1.alloc (.cells #[.slice ad dv.length cpd, .slice ao own.length co, .slice ad dv.length cpd] 22)) := Blk.new wa1 _ _
              have hBol : hb < wa1.heap.size := hP.hlt
              have hBn := (Below.refl wa1.heap.size wa1).alloc (Nat.le_refl _) (.cells #[.slice ad dv.length cpd, .slice ao own.length co, .slice ad dv.length cpd] 22)
              have hP := hP.call hBn
              have ho := ho.call hBn
              refine hK _ _ (hP.mono (by omega)) ?_
              clear hK K hBn
              obtain ⟨bo, hbo⟩ : ∃ b, b = wa1.heap.size := ⟨_, rfl⟩
              rw [← hbo] at hBo hBol ⊢
              generalize wa1.alloc (.cells #[.slice ad dv.length cpd, .slice ao own.length co, .slice ad dv.length cpd] 22) = wa2 at *
              clear hbo
              refine mix_eff2 rfl false rfl (fun K hK => ?_)
              refine step_build34 rfl rfl rfl rfl rfl ?_
              go_simp
              have hBc : Blk wa2.heap.size #[.slice am c.mountains.length cpm, .slice av c.villages.length cpv, .slice mm md.mountains.length mmc, .slice mv md.villages.length mvc, .slice mm md.mountains.length mmc, .slice mv md.villages.length mvc] 25 (wa2.alloc (.cells #[.slice am c.mountains.length cpm, .slice av c.villages.length cpv, .slice mm md.mountains.length mmc, .slice mv md.villages.length mvc, .slice mm md.mountains.length mmc, .slice mv md.villages.length mvc] 25)) := Blk.new wa2 _ _
              have hBcl : hb < wa2.heap.size := hP.hlt
              have hBn := (Below.refl wa2.heap.size wa2).alloc (Nat.le_refl _) (.cells #[.slice am c.mountains.length cpm, .slice av c.villages.length cpv, .slice mm md.mountains.length mmc, .slice mv md.villages.length mvc, .slice mm md.mountains.length mmc, .slice mv md.villages.length mvc] 25)
              have hP := hP.call hBn
              have ho := ho.call hBn
              have hBo := hBo.call hBn
              refine hK _ _ (hP.mono (by omega)) ?_
              clear hK K hBn
              obtain ⟨bc, hbc⟩ : ∃ b, b = wa2.heap.size := ⟨_, rfl⟩
              rw [← hbc] at hBc hBcl ⊢
              generalize wa2.alloc (.cells #[.slice am c.mountains.length cpm, .slice av c.villages.length cpv, .slice mm md.mountains.length mmc, .slice mv md.villages.length mvc, .slice mm md.mountains.length mmc, .slice mv md.villages.length mvc] 25) = wa3 at *
              clear hbc
              refine mix_pur2 rfl (fun K hK => ?_)
              go_simp
              first | refine ⟨_, fun _ => rfl, hK _ ?_⟩ | refine hK _ ?_
              clear hK K
              refine mix_pur2 rfl (fun K hK => ?_)
              go_simp
              first | refine ⟨_, fun _ => rfl, hK _ ?_⟩ | refine hK _ ?_
              clear hK K
              refine mix_done2 ?_
              go_wp2_with fail
              go_meet
              exact ⟨bc, bo, own, ao, co, rfl, rfl, hBc, hBo, ho.wide (fun _ _ _ => trivial), hol4, hP.mono (by omega)⟩
      case rest =>
        obtain ⟨bc, bo, own, ao, co, rfl, rfl, hBc, hBo, ho8, hol4, hP⟩ := hcut
        rename World => w8
        have hT8 := hP.below
        have hc8 := hc1.call hT8
        have hd8 := hd1.call hT8
        have hM8 := hP.md
        have hcl := hBc.lt
        have hdl8 := hBo.lt
        have hrow : ∀ i, i < 3 → ∃ (cc : Com) (dd : List Int) (ma va da : Option Addr) (mc vc dc : Nat), TrS bc (i * 2) (.slice ma cc.mountains.length mc) (.slice va cc.villages.length vc) bo i (.slice da dd.length dc) w8 ∧ Cm (fun _ => True) w8 (.slice ma cc.mountains.length mc) (.slice va cc.villages.length vc) cc ∧ cc.Sm ∧ Ints (fun _ => True) w8 (.slice da dd.length dc) dd ∧ dd.length ≤ 1000 := by
          intro i hi
          have hi3 : i = 0 ∨ i = 1 ∨ i = 2 := by omega
          rcases hi3 with rfl | rfl | rfl
          · exact ⟨c, dv, am, av, ad, cpm, cpv, cpd, ⟨hBc.cell 0, hBc.cell 1, hBo.cell 0⟩, hc8.wide (fun _ _ _ => trivial), hsh.sm, hd8.wide (fun _ _ _ => trivial), by omega⟩
          · exact ⟨md, own, mm, mv, ao, mmc, mvc, co, ⟨hBc.cell 2, hBc.cell 3, hBo.cell 1⟩, hM8.wide (fun _ _ _ => trivial), hok.sm (by omega), ho8, by omega⟩
          · exact ⟨md, dv, mm, mv, ad, mmc, mvc, cpd, ⟨hBc.cell 4, hBc.cell 5, hBo.cell 2⟩, hM8.wide (fun _ _ _ => trivial), hok.sm (by omega), hd8.wide (fun _ _ _ => trivial), by omega⟩
        have HROW := Lib.hid hrow
        clear hrow hBc hBo hc8 hd8 hM8 ho8 hP hc1 hd1
        go_wp2_with fail
        go_loopw [11] (fun s wr => ∃ i : Nat, i ≤ 3 ∧ s = .int .i64 i ∧ Below w8.heap.size w8 wr) (fun s _ => 3 - (intOf s).toNat)
        case atStart => exact ⟨0, Nat.zero_le _, rfl, Below.refl _ _⟩
        case round =>
          obtain ⟨i, hi, rfl, hB⟩ := hrel
          by_cases hi3 : i < 3
          · obtain ⟨cc, dd, ma, va, da, mc, vc, dc, hS8, hC8, hSm, hD8, hdd⟩ := HROW.out i hi3
            have hE : ∀ w', Below w8.heap.size w8 w' → (TrS bc (i * 2) (.slice ma cc.mountains.length mc) (.slice va cc.villages.length vc) bo i (.slice da dd.length dc)) w' := fun w' h => ⟨(World.cell?_of_block (h.block bc hcl)).trans hS8.1, (World.cell?_of_block (h.block bc hcl)).trans hS8.2.1, (World.cell?_of_block (h.block bo hdl8)).trans hS8.2.2⟩
            clear hS8
            go_upto_region 9 with fail
            go_cut [12, 13] (fun s18 s19 wx => ∃ (X : Nat) (amx avx adx : Option Addr) (cmx cvx cdx : Nat), s18 = .pointer (some ⟨X, 0, none⟩) ∧ s19 = (.slice adx dd.length cdx) ∧ Blk X #[(.slice amx cc.mountains.length cmx), (.slice avx cc.villages.length cvx)] 25 wx ∧ Cm (fun _ => True) wx (.slice amx cc.mountains.length cmx) (.slice avx cc.villages.length cvx) cc ∧ Ints (fun _ => True) wx (.slice adx dd.length cdx) dd ∧ Below w8.heap.size w8 wx)
            case first =>
              as_aux_lemma =>
                refine wp_region_mix2 (.pur 0 (.pur 1 (.pur 2 (.one 3 (.pur 5 (.pur 6 (.pur 7 (.one 8 (.two 4 (.two 9 (.act 10 (.act 11 (.act 12 .fin))) 10 (.act 9 (.act 11 (.act 12 .fin)))) 10 (.act 4 (.act 9 (.act 11 (.act 12 .fin))))))))))))) 99 (TrS bc (i * 2) (.slice ma cc.mountains.length mc) (.slice va cc.villages.length vc) bo i (.slice da dd.length dc)) (fun _ => True) (by kernel_rfl) (by kernel_rfl) rfl (by kernel_rfl) (hE _ hB).drew (fun wd hqd _ => ?_)
                have hBq := hB.trans (hqd.below _)
                refine mix_pur2 rfl (fun K hK => ?_)
                go_simp
                first | refine ⟨_, fun _ => rfl, hK _ ?_⟩ | refine hK _ ?_
                clear hK K
                refine mix_pur2 rfl (fun K hK => ?_)
                go_simp
                first | refine ⟨_, fun _ => rfl, hK _ ?_⟩ | refine hK _ ?_
                clear hK K
                refine mix_pur2 rfl (fun K hK => ?_)
                go_simp
                first | refine ⟨_, fun _ => rfl, hK _ ?_⟩ | refine hK _ ?_
                clear hK K
                refine mix_loadg2 rfl rfl (.agg #[(.slice ma cc.mountains.length mc), (.slice va cc.villages.length vc)]) (by go_simp) (fun w' h => by have h : (TrS bc (i * 2) (.slice ma cc.mountains.length mc) (.slice va cc.villages.length vc) bo i (.slice da dd.length dc)) w' := h; have h0 := h.1; have h1 := h.2.1; go_simp) rfl ?_
                refine mix_pur2 rfl (fun K hK => ?_)
                go_simp
                first | refine ⟨_, fun _ => rfl, hK _ ?_⟩ | refine hK _ ?_
                clear hK K
                refine mix_pur2 rfl (fun K hK => ?_)
                go_simp
                first | refine ⟨_, fun _ => rfl, hK _ ?_⟩ | refine hK _ ?_
                clear hK K
                refine mix_pur2 rfl (fun K hK => ?_)
                go_simp
                first | refine ⟨_, fun _ => rfl, hK _ ?_⟩ | refine hK _ ?_
                clear hK K
                refine mix_loadg2 rfl rfl (.slice da dd.length dc) (by go_simp) (fun w' h => by have h : (TrS bc (i * 2) (.slice ma cc.mountains.length mc) (.slice va cc.villages.length vc) bo i (.slice da dd.length dc)) w' := h; have h0 := h.2.2; go_simp) rfl ?_
                refine mix_two2 rfl rfl false false rfl rfl (fun K hK => ?_) (fun K hK => ?_)
                · go_simp
                  refine (copyCommons_c (hC8.call hBq) hSm).mono ?_
                  rintro e wq0 ⟨mx, vx, rfl, hX, hBn⟩
                  obtain ⟨amx, cmx, rfl, _, _⟩ := hX.1.shape
                  obtain ⟨avx, cvx, rfl, _, _⟩ := hX.2.shape
                  have hBq := hBq.trans (hBn.mono hBq.size)
                  refine hK _ _ (hE _ hBq) ?_
                  clear hK K hBn
                  refine mix_two2 rfl rfl false false rfl rfl (fun K hK => ?_) (fun K hK => ?_)
                  · go_simp
                    refine (copyInts_c (hD8.call hBq) (by omega)).mono ?_
                    rintro e wq1 ⟨dx, rfl, hDx, hBn⟩
                    obtain ⟨adx, cdx, rfl, _, _⟩ := hDx.shape
                    have hX := hX.call hBn
                    have hBq := hBq.trans (hBn.mono hBq.size)
                    refine hK _ _ (hE _ hBq) ?_
                    clear hK K hBn
                    refine mix_eff2 rfl false rfl (fun K hK => ?_)
                    go_simp
                    have hBn := (Below.refl wq1.heap.size wq1).alloc (Nat.le_refl _) (.cells #[.slice none 0 0, .slice none 0 0] 25)
                    have hXs : w8.heap.size ≤ wq1.heap.size := hBq.size
                    have hXb : Blk wq1.heap.size #[.slice none 0 0, .slice none 0 0] 25 (wq1.alloc (.cells #[.slice none 0 0, .slice none 0 0] 25)) := Blk.new wq1 _ _
                    have hX := (hX.wide (A' := fun b => b ≠ wq1.heap.size) (fun b _ hl => by omega)).call hBn
                    have hDx := (hDx.wide (A' := fun b => b ≠ wq1.heap.size) (fun b _ hl => by omega)).call hBn
                    have hBq := hBq.trans (hBn.mono hBq.size)
                    refine hK _ _ (hE _ hBq) ?_
                    clear hK K hBn
                    generalize wq1.alloc (.cells #[.slice none 0 0, .slice none 0 0] 25) = wa at *
                    refine mix_eff2 rfl false rfl (fun K hK => ?_)
                    obtain ⟨d0, d1, f0, f1⟩ := cells2_at hXb
                    go_simp
                    have hXb2 : Blk wq1.heap.size #[(.slice amx cc.mountains.length cmx), (.slice avx cc.villages.length cvx)] 25 ((wa.setCell ⟨wq1.heap.size, 0, none⟩ (.slice amx cc.mountains.length cmx)).setCell ⟨wq1.heap.size, 1, none⟩ (.slice avx cc.villages.length cvx)) := two_set hXb (.slice amx cc.mountains.length cmx) (.slice avx cc.villages.length cvx)
                    have hoth : ∀ k, k ≠ wq1.heap.size → ((wa.setCell ⟨wq1.heap.size, 0, none⟩ (.slice amx cc.mountains.length cmx)).setCell ⟨wq1.heap.size, 1, none⟩ (.slice avx cc.villages.length cvx)).heap[k]? = wa.heap[k]? := fun k hk => (Below.heap_setCell _ _ _ _ (show k ≠ wq1.heap.size from hk)).trans (Below.heap_setCell _ _ _ _ (show k ≠ wq1.heap.size from hk))
                    have hss : wa.heap.size ≤ ((wa.setCell ⟨wq1.heap.size, 0, none⟩ (.slice amx cc.mountains.length cmx)).setCell ⟨wq1.heap.size, 1, none⟩ (.slice avx cc.villages.length cvx)).heap.size := by simp [World.setCell]
                    have hX2 := hX.step hss (fun k hk _ => hoth k hk)
                    have hDx2 := hDx.step hss (fun k hk _ => hoth k hk)
                    have hBq2 : Below w8.heap.size w8 ((wa.setCell ⟨wq1.heap.size, 0, none⟩ (.slice amx cc.mountains.length cmx)).setCell ⟨wq1.heap.size, 1, none⟩ (.slice avx cc.villages.length cvx)) := (hBq.setCell (show w8.heap.size ≤ wq1.heap.size by omega) _).setCell (show w8.heap.size ≤ wq1.heap.size by omega) _
                    refine hK _ _ (hE _ hBq2) ?_
                    clear hK K d0 d1 f0 f1
                    refine mix_eff2 rfl false rfl (fun K hK => ?_)
                    go_simp
                    refine hK _ _ (hE _ hBq2) ?_
                    clear hK K
                    refine mix_done2 ?_
                    go_wp2_with fail
                    go_meet
                    exact ⟨wq1.heap.size, _, _, _, _, _, _, rfl, rfl, hXb2, hX2.wide (fun _ _ _ => trivial), hDx2.wide (fun _ _ _ => trivial), hBq2⟩
                  · go_simp
                    have hBn := (Below.refl wq0.heap.size wq0).alloc (Nat.le_refl _) (.cells #[.slice none 0 0, .slice none 0 0] 25)
                    have hXs : w8.heap.size ≤ wq0.heap.size := hBq.size
                    have hXb : Blk wq0.heap.size #[.slice none 0 0, .slice none 0 0] 25 (wq0.alloc (.cells #[.slice none 0 0, .slice none 0 0] 25)) := Blk.new wq0 _ _
                    have hX := (hX.wide (A' := fun b => b ≠ wq0.heap.size) (fun b _ hl => by omega)).call hBn
                    have hBq := hBq.trans (hBn.mono hBq.size)
                    refine hK _ _ (hE _ hBq) ?_
                    clear hK K hBn
                    generalize wq0.alloc (.cells #[.slice none 0 0, .slice none 0 0] 25) = wa at *
                    refine mix_eff2 rfl false rfl (fun K hK => ?_)
                    go_simp
                    refine (copyInts_c (hD8.call hBq) (by omega)).mono ?_
                    rintro e wq2 ⟨dx, rfl, hDx, hBn⟩
                    obtain ⟨adx, cdx, rfl, _, _⟩ := hDx.shape
                    have hX := hX.call hBn
                    have hXl := hXb.lt
                    have hXb := hXb.call hBn
                    have hDx := hDx.wide (A' := fun b => b ≠ wq0.heap.size) (fun b hb _ => by omega)
                    clear hXl
                    have hBq := hBq.trans (hBn.mono hBq.size)
                    refine hK _ _ (hE _ hBq) ?_
                    clear hK K hBn
                    refine mix_eff2 rfl false rfl (fun K hK => ?_)
                    obtain ⟨d0, d1, f0, f1⟩ := cells2_at hXb
                    go_simp
                    have hXb2 : Blk wq0.heap.size #[(.slice amx cc.mountains.length cmx), (.slice avx cc.villages.length cvx)] 25 ((wq2.setCell ⟨wq0.heap.size, 0, none⟩ (.slice amx cc.mountains.length cmx)).setCell ⟨wq0.heap.size, 1, none⟩ (.slice avx cc.villages.length cvx)) := two_set hXb (.slice amx cc.mountains.length cmx) (.slice avx cc.villages.length cvx)
                    have hoth : ∀ k, k ≠ wq0.heap.size → ((wq2.setCell ⟨wq0.heap.size, 0, none⟩ (.slice amx cc.mountains.length cmx)).setCell ⟨wq0.heap.size, 1, none⟩ (.slice avx cc.villages.length cvx)).heap[k]? = wq2.heap[k]? := fun k hk => (Below.heap_setCell _ _ _ _ (show k ≠ wq0.heap.size from hk)).trans (Below.heap_setCell _ _ _ _ (show k ≠ wq0.heap.size from hk))
                    have hss : wq2.heap.size ≤ ((wq2.setCell ⟨wq0.heap.size, 0, none⟩ (.slice amx cc.mountains.length cmx)).setCell ⟨wq0.heap.size, 1, none⟩ (.slice avx cc.villages.length cvx)).heap.size := by simp [World.setCell]
                    have hX2 := hX.step hss (fun k hk _ => hoth k hk)
                    have hDx2 := hDx.step hss (fun k hk _ => hoth k hk)
                    have hBq2 : Below w8.heap.size w8 ((wq2.setCell ⟨wq0.heap.size, 0, none⟩ (.slice amx cc.mountains.length cmx)).setCell ⟨wq0.heap.size, 1, none⟩ (.slice avx cc.villages.length cvx)) := (hBq.setCell (show w8.heap.size ≤ wq0.heap.size by omega) _).setCell (show w8.heap.size ≤ wq0.heap.size by omega) _
                    refine hK _ _ (hE _ hBq2) ?_
                    clear hK K d0 d1 f0 f1
                    refine mix_eff2 rfl false rfl (fun K hK => ?_)
                    go_simp
                    refine hK _ _ (hE _ hBq2) ?_
                    clear hK K
                    refine mix_done2 ?_
                    go_wp2_with fail
                    go_meet
                    exact ⟨wq0.heap.size, _, _, _, _, _, _, rfl, rfl, hXb2, hX2.wide (fun _ _ _ => trivial), hDx2.wide (fun _ _ _ => trivial), hBq2⟩
                · go_simp
                  have hBn := (Below.refl wd.heap.size wd).alloc (Nat.le_refl _) (.cells #[.slice none 0 0, .slice none 0 0] 25)
                  have hXs : w8.heap.size ≤ wd.heap.size := hBq.size
                  have hXb : Blk wd.heap.size #[.slice none 0 0, .slice none 0 0] 25 (wd.alloc (.cells #[.slice none 0 0, .slice none 0 0] 25)) := Blk.new wd _ _
                  have hBq := hBq.trans (hBn.mono hBq.size)
                  refine hK _ _ (hE _ hBq) ?_
                  clear hK K hBn
                  generalize wd.alloc (.cells #[.slice none 0 0, .slice none 0 0] 25) = wa at *
                  refine mix_eff2 rfl false rfl (fun K hK => ?_)
                  go_simp
                  refine (copyCommons_c (hC8.call hBq) hSm).mono ?_
                  rintro e wq1 ⟨mx, vx, rfl, hX, hBn⟩
                  obtain ⟨amx, cmx, rfl, _, _⟩ := hX.1.shape
                  obtain ⟨avx, cvx, rfl, _, _⟩ := hX.2.shape
                  have hXl := hXb.lt
                  have hXb := hXb.call hBn
                  have hX := hX.wide (A' := fun b => b ≠ wd.heap.size) (fun b hb _ => by omega)
                  clear hXl
                  have hBq := hBq.trans (hBn.mono hBq.size)
                  refine hK _ _ (hE _ hBq) ?_
                  clear hK K hBn
                  refine mix_eff2 rfl false rfl (fun K hK => ?_)
                  go_simp
                  refine (copyInts_c (hD8.call hBq) (by omega)).mono ?_
                  rintro e wq2 ⟨dx, rfl, hDx, hBn⟩
                  obtain ⟨adx, cdx, rfl, _, _⟩ := hDx.shape
                  have hX := hX.call hBn
                  have hXl := hXb.lt
                  have hXb := hXb.call hBn
                  have hDx := hDx.wide (A' := fun b => b ≠ wd.heap.size) (fun b hb _ => by omega)
                  clear hXl
                  have hBq := hBq.trans (hBn.mono hBq.size)
                  refine hK _ _ (hE _ hBq) ?_
                  clear hK K hBn
                  refine mix_eff2 rfl false rfl (fun K hK => ?_)
                  obtain ⟨d0, d1, f0, f1⟩ := cells2_at hXb
                  go_simp
                  have hXb2 : Blk wd.heap.size #[(.slice amx cc.mountains.length cmx), (.slice avx cc.villages.length cvx)] 25 ((wq2.setCell ⟨wd.heap.size, 0, none⟩ (.slice amx cc.mountains.length cmx)).setCell ⟨wd.heap.size, 1, none⟩ (.slice avx cc.villages.length cvx)) := two_set hXb (.slice amx cc.mountains.length cmx) (.slice avx cc.villages.length cvx)
                  have hoth : ∀ k, k ≠ wd.heap.size → ((wq2.setCell ⟨wd.heap.size, 0, none⟩ (.slice amx cc.mountains.length cmx)).setCell ⟨wd.heap.size, 1, none⟩ (.slice avx cc.villages.length cvx)).heap[k]? = wq2.heap[k]? := fun k hk => (Below.heap_setCell _ _ _ _ (show k ≠ wd.heap.size from hk)).trans (Below.heap_setCell _ _ _ _ (show k ≠ wd.heap.size from hk))
                  have hss : wq2.heap.size ≤ ((wq2.setCell ⟨wd.heap.size, 0, none⟩ (.slice amx cc.mountains.length cmx)).setCell ⟨wd.heap.size, 1, none⟩ (.slice avx cc.villages.length cvx)).heap.size := by simp [World.setCell]
                  have hX2 := hX.step hss (fun k hk _ => hoth k hk)
                  have hDx2 := hDx.step hss (fun k hk _ => hoth k hk)
                  have hBq2 : Below w8.heap.size w8 ((wq2.setCell ⟨wd.heap.size, 0, none⟩ (.slice amx cc.mountains.length cmx)).setCell ⟨wd.heap.size, 1, none⟩ (.slice avx cc.villages.length cvx)) := (hBq.setCell (show w8.heap.size ≤ wd.heap.size by omega) _).setCell (show w8.heap.size ≤ wd.heap.size by omega) _
                  refine hK _ _ (hE _ hBq2) ?_
                  clear hK K d0 d1 f0 f1
                  refine mix_eff2 rfl false rfl (fun K hK => ?_)
                  go_simp
                  refine hK _ _ (hE _ hBq2) ?_
                  clear hK K
                  refine mix_done2 ?_
                  go_wp2_with fail
                  go_meet
                  exact ⟨wd.heap.size, _, _, _, _, _, _, rfl, rfl, hXb2, hX2.wide (fun _ _ _ => trivial), hDx2.wide (fun _ _ _ => trivial), hBq2⟩
            case rest =>
              obtain ⟨X, amx, avx, adx, cmx, cvx, cdx, rfl, rfl, hXb, hX, hDx, hB9⟩ := hcut
              rename World => w9
              have h_w9 := Below.refl w9.heap.size w9
              have hC9 := hC8.call hB9
              have hD9 := hD8.call hB9
              have hF : ∀ w', Below w9.heap.size w9 w' → (TrX bc (i * 2) (.slice ma cc.mountains.length mc) (.slice va cc.villages.length vc) bo i (.slice da dd.length dc) X (.slice amx cc.mountains.length cmx) (.slice avx cc.villages.length cvx)) w' := fun w' h => ⟨hE w' (bnx hB9 h), hXb.call h⟩
              have bd0 : (divE cc dd != divE cc dd) = false := by simp
              as_aux_lemma =>
                have c0 := (hXb.call h_w9).cell 0
                have c1 := (hXb.call h_w9).cell 1
                have HQ := Lib.hid (envyR_c (hX.call h_w9) (hDx.call h_w9))
                go_wp2_with fail
                clear c0 c1
                refine HQ.out.mono ?_
                rintro e wae ⟨v14, rfl, g1, hBn⟩
                have h_wae := bnx h_w9 hBn
                clear HQ hBn
                go_wp2_with fail
                refine wp_region_mix2 (.pur 0 (.pur 1 (.pur 2 (.one 3 (.pur 4 (.pur 5 (.pur 6 (.one 7 (.act 8 (.pur 9 (.pur 10 (.pur 11 (.pur 12 (.pur 13 .fin)))))))))))))) 99 (TrX bc (i * 2) (.slice ma cc.mountains.length mc) (.slice va cc.villages.length vc) bo i (.slice da dd.length dc) X (.slice amx cc.mountains.length cmx) (.slice avx cc.villages.length cvx)) (fun _ => True) (by kernel_rfl) (by kernel_rfl) rfl (by kernel_rfl) (hF _ h_wae).drew (fun wd hqd _ => ?_)
                refine mix_pur2 rfl (fun K hK => ?_)
                go_simp
                first | refine ⟨_, fun _ => rfl, hK _ ?_⟩ | refine hK _ ?_
                clear hK K
                refine mix_pur2 rfl (fun K hK => ?_)
                go_simp
                first | refine ⟨_, fun _ => rfl, hK _ ?_⟩ | refine hK _ ?_
                clear hK K
                refine mix_pur2 rfl (fun K hK => ?_)
                go_simp
                first | refine ⟨_, fun _ => rfl, hK _ ?_⟩ | refine hK _ ?_
                clear hK K
                refine mix_loadg2 rfl rfl (.agg #[(.slice ma cc.mountains.length mc), (.slice va cc.villages.length vc)]) (by go_simp) (fun w' h => by have h : (TrX bc (i * 2) (.slice ma cc.mountains.length mc) (.slice va cc.villages.length vc) bo i (.slice da dd.length dc) X (.slice amx cc.mountains.length cmx) (.slice avx cc.villages.length cvx)) w' := h; have h0 := h.1.1; have h1 := h.1.2.1; go_simp) rfl ?_
                refine mix_pur2 rfl (fun K hK => ?_)
                go_simp
                first | refine ⟨_, fun _ => rfl, hK _ ?_⟩ | refine hK _ ?_
                clear hK K
                refine mix_pur2 rfl (fun K hK => ?_)
                go_simp
                first | refine ⟨_, fun _ => rfl, hK _ ?_⟩ | refine hK _ ?_
                clear hK K
                refine mix_pur2 rfl (fun K hK => ?_)
                go_simp
                first | refine ⟨_, fun _ => rfl, hK _ ?_⟩ | refine hK _ ?_
                clear hK K
                refine mix_loadg2 rfl rfl (.slice da dd.length dc) (by go_simp) (fun w' h => by have h : (TrX bc (i * 2) (.slice ma cc.mountains.length mc) (.slice va cc.villages.length vc) bo i (.slice da dd.length dc) X (.slice amx cc.mountains.length cmx) (.slice avx cc.villages.length cvx)) w' := h; have h0 := h.1.2.2; go_simp) rfl ?_
                refine mix_eff2 rfl false rfl (fun K hK => ?_)
                go_simp
                refine (renvyR_c (hC9.call (bnx h_wae (hqd.below _))) (hD9.call (bnx h_wae (hqd.below _)))).mono ?_
                rintro e wbe ⟨v16, rfl, g2, hBn⟩
                have hN : Below wae.heap.size wae wbe := bnx (hqd.below wae.heap.size) hBn
                refine hK _ _ (hF _ (bnx h_wae hN)) ?_
                clear hK K
                refine mix_pur2 rfl (fun K hK => ?_)
                go_simp
                first | refine ⟨_, fun _ => rfl, hK _ ?_⟩ | refine hK _ ?_
                clear hK K
                refine mix_pur2 rfl (fun K hK => ?_)
                go_simp
                first | refine ⟨_, fun _ => rfl, hK _ ?_⟩ | refine hK _ ?_
                clear hK K
                refine mix_pur2 rfl (fun K hK => ?_)
                go_simp
                first | refine ⟨_, fun _ => rfl, hK _ ?_⟩ | refine hK _ ?_
                clear hK K
                refine mix_pur2 rfl (fun K hK => ?_)
                go_simp
                first | refine ⟨_, fun _ => rfl, hK _ ?_⟩ | refine hK _ ?_
                clear hK K
                refine mix_pur2 rfl (fun K hK => ?_)
                go_simp
                first | refine ⟨_, fun _ => rfl, hK _ ?_⟩ | refine hK _ ?_
                clear hK K
                refine mix_done2 ?_
                have h_wbe := bnx h_wae hN
                have g1 := g1.call hN
                clear hqd hBn hN
                have HQ := Lib.hid (sameInts_t g1 g2)
                go_wp2_with fail
                refine HQ.out.mono ?_
                rintro e wce ⟨rfl, hBn⟩
                have h_wce := bnx h_wbe hBn
                clear HQ hBn g1 g2
                as_aux_lemma =>
                  have c0 := (hXb.call h_wce).cell 0
                  have c1 := (hXb.call h_wce).cell 1
                  have HQ := Lib.hid (overR_c (hX.call h_wce) (hDx.call h_wce))
                  go_wp2_with fail
                  clear c0 c1
                  refine HQ.out.mono ?_
                  rintro e wao ⟨v14, rfl, g1, hBn⟩
                  have h_wao := bnx h_wce hBn
                  clear HQ hBn
                  go_wp2_with fail
                  refine wp_region_mix2 (.pur 0 (.pur 1 (.pur 2 (.one 3 (.pur 4 (.pur 5 (.pur 6 (.one 7 (.act 8 (.pur 9 (.pur 10 (.pur 11 (.pur 12 (.pur 13 .fin)))))))))))))) 99 (TrX bc (i * 2) (.slice ma cc.mountains.length mc) (.slice va cc.villages.length vc) bo i (.slice da dd.length dc) X (.slice amx cc.mountains.length cmx) (.slice avx cc.villages.length cvx)) (fun _ => True) (by kernel_rfl) (by kernel_rfl) rfl (by kernel_rfl) (hF _ h_wao).drew (fun wd hqd _ => ?_)
                  refine mix_pur2 rfl (fun K hK => ?_)
                  go_simp
                  first | refine ⟨_, fun _ => rfl, hK _ ?_⟩ | refine hK _ ?_
                  clear hK K
                  refine mix_pur2 rfl (fun K hK => ?_)
                  go_simp
                  first | refine ⟨_, fun _ => rfl, hK _ ?_⟩ | refine hK _ ?_
                  clear hK K
                  refine mix_pur2 rfl (fun K hK => ?_)
                  go_simp
                  first | refine ⟨_, fun _ => rfl, hK _ ?_⟩ | refine hK _ ?_
                  clear hK K
                  refine mix_loadg2 rfl rfl (.agg #[(.slice ma cc.mountains.length mc), (.slice va cc.villages.length vc)]) (by go_simp) (fun w' h => by have h : (TrX bc (i * 2) (.slice ma cc.mountains.length mc) (.slice va cc.villages.length vc) bo i (.slice da dd.length dc) X (.slice amx cc.mountains.length cmx) (.slice avx cc.villages.length cvx)) w' := h; have h0 := h.1.1; have h1 := h.1.2.1; go_simp) rfl ?_
                  refine mix_pur2 rfl (fun K hK => ?_)
                  go_simp
                  first | refine ⟨_, fun _ => rfl, hK _ ?_⟩ | refine hK _ ?_
                  clear hK K
                  refine mix_pur2 rfl (fun K hK => ?_)
                  go_simp
                  first | refine ⟨_, fun _ => rfl, hK _ ?_⟩ | refine hK _ ?_
                  clear hK K
                  refine mix_pur2 rfl (fun K hK => ?_)
                  go_simp
                  first | refine ⟨_, fun _ => rfl, hK _ ?_⟩ | refine hK _ ?_
                  clear hK K
                  refine mix_loadg2 rfl rfl (.slice da dd.length dc) (by go_simp) (fun w' h => by have h : (TrX bc (i * 2) (.slice ma cc.mountains.length mc) (.slice va cc.villages.length vc) bo i (.slice da dd.length dc) X (.slice amx cc.mountains.length cmx) (.slice avx cc.villages.length cvx)) w' := h; have h0 := h.1.2.2; go_simp) rfl ?_
                  refine mix_eff2 rfl false rfl (fun K hK => ?_)
                  go_simp
                  refine (roverR_c (hC9.call (bnx h_wao (hqd.below _))) (hD9.call (bnx h_wao (hqd.below _)))).mono ?_
                  rintro e wbo ⟨v16, rfl, g2, hBn⟩
                  have hN : Below wao.heap.size wao wbo := bnx (hqd.below wao.heap.size) hBn
                  refine hK _ _ (hF _ (bnx h_wao hN)) ?_
                  clear hK K
                  refine mix_pur2 rfl (fun K hK => ?_)
                  go_simp
                  first | refine ⟨_, fun _ => rfl, hK _ ?_⟩ | refine hK _ ?_
                  clear hK K
                  refine mix_pur2 rfl (fun K hK => ?_)
                  go_simp
                  first | refine ⟨_, fun _ => rfl, hK _ ?_⟩ | refine hK _ ?_
                  clear hK K
                  refine mix_pur2 rfl (fun K hK => ?_)
                  go_simp
                  first | refine ⟨_, fun _ => rfl, hK _ ?_⟩ | refine hK _ ?_
                  clear hK K
                  refine mix_pur2 rfl (fun K hK => ?_)
                  go_simp
                  first | refine ⟨_, fun _ => rfl, hK _ ?_⟩ | refine hK _ ?_
                  clear hK K
                  refine mix_pur2 rfl (fun K hK => ?_)
                  go_simp
                  first | refine ⟨_, fun _ => rfl, hK _ ?_⟩ | refine hK _ ?_
                  clear hK K
                  refine mix_done2 ?_
                  have h_wbo := bnx h_wao hN
                  have g1 := g1.call hN
                  clear hqd hBn hN
                  have HQ := Lib.hid (sameInts_t g1 g2)
                  go_wp2_with fail
                  refine HQ.out.mono ?_
                  rintro e wco ⟨rfl, hBn⟩
                  have h_wco := bnx h_wbo hBn
                  clear HQ hBn g1 g2
                  have bg0 : (groupE cc dd != groupE cc dd) = false := by simp
                  as_aux_lemma =>
                    have c0 := (hXb.call h_wco).cell 0
                    have c1 := (hXb.call h_wco).cell 1
                    have HQ := Lib.hid (groupA_c (hX.call h_wco) (hDx.call h_wco))
                    go_wp2_with fail
                    clear c0 c1
                    refine HQ.out.mono ?_
                    rintro e wag ⟨v14, rfl, g1, hBn⟩
                    have h_wag := bnx h_wco hBn
                    clear HQ hBn
                    go_wp2_with fail
                    refine wp_region_mix2 (.pur 0 (.pur 1 (.pur 2 (.one 3 (.pur 4 (.pur 5 (.pur 6 (.one 7 (.act 8 (.pur 9 (.pur 10 (.pur 11 (.pur 12 (.pur 13 .fin)))))))))))))) 99 (TrX bc (i * 2) (.slice ma cc.mountains.length mc) (.slice va cc.villages.length vc) bo i (.slice da dd.length dc) X (.slice amx cc.mountains.length cmx) (.slice avx cc.villages.length cvx)) (fun _ => True) (by kernel_rfl) (by kernel_rfl) rfl (by kernel_rfl) (hF _ h_wag).drew (fun wd hqd _ => ?_)
                    refine mix_pur2 rfl (fun K hK => ?_)
                    go_simp
                    first | refine ⟨_, fun _ => rfl, hK _ ?_⟩ | refine hK _ ?_
                    clear hK K
                    refine mix_pur2 rfl (fun K hK => ?_)
                    go_simp
                    first | refine ⟨_, fun _ => rfl, hK _ ?_⟩ | refine hK _ ?_
                    clear hK K
                    refine mix_pur2 rfl (fun K hK => ?_)
                    go_simp
                    first | refine ⟨_, fun _ => rfl, hK _ ?_⟩ | refine hK _ ?_
                    clear hK K
                    refine mix_loadg2 rfl rfl (.agg #[(.slice ma cc.mountains.length mc), (.slice va cc.villages.length vc)]) (by go_simp) (fun w' h => by have h : (TrX bc (i * 2) (.slice ma cc.mountains.length mc) (.slice va cc.villages.length vc) bo i (.slice da dd.length dc) X (.slice amx cc.mountains.length cmx) (.slice avx cc.villages.length cvx)) w' := h; have h0 := h.1.1; have h1 := h.1.2.1; go_simp) rfl ?_
                    refine mix_pur2 rfl (fun K hK => ?_)
                    go_simp
                    first | refine ⟨_, fun _ => rfl, hK _ ?_⟩ | refine hK _ ?_
                    clear hK K
                    refine mix_pur2 rfl (fun K hK => ?_)
                    go_simp
                    first | refine ⟨_, fun _ => rfl, hK _ ?_⟩ | refine hK _ ?_
                    clear hK K
                    refine mix_pur2 rfl (fun K hK => ?_)
                    go_simp
                    first | refine ⟨_, fun _ => rfl, hK _ ?_⟩ | refine hK _ ?_
                    clear hK K
                    refine mix_loadg2 rfl rfl (.slice da dd.length dc) (by go_simp) (fun w' h => by have h : (TrX bc (i * 2) (.slice ma cc.mountains.length mc) (.slice va cc.villages.length vc) bo i (.slice da dd.length dc) X (.slice amx cc.mountains.length cmx) (.slice avx cc.villages.length cvx)) w' := h; have h0 := h.1.2.2; go_simp) rfl ?_
                    refine mix_eff2 rfl false rfl (fun K hK => ?_)
                    go_simp
                    refine (rgroupA_c (hC9.call (bnx h_wag (hqd.below _))) (hD9.call (bnx h_wag (hqd.below _)))).mono ?_
                    rintro e wbg ⟨v16, rfl, g2, hBn⟩
                    have hN : Below wag.heap.size wag wbg := bnx (hqd.below wag.heap.size) hBn
                    refine hK _ _ (hF _ (bnx h_wag hN)) ?_
                    clear hK K
                    refine mix_pur2 rfl (fun K hK => ?_)
                    go_simp
                    first | refine ⟨_, fun _ => rfl, hK _ ?_⟩ | refine hK _ ?_
                    clear hK K
                    refine mix_pur2 rfl (fun K hK => ?_)
                    go_simp
                    first | refine ⟨_, fun _ => rfl, hK _ ?_⟩ | refine hK _ ?_
                    clear hK K
                    refine mix_pur2 rfl (fun K hK => ?_)
                    go_simp
                    first | refine ⟨_, fun _ => rfl, hK _ ?_⟩ | refine hK _ ?_
                    clear hK K
                    refine mix_pur2 rfl (fun K hK => ?_)
                    go_simp
                    first | refine ⟨_, fun _ => rfl, hK _ ?_⟩ | refine hK _ ?_
                    clear hK K
                    refine mix_pur2 rfl (fun K hK => ?_)
                    go_simp
                    first | refine ⟨_, fun _ => rfl, hK _ ?_⟩ | refine hK _ ?_
                    clear hK K
                    refine mix_done2 ?_
                    have h_wbg := bnx h_wag hN
                    have g1 := g1.call hN
                    clear hqd hBn hN
                    have HQ := Lib.hid (sameInts_t g1 g2)
                    go_wp2_with fail
                    refine HQ.out.mono ?_
                    rintro e wcg ⟨rfl, hBn⟩
                    have h_wcg := bnx h_wbg hBn
                    clear HQ hBn g1 g2
                    as_aux_lemma =>
                      have c0 := (hXb.call h_wcg).cell 0
                      have c1 := (hXb.call h_wcg).cell 1
                      have HQ := Lib.hid (calm_c (hX.call h_wcg))
                      go_wp2_with fail
                      clear c0 c1
                      refine HQ.out.mono ?_
                      rintro e wk ⟨v14, rfl, g1, hBn⟩
                      have h_wk := bnx h_wcg hBn
                      clear HQ hBn
                      have c0 := (hF _ h_wk).1.1
                      have c1 := (hF _ h_wk).1.2.1
                      have HQ := Lib.hid (rcalm_c (hC9.call h_wk))
                      go_wp2_with fail
                      clear c0 c1
                      refine HQ.out.mono ?_
                      rintro e wl ⟨v16, rfl, g2, hBn⟩
                      have h_wl := bnx h_wk hBn
                      have g1 := g1.call hBn
                      clear HQ hBn
                      have c0 := (hXb.call h_wl).cell 0
                      have c1 := (hXb.call h_wl).cell 1
                      have HQ := Lib.hid (room_c (hX.call h_wl))
                      go_wp2_with fail
                      clear c0 c1
                      refine HQ.out.mono ?_
                      rintro e wm ⟨v20, rfl, g3, hBn⟩
                      have h_wm := bnx h_wl hBn
                      have g1 := g1.call hBn
                      have g2 := g2.call hBn
                      clear HQ hBn
                      have c0 := (hF _ h_wm).1.1
                      have c1 := (hF _ h_wm).1.2.1
                      have HQ := Lib.hid (rroom_c (hC9.call h_wm))
                      go_wp2_with fail
                      clear c0 c1
                      refine HQ.out.mono ?_
                      rintro e wn ⟨v23, rfl, g4, hBn⟩
                      have h_wn := bnx h_wm hBn
                      have g1 := g1.call hBn
                      have g2 := g2.call hBn
                      have g3 := g3.call hBn
                      clear HQ hBn
                      have bn0 : (leastN (envySum cc.villages) cc != leastN (envySum cc.villages) cc) = false := by simp
                      have bn1 : (leastN (overSum cc) cc != leastN (overSum cc) cc) = false := by simp
                      have bn2 : (checkE cc != checkE cc) = false := by simp
                      as_aux_lemma =>
                        go_wp2_with fail
                        refine wp_region_mix2 (.pur 0 (.pur 1 (.pur 2 (.pur 3 (.pur 4 (.pur 5 (.pur 6 (.pur 7 (.pur 8 (.pur 9 (.pur 10 (.pur 11 (.pur 12 (.pur 13 (.pur 14 (.pur 15 (.pur 16 (.pur 17 (.pur 18 (.pur 19 (.pur 20 (.act 21 (.pur 22 (.pur 23 (.pur 24 (.pur 25 (.pur 26 (.act 27 (.pur 28 (.pur 29 (.pur 30 (.pur 31 (.pur 32 (.pur 33 (.pur 34 (.one 35 (.act 36 (.pur 37 (.pur 38 (.pur 39 (.one 40 (.pur 41 (.pur 42 (.pur 43 (.one 44 (.act 45 (.pur 46 (.pur 47 .fin)))))))))))))))))))))))))))))))))))))))))))))))) 99 (TrX bc (i * 2) (.slice ma cc.mountains.length mc) (.slice va cc.villages.length vc) bo i (.slice da dd.length dc) X (.slice amx cc.mountains.length cmx) (.slice avx cc.villages.length cvx)) (fun _ => True) (by kernel_rfl) (by kernel_rfl) rfl (by kernel_rfl) (hF _ h_wn).drew (fun wd hqd _ => ?_)
                        have z0 : Below wn.heap.size wn wd := hqd.below _
                        refine mix_pur2 rfl (fun K hK => ?_)
                        go_simp
                        first | refine ⟨_, fun _ => rfl, hK _ ?_⟩ | refine hK _ ?_
                        clear hK K
                        refine mix_pur2 rfl (fun K hK => ?_)
                        go_simp
                        first | refine ⟨_, fun _ => rfl, hK _ ?_⟩ | refine hK _ ?_
                        clear hK K
                        refine mix_pur2 rfl (fun K hK => ?_)
                        go_simp
                        first | refine ⟨_, fun _ => rfl, hK _ ?_⟩ | refine hK _ ?_
                        clear hK K
                        refine mix_pur2 rfl (fun K hK => ?_)
                        go_simp
                        first | refine ⟨_, fun _ => rfl, hK _ ?_⟩ | refine hK _ ?_
                        clear hK K
                        refine mix_pur2 rfl (fun K hK => ?_)
                        go_simp
                        first | refine ⟨_, fun _ => rfl, hK _ ?_⟩ | refine hK _ ?_
                        clear hK K
                        refine mix_pur2 rfl (fun K hK => ?_)
                        go_simp
                        first | refine ⟨_, fun _ => rfl, hK _ ?_⟩ | refine hK _ ?_
                        clear hK K
                        refine mix_pur2 rfl (fun K hK => ?_)
                        go_simp
                        first | refine ⟨_, fun _ => rfl, hK _ ?_⟩ | refine hK _ ?_
                        clear hK K
                        refine mix_pur2 rfl (fun K hK => ?_)
                        go_simp
                        first | refine ⟨_, fun _ => rfl, hK _ ?_⟩ | refine hK _ ?_
                        clear hK K
                        refine mix_pur2 rfl (fun K hK => ?_)
                        go_simp
                        first | refine ⟨_, fun _ => rfl, hK _ ?_⟩ | refine hK _ ?_
                        clear hK K
                        refine mix_pur2 rfl (fun K hK => ?_)
                        go_simp
                        first | refine ⟨_, fun _ => rfl, hK _ ?_⟩ | refine hK _ ?_
                        clear hK K
                        refine mix_pur2 rfl (fun K hK => ?_)
                        go_simp
                        first | refine ⟨_, fun _ => rfl, hK _ ?_⟩ | refine hK _ ?_
                        clear hK K
                        refine mix_pur2 rfl (fun K hK => ?_)
                        go_simp
                        first | refine ⟨_, fun _ => rfl, hK _ ?_⟩ | refine hK _ ?_
                        clear hK K
                        refine mix_pur2 rfl (fun K hK => ?_)
                        go_simp
                        first | refine ⟨_, fun _ => rfl, hK _ ?_⟩ | refine hK _ ?_
                        clear hK K
                        refine mix_pur2 rfl (fun K hK => ?_)
                        go_simp
                        first | refine ⟨_, fun _ => rfl, hK _ ?_⟩ | refine hK _ ?_
                        clear hK K
                        refine mix_pur2 rfl (fun K hK => ?_)
                        go_simp
                        first | refine ⟨_, fun _ => rfl, hK _ ?_⟩ | refine hK _ ?_
                        clear hK K
                        refine mix_pur2 rfl (fun K hK => ?_)
                        go_simp
                        first | refine ⟨_, fun _ => rfl, hK _ ?_⟩ | refine hK _ ?_
                        clear hK K
                        refine mix_pur2 rfl (fun K hK => ?_)
                        go_simp
                        first | refine ⟨_, fun _ => rfl, hK _ ?_⟩ | refine hK _ ?_
                        clear hK K
                        refine mix_pur2 rfl (fun K hK => ?_)
                        go_simp
                        first | refine ⟨_, fun _ => rfl, hK _ ?_⟩ | refine hK _ ?_
                        clear hK K
                        refine mix_pur2 rfl (fun K hK => ?_)
                        go_simp
                        first | refine ⟨_, fun _ => rfl, hK _ ?_⟩ | refine hK _ ?_
                        clear hK K
                        refine mix_pur2 rfl (fun K hK => ?_)
                        go_simp
                        first | refine ⟨_, fun _ => rfl, hK _ ?_⟩ | refine hK _ ?_
                        clear hK K
                        refine mix_pur2 rfl (fun K hK => ?_)
                        go_simp
                        first | refine ⟨_, fun _ => rfl, hK _ ?_⟩ | refine hK _ ?_
                        clear hK K
                        refine mix_eff2 rfl false rfl (fun K hK => ?_)
                        go_simp
                        refine (sameInts_t (g1.call z0) (g2.call z0)).mono ?_
                        rintro e y1 ⟨rfl, hy1⟩
                        have z1 := bnx z0 hy1
                        refine hK _ _ (hF _ (bnx h_wn z1)) ?_
                        clear hK K
                        refine mix_pur2 rfl (fun K hK => ?_)
                        go_simp
                        first | refine ⟨_, fun _ => rfl, hK _ ?_⟩ | refine hK _ ?_
                        clear hK K
                        refine mix_pur2 rfl (fun K hK => ?_)
                        go_simp
                        first | refine ⟨_, fun _ => rfl, hK _ ?_⟩ | refine hK _ ?_
                        clear hK K
                        refine mix_pur2 rfl (fun K hK => ?_)
                        go_simp
                        first | refine ⟨_, fun _ => rfl, hK _ ?_⟩ | refine hK _ ?_
                        clear hK K
                        refine mix_pur2 rfl (fun K hK => ?_)
                        go_simp
                        first | refine ⟨_, fun _ => rfl, hK _ ?_⟩ | refine hK _ ?_
                        clear hK K
                        refine mix_pur2 rfl (fun K hK => ?_)
                        go_simp
                        first | refine ⟨_, fun _ => rfl, hK _ ?_⟩ | refine hK _ ?_
                        clear hK K
                        refine mix_eff2 rfl false rfl (fun K hK => ?_)
                        go_simp
                        refine (sameInts_t (g3.call z1) (g4.call z1)).mono ?_
                        rintro e y2 ⟨rfl, hy2⟩
                        have z2 := bnx z1 hy2
                        refine hK _ _ (hF _ (bnx h_wn z2)) ?_
                        clear hK K
                        refine mix_pur2 rfl (fun K hK => ?_)
                        go_simp
                        first | refine ⟨_, fun _ => rfl, hK _ ?_⟩ | refine hK _ ?_
                        clear hK K
                        refine mix_pur2 rfl (fun K hK => ?_)
                        go_simp
                        first | refine ⟨_, fun _ => rfl, hK _ ?_⟩ | refine hK _ ?_
                        clear hK K
                        refine mix_pur2 rfl (fun K hK => ?_)
                        go_simp
                        first | refine ⟨_, fun _ => rfl, hK _ ?_⟩ | refine hK _ ?_
                        clear hK K
                        refine mix_pur2 rfl (fun K hK => ?_)
                        go_simp
                        first | refine ⟨_, fun _ => rfl, hK _ ?_⟩ | refine hK _ ?_
                        clear hK K
                        refine mix_pur2 rfl (fun K hK => ?_)
                        go_simp
                        first | refine ⟨_, fun _ => rfl, hK _ ?_⟩ | refine hK _ ?_
                        clear hK K
                        refine mix_pur2 rfl (fun K hK => ?_)
                        go_simp
                        first | refine ⟨_, fun _ => rfl, hK _ ?_⟩ | refine hK _ ?_
                        clear hK K
                        refine mix_pur2 rfl (fun K hK => ?_)
                        go_simp
                        first | refine ⟨_, fun _ => rfl, hK _ ?_⟩ | refine hK _ ?_
                        clear hK K
                        refine mix_loadg2 rfl rfl (.slice da dd.length dc) (by go_simp) (fun w' h => by have h : (TrX bc (i * 2) (.slice ma cc.mountains.length mc) (.slice va cc.villages.length vc) bo i (.slice da dd.length dc) X (.slice amx cc.mountains.length cmx) (.slice avx cc.villages.length cvx)) w' := h; have h0 := h.1.2.2; go_simp) rfl ?_
                        refine mix_eff2 rfl false rfl (fun K hK => ?_)
                        go_simp
                        refine (sameInts_t (hDx.call (bnx h_wn z2)) (hD9.call (bnx h_wn z2))).mono ?_
                        rintro e y3 ⟨rfl, hy3⟩
                        have z3 := bnx z2 hy3
                        refine hK _ _ (hF _ (bnx h_wn z3)) ?_
                        clear hK K
                        refine mix_pur2 rfl (fun K hK => ?_)
                        go_simp
                        first | refine ⟨_, fun _ => rfl, hK _ ?_⟩ | refine hK _ ?_
                        clear hK K
                        refine mix_pur2 rfl (fun K hK => ?_)
                        go_simp
                        first | refine ⟨_, fun _ => rfl, hK _ ?_⟩ | refine hK _ ?_
                        clear hK K
                        refine mix_pur2 rfl (fun K hK => ?_)
                        go_simp
                        first | refine ⟨_, fun _ => rfl, hK _ ?_⟩ | refine hK _ ?_
                        clear hK K
                        refine mix_loadg2 rfl rfl (.agg #[(.slice amx cc.mountains.length cmx), (.slice avx cc.villages.length cvx)]) (by go_simp) (fun w' h => by have h : (TrX bc (i * 2) (.slice ma cc.mountains.length mc) (.slice va cc.villages.length vc) bo i (.slice da dd.length dc) X (.slice amx cc.mountains.length cmx) (.slice avx cc.villages.length cvx)) w' := h; have h0 := h.2.cell 0; have h1 := h.2.cell 1; go_simp) rfl ?_
                        refine mix_pur2 rfl (fun K hK => ?_)
                        go_simp
                        first | refine ⟨_, fun _ => rfl, hK _ ?_⟩ | refine hK _ ?_
                        clear hK K
                        refine mix_pur2 rfl (fun K hK => ?_)
                        go_simp
                        first | refine ⟨_, fun _ => rfl, hK _ ?_⟩ | refine hK _ ?_
                        clear hK K
                        refine mix_pur2 rfl (fun K hK => ?_)
                        go_simp
                        first | refine ⟨_, fun _ => rfl, hK _ ?_⟩ | refine hK _ ?_
                        clear hK K
                        refine mix_loadg2 rfl rfl (.agg #[(.slice ma cc.mountains.length mc), (.slice va cc.villages.length vc)]) (by go_simp) (fun w' h => by have h : (TrX bc (i * 2) (.slice ma cc.mountains.length mc) (.slice va cc.villages.length vc) bo i (.slice da dd.length dc) X (.slice amx cc.mountains.length cmx) (.slice avx cc.villages.length cvx)) w' := h; have h0 := h.1.1; have h1 := h.1.2.1; go_simp) rfl ?_
                        refine mix_eff2 rfl false rfl (fun K hK => ?_)
                        go_simp
                        refine (sameCommons_t (hX.call (bnx h_wn z3)) (hC9.call (bnx h_wn z3))).mono ?_
                        rintro e y4 ⟨rfl, hy4⟩
                        have z4 := bnx z3 hy4
                        refine hK _ _ (hF _ (bnx h_wn z4)) ?_
                        clear hK K
                        refine mix_pur2 rfl (fun K hK => ?_)
                        go_simp
                        first | refine ⟨_, fun _ => rfl, hK _ ?_⟩ | refine hK _ ?_
                        clear hK K
                        refine mix_pur2 rfl (fun K hK => ?_)
                        go_simp
                        first | refine ⟨_, fun _ => rfl, hK _ ?_⟩ | refine hK _ ?_
                        clear hK K
                        refine mix_done2 ?_
                        go_wp2_with fail
                        go_roundw
                        case rel => exact ⟨i + 1, by omega, by go_num, bnx hB9 (bnx h_wn z4)⟩
                        case measure => simp [intOf]; omega
          · obtain rfl : i = 3 := by omega
            go_wp2_with (go_at_call 21; refine (drawn_c _).mono ?_; rintro e wz ⟨rfl, hBz⟩)
            go_ret
            exact ⟨rfl, bnx hT1 (bnx hT8 (bnx hB hBz))⟩
    · have b1 : decide ((dv.length : Int) > 20) = true := decide_eq_true (by omega)
      go_wp2_with (go_at_call 21; refine (drawn_c _).mono ?_; rintro e wz ⟨rfl, hBz⟩)
      go_ret
      exact ⟨rfl, bnx hT1 hBz⟩

end Go.Proofs.Ythchpoabncdicaa

namespace Go.Proofs.Ythchpoabncdicaa
open Go.ChangeShapes Go.WideShapes Go.ChangeAt Go.RowKit

set_option maxRecDepth 100000 in
theorem lotsEnvies_lifted (os : Os) (started : os.Started) (H : Type) (enc : TypeId × Value → H) :
    ReturnsInHanded {} Try.checked os 19 .any (Rows.lotsEnviesSpec.pre6 enc Try.prog Try.f19 Rows.lotsEnviesRow.domain false) (Rows.lotsEnviesSpec.post enc Try.prog Try.f19 false true false false) := by
  refine returnsInHanded_of_change (C := Try.checked) Try.own started (by kernel_rfl) Try.func19
    (ChangeSpec.witness6 (enc := enc) (C := Try.checked) false ⟨#[], #[.agg #[.slice none 0 0, .slice none 0 0], .slice none 0 0, .slice none 0 0], []⟩ 8 (by kernel_rfl) (by kernel_rfl) (by kernel_rfl) (by kernel_rfl)) ?_
  intro W base args ds gs before hval0 hW _ _
  have hval : ∀ (j : Nat) t v, Try.f19.params[j]? = some t → args[j]? = some v → Value.okWide Try.prog W .any base t v := hval0
  have hW' := hW
  obtain ⟨p, q, hA0, hV, rfl, _, _⟩ := hW
  have hA : DataW.TrodAll enc Try.prog W 0 (fun _ => true) true Try.f19.params.toList args.toList ds p := hA0
  rw [Try.params19] at hA hval
  obtain ⟨v0, r0, d0, s0, p0, q0, ha0, rfl, rfl, h0, hA⟩ := trodAll_cons hA
  obtain ⟨v1, r1, d1, s1, p1, q1, rfl, rfl, rfl, h1, hA⟩ := trodAll_cons hA
  obtain ⟨v2, r2, d2, s2, p2, q2, rfl, rfl, rfl, h2, hA⟩ := trodAll_cons hA
  obtain ⟨rfl, rfl, rfl⟩ := trodAll_nil hA
  obtain rfl : args = #[v0, v1, v2] := by cases args; simp_all
  obtain ⟨rfl, rfl⟩ := trodVars_none hV
  obtain ⟨vm0, vv0, c0, rfl, g0⟩ := com_of_arg (hval 0 25 v0 rfl rfl) h0
  obtain ⟨l1, g1⟩ := ints_of_arg (hval 1 22 v1 rfl rfl) h1
  obtain ⟨l2, g2⟩ := ints_of_arg (hval 2 22 v2 rfl rfl) h2
  refine (lotsEnvies_c g0 g1 g2).mono fun e W' ⟨he, hB⟩ => ?_
  subst he
  refine ⟨_, rfl, post_of_below hW' rfl (fun _ _ _ => trodAll_mk1 (shut_bool Try.underlying4 true)) (fun t ht => ?_) rfl rfl hB (ok_one (by kernel_rfl) rfl (okWide_bool_mk Try.underlying4 true))⟩
  rw [Try.params19] at ht
  simp only [List.mem_cons, List.not_mem_nil, or_false] at ht
  rcases ht with rfl | rfl | rfl <;> exact ⟨by kernel_rfl, of_decide_eq_true (by kernel_rfl)⟩

theorem lotsEnvies_holds : Rows.LotsEnviesSaid :=
  OpenClaim.holds_of_wide 19 Try.f19 rfl rfl rfl rfl rfl rfl rfl ⟨rfl, rfl, rfl, rfl, rfl⟩ rfl rfl rfl rfl rfl (by kernel_rfl) Try.func19 (by kernel_rfl)
    (of_decide_eq_true (by kernel_rfl)) (by unfold Func.isWrapper; first | (rw [if_pos (by decide +kernel)]; kernel_rfl) | (rw [if_neg (by decide +kernel)]; exact ⟨rfl, rfl⟩))
    (fun os started H enc _ => lotsEnvies_lifted os started H enc)

end Go.Proofs.Ythchpoabncdicaa
