/- All lists of years that go on from some (mestaref08.Cycles); conditions: at most four mountains. -/
import Derived.Test.YthchpoabncdicaaRF6
namespace Go.Proofs.Ythchpoabncdicaa
open Go.RowKit

def CyS (b o : Nat) (r : Value) (w : World) : Prop := w.cell? ⟨b, o, none⟩ = some r
theorem CyS.drew {b o : Nat} {r : Value} {w : World} (h : CyS b o r w) : CyS b o r w.drew := h

set_option maxRecDepth 100000 in
set_option maxHeartbeats 4000000 in
theorem rcycles_c {n : Nat} (hn4 : n ≤ 4) : ∀ (r : Nat) (b : List (List Int)) (w : World) (v2 : Value) (A : Nat → Prop), Grid A w v2 b → (∀ a ∈ b, a.length = n) → b.length + r = n →
    Calls Try.prog 95 #[.int .i64 n, v2] w fun e w' => ∃ v', e = .returned v' ∧ Cube (fun q => (A q ∧ q < w.heap.size) ∨ w.heap.size ≤ q) w' v' (cycL n r b) ∧ Below w.heap.size w w'
  | 0, b, w, v2, A, h2, hlb, hl => by
    have hs2 := h2.shape
    have hl' : b.length = n := by omega
    rw [hl'] at hs2
    obtain ⟨a2, c2, rfl, _, _⟩ := hs2
    clear hl hlb
    have HL := Lib.hid hl'
    clear hl'
    go_enter Try.func95, Try.ntmps95
    go_wp2
    go_ret
    refine ⟨_, rfl, ⟨[.slice a2 n c2], rfl, (arr_one w 35 _).wide fun k hk _ => .inr hk, fun i a bb => ?_⟩, (Below.refl _ w).alloc (Nat.le_refl _) _⟩
    have : i = 0 := by simpa using a
    subst this
    exact (h2.wide fun k hk hl => .inl ⟨hk, hl⟩).call ((Below.refl _ w).alloc (Nat.le_refl _) _)
  | r + 1, b, w, v2, A, h2, hlb, hl => by
    have ih := rcycles_c hn4 r
    have hbl : b.length < n := by omega
    have hbr : b.length + 1 + r = n := by omega
    have hbr1 : b.length + 1 + r ≤ n := by omega
    have hbr2 : n ≤ b.length + 1 + r := by omega
    have hlen : ∀ d, (cycL n r (b ++ [d])).length ≤ 24 ^ 3 := fun d => Nat.le_trans (cycL_len hn4 r _) (Nat.pow_le_pow_right (by omega) (by omega))
    have htl : ∀ k, k ≤ (exts n n []).length → (cycTo n r b k).length ≤ 331776 := fun k hk => by
      have h1 := cycTo_len (b := b) (fun d => cycL_len hn4 r (b ++ [d])) k hk
      have h2 : 24 ^ r ≤ 24 ^ 3 := Nat.pow_le_pow_right (by omega) (by omega)
      have h3 : k * 24 ^ r ≤ 24 * 24 ^ 3 := Nat.mul_le_mul (by have := (exts_all hn4).1; omega) h2
      omega
    obtain ⟨hD24, hDn⟩ := exts_all hn4
    rw [cycL_succ]
    obtain ⟨a2, c2, rfl, _, _⟩ := h2.shape
    have nb : ((b.length : Int) == (n : Int)) = false := by simp; omega
    have hdv := rdivs_c hn4 n [] w (.slice none 0 0) (fun _ => False) (ints_nil _ _) (by simp)
    have IH := Lib.hid ih
    have HLB := Lib.hid hlb
    have HDV := Lib.hid hdv
    have HLEN := Lib.hid hlen
    have HTL := Lib.hid htl
    have HDN := Lib.hid hDn
    clear ih hl hlb hdv hlen htl hDn hbr
    go_enter Try.func95, Try.ntmps95
    go_wp2_with fail
    refine HDV.out.mono ?_
    rintro e w1 ⟨va, rfl, hD, hB1⟩
    clear HDV
    have hws := hB1.size
    have hD := hD.wide (A' := fun q => ((A q ∧ q < w.heap.size) ∨ w.heap.size ≤ q) ∧ q < w1.heap.size) (fun q hq hl => by rcases hq with hq | hq; exact hq.elim; exact ⟨.inr hq, hl⟩)
    have hb1 := (h2.wide (A' := fun q => ((A q ∧ q < w.heap.size) ∨ w.heap.size ≤ q) ∧ q < w1.heap.size) (fun q hq hl => ⟨.inl ⟨hq, hl⟩, by omega⟩)).call hB1
    obtain ⟨aD, cD, rfl, _, _⟩ := hD.shape
    go_wp2_with fail
    go_loopw [5, 7] (fun s5 s7 wr => ∃ (k : Nat) (out : List (List (List Int))), k ≤ (exts n n []).length ∧ s7 = .int .i64 k ∧ out = cycTo n r b k ∧ GOC (fun q => (A q ∧ q < w.heap.size) ∨ w.heap.size ≤ q) w1.heap.size wr s5 out ∧ Below w1.heap.size w1 wr) (fun _ s7 _ => (exts n n []).length - (intOf s7).toNat)
    case atStart => exact ⟨0, [], Nat.zero_le _, rfl, by simp [cycTo], GOC.nil _ _ _, Below.refl _ _⟩
    case round =>
      obtain ⟨k, out, hk, rfl, hout, hGo, hB⟩ := hrel
      have hol := HTL.out k hk
      rw [← hout] at hol
      have HOUT := Lib.hid hout
      have hsz := hB.size
      clear hout
      by_cases hkD : k < (exts n n []).length
      · obtain ⟨bD, oD, rfl, -, hbD⟩ := hD.addr (by omega)
        obtain ⟨da, dc, r1, hrow⟩ := hD.row k hkD
        have hdn := HDN.out _ (List.getElem_mem hkD)
        have hlbd0 : ∀ a ∈ b ++ [(exts n n [])[k]], a.length = n := fun a ha => by
          rcases List.mem_append.1 ha with ha | ha
          · exact HLB.out a ha
          · rw [List.mem_singleton] at ha; rw [ha]; exact hdn
        obtain ⟨SS, hSS⟩ : ∃ SS, SS = cycL n r (b ++ [(exts n n [])[k]]) := ⟨_, rfl⟩
        have hSl : SS.length ≤ 13824 := by rw [hSS]; exact HLEN.out _
        have hfit := rfits_c (hb1.call hB) (hrow.call hB) (fun a ha => by rw [hdn]; exact HLB.out a ha) (by omega) (by rw [hdn]; exact hn4)
        obtain ⟨d, hd⟩ : ∃ d, d = (exts n n [])[k] := ⟨_, rfl⟩
        rw [← hd] at r1 hrow hlbd0 hfit hSS hdn
        have HSS := Lib.hid hSS
        have HFIT := Lib.hid hfit
        have hlbd := hlbd0
        have HD := Lib.hid hd
        rw [hdn] at r1 hrow hfit
        have HFIT := Lib.hid hfit
        have hE : ∀ w', Below w1.heap.size w1 w' → (CyS bD (oD + k) (.slice da n dc)) w' := fun w' h => (World.cell?_of_block (h.block bD hbD)).trans r1
        have g1 := hE _ hB
        unfold CyS at g1
        clear hfit hSS hd hlbd0 hdn
        cases hft : fitsTo b d b.length with
        | false =>
          have HFT := Lib.hid hft
          have hfit := HFIT.out
          rw [hft] at hfit
          have HF2 := Lib.hid hfit
          clear hfit hft
          go_wp2_with (go_at_call 132; refine HF2.out.mono ?_; rintro e wq ⟨rfl, hq⟩)
          go_roundw
          case rel => exact ⟨k + 1, out, by omega, by go_num, by rw [HOUT.out, cycTo_succ n r b k hkD, ← HD.out, HFT.out]; simp, hGo.call (hq.below _), hB.trans (hq.below _)⟩
          case measure => simp [intOf]; omega
        | true =>
          have HFT := Lib.hid hft
          have hfit := HFIT.out
          rw [hft] at hfit
          have HF2 := Lib.hid hfit
          clear hfit hft
          obtain ⟨us, hu, hArr0, hus⟩ := hb1
          have hone := grid_one hu hus
          have hvl0 : ∀ q, u5.ownBlock = some q → w1.heap.size ≤ q ∧ q < wr.heap.size := fun q hq => by obtain ⟨_, _, ho, _⟩ := hGo; exact ho.lt q hq
          go_wp2_with (go_at_call 132; refine HF2.out.mono ?_; rintro e wb ⟨rfl, hq⟩)
          have hB := hB.trans (hq.below _)
          have hGo := hGo.call (hq.below _)
          have hvl : ∀ q, u5.ownBlock = some q → w1.heap.size ≤ q ∧ q < wb.heap.size := fun q h => by rw [hq.size]; exact hvl0 q h
          have hsz := hB.size
          have hBq0 : ∀ w', Below wb.heap.size wb w' → Below w1.heap.size w1 w' := fun w' h => hB.trans (h.mono hsz)
          clear hq hvl0 g1
          refine wp_region_mix2 (.pur 0 (.pur 1 (.pur 3 (.pur 5 (.pur 6 (.pur 7 (.one 8 (.two 2 (.two 4 (.act 9 (.act 10 (.act 11 (.act 12 (.act 13 .fin))))) 9 (.act 4 (.act 10 (.act 11 (.act 12 (.act 13 .fin)))))) 9 (.act 2 (.act 4 (.act 10 (.act 11 (.act 12 (.act 13 .fin)))))))))))))) 99 (CyS bD (oD + k) (.slice da n dc)) (fun _ => True) (by kernel_rfl) (by kernel_rfl) rfl (by kernel_rfl) (hE _ hB).drew (fun wd hqd _ => ?_)
          have hBr : Below wb.heap.size wb wd := hqd.below _
          refine mix_pur2 rfl (fun K hK => ?_)
          go_simp
          first | refine ⟨_, fun _ => rfl, hK _ ?_⟩ | refine hK _ ?_
          clear hK K
          refine mix_pur2 rfl (fun K hK => ?_)
          go_simp
          first | refine ⟨_, fun _ => rfl, hK _ ?_⟩ | refine hK _ ?_
          clear hK K
          refine mix_pur2 rfl (fun K hK => ?_)
          go_simp
          first | refine ⟨_, fun _ => rfl, hK _ ?_⟩ | refine hK _ ?_
          clear hK K
          refine mix_pur2 rfl (fun K hK => ?_)
          go_simp
          first | refine ⟨_, fun _ => rfl, hK _ ?_⟩ | refine hK _ ?_
          clear hK K
          refine mix_pur2 rfl (fun K hK => ?_)
          go_simp
          first | refine ⟨_, fun _ => rfl, hK _ ?_⟩ | refine hK _ ?_
          clear hK K
          refine mix_pur2 rfl (fun K hK => ?_)
          go_simp
          first | refine ⟨_, fun _ => rfl, hK _ ?_⟩ | refine hK _ ?_
          clear hK K
          refine mix_loadg2 rfl rfl (.slice da n dc) (by go_simp) (fun w' h => by have h : (CyS bD (oD + k) (.slice da n dc)) w' := h; have h0 : _ := h; unfold CyS at h0; go_simp) rfl ?_
          refine mix_two2 rfl rfl false false rfl rfl (fun K hK => ?_) (fun K hK => ?_)
          · go_simp
            have hBn := (Below.refl wd.heap.size wd).alloc (Nat.le_refl _) (.cells #[] 22)
            have hX2 : wb.heap.size ≤ wd.heap.size := hBr.size
            have hsq : (wd.alloc (.cells #[] 22)).heap.size = wd.heap.size + 1 := by simp
            have hL := own_lit wd 22 1 #[] 0 rfl (by omega)
            have hBr := hBr.trans (hBn.mono hBr.size)
            refine hK _ _ (hE _ (hB.trans (hBr.mono hsz))) ?_
            clear hK K hBn
            generalize wd.alloc (.cells #[] 22) = wq0 at *
            refine mix_two2 rfl rfl false false rfl rfl (fun K hK => ?_) (fun K hK => ?_)
            · have hArr := Arr.step hArr0 (hBq0 _ hBr).size (fun q _ hl => (hBq0 _ hBr).block q hl)
              refine step_append_arr rfl _ _ 35 rfl 22 (.slice none 0 0) 1 24 Try.under35 Try.info22 rfl (by decide) (by decide) (by omega) hL rfl hArr rfl (by rw [hu, Nat.mul_one]) hone (by omega) ?_
              intro v4 wq1 hown4 hT
              rw [List.nil_append, Nat.zero_add] at hown4
              have hsT4 := hT.size
              have hBr := hT.below2 hL hBr (by omega) (by omega)
              obtain ⟨ax4, cx4, rfl⟩ := own_slice hown4
              refine hK _ _ (hE _ (hB.trans (hBr.mono hsz))) ?_
              clear hK K hL hT hArr
              refine mix_eff2 rfl false rfl (fun K hK => ?_)
              go_simp
              have hBn := (Below.refl wq1.heap.size wq1).alloc (Nat.le_refl _) (.cells #[(.slice da n dc)] 22)
              have hsq9 : (wq1.alloc (.cells #[(.slice da n dc)] 22)).heap.size = wq1.heap.size + 1 := by simp
              have hl9 := (arr_one wq1 22 (.slice da n dc)).wide (A' := fun k => k = wq1.heap.size) (fun k hb hl => by omega)
              have hX9 : wb.heap.size ≤ wq1.heap.size := hBr.size
              have hown4 := Own.call hown4 hBn
              have hBr := hBr.trans (hBn.mono hBr.size)
              refine hK _ _ (hE _ (hB.trans (hBr.mono hsz))) ?_
              clear hK K hBn
              generalize wq1.alloc (.cells #[(.slice da n dc)] 22) = wq2 at *
              refine mix_eff2 rfl false rfl (fun K hK => ?_)
              refine step_append_arr rfl _ _ 35 rfl 22 (.slice none 0 0) 1 24 Try.under35 Try.info22 rfl (by decide) (by decide) (by omega) hown4 rfl hl9 rfl rfl (one_slice _ _ _) (by omega) ?_
              intro v10 wq3 hown10 hT
              have hsT10 := hT.size
              have hBr := hT.below2 hown4 hBr (by omega) (by omega)
              obtain ⟨ax10, cx10, rfl⟩ := own_slice hown10
              refine hK _ _ (hE _ (hB.trans (hBr.mono hsz))) ?_
              clear hK K hT hown4 hl9
              refine mix_eff2 rfl false rfl (fun K hK => ?_)
              have hBq := hBq0 _ hBr
              have hcs : wb.heap.size ≤ wq3.heap.size := hBr.size
              have hgr := grid_put (A := fun q => (((A q ∧ q < w.heap.size) ∨ w.heap.size ≤ q) ∧ q < w1.heap.size) ∨ wb.heap.size ≤ q) hu (fun i a bb => ((hus i a bb).call hBq).wide fun q hq _ => .inl hq) ((hrow.call hBq).wide fun q hq _ => .inl hq) hown10 (fun q hq => .inr (by omega))
              have hih := IH.out (b ++ [d]) _ _ _ hgr hlbd (by rw [List.length_append, List.length_singleton]; omega)
              rw [← HSS.out] at hih
              have HIH := Lib.hid hih
              clear hih hgr hBq
              go_simp
              refine HIH.out.mono ?_
              rintro e wq4 ⟨v11, rfl, hCb, hBn⟩
              have hBr := hBr.trans (hBn.mono hBr.size)
              have hcs3 : wb.heap.size ≤ wq4.heap.size := hBr.size
              obtain ⟨ad11, cd11, he11, -, -⟩ := hCb.shape
              subst he11
              refine hK _ _ (hE _ (hB.trans (hBr.mono hsz))) ?_
              clear hK K hown10 HIH
              refine mix_eff2 rfl false rfl (fun K hK => ?_)
              obtain ⟨us3, hu3, hArr3, hus3⟩ := hCb
              obtain ⟨vs3, hv3, ho3, hrows3⟩ := hGo.call hBr
              have hone3 := cube_one hu3 hus3
              have hr3 : ∀ i (a : i < us3.length) (bb : i < SS.length), Grid (fun q => ((A q ∧ q < w.heap.size) ∨ w.heap.size ≤ q) ∧ u5.ownBlock ≠ some q) _ us3[i] SS[i] := fun i a bb => (hus3 i a bb).wide fun q hq _ => by rcases hq with ⟨hq | hq, _⟩ | hq; exact ⟨hq.1, fun e => by have := hvl q e; have := hq.2; omega⟩; exact ⟨.inr (by omega), fun e => by have := hvl q e; omega⟩; exact ⟨.inr (by omega), fun e => by have := hvl q e; omega⟩
              refine step_append_arr rfl _ _ 113 rfl 35 (.slice none 0 0) 1 24 Try.under113 Try.info35 rfl (by decide) (by decide) (by omega) ho3 rfl hArr3 rfl (by rw [hu3, Nat.mul_one]) hone3 (by omega) ?_
              intro v12 wq5 hown12 hT
              have hGn := gputsC hv3 hrows3 hu3 hr3 hown12 hT
              have hB5 : Below w1.heap.size w1 _ := hT.below ho3 (hB.trans (hBr.mono hsz)) (by have := hBr.size; omega)
              obtain ⟨ax12, cx12, rfl⟩ := own_slice hown12
              refine hK _ _ (hE _ hB5) ?_
              clear hK K hT hown12 hArr3 hus3 hone3 hr3 hrows3
              refine mix_eff2 rfl false rfl (fun K hK => ?_)
              go_simp
              refine hK _ _ (hE _ hB5) ?_
              clear hK K
              refine mix_done2 ?_
              go_wp2_with fail
              go_roundw
              case rel => exact ⟨k + 1, _, by omega, by go_num, by rw [HOUT.out, cycTo_succ n r b k hkD, ← HD.out, if_pos HFT.out, HSS.out], hGn, hB5⟩
              case measure => simp [intOf]; omega
            · go_simp
              have hBn := (Below.refl wq0.heap.size wq0).alloc (Nat.le_refl _) (.cells #[(.slice da n dc)] 22)
              have hsq9 : (wq0.alloc (.cells #[(.slice da n dc)] 22)).heap.size = wq0.heap.size + 1 := by simp
              have hl9 := (arr_one wq0 22 (.slice da n dc)).wide (A' := fun k => k = wq0.heap.size) (fun k hb hl => by omega)
              have hX9 : wb.heap.size ≤ wq0.heap.size := hBr.size
              have hL := Own.call hL hBn
              rw [hsq] at hl9
              have hBr := hBr.trans (hBn.mono hBr.size)
              refine hK _ _ (hE _ (hB.trans (hBr.mono hsz))) ?_
              clear hK K hBn
              generalize wq0.alloc (.cells #[(.slice da n dc)] 22) = wq1 at *
              refine mix_eff2 rfl false rfl (fun K hK => ?_)
              have hArr := Arr.step hArr0 (hBq0 _ hBr).size (fun q _ hl => (hBq0 _ hBr).block q hl)
              refine step_append_arr rfl _ _ 35 rfl 22 (.slice none 0 0) 1 24 Try.under35 Try.info22 rfl (by decide) (by decide) (by omega) hL rfl hArr rfl (by rw [hu, Nat.mul_one]) hone (by omega) ?_
              intro v4 wq2 hown4 hT
              rw [List.nil_append, Nat.zero_add] at hown4
              have hsT4 := hT.size
              have hl9 := Arr.step hl9 hT.size (fun k hk hl => hT.block k hl (fun e => by have e : wd.heap.size = k := Option.some.inj e; omega))
              have hBr := hT.below2 hL hBr (by omega) (by omega)
              obtain ⟨ax4, cx4, rfl⟩ := own_slice hown4
              refine hK _ _ (hE _ (hB.trans (hBr.mono hsz))) ?_
              clear hK K hL hT hArr
              refine mix_eff2 rfl false rfl (fun K hK => ?_)
              refine step_append_arr rfl _ _ 35 rfl 22 (.slice none 0 0) 1 24 Try.under35 Try.info22 rfl (by decide) (by decide) (by omega) hown4 rfl hl9 rfl rfl (one_slice _ _ _) (by omega) ?_
              intro v10 wq3 hown10 hT
              have hsT10 := hT.size
              have hBr := hT.below2 hown4 hBr (by omega) (by omega)
              obtain ⟨ax10, cx10, rfl⟩ := own_slice hown10
              refine hK _ _ (hE _ (hB.trans (hBr.mono hsz))) ?_
              clear hK K hT hown4 hl9
              refine mix_eff2 rfl false rfl (fun K hK => ?_)
              have hBq := hBq0 _ hBr
              have hcs : wb.heap.size ≤ wq3.heap.size := hBr.size
              have hgr := grid_put (A := fun q => (((A q ∧ q < w.heap.size) ∨ w.heap.size ≤ q) ∧ q < w1.heap.size) ∨ wb.heap.size ≤ q) hu (fun i a bb => ((hus i a bb).call hBq).wide fun q hq _ => .inl hq) ((hrow.call hBq).wide fun q hq _ => .inl hq) hown10 (fun q hq => .inr (by omega))
              have hih := IH.out (b ++ [d]) _ _ _ hgr hlbd (by rw [List.length_append, List.length_singleton]; omega)
              rw [← HSS.out] at hih
              have HIH := Lib.hid hih
              clear hih hgr hBq
              go_simp
              refine HIH.out.mono ?_
              rintro e wq4 ⟨v11, rfl, hCb, hBn⟩
              have hBr := hBr.trans (hBn.mono hBr.size)
              have hcs3 : wb.heap.size ≤ wq4.heap.size := hBr.size
              obtain ⟨ad11, cd11, he11, -, -⟩ := hCb.shape
              subst he11
              refine hK _ _ (hE _ (hB.trans (hBr.mono hsz))) ?_
              clear hK K hown10 HIH
              refine mix_eff2 rfl false rfl (fun K hK => ?_)
              obtain ⟨us3, hu3, hArr3, hus3⟩ := hCb
              obtain ⟨vs3, hv3, ho3, hrows3⟩ := hGo.call hBr
              have hone3 := cube_one hu3 hus3
              have hr3 : ∀ i (a : i < us3.length) (bb : i < SS.length), Grid (fun q => ((A q ∧ q < w.heap.size) ∨ w.heap.size ≤ q) ∧ u5.ownBlock ≠ some q) _ us3[i] SS[i] := fun i a bb => (hus3 i a bb).wide fun q hq _ => by rcases hq with ⟨hq | hq, _⟩ | hq; exact ⟨hq.1, fun e => by have := hvl q e; have := hq.2; omega⟩; exact ⟨.inr (by omega), fun e => by have := hvl q e; omega⟩; exact ⟨.inr (by omega), fun e => by have := hvl q e; omega⟩
              refine step_append_arr rfl _ _ 113 rfl 35 (.slice none 0 0) 1 24 Try.under113 Try.info35 rfl (by decide) (by decide) (by omega) ho3 rfl hArr3 rfl (by rw [hu3, Nat.mul_one]) hone3 (by omega) ?_
              intro v12 wq5 hown12 hT
              have hGn := gputsC hv3 hrows3 hu3 hr3 hown12 hT
              have hB5 : Below w1.heap.size w1 _ := hT.below ho3 (hB.trans (hBr.mono hsz)) (by have := hBr.size; omega)
              obtain ⟨ax12, cx12, rfl⟩ := own_slice hown12
              refine hK _ _ (hE _ hB5) ?_
              clear hK K hT hown12 hArr3 hus3 hone3 hr3 hrows3
              refine mix_eff2 rfl false rfl (fun K hK => ?_)
              go_simp
              refine hK _ _ (hE _ hB5) ?_
              clear hK K
              refine mix_done2 ?_
              go_wp2_with fail
              go_roundw
              case rel => exact ⟨k + 1, _, by omega, by go_num, by rw [HOUT.out, cycTo_succ n r b k hkD, ← HD.out, if_pos HFT.out, HSS.out], hGn, hB5⟩
              case measure => simp [intOf]; omega
          · go_simp
            have hBn := (Below.refl wd.heap.size wd).alloc (Nat.le_refl _) (.cells #[(.slice da n dc)] 22)
            have hsq9 : (wd.alloc (.cells #[(.slice da n dc)] 22)).heap.size = wd.heap.size + 1 := by simp
            have hl9 := (arr_one wd 22 (.slice da n dc)).wide (A' := fun k => k = wd.heap.size) (fun k hb hl => by omega)
            have hX9 : wb.heap.size ≤ wd.heap.size := hBr.size
            have hBr := hBr.trans (hBn.mono hBr.size)
            refine hK _ _ (hE _ (hB.trans (hBr.mono hsz))) ?_
            clear hK K hBn
            generalize wd.alloc (.cells #[(.slice da n dc)] 22) = wq0 at *
            refine mix_eff2 rfl false rfl (fun K hK => ?_)
            go_simp
            have hBn := (Below.refl wq0.heap.size wq0).alloc (Nat.le_refl _) (.cells #[] 22)
            have hX2 : wb.heap.size ≤ wq0.heap.size := hBr.size
            have hsq : (wq0.alloc (.cells #[] 22)).heap.size = wq0.heap.size + 1 := by simp
            have hL := own_lit wq0 22 1 #[] 0 rfl (by omega)
            have hl9 := Arr.step hl9 hBn.size (fun k _ hl => hBn.block k hl)
            rw [hsq9] at hL
            have hBr := hBr.trans (hBn.mono hBr.size)
            refine hK _ _ (hE _ (hB.trans (hBr.mono hsz))) ?_
            clear hK K hBn
            generalize wq0.alloc (.cells #[] 22) = wq1 at *
            refine mix_eff2 rfl false rfl (fun K hK => ?_)
            have hArr := Arr.step hArr0 (hBq0 _ hBr).size (fun q _ hl => (hBq0 _ hBr).block q hl)
            refine step_append_arr rfl _ _ 35 rfl 22 (.slice none 0 0) 1 24 Try.under35 Try.info22 rfl (by decide) (by decide) (by omega) hL rfl hArr rfl (by rw [hu, Nat.mul_one]) hone (by omega) ?_
            intro v4 wq2 hown4 hT
            rw [List.nil_append, Nat.zero_add] at hown4
            have hsT4 := hT.size
            have hl9 := Arr.step hl9 hT.size (fun k hk hl => hT.block k hl (fun e => by have e : (wd.heap.size + 1) = k := Option.some.inj e; omega))
            have hBr := hT.below2 hL hBr (by omega) (by omega)
            obtain ⟨ax4, cx4, rfl⟩ := own_slice hown4
            refine hK _ _ (hE _ (hB.trans (hBr.mono hsz))) ?_
            clear hK K hL hT hArr
            refine mix_eff2 rfl false rfl (fun K hK => ?_)
            refine step_append_arr rfl _ _ 35 rfl 22 (.slice none 0 0) 1 24 Try.under35 Try.info22 rfl (by decide) (by decide) (by omega) hown4 rfl hl9 rfl rfl (one_slice _ _ _) (by omega) ?_
            intro v10 wq3 hown10 hT
            have hsT10 := hT.size
            have hBr := hT.below2 hown4 hBr (by omega) (by omega)
            obtain ⟨ax10, cx10, rfl⟩ := own_slice hown10
            refine hK _ _ (hE _ (hB.trans (hBr.mono hsz))) ?_
            clear hK K hT hown4 hl9
            refine mix_eff2 rfl false rfl (fun K hK => ?_)
            have hBq := hBq0 _ hBr
            have hcs : wb.heap.size ≤ wq3.heap.size := hBr.size
            have hgr := grid_put (A := fun q => (((A q ∧ q < w.heap.size) ∨ w.heap.size ≤ q) ∧ q < w1.heap.size) ∨ wb.heap.size ≤ q) hu (fun i a bb => ((hus i a bb).call hBq).wide fun q hq _ => .inl hq) ((hrow.call hBq).wide fun q hq _ => .inl hq) hown10 (fun q hq => .inr (by omega))
            have hih := IH.out (b ++ [d]) _ _ _ hgr hlbd (by rw [List.length_append, List.length_singleton]; omega)
            rw [← HSS.out] at hih
            have HIH := Lib.hid hih
            clear hih hgr hBq
            go_simp
            refine HIH.out.mono ?_
            rintro e wq4 ⟨v11, rfl, hCb, hBn⟩
            have hBr := hBr.trans (hBn.mono hBr.size)
            have hcs3 : wb.heap.size ≤ wq4.heap.size := hBr.size
            obtain ⟨ad11, cd11, he11, -, -⟩ := hCb.shape
            subst he11
            refine hK _ _ (hE _ (hB.trans (hBr.mono hsz))) ?_
            clear hK K hown10 HIH
            refine mix_eff2 rfl false rfl (fun K hK => ?_)
            obtain ⟨us3, hu3, hArr3, hus3⟩ := hCb
            obtain ⟨vs3, hv3, ho3, hrows3⟩ := hGo.call hBr
            have hone3 := cube_one hu3 hus3
            have hr3 : ∀ i (a : i < us3.length) (bb : i < SS.length), Grid (fun q => ((A q ∧ q < w.heap.size) ∨ w.heap.size ≤ q) ∧ u5.ownBlock ≠ some q) _ us3[i] SS[i] := fun i a bb => (hus3 i a bb).wide fun q hq _ => by rcases hq with ⟨hq | hq, _⟩ | hq; exact ⟨hq.1, fun e => by have := hvl q e; have := hq.2; omega⟩; exact ⟨.inr (by omega), fun e => by have := hvl q e; omega⟩; exact ⟨.inr (by omega), fun e => by have := hvl q e; omega⟩
            refine step_append_arr rfl _ _ 113 rfl 35 (.slice none 0 0) 1 24 Try.under113 Try.info35 rfl (by decide) (by decide) (by omega) ho3 rfl hArr3 rfl (by rw [hu3, Nat.mul_one]) hone3 (by omega) ?_
            intro v12 wq5 hown12 hT
            have hGn := gputsC hv3 hrows3 hu3 hr3 hown12 hT
            have hB5 : Below w1.heap.size w1 _ := hT.below ho3 (hB.trans (hBr.mono hsz)) (by have := hBr.size; omega)
            obtain ⟨ax12, cx12, rfl⟩ := own_slice hown12
            refine hK _ _ (hE _ hB5) ?_
            clear hK K hT hown12 hArr3 hus3 hone3 hr3 hrows3
            refine mix_eff2 rfl false rfl (fun K hK => ?_)
            go_simp
            refine hK _ _ (hE _ hB5) ?_
            clear hK K
            refine mix_done2 ?_
            go_wp2_with fail
            go_roundw
            case rel => exact ⟨k + 1, _, by omega, by go_num, by rw [HOUT.out, cycTo_succ n r b k hkD, ← HD.out, if_pos HFT.out, HSS.out], hGn, hB5⟩
            case measure => simp [intOf]; omega
      · obtain rfl : k = (exts n n []).length := by omega
        have hfin := HOUT.out
        subst hfin
        go_wp2
        go_ret
        exact ⟨_, rfl, hGo.cube (fun q hq => hq) (fun q hq => .inr (by omega)), hB1.trans (hB.mono hws)⟩

end Go.Proofs.Ythchpoabncdicaa
