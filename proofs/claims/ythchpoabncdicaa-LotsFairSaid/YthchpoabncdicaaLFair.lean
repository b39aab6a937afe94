/- The walk of LotsFair: it hands back true, whatever the arguments; conditions: they read as commons and a list. -/
import Derived.Test.YthchpoabncdicaaFairP
import Derived.Test.YthchpoabncdicaaShort
namespace Go.Proofs.Ythchpoabncdicaa
open Go.RowKit

/-- What a round over the commons reads. -/
def FaX (b1 o1 : Nat) (vm vv : Value) (X : Nat) (mx vx : Value) (w : World) : Prop := w.cell? ⟨b1, o1, none⟩ = some vm ∧ w.cell? ⟨b1, o1 + 1, none⟩ = some vv ∧ Blk X #[mx, vx] 25 w
theorem FaX.drew {b1 o1 : Nat} {vm vv : Value} {X : Nat} {mx vx : Value} {w : World} (h : FaX b1 o1 vm vv X mx vx w) : FaX b1 o1 vm vv X mx vx w.drew := h
theorem sameCommons_t {A A' : Nat → Prop} {w : World} {vm1 vv1 vm2 vv2 : Value} {c : Com} (h1 : Cm A w vm1 vv1 c) (h2 : Cm A' w vm2 vv2 c) :
    Calls Try.prog 34 #[.agg #[vm1, vv1], .agg #[vm2, vv2]] w fun e w' => e = .returned (.bool true) ∧ Below w.heap.size w w' :=
  (sameCommons_c h1 h2).mono fun e w' ⟨he, hB⟩ => ⟨by rw [he]; simp, hB⟩
theorem Blk.drew {b : Nat} {cs : Array Value} {t : TypeId} {w : World} (h : Blk b cs t w) : Blk b cs t w.drew := h

set_option maxRecDepth 100000 in
set_option maxHeartbeats 8000000 in
theorem lotsFair_c {A A2 : Nat → Prop} {w : World} {vm vv vn : Value} {c : Com} {nums : List Int} (hc : Cm A w vm vv c) (hn : Ints A2 w vn nums) :
    Calls Try.prog 4 #[.agg #[vm, vv], vn] w fun e w' => e = .returned (.bool true) ∧ Below w.heap.size w w' := by
  obtain ⟨am, cpm, rfl, _, _⟩ := hc.1.shape
  obtain ⟨av, cpv, rfl, _, _⟩ := hc.2.shape
  have hB0 : Below w.heap.size w (w.alloc (.cells #[.slice am c.mountains.length cpm, .slice av c.villages.length cpv] 25)) := (Below.refl _ w).alloc (Nat.le_refl _) _
  have hbx : Blk w.heap.size #[.slice am c.mountains.length cpm, .slice av c.villages.length cpv] 25 (w.alloc (.cells #[.slice am c.mountains.length cpm, .slice av c.villages.length cpv] 25)) := Blk.new w _ _
  have hc0 := hc.call hB0
  have hn0 := hn.call hB0
  go_enter Try.func4, Try.ntmps4
  go_wp2_with fail
  refine (short_c hc0).mono ?_
  rintro e w1 ⟨b, rfl, hb, hB1⟩
  have hc1 := hc0.call hB1
  have hn1 := hn0.call hB1
  have hbx1 := hbx.call hB1
  have hT1 := bnx hB0 hB1
  clear hc0 hn0 hbx hB0 hB1
  cases b with
  | false =>
    clear hb
    go_wp2_with (go_at_call 21; refine (drawn_c _).mono ?_; rintro e wz ⟨rfl, hBz⟩)
    go_ret
    exact ⟨rfl, bnx hT1 hBz⟩
  | true =>
    have hsh := hb rfl
    clear hb
    go_wp2_with fail
    refine wp_region_mix2 (.one 0 (.pur 1 (.act 2 (.act 3 (.act 4 (.pur 5 .fin)))))) 99 (Blk w.heap.size #[.slice am c.mountains.length cpm, .slice av c.villages.length cpv] 25) (fun _ => True) (by kernel_rfl) (by kernel_rfl) rfl (by kernel_rfl) (Blk.drew hbx1) (fun wd hqd _ => ?_)
    refine mix_load2 rfl rfl rfl (.agg #[.slice am c.mountains.length cpm, .slice av c.villages.length cpv]) (fun w' h => by have h : (Blk w.heap.size #[.slice am c.mountains.length cpm, .slice av c.villages.length cpv] 25) w' := h; have h0 := Blk.cell h 0; have h1 := Blk.cell h 1; go_simp) rfl ?_
    refine mix_pur2 rfl (fun K hK => ?_)
    go_simp
    first | refine ⟨_, fun _ => rfl, hK _ ?_⟩ | refine hK _ ?_
    clear hK K
    refine mix_eff2 rfl false rfl (fun K hK => ?_)
    go_simp
    refine (newHand_c (hn1.call (hqd.below _))).mono ?_
    rintro e w2 ⟨rfl, hH, hB2⟩
    have hB2' := (hqd.below w1.heap.size).trans (hB2.mono (by rw [hqd.size]; exact Nat.le_refl _))
    have hs2 := hH.lt
    refine hK _ _ (hbx1.call hB2') ?_
    clear hK K
    refine mix_eff2 rfl false rfl (fun K hK => ?_)
    go_simp
    refine (commonsOf_c hH (by omega) 4 (by omega) (by omega)).mono ?_
    rintro e w3 ⟨vmm, vmv, rfl, ⟨md, hM, hok⟩, -, hG⟩
    have hT3 : Below w1.heap.size w1 w3 := hB2'.grown hG (by have := hqd.size; omega) (fun k e => by injection e with e; have := hqd.size; omega)
    obtain ⟨mm, mmc, rfl, _, _⟩ := hM.1.shape
    obtain ⟨mv, mvc, rfl, _, _⟩ := hM.2.shape
    refine hK _ _ (hbx1.call hT3) ?_
    clear hK K
    refine mix_eff2 rfl false rfl (fun K hK => ?_)
    go_simp
    have hBn := (Below.refl w3.heap.size w3).alloc (Nat.le_refl _) (.cells #[.slice am c.mountains.length cpm, .slice av c.villages.length cpv, .slice mm md.mountains.length mmc, .slice mv md.villages.length mvc] 25)
    have hBc : Blk w3.heap.size #[.slice am c.mountains.length cpm, .slice av c.villages.length cpv, .slice mm md.mountains.length mmc, .slice mv md.villages.length mvc] 25 (w3.alloc (.cells #[.slice am c.mountains.length cpm, .slice av c.villages.length cpv, .slice mm md.mountains.length mmc, .slice mv md.villages.length mvc] 25)) := Blk.new w3 _ _
    have hM8 := hM.call hBn
    have hT8 := hT3.trans (hBn.mono hT3.size)
    refine hK _ _ (hbx1.call hT8) ?_
    clear hK K hBn
    refine mix_pur2 rfl (fun K hK => ?_)
    go_simp
    first | refine ⟨_, fun _ => rfl, hK _ ?_⟩ | refine hK _ ?_
    clear hK K
    refine mix_done2 ?_
    have hc8 := hc1.call hT8
    generalize w3.alloc (.cells #[.slice am c.mountains.length cpm, .slice av c.villages.length cpv, .slice mm md.mountains.length mmc, .slice mv md.villages.length mvc] 25) = w8 at *
    obtain ⟨bc, hbc⟩ : ∃ bc, bc = w3.heap.size := ⟨_, rfl⟩
    rw [← hbc] at hBc ⊢
    have hcl := hBc.lt
    have hrow : ∀ i, i < 2 → ∃ (cc : Com) (ma va : Option Addr) (mc vc : Nat), w8.cell? ⟨bc, i * 2, none⟩ = some (.slice ma cc.mountains.length mc) ∧ w8.cell? ⟨bc, i * 2 + 1, none⟩ = some (.slice va cc.villages.length vc) ∧ Cm (fun _ => True) w8 (.slice ma cc.mountains.length mc) (.slice va cc.villages.length vc) cc ∧ cc.Sm := by
      intro i hi
      have hi2 : i = 0 ∨ i = 1 := by omega
      rcases hi2 with rfl | rfl
      · exact ⟨c, am, av, cpm, cpv, hBc.cell 0, hBc.cell 1, hc8.wide (fun _ _ _ => trivial), hsh.sm⟩
      · exact ⟨md, mm, mv, mmc, mvc, hBc.cell 2, hBc.cell 3, hM8.wide (fun _ _ _ => trivial), hok.sm (by omega)⟩
    have HROW := Lib.hid hrow
    clear hrow hbc hBc hc8 hM8 hM hT3 hB2' hH hG hB2 hqd
    go_wp2_with fail
    go_loopw [6] (fun s wr => ∃ i : Nat, i ≤ 2 ∧ s = .int .i64 i ∧ Below w8.heap.size w8 wr) (fun s _ => 2 - (intOf s).toNat)
    case atStart => exact ⟨0, Nat.zero_le _, rfl, Below.refl _ _⟩
    case round =>
      obtain ⟨i, hi, rfl, hB⟩ := hrel
      have hsz := hB.size
      by_cases hi2 : i < 2
      · obtain ⟨cc, ma, va, mc, vc, e0, e1, hC8, hSm⟩ := HROW.out i hi2
        have hG : ∀ w', Below w8.heap.size w8 w' → w'.cell? ⟨bc, i * 2, none⟩ = some (.slice ma cc.mountains.length mc) ∧ w'.cell? ⟨bc, i * 2 + 1, none⟩ = some (.slice va cc.villages.length vc) := fun w' h => ⟨(World.cell?_of_block (h.block bc hcl)).trans e0, (World.cell?_of_block (h.block bc hcl)).trans e1⟩
        clear e0 e1
        obtain ⟨g0, g1⟩ := hG _ hB
        go_wp2_with fail
        clear g0 g1
        refine (copyCommons_c (hC8.call hB) hSm).mono ?_
        rintro e w9 ⟨mx, vx, rfl, hX, hB9⟩
        obtain ⟨amx, cmx, rfl, _, _⟩ := hX.1.shape
        obtain ⟨avx, cvx, rfl, _, _⟩ := hX.2.shape
        have hBn := (Below.refl w9.heap.size w9).alloc (Nat.le_refl _) (.cells #[(.slice amx cc.mountains.length cmx), (.slice avx cc.villages.length cvx)] 25)
        have hXb : Blk w9.heap.size #[(.slice amx cc.mountains.length cmx), (.slice avx cc.villages.length cvx)] 25 (w9.alloc (.cells #[(.slice amx cc.mountains.length cmx), (.slice avx cc.villages.length cvx)] 25)) := Blk.new w9 _ _
        have hX2 := hX.call hBn
        have hBa := (hB.trans (hB9.mono hsz)).trans (hBn.mono (by have := hB9.size; omega))
        obtain ⟨X, hXe⟩ : ∃ X, X = w9.heap.size := ⟨_, rfl⟩
        go_upto_region 8 with fail
        rw [← hXe] at hXb ⊢
        generalize w9.alloc (.cells #[(.slice amx cc.mountains.length cmx), (.slice avx cc.villages.length cvx)] 25) = wa at *
        have c0 := hXb.cell 0
        have c1 := hXb.cell 1
        have hfr := fairR_c hX2
        rw [fair_same] at hfr
        have HFR := Lib.hid hfr
        clear hfr hXe hX hBn hB9
        go_wp2_with fail
        clear c0 c1
        refine HFR.out.mono ?_
        rintro e wb ⟨v8, rfl, h8, hBb⟩
        have hBB := hBa.trans (hBb.mono hBa.size)
        have hXbb := hXb.call hBb
        have hX3 := hX2.call hBb
        obtain ⟨g0, g1⟩ := hG _ hBB
        have hrf := rfairR_c (hC8.call hBB)
        have HRF := Lib.hid hrf
        clear hrf HFR hXb hX2
        go_wp2_with fail
        clear g0 g1
        refine HRF.out.mono ?_
        rintro e wz ⟨v10, rfl, hr10, hBz0⟩
        have hBz := hBB.trans (hBz0.mono hBB.size)
        have hr8 := h8.call hBz0
        have hXz := hX3.call hBz0
        have hXbz := hXbb.call hBz0
        have hF : ∀ w', Below wz.heap.size wz w' → (FaX bc (i * 2) (.slice ma cc.mountains.length mc) (.slice va cc.villages.length vc) X (.slice amx cc.mountains.length cmx) (.slice avx cc.villages.length cvx)) w' := fun w' h => ⟨(hG w' (hBz.trans (h.mono hBz.size))).1, (hG w' (hBz.trans (h.mono hBz.size))).2, hXbz.call h⟩
        have bd0 : (checkE cc != checkE cc) = false := by simp
        clear HRF h8 hX3 hXbb
        go_wp2_with fail
        refine wp_region_mix2 (.pur 0 (.pur 1 (.pur 2 (.pur 3 (.pur 4 (.pur 5 (.act 6 (.pur 7 (.pur 8 (.pur 9 (.one 10 (.pur 11 (.pur 12 (.pur 13 (.one 14 (.act 15 (.pur 16 (.pur 17 .fin)))))))))))))))))) 99 (FaX bc (i * 2) (.slice ma cc.mountains.length mc) (.slice va cc.villages.length vc) X (.slice amx cc.mountains.length cmx) (.slice avx cc.villages.length cvx)) (fun _ => True) (by kernel_rfl) (by kernel_rfl) rfl (by kernel_rfl) (hF _ (Below.refl _ _)).drew (fun wd hqd _ => ?_)
        have z0 : Below wz.heap.size wz wd := hqd.below _
        refine mix_pur2 rfl (fun K hK => ?_)
        go_simp
        first | refine ⟨_, fun _ => rfl, hK _ ?_⟩ | refine hK _ ?_
        clear hK K
        refine mix_pur2 rfl (fun K hK => ?_)
        go_simp
        first | refine ⟨_, fun _ => rfl, hK _ ?_⟩ | refine hK _ ?_
        clear hK K
        refine mix_pur2 rfl (fun K hK => ?_)
        go_simp
        first | refine ⟨_, fun _ => rfl, hK _ ?_⟩ | refine hK _ ?_
        clear hK K
        refine mix_pur2 rfl (fun K hK => ?_)
        go_simp
        first | refine ⟨_, fun _ => rfl, hK _ ?_⟩ | refine hK _ ?_
        clear hK K
        refine mix_pur2 rfl (fun K hK => ?_)
        go_simp
        first | refine ⟨_, fun _ => rfl, hK _ ?_⟩ | refine hK _ ?_
        clear hK K
        refine mix_pur2 rfl (fun K hK => ?_)
        go_simp
        first | refine ⟨_, fun _ => rfl, hK _ ?_⟩ | refine hK _ ?_
        clear hK K
        refine mix_eff2 rfl false rfl (fun K hK => ?_)
        go_simp
        refine (sameGrids_t (hr8.call z0) (hr10.call z0)).mono ?_
        rintro e y1 ⟨rfl, hy1⟩
        have z1 := z0.trans (hy1.mono z0.size)
        refine hK _ _ (hF _ z1) ?_
        clear hK K
        refine mix_pur2 rfl (fun K hK => ?_)
        go_simp
        first | refine ⟨_, fun _ => rfl, hK _ ?_⟩ | refine hK _ ?_
        clear hK K
        refine mix_pur2 rfl (fun K hK => ?_)
        go_simp
        first | refine ⟨_, fun _ => rfl, hK _ ?_⟩ | refine hK _ ?_
        clear hK K
        refine mix_pur2 rfl (fun K hK => ?_)
        go_simp
        first | refine ⟨_, fun _ => rfl, hK _ ?_⟩ | refine hK _ ?_
        clear hK K
        refine mix_loadg2 rfl rfl (.agg #[(.slice amx cc.mountains.length cmx), (.slice avx cc.villages.length cvx)]) (by go_simp) (fun w' h => by have h : (FaX bc (i * 2) (.slice ma cc.mountains.length mc) (.slice va cc.villages.length vc) X (.slice amx cc.mountains.length cmx) (.slice avx cc.villages.length cvx)) w' := h; have h0 := h.2.2.cell 0; have h1 := h.2.2.cell 1; go_simp) rfl ?_
        refine mix_pur2 rfl (fun K hK => ?_)
        go_simp
        first | refine ⟨_, fun _ => rfl, hK _ ?_⟩ | refine hK _ ?_
        clear hK K
        refine mix_pur2 rfl (fun K hK => ?_)
        go_simp
        first | refine ⟨_, fun _ => rfl, hK _ ?_⟩ | refine hK _ ?_
        clear hK K
        refine mix_pur2 rfl (fun K hK => ?_)
        go_simp
        first | refine ⟨_, fun _ => rfl, hK _ ?_⟩ | refine hK _ ?_
        clear hK K
        refine mix_loadg2 rfl rfl (.agg #[(.slice ma cc.mountains.length mc), (.slice va cc.villages.length vc)]) (by go_simp) (fun w' h => by have h : (FaX bc (i * 2) (.slice ma cc.mountains.length mc) (.slice va cc.villages.length vc) X (.slice amx cc.mountains.length cmx) (.slice avx cc.villages.length cvx)) w' := h; have h0 := h.1; have h1 := h.2.1; go_simp) rfl ?_
        refine mix_eff2 rfl false rfl (fun K hK => ?_)
        go_simp
        refine (sameCommons_t (hXz.call z1) ((hC8.call hBz).call z1)).mono ?_
        rintro e y2 ⟨rfl, hy2⟩
        have z2 := z1.trans (hy2.mono z1.size)
        refine hK _ _ (hF _ z2) ?_
        clear hK K
        refine mix_pur2 rfl (fun K hK => ?_)
        go_simp
        first | refine ⟨_, fun _ => rfl, hK _ ?_⟩ | refine hK _ ?_
        clear hK K
        refine mix_pur2 rfl (fun K hK => ?_)
        go_simp
        first | refine ⟨_, fun _ => rfl, hK _ ?_⟩ | refine hK _ ?_
        clear hK K
        refine mix_done2 ?_
        go_wp2_with fail
        go_roundw
        case rel => exact ⟨i + 1, by omega, by go_num, hBz.trans (z2.mono hBz.size)⟩
        case measure => simp [intOf]; omega
      · obtain rfl : i = 2 := by omega
        go_wp2_with (go_at_call 21; refine (drawn_c _).mono ?_; rintro e wz ⟨rfl, hBz⟩)
        go_ret
        exact ⟨rfl, bnx hT1 (bnx hT8 (bnx hB hBz))⟩

end Go.Proofs.Ythchpoabncdicaa
