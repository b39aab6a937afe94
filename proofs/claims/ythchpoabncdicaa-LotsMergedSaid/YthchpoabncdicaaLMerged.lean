/- The walk of LotsMerged: it hands back true, whatever the numbers; conditions: the argument reads as numbers. -/
import Derived.Test.YthchpoabncdicaaMerM
import Derived.Test.YthchpoabncdicaaLPareto
import Derived.Test.YthchpoabncdicaaLate1
namespace Go.Proofs.Ythchpoabncdicaa
open Go.RowKit

/-- What setting a village's hearths reads. -/
def MeS (b : Nat) (vm vv : Value) (g o : Nat) (h : Int) (w : World) : Prop := Blk b #[vm, vv] 25 w ∧ w.cell? ⟨g, o, none⟩ = some (.int .i64 h)
theorem MeS.drew {b : Nat} {vm vv : Value} {g o : Nat} {h : Int} {w : World} (k : MeS b vm vv g o h w) : MeS b vm vv g o h w.drew := k

set_option maxRecDepth 100000 in
set_option maxHeartbeats 20000000 in
theorem lotsMerged_c {A : Nat → Prop} {w : World} {v : Value} {nums : List Int} (hn : Ints A w v nums) :
    Calls Try.prog 6 #[v] w fun e w' => e = .returned (.bool true) ∧ Below w.heap.size w w' := by
  go_enter Try.func6, Try.ntmps6
  go_wp2_with fail
  refine (newHand_c hn).mono ?_
  rintro e w1 ⟨rfl, hH, hB1⟩
  have hs1 := hH.lt
  go_wp2_with fail
  refine (commonsOf_c hH (by omega) 4 (by omega) (by omega)).mono ?_
  rintro e w2 ⟨vm, vv, rfl, ⟨c, hC, hok⟩, ⟨k2, hk2, hH⟩, hG⟩
  have hB2 : Below w.heap.size w w2 := hB1.grown hG (by omega) (fun k e => by injection e with e; omega)
  have hs2 := hG.size
  clear hG hB1
  obtain ⟨am, cpm, rfl, _, _⟩ := hC.1.shape
  obtain ⟨av, cpv, rfl, _, _⟩ := hC.2.shape
  have hH := hH.call ((Below.refl w2.heap.size w2).alloc (Nat.le_refl _) (.cells #[.slice am c.mountains.length cpm, .slice av c.villages.length cpv] 25))
  have hbx : Blk w2.heap.size #[.slice am c.mountains.length cpm, .slice av c.villages.length cpv] 25 (w2.alloc (.cells #[.slice am c.mountains.length cpm, .slice av c.villages.length cpv] 25)) := Blk.new w2 _ _
  have hC := hC.alloc (.cells #[.slice am c.mountains.length cpm, .slice av c.villages.length cpv] 25)
  have hT := bal (o := .cells #[.slice am c.mountains.length cpm, .slice av c.villages.length cpv] 25) hB2
  have hvl4 : c.villages.length ≤ 4 := by have := hok.vl; have := hok.n2; omega
  have hvl1 : 0 < c.villages.length := by have := hok.vl; have := hok.n1; omega
  go_wp2_with fail
  refine wp_region_mix2 (.pur 0 (.one 1 (.pur 2 (.pur 3 (.act 4 (.pur 5 (.pur 6 .fin))))))) 99 (Blk w2.heap.size #[.slice am c.mountains.length cpm, .slice av c.villages.length cpv] 25) (fun _ => True) (by kernel_rfl) (by kernel_rfl) rfl (by kernel_rfl) (Blk.drew hbx) (fun wd hqd _ => ?_)
  refine mix_pur2 rfl (fun K hK => ?_)
  go_simp
  first | refine ⟨_, fun _ => rfl, hK _ ?_⟩ | refine hK _ ?_
  clear hK K
  refine mix_load2 rfl rfl rfl (.slice av c.villages.length cpv) (fun w' h => by have h : (Blk w2.heap.size #[.slice am c.mountains.length cpm, .slice av c.villages.length cpv] 25) w' := h; have h1 := Blk.cell h 1; go_simp) rfl ?_
  refine mix_pur2 rfl (fun K hK => ?_)
  go_simp
  first | refine ⟨_, fun _ => rfl, hK _ ?_⟩ | refine hK _ ?_
  clear hK K
  refine mix_pur2 rfl (fun K hK => ?_)
  go_simp
  first | refine ⟨_, fun _ => rfl, hK _ ?_⟩ | refine hK _ ?_
  clear hK K
  refine mix_eff2 rfl false rfl (fun K hK => ?_)
  go_simp
  refine (upto_c (hH.qt hqd) (by omega) 30 (by omega) (by omega)).mono ?_
  rintro e w4 ⟨⟨u1, rfl, hu1, hu1'⟩, -, hG4⟩
  have hC4 := (hC.call (hqd.below _)).hand hG4 hs1
  have hbx4 := (hbx.call (hqd.below _)).hand hG4 (by omega)
  have hT4 := bhand (bnx hT (hqd.below _)) hG4 (by omega)
  refine hK _ _ hbx4 ?_
  clear hK K
  refine mix_pur2 rfl (fun K hK => ?_)
  go_simp
  first | refine ⟨_, fun _ => rfl, hK _ ?_⟩ | refine hK _ ?_
  clear hK K
  refine mix_pur2 rfl (fun K hK => ?_)
  go_simp
  first | refine ⟨_, fun _ => rfl, hK _ ?_⟩ | refine hK _ ?_
  clear hK K
  refine mix_done2 ?_
  obtain ⟨m, rfl⟩ : ∃ m : Nat, u1 = (m : Int) := ⟨u1.toNat, by omega⟩
  have hm : m ≤ 30 := by omega
  clear hbx hC hT hH hG4 hqd hu1 hu1'
  go_wp2_with fail
  go_loopw [7] (fun s wr => ∃ i : Nat, i < c.villages.length ∧ s = .int .i64 i ∧ Below w4.heap.size w4 wr) (fun s _ => c.villages.length - (intOf s).toNat)
  case atStart => exact ⟨0, hvl1, rfl, Below.refl _ _⟩
  case round =>
    obtain ⟨i, hi, rfl, hB⟩ := hrel
    have hsr := hB.size
    have hin : i ≤ 4 := by omega
    by_cases hlt : i + 1 < c.villages.length
    · have b1 : decide ((i : Int) + 1 < (c.villages.length : Int)) = true := decide_eq_true (by omega)
      have c0 := (hbx4.call hB).cell 0
      have c1 := (hbx4.call hB).cell 1
      go_wp2_with fail
      clear c0 c1 b1
      refine (copyCommons_own (hC4.call hB) (hok.sm (by omega))).mono ?_
      rintro e w5 ⟨vmx, vvx, lsx, rfl, hX, hB5⟩
      have hBX := hB.trans (hB5.mono hsr)
      have hs5 := hB5.size
      obtain ⟨g, cx, rfl, hg1, hg2⟩ := hX.head hvl1
      obtain ⟨amx, cmx, rfl, _, _⟩ := hX.im.shape
      have hbX : Blk w5.heap.size #[(.slice amx c.mountains.length cmx), (.slice (some ⟨g, 0, none⟩) c.villages.length cx)] 25 ((w5.alloc (.cells #[(.slice amx c.mountains.length cmx), (.slice (some ⟨g, 0, none⟩) c.villages.length cx)] 25)).alloc (.cells #[.slice none 0 0, .slice none 0 0] 25)) := (Blk.new w5 _ _).keep (Below.heap_alloc _ _ _ (by simp))
      have hbY : Blk (w5.heap.size + 1) #[.slice none 0 0, .slice none 0 0] 25 ((w5.alloc (.cells #[(.slice amx c.mountains.length cmx), (.slice (some ⟨g, 0, none⟩) c.villages.length cx)] 25)).alloc (.cells #[.slice none 0 0, .slice none 0 0] 25)) := by
        have := Blk.new (w5.alloc (.cells #[(.slice amx c.mountains.length cmx), (.slice (some ⟨g, 0, none⟩) c.villages.length cx)] 25)) #[.slice none 0 0, .slice none 0 0] 25
        rwa [World.size_alloc] at this
      have hX6 := (hX.toA.call ((Below.refl _ w5).alloc (Nat.le_refl _) (.cells #[(.slice amx c.mountains.length cmx), (.slice (some ⟨g, 0, none⟩) c.villages.length cx)] 25))).call ((Below.refl _ _).alloc (Nat.le_refl _) (.cells #[.slice none 0 0, .slice none 0 0] 25))
      have hB6 : Below w4.heap.size w4 ((w5.alloc (.cells #[(.slice amx c.mountains.length cmx), (.slice (some ⟨g, 0, none⟩) c.villages.length cx)] 25)).alloc (.cells #[.slice none 0 0, .slice none 0 0] 25)) := (hBX.alloc (by omega) _).alloc (by simp; omega) _
      have hs6 : ((w5.alloc (.cells #[(.slice amx c.mountains.length cmx), (.slice (some ⟨g, 0, none⟩) c.villages.length cx)] 25)).alloc (.cells #[.slice none 0 0, .slice none 0 0] 25)).heap.size = w5.heap.size + 2 := by simp
      go_upto_region 8 with fail
      generalize (w5.alloc (.cells #[(.slice amx c.mountains.length cmx), (.slice (some ⟨g, 0, none⟩) c.villages.length cx)] 25)).alloc (.cells #[.slice none 0 0, .slice none 0 0] 25) = w6 at *
      obtain ⟨X, hXe⟩ : ∃ X, X = w5.heap.size := ⟨_, rfl⟩
      rw [← hXe] at hbX hbY hs6 hX6 ⊢
      have hgX : g < X := by omega
      have hgw : w4.heap.size ≤ g := by omega
      clear hX hBX hB5 hXe
      go_wp2_with fail
      go_loopw [10] (fun s wt => ∃ (t k : Nat), k = i + t ∧ t ≤ 2 ∧ s = .int .i64 k ∧ CopA (fun b => b < X) wr.heap.size wt (.slice amx c.mountains.length cmx) (.slice (some ⟨g, 0, none⟩) c.villages.length cx) ⟨c.mountains, twT c.villages i t⟩ lsx ∧ Blk X #[(.slice amx c.mountains.length cmx), (.slice (some ⟨g, 0, none⟩) c.villages.length cx)] 25 wt ∧ Blk (X + 1) #[.slice none 0 0, .slice none 0 0] 25 wt ∧ Below w4.heap.size w4 wt) (fun s _ => i + 2 - (intOf s).toNat)
      case atStart => exact ⟨0, i, rfl, by omega, rfl, hX6, hbX, hbY, hB6⟩
      case round =>
        rename World => wt
        obtain ⟨t, k, hke, ht, rfl, hXt, hbXt, hbYt, hBt⟩ := hrel
        have hki : i ≤ k := by omega
        have hk5 : k ≤ i + 2 := by omega
        have hvsl : (twT c.villages i t).length = c.villages.length := twT_len _ _ _
        by_cases ht2 : t < 2
        · have hk6 : k ≤ i + 1 := by omega
          have hkt : k < (twT c.villages i t).length := by omega
          have hkn : k < c.villages.length := by omega
          have hvo := twT_ok (i := i) hok.vil t (by omega) _ (List.getElem_mem hkt)
          have htn : twT c.villages i (t + 1) = (twT c.villages i t).set k (twV (twT c.villages i t)[k]) := by
            rw [twT, ← hke]; congr 2; simp [hkt]
          have hstw := twV_ok hvo.1
          obtain ⟨qh, hh⟩ : ∃ z, z = (twT c.villages i t)[k].hearths := ⟨_, rfl⟩
          have htv : twV (twT c.villages i t)[k] = ⟨1 + (qh - 1) % 25, 30, (twT c.villages i t)[k].likes⟩ := by rw [twV, hh]
          rw [htv] at htn hstw
          have hcx := (hXt.cellsn hvsl k hkt).1
          rw [← hh] at hcx hvo
          have hS11 : (MeS X (.slice amx c.mountains.length cmx) (.slice (some ⟨g, 0, none⟩) c.villages.length cx) g (k * 3) qh) wt := ⟨hbXt, hcx⟩
          have hh1 := hvo.1
          have hh2 := hvo.2.1
          generalize twT c.villages i t = vs' at *
          have b1 : decide ((k : Int) ≤ (i : Int) + 1) = true := decide_eq_true (by omega)
          have HTN := Lib.hid htn
          have HKE := Lib.hid hke
          have HH := Lib.hid hh
          clear hvo htn htv hcx hke hh
          have hz1 : 0 ≤ (qh - 1) % 25 := by omega
          have hz2 : (qh - 1) % 25 ≤ 24 := by omega
          go_wp2_with fail
          refine wp_region_mix2 (.pur 0 (.pur 1 (.pur 2 (.pur 3 (.pur 4 (.pur 5 (.pur 6 (.pur 7 (.pur 8 (.pur 9 (.pur 10 (.one 11 (.pur 12 (.pur 13 (.pur 14 (.pur 15 (.pur 16 (.act 17 (.pur 18 (.pur 19 (.act 20 .fin))))))))))))))))))))) 17 (MeS X (.slice amx c.mountains.length cmx) (.slice (some ⟨g, 0, none⟩) c.villages.length cx) g (k * 3) qh) (Blk X #[(.slice amx c.mountains.length cmx), (.slice (some ⟨g, 0, none⟩) c.villages.length cx)] 25) (by kernel_rfl) (by kernel_rfl) rfl (by kernel_rfl) hS11.drew (fun wd hqd _ => ?_)
          have hBd : Below w4.heap.size w4 wd := hBt.trans (hqd.below _)
          have hX1 := hXt.call (hqd.below _)
          have hbX1 := hbXt.call (hqd.below _)
          have hbY1 := hbYt.call (hqd.below _)
          have hdx := hX1.cellsn hvsl k hkt
          have hX2 := hX1.set0n hvsl k hkt (1 + (qh - 1) % 25)
          have hvsl2 : (vs'.set k { vs'[k] with hearths := 1 + (qh - 1) % 25 }).length = c.villages.length := by rw [List.length_set]; exact hvsl
          have hdy := hX2.cellsn hvsl2 k (by rw [List.length_set]; exact hkt)
          refine mix_pur2 rfl (fun K hK => ?_)
          go_simp
          first | refine ⟨_, fun _ => rfl, hK _ ?_⟩ | refine hK _ ?_
          clear hK K
          refine mix_pload2 rfl rfl rfl (.slice (some ⟨g, 0, none⟩) c.villages.length cx) (fun w' h => by have h : (MeS X (.slice amx c.mountains.length cmx) (.slice (some ⟨g, 0, none⟩) c.villages.length cx) g (k * 3) qh) w' ∨ (Blk X #[(.slice amx c.mountains.length cmx), (.slice (some ⟨g, 0, none⟩) c.villages.length cx)] 25) w' := h; have h0 : Blk X #[(.slice amx c.mountains.length cmx), (.slice (some ⟨g, 0, none⟩) c.villages.length cx)] 25 w' := h.elim (fun h => h.1) id; have h1 := h0.cell 1; go_simp) rfl ?_
          refine mix_pur2 rfl (fun K hK => ?_)
          go_simp
          first | refine ⟨_, fun _ => rfl, hK _ ?_⟩ | refine hK _ ?_
          clear hK K
          refine mix_pur2 rfl (fun K hK => ?_)
          go_simp
          first | refine ⟨_, fun _ => rfl, hK _ ?_⟩ | refine hK _ ?_
          clear hK K
          refine mix_pload2 rfl rfl rfl (.slice (some ⟨g, 0, none⟩) c.villages.length cx) (fun w' h => by have h : (MeS X (.slice amx c.mountains.length cmx) (.slice (some ⟨g, 0, none⟩) c.villages.length cx) g (k * 3) qh) w' ∨ (Blk X #[(.slice amx c.mountains.length cmx), (.slice (some ⟨g, 0, none⟩) c.villages.length cx)] 25) w' := h; have h0 : Blk X #[(.slice amx c.mountains.length cmx), (.slice (some ⟨g, 0, none⟩) c.villages.length cx)] 25 w' := h.elim (fun h => h.1) id; have h1 := h0.cell 1; go_simp) rfl ?_
          refine mix_pur2 rfl (fun K hK => ?_)
          go_simp
          first | refine ⟨_, fun _ => rfl, hK _ ?_⟩ | refine hK _ ?_
          clear hK K
          refine mix_pur2 rfl (fun K hK => ?_)
          go_simp
          first | refine ⟨_, fun _ => rfl, hK _ ?_⟩ | refine hK _ ?_
          clear hK K
          refine mix_pload2 rfl rfl rfl (.slice (some ⟨g, 0, none⟩) c.villages.length cx) (fun w' h => by have h : (MeS X (.slice amx c.mountains.length cmx) (.slice (some ⟨g, 0, none⟩) c.villages.length cx) g (k * 3) qh) w' ∨ (Blk X #[(.slice amx c.mountains.length cmx), (.slice (some ⟨g, 0, none⟩) c.villages.length cx)] 25) w' := h; have h0 : Blk X #[(.slice amx c.mountains.length cmx), (.slice (some ⟨g, 0, none⟩) c.villages.length cx)] 25 w' := h.elim (fun h => h.1) id; have h1 := h0.cell 1; go_simp) rfl ?_
          refine mix_pur2 rfl (fun K hK => ?_)
          go_simp
          first | refine ⟨_, fun _ => rfl, hK _ ?_⟩ | refine hK _ ?_
          clear hK K
          refine mix_pur2 rfl (fun K hK => ?_)
          go_simp
          first | refine ⟨_, fun _ => rfl, hK _ ?_⟩ | refine hK _ ?_
          clear hK K
          refine mix_pur2 rfl (fun K hK => ?_)
          go_simp
          first | refine ⟨_, fun _ => rfl, hK _ ?_⟩ | refine hK _ ?_
          clear hK K
          refine mix_load2 rfl rfl rfl (.int .i64 qh) (fun w' h => by have h : (MeS X (.slice amx c.mountains.length cmx) (.slice (some ⟨g, 0, none⟩) c.villages.length cx) g (k * 3) qh) w' := h; have h0 := h.2; go_simp) rfl ?_
          refine mix_pur2 rfl (fun K hK => ?_)
          go_simp
          first | refine ⟨_, fun _ => rfl, hK _ ?_⟩ | refine hK _ ?_
          clear hK K
          refine mix_pur2 rfl (fun K hK => ?_)
          go_simp
          first | refine ⟨_, fun _ => rfl, hK _ ?_⟩ | refine hK _ ?_
          clear hK K
          refine mix_pur2 rfl (fun K hK => ?_)
          go_simp
          first | refine ⟨_, fun _ => rfl, hK _ ?_⟩ | refine hK _ ?_
          clear hK K
          refine mix_pur2 rfl (fun K hK => ?_)
          go_simp
          first | refine ⟨_, fun _ => rfl, hK _ ?_⟩ | refine hK _ ?_
          clear hK K
          refine mix_pur2 rfl (fun K hK => ?_)
          go_simp
          first | refine ⟨_, fun _ => rfl, hK _ ?_⟩ | refine hK _ ?_
          clear hK K
          refine mix_eff2 rfl true rfl (fun K hK => ?_)
          have d1 := hdx.1
          have f1 := hX1.freen hvsl (k * 3)
          go_simp
          refine hK _ _ (hbX1.other (a := ⟨g, k * 3, none⟩) (by show X ≠ g; omega) _) ?_
          clear hK K d1 f1
          refine mix_pur2 rfl (fun K hK => ?_)
          go_simp
          first | refine ⟨_, fun _ => rfl, hK _ ?_⟩ | refine hK _ ?_
          clear hK K
          refine mix_pur2 rfl (fun K hK => ?_)
          go_simp
          first | refine ⟨_, fun _ => rfl, hK _ ?_⟩ | refine hK _ ?_
          clear hK K
          refine mix_eff2 rfl true rfl (fun K hK => ?_)
          have d1 := hdy.2.1
          have f1 := hX1.freen hvsl (k * 3 + 1)
          go_simp
          refine hK _ _ ((hbX1.other (a := ⟨g, k * 3, none⟩) (by show X ≠ g; omega) _).other (a := ⟨g, k * 3 + 1, none⟩) (by show X ≠ g; omega) _) ?_
          clear hK K d1 f1
          refine mix_done2 ?_
          have hXn := (hX2.set1n hvsl2 k (by rw [List.length_set]; exact hkt) 30)
          have hset : (vs'.set k { vs'[k] with hearths := 1 + (qh - 1) % 25 }).set k { (vs'.set k { vs'[k] with hearths := 1 + (qh - 1) % 25 })[k]'(by rw [List.length_set]; exact hkt) with herd := 30 } = twT c.villages i (t + 1) := by
            rw [HTN.out]
            simp
          rw [hset] at hXn
          have hbXn := (hbX1.other (a := ⟨g, k * 3, none⟩) (by show X ≠ g; omega) (.int .i64 (1 + (qh - 1) % 25))).other (a := ⟨g, k * 3 + 1, none⟩) (by show X ≠ g; omega) (.int .i64 30)
          have hbYn := (hbY1.other (a := ⟨g, k * 3, none⟩) (by show X + 1 ≠ g; omega) (.int .i64 (1 + (qh - 1) % 25))).other (a := ⟨g, k * 3 + 1, none⟩) (by show X + 1 ≠ g; omega) (.int .i64 30)
          have hBn : Below w4.heap.size w4 ((wd.setCell ⟨g, k * 3, none⟩ (.int .i64 (1 + (qh - 1) % 25))).setCell ⟨g, k * 3 + 1, none⟩ (.int .i64 30)) := (hBd.setCell hgw _).setCell hgw _
          go_wp2_with fail
          go_roundw
          case rel => exact ⟨t + 1, k + 1, by have := HKE.out; omega, by omega, by go_num, hXn, hbXn, hbYn, hBn⟩
          case measure => simp [intOf]; omega
        · obtain rfl : t = 2 := by omega
          have b1 : decide ((k : Int) ≤ (i : Int) + 1) = false := decide_eq_false (by omega)
          have hkt := twT_two (vs := c.villages) hlt (fun v hv => (hok.vil v hv).1)
          have hxo := twT_ok (i := i) hok.vil 2 (by omega)
          obtain ⟨xs, hxs⟩ : ∃ xs, xs = twT c.villages i 2 := ⟨_, rfl⟩
          rw [← hxs] at hkt hxo hXt hvsl
          have HXO := Lib.hid hxo
          have HKT := Lib.hid hkt
          clear hxo hkt hxs hX6 hbX hbY hB6 hke
          have hszt := hBt.size
          have hXN := hbXt.lt
          have hYN := hbYt.lt
          obtain ⟨N, hN⟩ : ∃ N, N = wt.heap.size := ⟨_, rfl⟩
          have hXN2 : X + 2 ≤ N := by omega
          have hNle : N ≤ wt.heap.size := by omega
          obtain ⟨L, hL⟩ : ∃ L, L = iota (c.villages.length - 1) := ⟨_, rfl⟩
          have HL := Lib.hid hL
          clear hL hN
          go_wp2_with fail
          go_loopw [11] (fun s wk => ∃ (k : Nat) (vmy vvy : Value) (vsy : List Vil) (lsy : List Value), k ≤ c.villages.length ∧ s = .int .i64 k ∧ vsy = mgV xs L i k ∧ MKB N wk vmy vvy (List.replicate vsy.length 9) vsy lsy ∧ Blk (X + 1) #[vmy, vvy] 25 wk ∧ Blk X #[(.slice amx c.mountains.length cmx), (.slice (some ⟨g, 0, none⟩) c.villages.length cx)] 25 wk ∧ Below X wt wk ∧ N ≤ wk.heap.size) (fun s _ => c.villages.length - (intOf s).toNat)
          case atStart => exact ⟨0, _, _, [], [], Nat.zero_le _, rfl, rfl, MKB.nil _ _, hbYt, hbXt, Below.refl _ _, by omega⟩
          case round =>
            rename World => wk
            obtain ⟨k, vmy, vvy, vsy, lsy, hk, rfl, hvsy, hMK, hbYk, hbXk, hBk, hNk⟩ := hrel
            have hXk := hXt.below (fun b hb => hb) (fun b hb => by have e : g = b := Option.some.inj hb; omega) hBk
            have hlsy := mgV_len xs L i k
            rw [← hvsy] at hlsy
            have hlsy4 : vsy.length ≤ 4 := by split at hlsy <;> omega
            have HLY := Lib.hid hlsy
            clear hlsy
            by_cases hkl : k < c.villages.length
            · have hkx : k < xs.length := by omega
              obtain ⟨v0, v1, v2⟩ := hXk.cellsn hvsl k hkx
              have hxk := HXO.out _ (List.getElem_mem hkx)
              obtain ⟨lx, clx, hlx, _, _⟩ := (hXk.lk k (by have h1 : lsx.length = xs.length := hXk.ll; omega) hkx).shape
              rw [hlx] at v2
              have ehk : hea xs k = xs[k].hearths := hea_at hkx
              have edk : her xs k = xs[k].herd := her_at hkx
              obtain ⟨ph, hph⟩ : ∃ z, z = xs[k].hearths := ⟨_, rfl⟩
              obtain ⟨pd, hpd⟩ : ∃ z, z = xs[k].herd := ⟨_, rfl⟩
              rw [← hph] at v0 hxk ehk
              rw [← hpd] at v1 hxk edk
              have hx1 := hxk.1
              have hx2 := hxk.2.1
              obtain ⟨V, hV⟩ : ∃ V, V = wk.heap.size := ⟨_, rfl⟩
              have hbV : Blk V #[.int .i64 ph, .int .i64 pd, .slice lx (xs[k]'hkx).likes.length clx] 51 (wk.alloc (.cells #[.int .i64 ph, .int .i64 pd, .slice lx (xs[k]'hkx).likes.length clx] 51)) := by rw [hV]; exact Blk.new wk _ _
              have hBV : Below V wk (wk.alloc (.cells #[.int .i64 ph, .int .i64 pd, .slice lx (xs[k]'hkx).likes.length clx] 51)) := by rw [hV]; exact (Below.refl _ wk).alloc (Nat.le_refl _) _
              have hszV : (wk.alloc (.cells #[.int .i64 ph, .int .i64 pd, .slice lx (xs[k]'hkx).likes.length clx] 51)).heap.size = V + 1 := by rw [hV]; simp
              have d1 := hbXk.cell 1
              have HV := Lib.hid hV
              have hNV : N ≤ V := by omega
              have HEH := Lib.hid ehk
              have HED := Lib.hid edk
              have HVS := Lib.hid hvsy
              clear hph hpd hlx hxk ehk edk hvsy hV
              obtain ⟨ll0, hll0⟩ : ∃ z, z = (xs[k]'hkx).likes.length := ⟨_, rfl⟩
              rw [← hll0] at v2 hbV hBV hszV
              clear hll0
              go_upto_region 16 with fail
              rw [← HV.out]
              have hVe := HV.out
              generalize wk.alloc (.cells #[.int .i64 ph, .int .i64 pd, .slice lx ll0 clx] 51) = wv at *
              clear v0 v1 v2 d1 hVe
              by_cases hki : k = i
              · subst hki
                have b16 : ((k : Int) == (k : Int)) = true := by simp
                have hkx2 : k + 1 < xs.length := by omega
                have hkx3 : k + 1 < c.villages.length := by omega
                have hXv := hXk.below (fun b hb => hb) (fun b hb => by have e : g = b := Option.some.inj hb; omega) (hBV.mono (by omega))
                have hbXv := hbXk.below hBV (by omega)
                have v0 := (hXv.cellsn hvsl (k + 1) hkx2).1
                have ehk2 : hea xs (k + 1) = xs[k + 1].hearths := hea_at hkx2
                have hy1 := HXO.out _ (List.getElem_mem hkx2)
                obtain ⟨ph2, hph2⟩ : ∃ z, z = xs[k + 1].hearths := ⟨_, rfl⟩
                rw [← hph2] at v0 ehk2 hy1
                have hy2 := hy1.1
                have hy3 := hy1.2.1
                have HMG := Lib.hid (show mgV xs L k (k + 1) = mgV xs L k k ++ [⟨ph + ph2, 60, L⟩] from by rw [mgV_succ xs L k k (by omega), if_pos rfl, HEH.out, ehk2])
                have hwk : IntKind.i64.wrap ((k : Int) + 1) = (k : Int) + 1 := IntWalk.i64_in _ (by omega)
                have hwp : IntKind.i64.wrap (ph + ph2) = ph + ph2 := IntWalk.i64_in _ (by omega)
                have htk : ((k : Int) + 1).toNat = k + 1 := by omega
                have hk9 : 0 ≤ (k : Int) + 1 := by omega
                have hk10 : (k : Int) + 1 < (c.villages.length : Int) := by omega
                have hS17 : (MeV X (.slice amx c.mountains.length cmx) (.slice (some ⟨g, 0, none⟩) c.villages.length cx) g ((k + 1) * 3) ph2 V (.int .i64 ph) (.int .i64 pd) (.slice lx ll0 clx)) wv := ⟨hbXv, v0, hbV⟩
                clear ehk2 hy1 hph2 v0
                go_wp2_with fail
                refine wp_region_mix2 (.pur 0 (.one 1 (.pur 2 (.one 3 (.pur 4 (.pur 5 (.pur 6 (.pur 7 (.one 8 (.pur 9 (.pur 10 (.act 11 (.pur 12 (.act 13 .fin)))))))))))))) 11 (MeV X (.slice amx c.mountains.length cmx) (.slice (some ⟨g, 0, none⟩) c.villages.length cx) g ((k + 1) * 3) ph2 V (.int .i64 ph) (.int .i64 pd) (.slice lx ll0 clx)) (fun _ => True) (by kernel_rfl) (by kernel_rfl) rfl (by kernel_rfl) hS17.drew (fun wd hqd _ => ?_)
                have hbVd := hbV.call (hqd.below _)
                have hbVd1 := (hbVd.three (.int .i64 (ph + ph2))).1
                refine mix_pur2 rfl (fun K hK => ?_)
                go_simp
                first | refine ⟨_, fun _ => rfl, hK _ ?_⟩ | refine hK _ ?_
                clear hK K
                refine mix_load2 rfl rfl rfl (.int .i64 ph) (fun w' h => by have h : (MeV X (.slice amx c.mountains.length cmx) (.slice (some ⟨g, 0, none⟩) c.villages.length cx) g ((k + 1) * 3) ph2 V (.int .i64 ph) (.int .i64 pd) (.slice lx ll0 clx)) w' := h; have h0 := h.2.2.cell 0; go_simp) rfl ?_
                refine mix_pur2 rfl (fun K hK => ?_)
                go_simp
                first | refine ⟨_, fun _ => rfl, hK _ ?_⟩ | refine hK _ ?_
                clear hK K
                refine mix_load2 rfl rfl rfl (.slice (some ⟨g, 0, none⟩) c.villages.length cx) (fun w' h => by have h : (MeV X (.slice amx c.mountains.length cmx) (.slice (some ⟨g, 0, none⟩) c.villages.length cx) g ((k + 1) * 3) ph2 V (.int .i64 ph) (.int .i64 pd) (.slice lx ll0 clx)) w' := h; have h0 := h.1.cell 1; go_simp) rfl ?_
                refine mix_pur2 rfl (fun K hK => ?_)
                go_simp
                first | refine ⟨_, fun _ => rfl, hK _ ?_⟩ | refine hK _ ?_
                clear hK K
                refine mix_pur2 rfl (fun K hK => ?_)
                go_simp
                first | refine ⟨_, fun _ => rfl, hK _ ?_⟩ | refine hK _ ?_
                clear hK K
                refine mix_pur2 rfl (fun K hK => ?_)
                go_simp
                first | refine ⟨_, fun _ => rfl, hK _ ?_⟩ | refine hK _ ?_
                clear hK K
                refine mix_pur2 rfl (fun K hK => ?_)
                go_simp
                first | refine ⟨_, fun _ => rfl, hK _ ?_⟩ | refine hK _ ?_
                clear hK K
                refine mix_load2 rfl rfl rfl (.int .i64 ph2) (fun w' h => by have h : (MeV X (.slice amx c.mountains.length cmx) (.slice (some ⟨g, 0, none⟩) c.villages.length cx) g ((k + 1) * 3) ph2 V (.int .i64 ph) (.int .i64 pd) (.slice lx ll0 clx)) w' := h; have h0 := h.2.1; go_simp) rfl ?_
                refine mix_pur2 rfl (fun K hK => ?_)
                go_simp
                first | refine ⟨_, fun _ => rfl, hK _ ?_⟩ | refine hK _ ?_
                clear hK K
                refine mix_pur2 rfl (fun K hK => ?_)
                go_simp
                first | refine ⟨_, fun _ => rfl, hK _ ?_⟩ | refine hK _ ?_
                clear hK K
                refine mix_eff2 rfl true rfl (fun K hK => ?_)
                have d1 := hbVd.cell 0
                have f1 := hbVd.free 0
                go_simp
                refine hK _ _ trivial ?_
                clear hK K d1 f1
                refine mix_pur2 rfl (fun K hK => ?_)
                go_simp
                first | refine ⟨_, fun _ => rfl, hK _ ?_⟩ | refine hK _ ?_
                clear hK K
                refine mix_eff2 rfl true rfl (fun K hK => ?_)
                have d1 := hbVd1.cell 1
                have f1 := hbVd.free 1
                go_simp
                refine hK _ _ trivial ?_
                clear hK K d1 f1
                refine mix_done2 ?_
                obtain ⟨hv, hhv⟩ : ∃ z, z = ph + ph2 := ⟨_, rfl⟩
                obtain ⟨dv, hdv⟩ : ∃ z : Int, z = 60 := ⟨_, rfl⟩
                have hbW := (hbVd1.three (.int .i64 60)).2.1
                have hBW : Below V wk ((wd.setCell ⟨V, 0, none⟩ (.int .i64 (ph + ph2))).setCell ⟨V, 1, none⟩ (.int .i64 60)) := ((hBV.trans (hqd.below _)).setCell (Nat.le_refl _) _).setCell (Nat.le_refl _) _
                have hszW : ((wd.setCell ⟨V, 0, none⟩ (.int .i64 (ph + ph2))).setCell ⟨V, 1, none⟩ (.int .i64 60)).heap.size = V + 1 := by simp [World.setCell, hqd.size, hszV]
                generalize (wd.setCell ⟨V, 0, none⟩ (.int .i64 (ph + ph2))).setCell ⟨V, 1, none⟩ (.int .i64 60) = wv2 at *
                rw [← hhv, ← hdv] at hbW
                rw [← hhv, ← hdv] at HMG
                clear hhv hdv hbVd hbVd1 hqd hS17 hXv hbXv
                have b18 : ((k : Int) != (k : Int) + 1) = true := by simp; omega
                have q2 := hbW.cell 2
                have f2 := hbW.free 2
                have hb3 := (hbW.three (.slice none 0 0)).2.2
                have hB3 : Below V wk (wv2.setCell ⟨V, 2, none⟩ (.slice none 0 0)) := hBW.setCell (Nat.le_refl _) _
                have hs3 : (wv2.setCell ⟨V, 2, none⟩ (.slice none 0 0)).heap.size = wv2.heap.size := by simp [World.setCell]
                go_upto_region 20 with fail
                generalize wv2.setCell ⟨V, 2, none⟩ (.slice none 0 0) = w3 at *
                clear q2 f2 b18 hbW hBW
                go_wp2_with fail
                go_loopw [13] (fun s wl => ∃ (j : Nat) (row : Value), j ≤ c.villages.length - 1 ∧ s = .int .i64 j ∧ Blk V #[.int .i64 hv, .int .i64 dv, row] 51 wl ∧ Own (V + 1) wl 3 1 row j (I64 (iota j)) ∧ Below V wk wl ∧ V + 1 ≤ wl.heap.size) (fun s _ => c.villages.length - (intOf s).toNat)
                case atStart => exact ⟨0, _, Nat.zero_le _, rfl, hb3, Own.nil, hB3, by omega⟩
                case round =>
                  rename World => wl
                  obtain ⟨j, row, hj, rfl, hbl, hrow, hBl0, hszl⟩ := hrel
                  have e94 : (c.villages.length : Int) - 1 = ((c.villages.length - 1 : Nat) : Int) := by omega
                  by_cases hjl : j < c.villages.length - 1
                  · have b21 : decide ((j : Int) < (c.villages.length : Int) - 1) = true := decide_eq_true (by omega)
                    obtain ⟨ar0, cr0, rfl⟩ := own_slice hrow
                    have q2 := hbl.cell 2
                    have ho' := Own.alloc hrow (.cells #[.int .i64 j] 3)
                    have ha := arr_one wl 3 (.int .i64 j)
                    have hba := hbl.call ((Below.refl wl.heap.size wl).alloc (Nat.le_refl _) (.cells #[.int .i64 j] 3))
                    have hBa := hBl0.alloc (by omega) (.cells #[.int .i64 j] 3)
                    have hsa : (wl.alloc (.cells #[.int .i64 j] 3)).heap.size = wl.heap.size + 1 := by simp
                    have hrl : ∀ b, (Value.slice ar0 j cr0).ownBlock = some b → V + 1 ≤ b := fun b hb => (hrow.lt b hb).1
                    clear e94
                    go_wp2_with (at_builtin; refine wpList_append_arr rfl _ _ 22 rfl 3 (.int .i64 0) 1 8 Try.underlying22 Try.info3 rfl (by decide) (by decide) (by omega) ho' rfl ha rfl rfl (one_int _) (by omega) ?_; intro v' w' hown hT; have hbn := hba.turn (fun e => by have := hrl _ e; omega) hT; have q2 := hbn.cell 2; have f2 := hbn.free 2; obtain ⟨ar1, cr1, rfl⟩ := own_slice hown)
                    have hBn := hT.below2 ho' hBa (by omega) (by omega)
                    have hsn := hT.size
                    have hb4 := (hbn.three (.slice ar1 (j + 1) cr1)).2.2
                    go_roundw
                    case rel => exact ⟨j + 1, _, by omega, by go_num, hb4, by rw [iota_more, I64_append]; exact Own.step hown (fun b _ h1 _ => Below.heap_setCell _ _ _ _ (show b ≠ V by omega)), hBn.setCell (Nat.le_refl _) _, by simp [World.setCell]; omega⟩
                    case measure => simp [intOf]; omega
                  · obtain rfl : j = c.villages.length - 1 := by omega
                    have b21 : decide (((c.villages.length - 1 : Nat) : Int) < (c.villages.length : Int) - 1) = false := decide_eq_false (by omega)
                    obtain ⟨ar, cr, rfl⟩ := own_slice hrow
                    have hVW := HV.out
                    have hMl := hMK.call (hVW ▸ hBl0)
                    have hbXl := hbXk.call (hVW ▸ hBl0)
                    have hYl := hbYk.call (hVW ▸ hBl0)
                    have hBl := hBk.trans (hBl0.mono (by omega))
                    obtain ⟨ay, cy, hey⟩ := own_slice hMK.om
                    obtain ⟨az, cz, hez⟩ := own_slice hMK.ov
                    rw [List.length_replicate] at hey
                    have hvm3 : ∀ b, (Value.slice ay vsy.length cy).ownBlock = some b → N ≤ b ∧ b < V := fun b hb => by have := hMK.om.lt b (by rw [hey]; exact hb); omega
                    have hvv3 : ∀ b, (Value.slice az vsy.length cz).ownBlock = some b → N ≤ b ∧ b < V := fun b hb => by have := hMK.ov.lt b (by rw [hez]; exact hb); omega
                    subst hey
                    subst hez
                    have hvm1 : ∀ b, b < N → (Value.slice ay vsy.length cy).ownBlock ≠ some b := fun b hb e => by have := hvm3 b e; omega
                    have hvm2 : ∀ b, V ≤ b → (Value.slice ay vsy.length cy).ownBlock ≠ some b := fun b hb e => by have := hvm3 b e; omega
                    have hvv1 : ∀ b, b < N → (Value.slice az vsy.length cz).ownBlock ≠ some b := fun b hb e => by have := hvv3 b e; omega
                    have hvv2 : ∀ b, V ≤ b → (Value.slice az vsy.length cz).ownBlock ≠ some b := fun b hb e => by have := hvv3 b e; omega
                    obtain ⟨R, hR⟩ : ∃ R, R = wl.heap.size := ⟨_, rfl⟩
                    have hRl : Ints (fun b => N ≤ b ∧ b < R ∧ (Value.slice ay vsy.length cy).ownBlock ≠ some b ∧ (Value.slice az vsy.length cz).ownBlock ≠ some b) wl (.slice ar (c.villages.length - 1) cr) L := by
                      rw [HL.out]
                      refine (Own.intsN hrow (iota_len _)).wide fun b hb hl => ⟨by omega, by omega, fun e => ?_, fun e => ?_⟩
                      · have := hvm3 b e; omega
                      · have := hvv3 b e; omega
                    have hSl : (MeR (X + 1) (.slice ay vsy.length cy) (.slice az vsy.length cz) V (.int .i64 hv) (.int .i64 dv) (.slice ar (c.villages.length - 1) cr)) wl := ⟨hYl, hbl⟩
                    clear e94 hYl hbl hrow hb3 hB3 hMK hbXk hbYk hbV hBV hVW
                    go_wp2_with fail
                    refine wp_region_mix2 (.pur 0 (.one 1 (.pur 4 (.one 5 (.one 6 (.two 2 (.two 3 (.pur 9 (.act 7 (.act 8 (.act 10 (.pur 11 (.act 12 .fin)))))) 7 (.act 3 (.pur 9 (.act 8 (.act 10 (.pur 11 (.act 12 .fin))))))) 7 (.act 2 (.act 3 (.pur 9 (.act 8 (.act 10 (.pur 11 (.act 12 .fin))))))))))))) 10 (MeR (X + 1) (.slice ay vsy.length cy) (.slice az vsy.length cz) V (.int .i64 hv) (.int .i64 dv) (.slice ar (c.villages.length - 1) cr)) (fun _ => True) (by kernel_rfl) (by kernel_rfl) rfl (by kernel_rfl) hSl.drew (fun wd hqd _ => ?_)
                    have hMq := hMl.call (hqd.below _)
                    have hRq := hRl.call (hqd.below _)
                    have hSq := hSl.call (hqd.below _)
                    have hbq := hbXl.call (hqd.below _)
                    have hBQ := hBl.trans (hqd.below X)
                    have hszq : R ≤ wd.heap.size := by rw [hqd.size]; omega
                    refine mix_pur2 rfl (fun K hK => ?_)
                    go_simp
                    first | refine ⟨_, fun _ => rfl, hK _ ?_⟩ | refine hK _ ?_
                    clear hK K
                    refine mix_load2 rfl rfl rfl (.slice ay vsy.length cy) (fun w' h => by have h : (MeR (X + 1) (.slice ay vsy.length cy) (.slice az vsy.length cz) V (.int .i64 hv) (.int .i64 dv) (.slice ar (c.villages.length - 1) cr)) w' := h; have h0 := h.1.cell 0; go_simp) rfl ?_
                    refine mix_pur2 rfl (fun K hK => ?_)
                    go_simp
                    first | refine ⟨_, fun _ => rfl, hK _ ?_⟩ | refine hK _ ?_
                    clear hK K
                    refine mix_load2 rfl rfl rfl (.slice az vsy.length cz) (fun w' h => by have h : (MeR (X + 1) (.slice ay vsy.length cy) (.slice az vsy.length cz) V (.int .i64 hv) (.int .i64 dv) (.slice ar (c.villages.length - 1) cr)) w' := h; have h0 := h.1.cell 1; go_simp) rfl ?_
                    refine mix_load2 rfl rfl rfl (.agg #[.int .i64 hv, .int .i64 dv, (.slice ar (c.villages.length - 1) cr)]) (fun w' h => by have h : (MeR (X + 1) (.slice ay vsy.length cy) (.slice az vsy.length cz) V (.int .i64 hv) (.int .i64 dv) (.slice ar (c.villages.length - 1) cr)) w' := h; have h0 := h.2.cell 0; have h1 := h.2.cell 1; have h2 := h.2.cell 2; go_simp) rfl ?_
                    refine mix_two2 rfl rfl false false rfl rfl (fun K hK => ?_) (fun K hK => ?_)
                    · go_simp
                      have hBq := (Below.refl wd.heap.size wd).alloc (Nat.le_refl _) (.cells #[.int .i64 9] 3)
                      have hsq : (wd.alloc (.cells #[.int .i64 9] 3)).heap.size = wd.heap.size + 1 := by simp
                      have hMq := hMq.call hBq
                      have hRq := hRq.call hBq
                      have hSq := hSq.call hBq
                      have hbq := hbq.call hBq
                      have hBQ := hBQ.trans (hBq.mono (by omega : X ≤ wd.heap.size))
                      have hl9 := (arr_one wd 3 (.int .i64 9)).wide (A' := fun b => R ≤ b) (fun b hb _ => by omega)
                      have hszq : R ≤ (wd.alloc (.cells #[.int .i64 9] 3)).heap.size := by omega
                      refine hK _ _ hSq ?_
                      clear hK K hBq hsq
                      generalize wd.alloc (.cells #[.int .i64 9] 3) = wq0 at *
                      refine mix_two2 rfl rfl false false rfl rfl (fun K hK => ?_) (fun K hK => ?_)
                      · refine step_append_arr rfl _ _ 22 rfl 3 (.int .i64 0) 1 8 Try.underlying22 Try.info3 rfl (by decide) (by decide) (by omega) hMq.om rfl hl9 rfl rfl (one_int _) (by rw [List.length_replicate]; omega) ?_
                        intro vm2 wq1 hown hT
                        have hBQ : Below X wt wq1 := hT.below2 hMq.om hBQ (by omega) (by omega)
                        have hSq := hSq.turn (hvm1 _ (by omega)) (hvm2 _ (by omega)) hT
                        have hbq := hbq.turn (hvm1 _ (by omega)) hT
                        have hRq := hRq.turnL hszq hT
                        have hszq := Nat.le_trans hszq hT.size
                        have hMq := hMq.mountain hown hT
                        obtain ⟨ao2, cp2, rfl⟩ := own_slice hown
                        refine hK _ _ hSq ?_
                        clear hK K hT hown hl9
                        refine mix_pur2 rfl (fun K hK => ?_)
                        go_simp
                        first | refine ⟨_, fun _ => rfl, hK _ ?_⟩ | refine hK _ ?_
                        clear hK K
                        refine mix_eff2 rfl false rfl (fun K hK => ?_)
                        go_simp
                        have hBq := (Below.refl wq1.heap.size wq1).alloc (Nat.le_refl _) (.cells #[.int .i64 hv, .int .i64 dv, (.slice ar (c.villages.length - 1) cr)] 51)
                        have hsq : (wq1.alloc (.cells #[.int .i64 hv, .int .i64 dv, (.slice ar (c.villages.length - 1) cr)] 51)).heap.size = wq1.heap.size + 1 := by simp
                        have hMq := hMq.call hBq
                        have hRq := hRq.call hBq
                        have hSq := hSq.call hBq
                        have hbq := hbq.call hBq
                        have hBQ := hBQ.trans (hBq.mono (by omega : X ≤ wq1.heap.size))
                        have hlV := (Own.arr (own_lit wq1 51 3 #[.int .i64 hv, .int .i64 dv, (.slice ar (c.villages.length - 1) cr)] 1 rfl (by omega))).wide (A' := fun b => R ≤ b) (fun b hb _ => by omega)
                        have hszq : R ≤ (wq1.alloc (.cells #[.int .i64 hv, .int .i64 dv, (.slice ar (c.villages.length - 1) cr)] 51)).heap.size := by omega
                        refine hK _ _ hSq ?_
                        clear hK K hBq hsq
                        generalize wq1.alloc (.cells #[.int .i64 hv, .int .i64 dv, (.slice ar (c.villages.length - 1) cr)] 51) = wq2 at *
                        refine mix_eff2 rfl false rfl (fun K hK => ?_)
                        refine step_append_arr rfl _ _ 23 rfl 51 _ 3 40 Try.underlying23 Try.info51 rfl (by decide) (by decide) (by omega) hMq.ov rfl hlV rfl rfl (vil_one _ _ _ _ _) (by omega) ?_
                        intro vv2 wq3 hown hT
                        have hBQ : Below X wt wq3 := hT.below2 hMq.ov hBQ (by omega) (by omega)
                        have hSq := hSq.turn (hvv1 _ (by omega)) (hvv2 _ (by omega)) hT
                        have hbq := hbq.turn (hvv1 _ (by omega)) hT
                        have hszq := Nat.le_trans hszq hT.size
                        have hMq := MKB.village (x := ⟨hv, dv, L⟩) hMq (hRq.wide fun b hb _ => ⟨hb.1, hb.2.2.1, hb.2.2.2⟩) hown hT
                        obtain ⟨ao3, cp3, rfl⟩ := own_slice hown
                        refine hK _ _ hSq ?_
                        clear hK K hT hown hlV hRq
                        refine mix_eff2 rfl true rfl (fun K hK => ?_)
                        have d1 := hSq.1.cell 0
                        have f1 := hSq.1.free 0
                        go_simp
                        refine hK _ _ trivial ?_
                        clear hK K d1 f1
                        refine mix_pur2 rfl (fun K hK => ?_)
                        go_simp
                        first | refine ⟨_, fun _ => rfl, hK _ ?_⟩ | refine hK _ ?_
                        clear hK K
                        refine mix_eff2 rfl true rfl (fun K hK => ?_)
                        have hY2 := two_set hSq.1 (.slice ao2 ((List.replicate vsy.length (9 : Int)).length + 1) cp2) (.slice ao3 (vsy.length + 1) cp3)
                        have d1 := hSq.1.cell 1
                        have f1 := hSq.1.free 1
                        rw [List.length_replicate] at *
                        go_simp
                        refine hK _ _ trivial ?_
                        clear hK K d1 f1
                        refine mix_done2 ?_
                        have hF : ∀ b, b ≠ X + 1 → ((wq3.setCell ⟨X + 1, 0, none⟩ (.slice ao2 (vsy.length + 1) cp2)).setCell ⟨X + 1, 1, none⟩ (.slice ao3 (vsy.length + 1) cp3)).heap[b]? = wq3.heap[b]? := fun b hb => (Below.heap_setCell _ _ _ _ (show b ≠ X + 1 from hb)).trans (Below.heap_setCell _ _ _ _ (show b ≠ X + 1 from hb))
                        have hFs : ((wq3.setCell ⟨X + 1, 0, none⟩ (.slice ao2 (vsy.length + 1) cp2)).setCell ⟨X + 1, 1, none⟩ (.slice ao3 (vsy.length + 1) cp3)).heap.size = wq3.heap.size := by simp [World.setCell]
                        have hBF : Below X wt ((wq3.setCell ⟨X + 1, 0, none⟩ (.slice ao2 (vsy.length + 1) cp2)).setCell ⟨X + 1, 1, none⟩ (.slice ao3 (vsy.length + 1) cp3)) := (hBQ.setCell (by show X ≤ X + 1; omega) _).setCell (by show X ≤ X + 1; omega) _
                        have hMF := hMq.below (by omega) (fun b h1 _ => hF b (by omega))
                        have hbF := hbq.keep (hF X (by omega))
                        generalize ((wq3.setCell ⟨X + 1, 0, none⟩ (.slice ao2 (vsy.length + 1) cp2)).setCell ⟨X + 1, 1, none⟩ (.slice ao3 (vsy.length + 1) cp3)) = wf at *
                        go_wp2_with fail
                        go_roundw
                        case rel => exact ⟨k + 1, _, _, vsy ++ [⟨hv, dv, L⟩], _, by omega, by go_num, by rw [HMG.out, HVS.out], by rw [List.length_append, List.length_singleton, List.replicate_succ']; exact hMF, hY2, hbF, hBF, by omega⟩
                        case measure => simp [intOf]; omega
                      · go_simp
                        have hBq := (Below.refl wq0.heap.size wq0).alloc (Nat.le_refl _) (.cells #[.int .i64 hv, .int .i64 dv, (.slice ar (c.villages.length - 1) cr)] 51)
                        have hsq : (wq0.alloc (.cells #[.int .i64 hv, .int .i64 dv, (.slice ar (c.villages.length - 1) cr)] 51)).heap.size = wq0.heap.size + 1 := by simp
                        have hMq := hMq.call hBq
                        have hRq := hRq.call hBq
                        have hSq := hSq.call hBq
                        have hbq := hbq.call hBq
                        have hBQ := hBQ.trans (hBq.mono (by omega : X ≤ wq0.heap.size))
                        have hl9 := Arr.step hl9 hBq.size (fun k _ hl => hBq.block k hl)
                        have hlV := (Own.arr (own_lit wq0 51 3 #[.int .i64 hv, .int .i64 dv, (.slice ar (c.villages.length - 1) cr)] 1 rfl (by omega))).wide (A' := fun b => R ≤ b) (fun b hb _ => by omega)
                        have hszq : R ≤ (wq0.alloc (.cells #[.int .i64 hv, .int .i64 dv, (.slice ar (c.villages.length - 1) cr)] 51)).heap.size := by omega
                        refine hK _ _ hSq ?_
                        clear hK K hBq hsq
                        generalize wq0.alloc (.cells #[.int .i64 hv, .int .i64 dv, (.slice ar (c.villages.length - 1) cr)] 51) = wq1 at *
                        refine mix_eff2 rfl false rfl (fun K hK => ?_)
                        refine step_append_arr rfl _ _ 22 rfl 3 (.int .i64 0) 1 8 Try.underlying22 Try.info3 rfl (by decide) (by decide) (by omega) hMq.om rfl hl9 rfl rfl (one_int _) (by rw [List.length_replicate]; omega) ?_
                        intro vm2 wq2 hown hT
                        have hBQ : Below X wt wq2 := hT.below2 hMq.om hBQ (by omega) (by omega)
                        have hSq := hSq.turn (hvm1 _ (by omega)) (hvm2 _ (by omega)) hT
                        have hbq := hbq.turn (hvm1 _ (by omega)) hT
                        have hRq := hRq.turnL hszq hT
                        have hszq := Nat.le_trans hszq hT.size
                        have hlV := hlV.turn (fun b hb => by have := hvm3 b hb; omega) hT
                        have hMq := hMq.mountain hown hT
                        obtain ⟨ao2, cp2, rfl⟩ := own_slice hown
                        refine hK _ _ hSq ?_
                        clear hK K hT hown hl9
                        refine mix_pur2 rfl (fun K hK => ?_)
                        go_simp
                        first | refine ⟨_, fun _ => rfl, hK _ ?_⟩ | refine hK _ ?_
                        clear hK K
                        refine mix_eff2 rfl false rfl (fun K hK => ?_)
                        refine step_append_arr rfl _ _ 23 rfl 51 _ 3 40 Try.underlying23 Try.info51 rfl (by decide) (by decide) (by omega) hMq.ov rfl hlV rfl rfl (vil_one _ _ _ _ _) (by omega) ?_
                        intro vv2 wq3 hown hT
                        have hBQ : Below X wt wq3 := hT.below2 hMq.ov hBQ (by omega) (by omega)
                        have hSq := hSq.turn (hvv1 _ (by omega)) (hvv2 _ (by omega)) hT
                        have hbq := hbq.turn (hvv1 _ (by omega)) hT
                        have hszq := Nat.le_trans hszq hT.size
                        have hMq := MKB.village (x := ⟨hv, dv, L⟩) hMq (hRq.wide fun b hb _ => ⟨hb.1, hb.2.2.1, hb.2.2.2⟩) hown hT
                        obtain ⟨ao3, cp3, rfl⟩ := own_slice hown
                        refine hK _ _ hSq ?_
                        clear hK K hT hown hlV hRq
                        refine mix_eff2 rfl true rfl (fun K hK => ?_)
                        have d1 := hSq.1.cell 0
                        have f1 := hSq.1.free 0
                        go_simp
                        refine hK _ _ trivial ?_
                        clear hK K d1 f1
                        refine mix_pur2 rfl (fun K hK => ?_)
                        go_simp
                        first | refine ⟨_, fun _ => rfl, hK _ ?_⟩ | refine hK _ ?_
                        clear hK K
                        refine mix_eff2 rfl true rfl (fun K hK => ?_)
                        have hY2 := two_set hSq.1 (.slice ao2 ((List.replicate vsy.length (9 : Int)).length + 1) cp2) (.slice ao3 (vsy.length + 1) cp3)
                        have d1 := hSq.1.cell 1
                        have f1 := hSq.1.free 1
                        rw [List.length_replicate] at *
                        go_simp
                        refine hK _ _ trivial ?_
                        clear hK K d1 f1
                        refine mix_done2 ?_
                        have hF : ∀ b, b ≠ X + 1 → ((wq3.setCell ⟨X + 1, 0, none⟩ (.slice ao2 (vsy.length + 1) cp2)).setCell ⟨X + 1, 1, none⟩ (.slice ao3 (vsy.length + 1) cp3)).heap[b]? = wq3.heap[b]? := fun b hb => (Below.heap_setCell _ _ _ _ (show b ≠ X + 1 from hb)).trans (Below.heap_setCell _ _ _ _ (show b ≠ X + 1 from hb))
                        have hFs : ((wq3.setCell ⟨X + 1, 0, none⟩ (.slice ao2 (vsy.length + 1) cp2)).setCell ⟨X + 1, 1, none⟩ (.slice ao3 (vsy.length + 1) cp3)).heap.size = wq3.heap.size := by simp [World.setCell]
                        have hBF : Below X wt ((wq3.setCell ⟨X + 1, 0, none⟩ (.slice ao2 (vsy.length + 1) cp2)).setCell ⟨X + 1, 1, none⟩ (.slice ao3 (vsy.length + 1) cp3)) := (hBQ.setCell (by show X ≤ X + 1; omega) _).setCell (by show X ≤ X + 1; omega) _
                        have hMF := hMq.below (by omega) (fun b h1 _ => hF b (by omega))
                        have hbF := hbq.keep (hF X (by omega))
                        generalize ((wq3.setCell ⟨X + 1, 0, none⟩ (.slice ao2 (vsy.length + 1) cp2)).setCell ⟨X + 1, 1, none⟩ (.slice ao3 (vsy.length + 1) cp3)) = wf at *
                        go_wp2_with fail
                        go_roundw
                        case rel => exact ⟨k + 1, _, _, vsy ++ [⟨hv, dv, L⟩], _, by omega, by go_num, by rw [HMG.out, HVS.out], by rw [List.length_append, List.length_singleton, List.replicate_succ']; exact hMF, hY2, hbF, hBF, by omega⟩
                        case measure => simp [intOf]; omega
                    · go_simp
                      have hBq := (Below.refl wd.heap.size wd).alloc (Nat.le_refl _) (.cells #[.int .i64 hv, .int .i64 dv, (.slice ar (c.villages.length - 1) cr)] 51)
                      have hsq : (wd.alloc (.cells #[.int .i64 hv, .int .i64 dv, (.slice ar (c.villages.length - 1) cr)] 51)).heap.size = wd.heap.size + 1 := by simp
                      have hMq := hMq.call hBq
                      have hRq := hRq.call hBq
                      have hSq := hSq.call hBq
                      have hbq := hbq.call hBq
                      have hBQ := hBQ.trans (hBq.mono (by omega : X ≤ wd.heap.size))
                      have hlV := (Own.arr (own_lit wd 51 3 #[.int .i64 hv, .int .i64 dv, (.slice ar (c.villages.length - 1) cr)] 1 rfl (by omega))).wide (A' := fun b => R ≤ b) (fun b hb _ => by omega)
                      have hszq : R ≤ (wd.alloc (.cells #[.int .i64 hv, .int .i64 dv, (.slice ar (c.villages.length - 1) cr)] 51)).heap.size := by omega
                      refine hK _ _ hSq ?_
                      clear hK K hBq hsq
                      generalize wd.alloc (.cells #[.int .i64 hv, .int .i64 dv, (.slice ar (c.villages.length - 1) cr)] 51) = wq0 at *
                      refine mix_eff2 rfl false rfl (fun K hK => ?_)
                      go_simp
                      have hBq := (Below.refl wq0.heap.size wq0).alloc (Nat.le_refl _) (.cells #[.int .i64 9] 3)
                      have hsq : (wq0.alloc (.cells #[.int .i64 9] 3)).heap.size = wq0.heap.size + 1 := by simp
                      have hMq := hMq.call hBq
                      have hRq := hRq.call hBq
                      have hSq := hSq.call hBq
                      have hbq := hbq.call hBq
                      have hBQ := hBQ.trans (hBq.mono (by omega : X ≤ wq0.heap.size))
                      have hlV := Arr.step hlV hBq.size (fun k _ hl => hBq.block k hl)
                      have hl9 := (arr_one wq0 3 (.int .i64 9)).wide (A' := fun b => R ≤ b) (fun b hb _ => by omega)
                      have hszq : R ≤ (wq0.alloc (.cells #[.int .i64 9] 3)).heap.size := by omega
                      refine hK _ _ hSq ?_
                      clear hK K hBq hsq
                      generalize wq0.alloc (.cells #[.int .i64 9] 3) = wq1 at *
                      refine mix_eff2 rfl false rfl (fun K hK => ?_)
                      refine step_append_arr rfl _ _ 22 rfl 3 (.int .i64 0) 1 8 Try.underlying22 Try.info3 rfl (by decide) (by decide) (by omega) hMq.om rfl hl9 rfl rfl (one_int _) (by rw [List.length_replicate]; omega) ?_
                      intro vm2 wq2 hown hT
                      have hBQ : Below X wt wq2 := hT.below2 hMq.om hBQ (by omega) (by omega)
                      have hSq := hSq.turn (hvm1 _ (by omega)) (hvm2 _ (by omega)) hT
                      have hbq := hbq.turn (hvm1 _ (by omega)) hT
                      have hRq := hRq.turnL hszq hT
                      have hszq := Nat.le_trans hszq hT.size
                      have hlV := hlV.turn (fun b hb => by have := hvm3 b hb; omega) hT
                      have hMq := hMq.mountain hown hT
                      obtain ⟨ao2, cp2, rfl⟩ := own_slice hown
                      refine hK _ _ hSq ?_
                      clear hK K hT hown hl9
                      refine mix_pur2 rfl (fun K hK => ?_)
                      go_simp
                      first | refine ⟨_, fun _ => rfl, hK _ ?_⟩ | refine hK _ ?_
                      clear hK K
                      refine mix_eff2 rfl false rfl (fun K hK => ?_)
                      refine step_append_arr rfl _ _ 23 rfl 51 _ 3 40 Try.underlying23 Try.info51 rfl (by decide) (by decide) (by omega) hMq.ov rfl hlV rfl rfl (vil_one _ _ _ _ _) (by omega) ?_
                      intro vv2 wq3 hown hT
                      have hBQ : Below X wt wq3 := hT.below2 hMq.ov hBQ (by omega) (by omega)
                      have hSq := hSq.turn (hvv1 _ (by omega)) (hvv2 _ (by omega)) hT
                      have hbq := hbq.turn (hvv1 _ (by omega)) hT
                      have hszq := Nat.le_trans hszq hT.size
                      have hMq := MKB.village (x := ⟨hv, dv, L⟩) hMq (hRq.wide fun b hb _ => ⟨hb.1, hb.2.2.1, hb.2.2.2⟩) hown hT
                      obtain ⟨ao3, cp3, rfl⟩ := own_slice hown
                      refine hK _ _ hSq ?_
                      clear hK K hT hown hlV hRq
                      refine mix_eff2 rfl true rfl (fun K hK => ?_)
                      have d1 := hSq.1.cell 0
                      have f1 := hSq.1.free 0
                      go_simp
                      refine hK _ _ trivial ?_
                      clear hK K d1 f1
                      refine mix_pur2 rfl (fun K hK => ?_)
                      go_simp
                      first | refine ⟨_, fun _ => rfl, hK _ ?_⟩ | refine hK _ ?_
                      clear hK K
                      refine mix_eff2 rfl true rfl (fun K hK => ?_)
                      have hY2 := two_set hSq.1 (.slice ao2 ((List.replicate vsy.length (9 : Int)).length + 1) cp2) (.slice ao3 (vsy.length + 1) cp3)
                      have d1 := hSq.1.cell 1
                      have f1 := hSq.1.free 1
                      rw [List.length_replicate] at *
                      go_simp
                      refine hK _ _ trivial ?_
                      clear hK K d1 f1
                      refine mix_done2 ?_
                      have hF : ∀ b, b ≠ X + 1 → ((wq3.setCell ⟨X + 1, 0, none⟩ (.slice ao2 (vsy.length + 1) cp2)).setCell ⟨X + 1, 1, none⟩ (.slice ao3 (vsy.length + 1) cp3)).heap[b]? = wq3.heap[b]? := fun b hb => (Below.heap_setCell _ _ _ _ (show b ≠ X + 1 from hb)).trans (Below.heap_setCell _ _ _ _ (show b ≠ X + 1 from hb))
                      have hFs : ((wq3.setCell ⟨X + 1, 0, none⟩ (.slice ao2 (vsy.length + 1) cp2)).setCell ⟨X + 1, 1, none⟩ (.slice ao3 (vsy.length + 1) cp3)).heap.size = wq3.heap.size := by simp [World.setCell]
                      have hBF : Below X wt ((wq3.setCell ⟨X + 1, 0, none⟩ (.slice ao2 (vsy.length + 1) cp2)).setCell ⟨X + 1, 1, none⟩ (.slice ao3 (vsy.length + 1) cp3)) := (hBQ.setCell (by show X ≤ X + 1; omega) _).setCell (by show X ≤ X + 1; omega) _
                      have hMF := hMq.below (by omega) (fun b h1 _ => hF b (by omega))
                      have hbF := hbq.keep (hF X (by omega))
                      generalize ((wq3.setCell ⟨X + 1, 0, none⟩ (.slice ao2 (vsy.length + 1) cp2)).setCell ⟨X + 1, 1, none⟩ (.slice ao3 (vsy.length + 1) cp3)) = wf at *
                      go_wp2_with fail
                      go_roundw
                      case rel => exact ⟨k + 1, _, _, vsy ++ [⟨hv, dv, L⟩], _, by omega, by go_num, by rw [HMG.out, HVS.out], by rw [List.length_append, List.length_singleton, List.replicate_succ']; exact hMF, hY2, hbF, hBF, by omega⟩
                      case measure => simp [intOf]; omega
              · by_cases hki1 : k = i + 1
                · have b16 : ((k : Int) == (i : Int)) = false := by simp; omega
                  have b18 : ((k : Int) != (i : Int) + 1) = false := by simp; omega
                  have hVW := HV.out
                  go_wp2_with fail
                  go_roundw
                  case rel => exact ⟨k + 1, vmy, vvy, vsy, lsy, by omega, by go_num, by rw [HVS.out, hki1, mgV_skip], hMK.call (hVW ▸ hBV), hbYk.call (hVW ▸ hBV), hbXk.call (hVW ▸ hBV), hBk.trans (hBV.mono (by omega)), by omega⟩
                  case measure => simp [intOf]; omega
                · have b16 : ((k : Int) == (i : Int)) = false := by simp; omega
                  have HMG := Lib.hid (show mgV xs L i (k + 1) = mgV xs L i k ++ [⟨ph, pd, L⟩] from by rw [mgV_succ xs L i k hki1, if_neg hki, HEH.out, HED.out])
                  obtain ⟨hv, rfl⟩ : ∃ z, z = ph := ⟨_, rfl⟩
                  obtain ⟨dv, rfl⟩ : ∃ z, z = pd := ⟨_, rfl⟩
                  obtain ⟨wv2, rfl⟩ : ∃ z, z = wv := ⟨_, rfl⟩
                  have hbW := hbV
                  have hBW := hBV
                  have hszW := hszV
                  have b18 : ((k : Int) != (i : Int) + 1) = true := by simp; omega
                  have q2 := hbW.cell 2
                  have f2 := hbW.free 2
                  have hb3 := (hbW.three (.slice none 0 0)).2.2
                  have hB3 : Below V wk (wv2.setCell ⟨V, 2, none⟩ (.slice none 0 0)) := hBW.setCell (Nat.le_refl _) _
                  have hs3 : (wv2.setCell ⟨V, 2, none⟩ (.slice none 0 0)).heap.size = wv2.heap.size := by simp [World.setCell]
                  go_upto_region 20 with fail
                  generalize wv2.setCell ⟨V, 2, none⟩ (.slice none 0 0) = w3 at *
                  clear q2 f2 b18 hbW hBW
                  go_wp2_with fail
                  go_loopw [13] (fun s wl => ∃ (j : Nat) (row : Value), j ≤ c.villages.length - 1 ∧ s = .int .i64 j ∧ Blk V #[.int .i64 hv, .int .i64 dv, row] 51 wl ∧ Own (V + 1) wl 3 1 row j (I64 (iota j)) ∧ Below V wk wl ∧ V + 1 ≤ wl.heap.size) (fun s _ => c.villages.length - (intOf s).toNat)
                  case atStart => exact ⟨0, _, Nat.zero_le _, rfl, hb3, Own.nil, hB3, by omega⟩
                  case round =>
                    rename World => wl
                    obtain ⟨j, row, hj, rfl, hbl, hrow, hBl0, hszl⟩ := hrel
                    have e94 : (c.villages.length : Int) - 1 = ((c.villages.length - 1 : Nat) : Int) := by omega
                    by_cases hjl : j < c.villages.length - 1
                    · have b21 : decide ((j : Int) < (c.villages.length : Int) - 1) = true := decide_eq_true (by omega)
                      obtain ⟨ar0, cr0, rfl⟩ := own_slice hrow
                      have q2 := hbl.cell 2
                      have ho' := Own.alloc hrow (.cells #[.int .i64 j] 3)
                      have ha := arr_one wl 3 (.int .i64 j)
                      have hba := hbl.call ((Below.refl wl.heap.size wl).alloc (Nat.le_refl _) (.cells #[.int .i64 j] 3))
                      have hBa := hBl0.alloc (by omega) (.cells #[.int .i64 j] 3)
                      have hsa : (wl.alloc (.cells #[.int .i64 j] 3)).heap.size = wl.heap.size + 1 := by simp
                      have hrl : ∀ b, (Value.slice ar0 j cr0).ownBlock = some b → V + 1 ≤ b := fun b hb => (hrow.lt b hb).1
                      clear e94
                      go_wp2_with (at_builtin; refine wpList_append_arr rfl _ _ 22 rfl 3 (.int .i64 0) 1 8 Try.underlying22 Try.info3 rfl (by decide) (by decide) (by omega) ho' rfl ha rfl rfl (one_int _) (by omega) ?_; intro v' w' hown hT; have hbn := hba.turn (fun e => by have := hrl _ e; omega) hT; have q2 := hbn.cell 2; have f2 := hbn.free 2; obtain ⟨ar1, cr1, rfl⟩ := own_slice hown)
                      have hBn := hT.below2 ho' hBa (by omega) (by omega)
                      have hsn := hT.size
                      have hb4 := (hbn.three (.slice ar1 (j + 1) cr1)).2.2
                      go_roundw
                      case rel => exact ⟨j + 1, _, by omega, by go_num, hb4, by rw [iota_more, I64_append]; exact Own.step hown (fun b _ h1 _ => Below.heap_setCell _ _ _ _ (show b ≠ V by omega)), hBn.setCell (Nat.le_refl _) _, by simp [World.setCell]; omega⟩
                      case measure => simp [intOf]; omega
                    · obtain rfl : j = c.villages.length - 1 := by omega
                      have b21 : decide (((c.villages.length - 1 : Nat) : Int) < (c.villages.length : Int) - 1) = false := decide_eq_false (by omega)
                      obtain ⟨ar, cr, rfl⟩ := own_slice hrow
                      have hVW := HV.out
                      have hMl := hMK.call (hVW ▸ hBl0)
                      have hbXl := hbXk.call (hVW ▸ hBl0)
                      have hYl := hbYk.call (hVW ▸ hBl0)
                      have hBl := hBk.trans (hBl0.mono (by omega))
                      obtain ⟨ay, cy, hey⟩ := own_slice hMK.om
                      obtain ⟨az, cz, hez⟩ := own_slice hMK.ov
                      rw [List.length_replicate] at hey
                      have hvm3 : ∀ b, (Value.slice ay vsy.length cy).ownBlock = some b → N ≤ b ∧ b < V := fun b hb => by have := hMK.om.lt b (by rw [hey]; exact hb); omega
                      have hvv3 : ∀ b, (Value.slice az vsy.length cz).ownBlock = some b → N ≤ b ∧ b < V := fun b hb => by have := hMK.ov.lt b (by rw [hez]; exact hb); omega
                      subst hey
                      subst hez
                      have hvm1 : ∀ b, b < N → (Value.slice ay vsy.length cy).ownBlock ≠ some b := fun b hb e => by have := hvm3 b e; omega
                      have hvm2 : ∀ b, V ≤ b → (Value.slice ay vsy.length cy).ownBlock ≠ some b := fun b hb e => by have := hvm3 b e; omega
                      have hvv1 : ∀ b, b < N → (Value.slice az vsy.length cz).ownBlock ≠ some b := fun b hb e => by have := hvv3 b e; omega
                      have hvv2 : ∀ b, V ≤ b → (Value.slice az vsy.length cz).ownBlock ≠ some b := fun b hb e => by have := hvv3 b e; omega
                      obtain ⟨R, hR⟩ : ∃ R, R = wl.heap.size := ⟨_, rfl⟩
                      have hRl : Ints (fun b => N ≤ b ∧ b < R ∧ (Value.slice ay vsy.length cy).ownBlock ≠ some b ∧ (Value.slice az vsy.length cz).ownBlock ≠ some b) wl (.slice ar (c.villages.length - 1) cr) L := by
                        rw [HL.out]
                        refine (Own.intsN hrow (iota_len _)).wide fun b hb hl => ⟨by omega, by omega, fun e => ?_, fun e => ?_⟩
                        · have := hvm3 b e; omega
                        · have := hvv3 b e; omega
                      have hSl : (MeR (X + 1) (.slice ay vsy.length cy) (.slice az vsy.length cz) V (.int .i64 hv) (.int .i64 dv) (.slice ar (c.villages.length - 1) cr)) wl := ⟨hYl, hbl⟩
                      clear e94 hYl hbl hrow hb3 hB3 hMK hbXk hbYk hbV hBV hVW
                      go_wp2_with fail
                      refine wp_region_mix2 (.pur 0 (.one 1 (.pur 4 (.one 5 (.one 6 (.two 2 (.two 3 (.pur 9 (.act 7 (.act 8 (.act 10 (.pur 11 (.act 12 .fin)))))) 7 (.act 3 (.pur 9 (.act 8 (.act 10 (.pur 11 (.act 12 .fin))))))) 7 (.act 2 (.act 3 (.pur 9 (.act 8 (.act 10 (.pur 11 (.act 12 .fin))))))))))))) 10 (MeR (X + 1) (.slice ay vsy.length cy) (.slice az vsy.length cz) V (.int .i64 hv) (.int .i64 dv) (.slice ar (c.villages.length - 1) cr)) (fun _ => True) (by kernel_rfl) (by kernel_rfl) rfl (by kernel_rfl) hSl.drew (fun wd hqd _ => ?_)
                      have hMq := hMl.call (hqd.below _)
                      have hRq := hRl.call (hqd.below _)
                      have hSq := hSl.call (hqd.below _)
                      have hbq := hbXl.call (hqd.below _)
                      have hBQ := hBl.trans (hqd.below X)
                      have hszq : R ≤ wd.heap.size := by rw [hqd.size]; omega
                      refine mix_pur2 rfl (fun K hK => ?_)
                      go_simp
                      first | refine ⟨_, fun _ => rfl, hK _ ?_⟩ | refine hK _ ?_
                      clear hK K
                      refine mix_load2 rfl rfl rfl (.slice ay vsy.length cy) (fun w' h => by have h : (MeR (X + 1) (.slice ay vsy.length cy) (.slice az vsy.length cz) V (.int .i64 hv) (.int .i64 dv) (.slice ar (c.villages.length - 1) cr)) w' := h; have h0 := h.1.cell 0; go_simp) rfl ?_
                      refine mix_pur2 rfl (fun K hK => ?_)
                      go_simp
                      first | refine ⟨_, fun _ => rfl, hK _ ?_⟩ | refine hK _ ?_
                      clear hK K
                      refine mix_load2 rfl rfl rfl (.slice az vsy.length cz) (fun w' h => by have h : (MeR (X + 1) (.slice ay vsy.length cy) (.slice az vsy.length cz) V (.int .i64 hv) (.int .i64 dv) (.slice ar (c.villages.length - 1) cr)) w' := h; have h0 := h.1.cell 1; go_simp) rfl ?_
                      refine mix_load2 rfl rfl rfl (.agg #[.int .i64 hv, .int .i64 dv, (.slice ar (c.villages.length - 1) cr)]) (fun w' h => by have h : (MeR (X + 1) (.slice ay vsy.length cy) (.slice az vsy.length cz) V (.int .i64 hv) (.int .i64 dv) (.slice ar (c.villages.length - 1) cr)) w' := h; have h0 := h.2.cell 0; have h1 := h.2.cell 1; have h2 := h.2.cell 2; go_simp) rfl ?_
                      refine mix_two2 rfl rfl false false rfl rfl (fun K hK => ?_) (fun K hK => ?_)
                      · go_simp
                        have hBq := (Below.refl wd.heap.size wd).alloc (Nat.le_refl _) (.cells #[.int .i64 9] 3)
                        have hsq : (wd.alloc (.cells #[.int .i64 9] 3)).heap.size = wd.heap.size + 1 := by simp
                        have hMq := hMq.call hBq
                        have hRq := hRq.call hBq
                        have hSq := hSq.call hBq
                        have hbq := hbq.call hBq
                        have hBQ := hBQ.trans (hBq.mono (by omega : X ≤ wd.heap.size))
                        have hl9 := (arr_one wd 3 (.int .i64 9)).wide (A' := fun b => R ≤ b) (fun b hb _ => by omega)
                        have hszq : R ≤ (wd.alloc (.cells #[.int .i64 9] 3)).heap.size := by omega
                        refine hK _ _ hSq ?_
                        clear hK K hBq hsq
                        generalize wd.alloc (.cells #[.int .i64 9] 3) = wq0 at *
                        refine mix_two2 rfl rfl false false rfl rfl (fun K hK => ?_) (fun K hK => ?_)
                        · refine step_append_arr rfl _ _ 22 rfl 3 (.int .i64 0) 1 8 Try.underlying22 Try.info3 rfl (by decide) (by decide) (by omega) hMq.om rfl hl9 rfl rfl (one_int _) (by rw [List.length_replicate]; omega) ?_
                          intro vm2 wq1 hown hT
                          have hBQ : Below X wt wq1 := hT.below2 hMq.om hBQ (by omega) (by omega)
                          have hSq := hSq.turn (hvm1 _ (by omega)) (hvm2 _ (by omega)) hT
                          have hbq := hbq.turn (hvm1 _ (by omega)) hT
                          have hRq := hRq.turnL hszq hT
                          have hszq := Nat.le_trans hszq hT.size
                          have hMq := hMq.mountain hown hT
                          obtain ⟨ao2, cp2, rfl⟩ := own_slice hown
                          refine hK _ _ hSq ?_
                          clear hK K hT hown hl9
                          refine mix_pur2 rfl (fun K hK => ?_)
                          go_simp
                          first | refine ⟨_, fun _ => rfl, hK _ ?_⟩ | refine hK _ ?_
                          clear hK K
                          refine mix_eff2 rfl false rfl (fun K hK => ?_)
                          go_simp
                          have hBq := (Below.refl wq1.heap.size wq1).alloc (Nat.le_refl _) (.cells #[.int .i64 hv, .int .i64 dv, (.slice ar (c.villages.length - 1) cr)] 51)
                          have hsq : (wq1.alloc (.cells #[.int .i64 hv, .int .i64 dv, (.slice ar (c.villages.length - 1) cr)] 51)).heap.size = wq1.heap.size + 1 := by simp
                          have hMq := hMq.call hBq
                          have hRq := hRq.call hBq
                          have hSq := hSq.call hBq
                          have hbq := hbq.call hBq
                          have hBQ := hBQ.trans (hBq.mono (by omega : X ≤ wq1.heap.size))
                          have hlV := (Own.arr (own_lit wq1 51 3 #[.int .i64 hv, .int .i64 dv, (.slice ar (c.villages.length - 1) cr)] 1 rfl (by omega))).wide (A' := fun b => R ≤ b) (fun b hb _ => by omega)
                          have hszq : R ≤ (wq1.alloc (.cells #[.int .i64 hv, .int .i64 dv, (.slice ar (c.villages.length - 1) cr)] 51)).heap.size := by omega
                          refine hK _ _ hSq ?_
                          clear hK K hBq hsq
                          generalize wq1.alloc (.cells #[.int .i64 hv, .int .i64 dv, (.slice ar (c.villages.length - 1) cr)] 51) = wq2 at *
                          refine mix_eff2 rfl false rfl (fun K hK => ?_)
                          refine step_append_arr rfl _ _ 23 rfl 51 _ 3 40 Try.underlying23 Try.info51 rfl (by decide) (by decide) (by omega) hMq.ov rfl hlV rfl rfl (vil_one _ _ _ _ _) (by omega) ?_
                          intro vv2 wq3 hown hT
                          have hBQ : Below X wt wq3 := hT.below2 hMq.ov hBQ (by omega) (by omega)
                          have hSq := hSq.turn (hvv1 _ (by omega)) (hvv2 _ (by omega)) hT
                          have hbq := hbq.turn (hvv1 _ (by omega)) hT
                          have hszq := Nat.le_trans hszq hT.size
                          have hMq := MKB.village (x := ⟨hv, dv, L⟩) hMq (hRq.wide fun b hb _ => ⟨hb.1, hb.2.2.1, hb.2.2.2⟩) hown hT
                          obtain ⟨ao3, cp3, rfl⟩ := own_slice hown
                          refine hK _ _ hSq ?_
                          clear hK K hT hown hlV hRq
                          refine mix_eff2 rfl true rfl (fun K hK => ?_)
                          have d1 := hSq.1.cell 0
                          have f1 := hSq.1.free 0
                          go_simp
                          refine hK _ _ trivial ?_
                          clear hK K d1 f1
                          refine mix_pur2 rfl (fun K hK => ?_)
                          go_simp
                          first | refine ⟨_, fun _ => rfl, hK _ ?_⟩ | refine hK _ ?_
                          clear hK K
                          refine mix_eff2 rfl true rfl (fun K hK => ?_)
                          have hY2 := two_set hSq.1 (.slice ao2 ((List.replicate vsy.length (9 : Int)).length + 1) cp2) (.slice ao3 (vsy.length + 1) cp3)
                          have d1 := hSq.1.cell 1
                          have f1 := hSq.1.free 1
                          rw [List.length_replicate] at *
                          go_simp
                          refine hK _ _ trivial ?_
                          clear hK K d1 f1
                          refine mix_done2 ?_
                          have hF : ∀ b, b ≠ X + 1 → ((wq3.setCell ⟨X + 1, 0, none⟩ (.slice ao2 (vsy.length + 1) cp2)).setCell ⟨X + 1, 1, none⟩ (.slice ao3 (vsy.length + 1) cp3)).heap[b]? = wq3.heap[b]? := fun b hb => (Below.heap_setCell _ _ _ _ (show b ≠ X + 1 from hb)).trans (Below.heap_setCell _ _ _ _ (show b ≠ X + 1 from hb))
                          have hFs : ((wq3.setCell ⟨X + 1, 0, none⟩ (.slice ao2 (vsy.length + 1) cp2)).setCell ⟨X + 1, 1, none⟩ (.slice ao3 (vsy.length + 1) cp3)).heap.size = wq3.heap.size := by simp [World.setCell]
                          have hBF : Below X wt ((wq3.setCell ⟨X + 1, 0, none⟩ (.slice ao2 (vsy.length + 1) cp2)).setCell ⟨X + 1, 1, none⟩ (.slice ao3 (vsy.length + 1) cp3)) := (hBQ.setCell (by show X ≤ X + 1; omega) _).setCell (by show X ≤ X + 1; omega) _
                          have hMF := hMq.below (by omega) (fun b h1 _ => hF b (by omega))
                          have hbF := hbq.keep (hF X (by omega))
                          generalize ((wq3.setCell ⟨X + 1, 0, none⟩ (.slice ao2 (vsy.length + 1) cp2)).setCell ⟨X + 1, 1, none⟩ (.slice ao3 (vsy.length + 1) cp3)) = wf at *
                          go_wp2_with fail
                          go_roundw
                          case rel => exact ⟨k + 1, _, _, vsy ++ [⟨hv, dv, L⟩], _, by omega, by go_num, by rw [HMG.out, HVS.out], by rw [List.length_append, List.length_singleton, List.replicate_succ']; exact hMF, hY2, hbF, hBF, by omega⟩
                          case measure => simp [intOf]; omega
                        · go_simp
                          have hBq := (Below.refl wq0.heap.size wq0).alloc (Nat.le_refl _) (.cells #[.int .i64 hv, .int .i64 dv, (.slice ar (c.villages.length - 1) cr)] 51)
                          have hsq : (wq0.alloc (.cells #[.int .i64 hv, .int .i64 dv, (.slice ar (c.villages.length - 1) cr)] 51)).heap.size = wq0.heap.size + 1 := by simp
                          have hMq := hMq.call hBq
                          have hRq := hRq.call hBq
                          have hSq := hSq.call hBq
                          have hbq := hbq.call hBq
                          have hBQ := hBQ.trans (hBq.mono (by omega : X ≤ wq0.heap.size))
                          have hl9 := Arr.step hl9 hBq.size (fun k _ hl => hBq.block k hl)
                          have hlV := (Own.arr (own_lit wq0 51 3 #[.int .i64 hv, .int .i64 dv, (.slice ar (c.villages.length - 1) cr)] 1 rfl (by omega))).wide (A' := fun b => R ≤ b) (fun b hb _ => by omega)
                          have hszq : R ≤ (wq0.alloc (.cells #[.int .i64 hv, .int .i64 dv, (.slice ar (c.villages.length - 1) cr)] 51)).heap.size := by omega
                          refine hK _ _ hSq ?_
                          clear hK K hBq hsq
                          generalize wq0.alloc (.cells #[.int .i64 hv, .int .i64 dv, (.slice ar (c.villages.length - 1) cr)] 51) = wq1 at *
                          refine mix_eff2 rfl false rfl (fun K hK => ?_)
                          refine step_append_arr rfl _ _ 22 rfl 3 (.int .i64 0) 1 8 Try.underlying22 Try.info3 rfl (by decide) (by decide) (by omega) hMq.om rfl hl9 rfl rfl (one_int _) (by rw [List.length_replicate]; omega) ?_
                          intro vm2 wq2 hown hT
                          have hBQ : Below X wt wq2 := hT.below2 hMq.om hBQ (by omega) (by omega)
                          have hSq := hSq.turn (hvm1 _ (by omega)) (hvm2 _ (by omega)) hT
                          have hbq := hbq.turn (hvm1 _ (by omega)) hT
                          have hRq := hRq.turnL hszq hT
                          have hszq := Nat.le_trans hszq hT.size
                          have hlV := hlV.turn (fun b hb => by have := hvm3 b hb; omega) hT
                          have hMq := hMq.mountain hown hT
                          obtain ⟨ao2, cp2, rfl⟩ := own_slice hown
                          refine hK _ _ hSq ?_
                          clear hK K hT hown hl9
                          refine mix_pur2 rfl (fun K hK => ?_)
                          go_simp
                          first | refine ⟨_, fun _ => rfl, hK _ ?_⟩ | refine hK _ ?_
                          clear hK K
                          refine mix_eff2 rfl false rfl (fun K hK => ?_)
                          refine step_append_arr rfl _ _ 23 rfl 51 _ 3 40 Try.underlying23 Try.info51 rfl (by decide) (by decide) (by omega) hMq.ov rfl hlV rfl rfl (vil_one _ _ _ _ _) (by omega) ?_
                          intro vv2 wq3 hown hT
                          have hBQ : Below X wt wq3 := hT.below2 hMq.ov hBQ (by omega) (by omega)
                          have hSq := hSq.turn (hvv1 _ (by omega)) (hvv2 _ (by omega)) hT
                          have hbq := hbq.turn (hvv1 _ (by omega)) hT
                          have hszq := Nat.le_trans hszq hT.size
                          have hMq := MKB.village (x := ⟨hv, dv, L⟩) hMq (hRq.wide fun b hb _ => ⟨hb.1, hb.2.2.1, hb.2.2.2⟩) hown hT
                          obtain ⟨ao3, cp3, rfl⟩ := own_slice hown
                          refine hK _ _ hSq ?_
                          clear hK K hT hown hlV hRq
                          refine mix_eff2 rfl true rfl (fun K hK => ?_)
                          have d1 := hSq.1.cell 0
                          have f1 := hSq.1.free 0
                          go_simp
                          refine hK _ _ trivial ?_
                          clear hK K d1 f1
                          refine mix_pur2 rfl (fun K hK => ?_)
                          go_simp
                          first | refine ⟨_, fun _ => rfl, hK _ ?_⟩ | refine hK _ ?_
                          clear hK K
                          refine mix_eff2 rfl true rfl (fun K hK => ?_)
                          have hY2 := two_set hSq.1 (.slice ao2 ((List.replicate vsy.length (9 : Int)).length + 1) cp2) (.slice ao3 (vsy.length + 1) cp3)
                          have d1 := hSq.1.cell 1
                          have f1 := hSq.1.free 1
                          rw [List.length_replicate] at *
                          go_simp
                          refine hK _ _ trivial ?_
                          clear hK K d1 f1
                          refine mix_done2 ?_
                          have hF : ∀ b, b ≠ X + 1 → ((wq3.setCell ⟨X + 1, 0, none⟩ (.slice ao2 (vsy.length + 1) cp2)).setCell ⟨X + 1, 1, none⟩ (.slice ao3 (vsy.length + 1) cp3)).heap[b]? = wq3.heap[b]? := fun b hb => (Below.heap_setCell _ _ _ _ (show b ≠ X + 1 from hb)).trans (Below.heap_setCell _ _ _ _ (show b ≠ X + 1 from hb))
                          have hFs : ((wq3.setCell ⟨X + 1, 0, none⟩ (.slice ao2 (vsy.length + 1) cp2)).setCell ⟨X + 1, 1, none⟩ (.slice ao3 (vsy.length + 1) cp3)).heap.size = wq3.heap.size := by simp [World.setCell]
                          have hBF : Below X wt ((wq3.setCell ⟨X + 1, 0, none⟩ (.slice ao2 (vsy.length + 1) cp2)).setCell ⟨X + 1, 1, none⟩ (.slice ao3 (vsy.length + 1) cp3)) := (hBQ.setCell (by show X ≤ X + 1; omega) _).setCell (by show X ≤ X + 1; omega) _
                          have hMF := hMq.below (by omega) (fun b h1 _ => hF b (by omega))
                          have hbF := hbq.keep (hF X (by omega))
                          generalize ((wq3.setCell ⟨X + 1, 0, none⟩ (.slice ao2 (vsy.length + 1) cp2)).setCell ⟨X + 1, 1, none⟩ (.slice ao3 (vsy.length + 1) cp3)) = wf at *
                          go_wp2_with fail
                          go_roundw
                          case rel => exact ⟨k + 1, _, _, vsy ++ [⟨hv, dv, L⟩], _, by omega, by go_num, by rw [HMG.out, HVS.out], by rw [List.length_append, List.length_singleton, List.replicate_succ']; exact hMF, hY2, hbF, hBF, by omega⟩
                          case measure => simp [intOf]; omega
                      · go_simp
                        have hBq := (Below.refl wd.heap.size wd).alloc (Nat.le_refl _) (.cells #[.int .i64 hv, .int .i64 dv, (.slice ar (c.villages.length - 1) cr)] 51)
                        have hsq : (wd.alloc (.cells #[.int .i64 hv, .int .i64 dv, (.slice ar (c.villages.length - 1) cr)] 51)).heap.size = wd.heap.size + 1 := by simp
                        have hMq := hMq.call hBq
                        have hRq := hRq.call hBq
                        have hSq := hSq.call hBq
                        have hbq := hbq.call hBq
                        have hBQ := hBQ.trans (hBq.mono (by omega : X ≤ wd.heap.size))
                        have hlV := (Own.arr (own_lit wd 51 3 #[.int .i64 hv, .int .i64 dv, (.slice ar (c.villages.length - 1) cr)] 1 rfl (by omega))).wide (A' := fun b => R ≤ b) (fun b hb _ => by omega)
                        have hszq : R ≤ (wd.alloc (.cells #[.int .i64 hv, .int .i64 dv, (.slice ar (c.villages.length - 1) cr)] 51)).heap.size := by omega
                        refine hK _ _ hSq ?_
                        clear hK K hBq hsq
                        generalize wd.alloc (.cells #[.int .i64 hv, .int .i64 dv, (.slice ar (c.villages.length - 1) cr)] 51) = wq0 at *
                        refine mix_eff2 rfl false rfl (fun K hK => ?_)
                        go_simp
                        have hBq := (Below.refl wq0.heap.size wq0).alloc (Nat.le_refl _) (.cells #[.int .i64 9] 3)
                        have hsq : (wq0.alloc (.cells #[.int .i64 9] 3)).heap.size = wq0.heap.size + 1 := by simp
                        have hMq := hMq.call hBq
                        have hRq := hRq.call hBq
                        have hSq := hSq.call hBq
                        have hbq := hbq.call hBq
                        have hBQ := hBQ.trans (hBq.mono (by omega : X ≤ wq0.heap.size))
                        have hlV := Arr.step hlV hBq.size (fun k _ hl => hBq.block k hl)
                        have hl9 := (arr_one wq0 3 (.int .i64 9)).wide (A' := fun b => R ≤ b) (fun b hb _ => by omega)
                        have hszq : R ≤ (wq0.alloc (.cells #[.int .i64 9] 3)).heap.size := by omega
                        refine hK _ _ hSq ?_
                        clear hK K hBq hsq
                        generalize wq0.alloc (.cells #[.int .i64 9] 3) = wq1 at *
                        refine mix_eff2 rfl false rfl (fun K hK => ?_)
                        refine step_append_arr rfl _ _ 22 rfl 3 (.int .i64 0) 1 8 Try.underlying22 Try.info3 rfl (by decide) (by decide) (by omega) hMq.om rfl hl9 rfl rfl (one_int _) (by rw [List.length_replicate]; omega) ?_
                        intro vm2 wq2 hown hT
                        have hBQ : Below X wt wq2 := hT.below2 hMq.om hBQ (by omega) (by omega)
                        have hSq := hSq.turn (hvm1 _ (by omega)) (hvm2 _ (by omega)) hT
                        have hbq := hbq.turn (hvm1 _ (by omega)) hT
                        have hRq := hRq.turnL hszq hT
                        have hszq := Nat.le_trans hszq hT.size
                        have hlV := hlV.turn (fun b hb => by have := hvm3 b hb; omega) hT
                        have hMq := hMq.mountain hown hT
                        obtain ⟨ao2, cp2, rfl⟩ := own_slice hown
                        refine hK _ _ hSq ?_
                        clear hK K hT hown hl9
                        refine mix_pur2 rfl (fun K hK => ?_)
                        go_simp
                        first | refine ⟨_, fun _ => rfl, hK _ ?_⟩ | refine hK _ ?_
                        clear hK K
                        refine mix_eff2 rfl false rfl (fun K hK => ?_)
                        refine step_append_arr rfl _ _ 23 rfl 51 _ 3 40 Try.underlying23 Try.info51 rfl (by decide) (by decide) (by omega) hMq.ov rfl hlV rfl rfl (vil_one _ _ _ _ _) (by omega) ?_
                        intro vv2 wq3 hown hT
                        have hBQ : Below X wt wq3 := hT.below2 hMq.ov hBQ (by omega) (by omega)
                        have hSq := hSq.turn (hvv1 _ (by omega)) (hvv2 _ (by omega)) hT
                        have hbq := hbq.turn (hvv1 _ (by omega)) hT
                        have hszq := Nat.le_trans hszq hT.size
                        have hMq := MKB.village (x := ⟨hv, dv, L⟩) hMq (hRq.wide fun b hb _ => ⟨hb.1, hb.2.2.1, hb.2.2.2⟩) hown hT
                        obtain ⟨ao3, cp3, rfl⟩ := own_slice hown
                        refine hK _ _ hSq ?_
                        clear hK K hT hown hlV hRq
                        refine mix_eff2 rfl true rfl (fun K hK => ?_)
                        have d1 := hSq.1.cell 0
                        have f1 := hSq.1.free 0
                        go_simp
                        refine hK _ _ trivial ?_
                        clear hK K d1 f1
                        refine mix_pur2 rfl (fun K hK => ?_)
                        go_simp
                        first | refine ⟨_, fun _ => rfl, hK _ ?_⟩ | refine hK _ ?_
                        clear hK K
                        refine mix_eff2 rfl true rfl (fun K hK => ?_)
                        have hY2 := two_set hSq.1 (.slice ao2 ((List.replicate vsy.length (9 : Int)).length + 1) cp2) (.slice ao3 (vsy.length + 1) cp3)
                        have d1 := hSq.1.cell 1
                        have f1 := hSq.1.free 1
                        rw [List.length_replicate] at *
                        go_simp
                        refine hK _ _ trivial ?_
                        clear hK K d1 f1
                        refine mix_done2 ?_
                        have hF : ∀ b, b ≠ X + 1 → ((wq3.setCell ⟨X + 1, 0, none⟩ (.slice ao2 (vsy.length + 1) cp2)).setCell ⟨X + 1, 1, none⟩ (.slice ao3 (vsy.length + 1) cp3)).heap[b]? = wq3.heap[b]? := fun b hb => (Below.heap_setCell _ _ _ _ (show b ≠ X + 1 from hb)).trans (Below.heap_setCell _ _ _ _ (show b ≠ X + 1 from hb))
                        have hFs : ((wq3.setCell ⟨X + 1, 0, none⟩ (.slice ao2 (vsy.length + 1) cp2)).setCell ⟨X + 1, 1, none⟩ (.slice ao3 (vsy.length + 1) cp3)).heap.size = wq3.heap.size := by simp [World.setCell]
                        have hBF : Below X wt ((wq3.setCell ⟨X + 1, 0, none⟩ (.slice ao2 (vsy.length + 1) cp2)).setCell ⟨X + 1, 1, none⟩ (.slice ao3 (vsy.length + 1) cp3)) := (hBQ.setCell (by show X ≤ X + 1; omega) _).setCell (by show X ≤ X + 1; omega) _
                        have hMF := hMq.below (by omega) (fun b h1 _ => hF b (by omega))
                        have hbF := hbq.keep (hF X (by omega))
                        generalize ((wq3.setCell ⟨X + 1, 0, none⟩ (.slice ao2 (vsy.length + 1) cp2)).setCell ⟨X + 1, 1, none⟩ (.slice ao3 (vsy.length + 1) cp3)) = wf at *
                        go_wp2_with fail
                        go_roundw
                        case rel => exact ⟨k + 1, _, _, vsy ++ [⟨hv, dv, L⟩], _, by omega, by go_num, by rw [HMG.out, HVS.out], by rw [List.length_append, List.length_singleton, List.replicate_succ']; exact hMF, hY2, hbF, hBF, by omega⟩
                        case measure => simp [intOf]; omega
            · obtain rfl : k = c.villages.length := by omega
              have hlaw := mer_law (vs := xs) (L := L) (i := i) (fun v hv => by have := HXO.out v hv; exact ⟨this.1, this.2.1, this.2.2.1, this.2.2.2.1⟩) (by omega) m hm HKT.out.1 HKT.out.2.1 HKT.out.2.2
              rw [hvsl, ← hvsy] at hlaw
              obtain ⟨hyok, hyl, hle⟩ := hlaw
              have hxOk : (Com.mk c.mountains xs).Ok 4 := ⟨hok.n1, hok.n2, by show xs.length = _; rw [hvsl]; exact hok.vl, hok.bears, HXO.out⟩
              have hyOk : (Com.mk (List.replicate vsy.length 9) vsy).Ok 4 := by
                refine ⟨by simp; omega, by simp; omega, by simp, fun x hx => ?_, fun v hv => ?_⟩
                · have hx : x ∈ List.replicate vsy.length (9 : Int) := hx
                  rw [List.mem_replicate] at hx; omega
                · have h1 := hyok v hv
                  refine ⟨h1.1, h1.2.1, h1.2.2.1, h1.2.2.2, ?_⟩
                  have h2 := mgV_lik xs L i c.villages.length v (hvsy ▸ hv)
                  rw [h2, HL.out]
                  show PermOf (List.replicate vsy.length (9 : Int)).length _
                  rw [List.length_replicate, hyl]
                  exact List.Perm.refl _
              have hle' := hle
              have hxc := hXk.cm
              have hyc := hMK.cm
              have hax := allot_ok hxc hxOk m (by omega)
              have HAX := Lib.hid hax
              have HLE := Lib.hid hle
              have HVS := Lib.hid hvsy
              have HYL := Lib.hid hyl
              obtain ⟨ay, cy, hey⟩ := own_slice hMK.om
              obtain ⟨az, cz, hez⟩ := own_slice hMK.ov
              rw [List.length_replicate] at hey
              subst hey
              subst hez
              have c0 := hbXk.cell 0
              have c1 := hbXk.cell 1
              have hy1 : vsy.length + 1 ≤ c.villages.length := by omega
              have hy2 : c.villages.length ≤ vsy.length + 1 := by omega
              clear hax hle hle' hvsy hyok hxc hyl
              go_wp2_with fail
              clear c0 c1
              refine HAX.out.mono ?_
              rintro e wa ⟨va, rfl, hva, hBa⟩
              have hay := allot_ok (hyc.call hBa) hyOk m (by omega)
              have HAY := Lib.hid hay
              have hbYa := hbYk.call hBa
              have c0 := hbYa.cell 0
              have c1 := hbYa.cell 1
              clear hay HAX
              go_wp2_with fail
              clear c0 c1
              refine HAY.out.mono ?_
              rintro e wb ⟨vb, rfl, hvb, hBb⟩
              have hva2 := hva.call hBb
              have hBz : Below w4.heap.size w4 wb := hBt.trans (((hBk.trans (hBa.mono (by omega))).trans (hBb.mono (by have := hBa.size; omega))).mono (by omega))
              clear HAY hva hBa hBb
              have hla := allotN_len xs m
              have hlb := allotN_len vsy m
              have hba := allotN_bd xs m
              have hbb := allotN_bd vsy m
              have hle := HLE.out
              obtain ⟨la, hlae⟩ : ∃ z, z = allotN xs m := ⟨_, rfl⟩
              obtain ⟨lb, hlbe⟩ : ∃ z, z = allotN vsy m := ⟨_, rfl⟩
              (try dsimp only at hva2 hvb)
              rw [← hlae] at hva2 hla hba hle
              rw [← hlbe] at hvb hlb hbb hle
              have hsa := hva2.shape
              rw [hla, hvsl] at hsa
              obtain ⟨aa, ca, rfl, _, _⟩ := hsa
              have hsb := hvb.shape
              rw [hlb] at hsb
              obtain ⟨ab, cb, rfl, _, _⟩ := hsb
              have ka : i < la.length := by omega
              have ka2 : i + 1 < la.length := by omega
              have kb : i < lb.length := by omega
              obtain ⟨ba, oa, rfl, -, -, -⟩ := hva2.addr (by omega)
              obtain ⟨bb, ob, rfl, -, -, -⟩ := hvb.addr (by omega)
              have g1 := hva2.cell i ka
              have g2 := hva2.cell (i + 1) ka2
              have g3 := hvb.cell i kb
              have r1 := hba _ (List.getElem_mem ka)
              have r2 := hba _ (List.getElem_mem ka2)
              have r3 := hbb _ (List.getElem_mem kb)
              rw [show la.getD i 0 = la[i] by simp [ka], show la.getD (i + 1) 0 = la[i + 1] by simp [ka2], show lb.getD i 0 = lb[i] by simp [kb]] at hle
              obtain ⟨q1, hq1⟩ : ∃ z, z = la[i] := ⟨_, rfl⟩
              obtain ⟨q2, hq2⟩ : ∃ z, z = la[i + 1] := ⟨_, rfl⟩
              obtain ⟨q3, hq3⟩ : ∃ z, z = lb[i] := ⟨_, rfl⟩
              rw [← hq1] at g1 r1 hle
              rw [← hq2] at g2 r2 hle
              rw [← hq3] at g3 r3 hle
              have hwk : IntKind.i64.wrap ((i : Int) + 1) = (i : Int) + 1 := IntWalk.i64_in _ (by omega)
              have hwn : IntKind.i64.wrap ((c.villages.length : Int) - 1) = (c.villages.length : Int) - 1 := IntWalk.i64_in _ (by omega)
              have hwp : IntKind.i64.wrap (q1 + q2) = q1 + q2 := IntWalk.i64_in _ (by omega)
              have htk : ((i : Int) + 1).toNat = i + 1 := by omega
              have hk9 : 0 ≤ (i : Int) + 1 := by omega
              have hk10 : (i : Int) + 1 < (c.villages.length : Int) := by omega
              have hi11 : i < vsy.length := by omega
              obtain ⟨nb, hnb⟩ : ∃ z, z = vsy.length := ⟨_, rfl⟩
              rw [← hnb] at hvb hi11 ⊢
              have hsub : (c.villages.length : Int) - 1 = (nb : Int) := by omega
              have bl : decide (q3 < q1 + q2) = false := decide_eq_false (by omega)
              have bl2 : ¬ q3 < q1 + q2 := by omega
              clear hq1 hq2 hq3 hlae hlbe hla hlb hba hbb hnb hle hvsl
              go_wp2_with fail
              go_quiet (fail)
              rename_i nq
              go_wp2
              go_roundw
              case rel => exact ⟨i + 1, hlt, by go_num, hBz.trans ((show Qt wb (wb.drewN _) from ⟨_, rfl⟩).below _)⟩
              case measure => simp [intOf]; omega
    · have b1 : decide ((i : Int) + 1 < (c.villages.length : Int)) = false := decide_eq_false (by omega)
      go_wp2_with (go_at_call 21; refine (drawn_c _).mono ?_; rintro e wz ⟨rfl, hBz⟩)
      go_ret
      exact ⟨rfl, bnx (bnx hT4 hB) hBz⟩

end Go.Proofs.Ythchpoabncdicaa
