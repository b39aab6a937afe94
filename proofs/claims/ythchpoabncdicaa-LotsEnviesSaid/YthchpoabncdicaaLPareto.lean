/- The walk of LotsPareto: it hands back true, whatever the numbers; conditions: the argument reads as numbers. -/
import Derived.Test.YthchpoabncdicaaParP
import Derived.Test.YthchpoabncdicaaLNext
namespace Go.Proofs.Ythchpoabncdicaa
open Go.RowKit

theorem Blk.drew {b : Nat} {cs : Array Value} {t : TypeId} {w : World} (h : Blk b cs t w) : Blk b cs t w.drew := h
/-- What a comparison of two divisions reads. -/
def PaS (b : Nat) (vm vv : Value) (gb o : Nat) (row : Value) (rb ro bf fo : Nat) (x y : Int) (w : World) : Prop := Blk b #[vm, vv] 25 w ∧ w.cell? ⟨gb, o, none⟩ = some row ∧ w.cell? ⟨rb, ro, none⟩ = some (.int .i64 x) ∧ w.cell? ⟨bf, fo, none⟩ = some (.int .i64 y)
theorem PaS.drew {b : Nat} {vm vv : Value} {gb o : Nat} {row : Value} {rb ro bf fo : Nat} {x y : Int} {w : World} (h : PaS b vm vv gb o row rb ro bf fo x y w) : PaS b vm vv gb o row rb ro bf fo x y w.drew := h
def betterN (vs : List Vil) (d got : List Int) (j : Nat) : Bool := (List.range j).any fun v => decide (rk vs v (d.getD v 0) < rk vs v (got.getD v 0))
def worseN (vs : List Vil) (d got : List Int) (j : Nat) : Bool := (List.range j).any fun v => decide (rk vs v (d.getD v 0) > rk vs v (got.getD v 0))
theorem betterN_succ (vs : List Vil) (d got : List Int) (j : Nat) : betterN vs d got (j + 1) = (betterN vs d got j || decide (rk vs j (d.getD j 0) < rk vs j (got.getD j 0))) := by simp [betterN, List.range_succ]
theorem worseN_succ (vs : List Vil) (d got : List Int) (j : Nat) : worseN vs d got (j + 1) = (worseN vs d got j || decide (rk vs j (d.getD j 0) > rk vs j (got.getD j 0))) := by simp [worseN, List.range_succ]
theorem pareto_flags {vs : List Vil} {n : Nat} {order d : List Int} (hlk : ∀ v : Nat, v < n → PermOf n (vs.getD v ⟨0, 0, []⟩).likes) (ho : PermOf n order) (hd : PermOf n d) (hw : worseN vs d (drawF vs n order) n = false) : betterN vs d (drawF vs n order) n = false := by
  simp only [worseN, List.any_eq_false, List.mem_range, decide_eq_true_eq] at hw
  simp only [betterN, List.any_eq_false, List.mem_range, decide_eq_true_eq]
  intro v hv
  have := pareto_law hlk ho hd (fun u hu => by have := hw u hu; omega) v hv
  omega

set_option maxRecDepth 100000 in
set_option maxHeartbeats 4000000 in
theorem lotsPareto_c {A : Nat → Prop} {w : World} {v : Value} {nums : List Int} (hn : Ints A w v nums) :
    Calls Try.prog 7 #[v] w fun e w' => e = .returned (.bool true) ∧ Below w.heap.size w w' := by
  go_enter Try.func7, Try.ntmps7
  go_wp2_with fail
  refine (newHand_c hn).mono ?_
  rintro e w1 ⟨rfl, hH, hB1⟩
  have hs1 := hH.lt
  go_wp2_with fail
  refine (commonsOf_c hH (by omega) 4 (by omega) (by omega)).mono ?_
  rintro e w2 ⟨vm, vv, rfl, ⟨c, hC, hok⟩, ⟨k2, hk2, hH⟩, hG⟩
  have hB2 : Below w.heap.size w w2 := hB1.grown hG (by omega) (fun k e => by injection e with e; omega)
  have hs2 := hG.size
  clear hG hB1
  obtain ⟨am, cpm, rfl, _, _⟩ := hC.1.shape
  obtain ⟨av, cpv, rfl, _, _⟩ := hC.2.shape
  have hH := hH.call ((Below.refl w2.heap.size w2).alloc (Nat.le_refl _) (.cells #[.slice am c.mountains.length cpm, .slice av c.villages.length cpv] 25))
  have hbx : Blk w2.heap.size #[.slice am c.mountains.length cpm, .slice av c.villages.length cpv] 25 (w2.alloc (.cells #[.slice am c.mountains.length cpm, .slice av c.villages.length cpv] 25)) := Blk.new w2 _ _
  have hC := hC.alloc (.cells #[.slice am c.mountains.length cpm, .slice av c.villages.length cpv] 25)
  have hT := bal (o := .cells #[.slice am c.mountains.length cpm, .slice av c.villages.length cpv] 25) hB2
  have hvl4 : c.villages.length ≤ 4 := by have := hok.vl; have := hok.n2; omega
  have hvl1 : 0 < c.villages.length := by have := hok.vl; have := hok.n1; omega
  have hvl := hok.vl
  have hlk : ∀ v : Nat, v < c.villages.length → PermOf c.villages.length (c.villages.getD v ⟨0, 0, []⟩).likes := fun v hv => by
    have h := (hok.vil _ (List.getElem_mem hv)).2.2.2.2
    rw [List.getD_eq_getElem?_getD, List.getElem?_eq_getElem hv, hvl]
    exact h
  have HLK := Lib.hid hlk
  clear hvl hlk
  have c1 := hbx.cell 1
  go_wp2_with fail
  clear c1
  refine wp_region_mix2 (.one 0 (.pur 1 (.pur 2 (.act 3 (.act 4 (.pur 5 (.pur 6 (.pur 7 (.pur 8 (.pur 9 .fin)))))))))) 99 (Blk w2.heap.size #[.slice am c.mountains.length cpm, .slice av c.villages.length cpv] 25) (fun _ => True) (by kernel_rfl) (by kernel_rfl) rfl (by kernel_rfl) (Blk.drew hbx) (fun wd hqd _ => ?_)
  refine mix_load2 rfl rfl rfl (.agg #[.slice am c.mountains.length cpm, .slice av c.villages.length cpv]) (fun w' h => by have h : (Blk w2.heap.size #[.slice am c.mountains.length cpm, .slice av c.villages.length cpv] 25) w' := h; have h0 := Blk.cell h 0; have h1 := Blk.cell h 1; go_simp) rfl ?_
  refine mix_pur2 rfl (fun K hK => ?_)
  go_simp
  first | refine ⟨_, fun _ => rfl, hK _ ?_⟩ | refine hK _ ?_
  clear hK K
  refine mix_pur2 rfl (fun K hK => ?_)
  go_simp
  first | refine ⟨_, fun _ => rfl, hK _ ?_⟩ | refine hK _ ?_
  clear hK K
  refine mix_eff2 rfl false rfl (fun K hK => ?_)
  go_simp
  refine (row_c (hH.qt hqd) c.villages.length (by omega) (by omega)).mono ?_
  rintro e w3 ⟨⟨vf, rfl, l0, hf, hp⟩, -, hG3⟩
  have hC3 := (hC.call (hqd.below _)).hand hG3 hs1
  have hbx3 := (hbx.call (hqd.below _)).hand hG3 (by omega)
  have hT3 := bhand (bnx hT (hqd.below _)) hG3 (by omega)
  refine hK _ _ hbx3 ?_
  clear hK K
  refine mix_eff2 rfl false rfl (fun K hK => ?_)
  go_simp
  have hpm : PermOf c.mountains.length l0 := by rw [← hok.vl]; exact hp
  refine (draw_good hC3 hf (divE_zero hok hpm)).mono ?_
  rintro e w4 ⟨va, rfl, hg, hB4⟩
  refine hK _ _ (hbx3.call hB4) ?_
  clear hK K
  refine mix_pur2 rfl (fun K hK => ?_)
  go_simp
  first | refine ⟨_, fun _ => rfl, hK _ ?_⟩ | refine hK _ ?_
  clear hK K
  refine mix_pur2 rfl (fun K hK => ?_)
  go_simp
  first | refine ⟨_, fun _ => rfl, hK _ ?_⟩ | refine hK _ ?_
  clear hK K
  refine mix_pur2 rfl (fun K hK => ?_)
  go_simp
  first | refine ⟨_, fun _ => rfl, hK _ ?_⟩ | refine hK _ ?_
  clear hK K
  refine mix_pur2 rfl (fun K hK => ?_)
  go_simp
  first | refine ⟨_, fun _ => rfl, hK _ ?_⟩ | refine hK _ ?_
  clear hK K
  refine mix_pur2 rfl (fun K hK => ?_)
  go_simp
  first | refine ⟨_, fun _ => rfl, hK _ ?_⟩ | refine hK _ ?_
  clear hK K
  refine mix_done2 ?_
  have hbx4 := hbx3.call hB4
  have hC4 := hC3.call hB4
  have hT4 := bnx hT3 hB4
  have hl0 := hp.len
  rw [hl0] at hg
  have hpg := drawF_perm HLK.out hp
  obtain ⟨got, hgot⟩ : ∃ got, got = drawF c.villages c.villages.length l0 := ⟨_, rfl⟩
  rw [← hgot] at hg hpg
  have hgl := hpg.len
  have HGOT := Lib.hid hgot
  have HPG := Lib.hid hpg
  have HP := Lib.hid hp
  have HGL := Lib.hid hgl
  have hsg := hg.shape
  rw [hgl] at hsg
  obtain ⟨ag, cg, rfl, _, _⟩ := hsg
  clear hgot hpg hp hl0 hgl hbx hC hT hH hG3 hC3 hbx3 hT3 hqd hf hpm
  go_wp2_with fail
  refine (whole_t hg HPG.out).mono ?_
  rintro e w5 ⟨rfl, hq5⟩
  have hB5 := hq5.below w4.heap.size
  have hC5 := hC4.call hB5
  have hbx5 := hbx4.call hB5
  have hT5 := bnx hT4 hB5
  have hg5 := hg.qt hq5
  clear hC4 hbx4 hT4 hg hq5 hB5
  go_wp2_with fail
  refine (orders_c hvl4 w5).mono ?_
  rintro e w6 ⟨vo, rfl, hO, hB6⟩
  have hC5 := hC5.call hB6
  have hbx5 := hbx5.call hB6
  have hT5 := bnx hT5 hB6
  have hg5 := hg5.call hB6
  have hop := orders_perm hvl4
  generalize ordersL c.villages.length = all at hO hop
  obtain ⟨ao, co, rfl, _, _⟩ := hO.shape
  have hol := hO.len
  have HOP := Lib.hid hop
  clear hop hB6
  go_wp2_with fail
  go_loopw [9] (fun i wr => ∃ k : Nat, k ≤ all.length ∧ i = .int .i64 k ∧ Below w6.heap.size w6 wr) (fun i _ => all.length - (intOf i).toNat)
  case atStart => exact ⟨0, Nat.zero_le _, rfl, Below.refl _ _⟩
  case round =>
    obtain ⟨i, hi, rfl, hB⟩ := hrel
    by_cases hil : i < all.length
    · obtain ⟨gb, go, rfl, -, hgb⟩ := hO.addr (by omega)
      obtain ⟨ar, cr, r1, hR⟩ := hO.row i hil
      have hpd := HOP.out _ (List.getElem_mem hil)
      have hdl := hpd.len
      obtain ⟨d, hd⟩ : ∃ d, d = all[i] := ⟨_, rfl⟩
      rw [← hd] at r1 hR hpd hdl
      rw [hdl] at r1 hR
      have HPD := Lib.hid hpd
      have HDL := Lib.hid hdl
      clear hd hpd hdl
      go_wp2_with fail
      go_loopw [10, 11, 12] (fun s10 s11 s12 wx => ∃ j : Nat, j ≤ c.villages.length ∧ s12 = .int .i64 j ∧ s10 = .bool (betterN c.villages d got j) ∧ s11 = .bool (worseN c.villages d got j) ∧ Below w6.heap.size w6 wx) (fun _ _ s12 _ => c.villages.length - (intOf s12).toNat)
      case atStart => exact ⟨0, Nat.zero_le _, rfl, rfl, rfl, hB⟩
      case round =>
        rename World => wx
        obtain ⟨k, hk, rfl, rfl, rfl, hBx⟩ := hrel
        by_cases hkl : k < c.villages.length
        · have hkd : k < d.length := by have := HDL.out; omega
          have hkg : k < got.length := by have := HGL.out; omega
          obtain ⟨rb, ro, rfl, -, hrb, hrc⟩ := hR.addr (by omega)
          obtain ⟨bf, fo, rfl, -, hbf, hcf⟩ := hg5.addr (by omega)
          have hbs := betterN_succ c.villages d got k
          have hws := worseN_succ c.villages d got k
          have ex : d.getD k 0 = d[k] := by rw [List.getD_eq_getElem?_getD, List.getElem?_eq_getElem hkd]; rfl
          have ey : got.getD k 0 = got[k] := by rw [List.getD_eq_getElem?_getD, List.getElem?_eq_getElem hkg]; rfl
          rw [ex, ey] at hbs hws
          have r2 := hrc k hkd
          have r3 := hcf k hkg
          obtain ⟨x, hx⟩ : ∃ x, x = d[k] := ⟨_, rfl⟩
          obtain ⟨y, hy⟩ : ∃ y, y = got[k] := ⟨_, rfl⟩
          rw [← hx] at hbs hws r2
          rw [← hy] at hbs hws r3
          have hE : ∀ w', Below w6.heap.size w6 w' → PaS w2.heap.size (.slice am c.mountains.length cpm) (.slice av c.villages.length cpv) gb (go + i) (.slice (some ⟨rb, ro, none⟩) c.villages.length cr) rb (ro + k) bf (fo + k) x y w' := fun w' h => ⟨hbx5.call h, (World.cell?_of_block (h.block gb hgb)).trans r1, (World.cell?_of_block (h.block rb hrb)).trans r2, (World.cell?_of_block (h.block bf hbf)).trans r3⟩
          obtain ⟨bt, hbt⟩ : ∃ bt, bt = betterN c.villages d got k := ⟨_, rfl⟩
          obtain ⟨wt, hwt⟩ : ∃ wt, wt = worseN c.villages d got k := ⟨_, rfl⟩
          rw [← hbt] at hbs ⊢
          rw [← hwt] at hws ⊢
          have HBS := Lib.hid hbs
          have HWS := Lib.hid hws
          clear hbs hws ex ey r2 r3 hx hy hrc hcf hbt hwt
          go_wp2_with fail
          refine wp_region_mix2 (.one 0 (.pur 1 (.pur 2 (.pur 3 (.pur 4 (.one 5 (.pur 6 (.pur 7 (.one 8 (.one 10 (.pur 11 (.pur 12 (.pur 13 (.pur 14 (.one 15 (.act 9 (.act 16 (.pur 17 (.pur 18 .fin))))))))))))))))))) 99 (PaS w2.heap.size (.slice am c.mountains.length cpm) (.slice av c.villages.length cpv) gb (go + i) (.slice (some ⟨rb, ro, none⟩) c.villages.length cr) rb (ro + k) bf (fo + k) x y) (fun _ => True) (by kernel_rfl) (by kernel_rfl) rfl (by kernel_rfl) (hE _ hBx).drew (fun wd hqd _ => ?_)
          have hBd : Below w6.heap.size w6 wd := hBx.trans (hqd.below _)
          refine mix_load2 rfl rfl rfl (.agg #[.slice am c.mountains.length cpm, .slice av c.villages.length cpv]) (fun w' h => by have h : (PaS w2.heap.size (.slice am c.mountains.length cpm) (.slice av c.villages.length cpv) gb (go + i) (.slice (some ⟨rb, ro, none⟩) c.villages.length cr) rb (ro + k) bf (fo + k) x y) w' := h; have h0 := h.1.cell 0; have h1 := h.1.cell 1; go_simp) rfl ?_
          refine mix_pur2 rfl (fun K hK => ?_)
          go_simp
          first | refine ⟨_, fun _ => rfl, hK _ ?_⟩ | refine hK _ ?_
          clear hK K
          refine mix_pur2 rfl (fun K hK => ?_)
          go_simp
          first | refine ⟨_, fun _ => rfl, hK _ ?_⟩ | refine hK _ ?_
          clear hK K
          refine mix_pur2 rfl (fun K hK => ?_)
          go_simp
          first | refine ⟨_, fun _ => rfl, hK _ ?_⟩ | refine hK _ ?_
          clear hK K
          refine mix_pur2 rfl (fun K hK => ?_)
          go_simp
          first | refine ⟨_, fun _ => rfl, hK _ ?_⟩ | refine hK _ ?_
          clear hK K
          refine mix_load2 rfl rfl rfl (.slice (some ⟨rb, ro, none⟩) c.villages.length cr) (fun w' h => by have h : (PaS w2.heap.size (.slice am c.mountains.length cpm) (.slice av c.villages.length cpv) gb (go + i) (.slice (some ⟨rb, ro, none⟩) c.villages.length cr) rb (ro + k) bf (fo + k) x y) w' := h; have h0 := h.2.1; go_simp) rfl ?_
          refine mix_pur2 rfl (fun K hK => ?_)
          go_simp
          first | refine ⟨_, fun _ => rfl, hK _ ?_⟩ | refine hK _ ?_
          clear hK K
          refine mix_pur2 rfl (fun K hK => ?_)
          go_simp
          first | refine ⟨_, fun _ => rfl, hK _ ?_⟩ | refine hK _ ?_
          clear hK K
          refine mix_load2 rfl rfl rfl (.int .i64 x) (fun w' h => by have h : (PaS w2.heap.size (.slice am c.mountains.length cpm) (.slice av c.villages.length cpv) gb (go + i) (.slice (some ⟨rb, ro, none⟩) c.villages.length cr) rb (ro + k) bf (fo + k) x y) w' := h; have h0 := h.2.2.1; go_simp) rfl ?_
          refine mix_load2 rfl rfl rfl (.agg #[.slice am c.mountains.length cpm, .slice av c.villages.length cpv]) (fun w' h => by have h : (PaS w2.heap.size (.slice am c.mountains.length cpm) (.slice av c.villages.length cpv) gb (go + i) (.slice (some ⟨rb, ro, none⟩) c.villages.length cr) rb (ro + k) bf (fo + k) x y) w' := h; have h0 := h.1.cell 0; have h1 := h.1.cell 1; go_simp) rfl ?_
          refine mix_pur2 rfl (fun K hK => ?_)
          go_simp
          first | refine ⟨_, fun _ => rfl, hK _ ?_⟩ | refine hK _ ?_
          clear hK K
          refine mix_pur2 rfl (fun K hK => ?_)
          go_simp
          first | refine ⟨_, fun _ => rfl, hK _ ?_⟩ | refine hK _ ?_
          clear hK K
          refine mix_pur2 rfl (fun K hK => ?_)
          go_simp
          first | refine ⟨_, fun _ => rfl, hK _ ?_⟩ | refine hK _ ?_
          clear hK K
          refine mix_pur2 rfl (fun K hK => ?_)
          go_simp
          first | refine ⟨_, fun _ => rfl, hK _ ?_⟩ | refine hK _ ?_
          clear hK K
          refine mix_load2 rfl rfl rfl (.int .i64 y) (fun w' h => by have h : (PaS w2.heap.size (.slice am c.mountains.length cpm) (.slice av c.villages.length cpv) gb (go + i) (.slice (some ⟨rb, ro, none⟩) c.villages.length cr) rb (ro + k) bf (fo + k) x y) w' := h; have h0 := h.2.2.2; go_simp) rfl ?_
          refine mix_eff2 rfl false rfl (fun K hK => ?_)
          go_simp
          refine (plc_c (hC5.call hBd) k hkl x).mono ?_
          rintro e w8 ⟨rfl, hC8⟩
          have hB8 := hBd.trans (hC8.mono hBd.size)
          refine hK _ _ (hE w8 hB8) ?_
          clear hK K
          refine mix_eff2 rfl false rfl (fun K hK => ?_)
          go_simp
          refine (plc_c (hC5.call hB8) k hkl y).mono ?_
          rintro e w9 ⟨rfl, hC9⟩
          have hB9 := hB8.trans (hC9.mono hB8.size)
          refine hK _ _ (hE w9 hB9) ?_
          clear hK K
          refine mix_pur2 rfl (fun K hK => ?_)
          go_simp
          first | refine ⟨_, fun _ => rfl, hK _ ?_⟩ | refine hK _ ?_
          clear hK K
          refine mix_pur2 rfl (fun K hK => ?_)
          go_simp
          first | refine ⟨_, fun _ => rfl, hK _ ?_⟩ | refine hK _ ?_
          clear hK K
          refine mix_done2 ?_
          clear hC8 hC9 hqd
          have e1 := HBS.out
          have e2 := HWS.out
          obtain ⟨a, ha⟩ : ∃ a, a = rk c.villages k x := ⟨_, rfl⟩
          obtain ⟨b, hb⟩ : ∃ b, b = rk c.villages k y := ⟨_, rfl⟩
          rw [← ha, ← hb] at e1 e2 ⊢
          clear ha hb
          have E1 := Lib.hid e1
          have E2 := Lib.hid e2
          clear e1 e2
          by_cases hab : a < b <;> by_cases hba : b < a <;> cases bt <;> cases wt
          all_goals
            first
            | omega
            | (go_wp2_with fail
               go_roundw
               case rel => exact ⟨k + 1, by omega, by go_num, by rw [E1.out]; first | (simp; omega) | simp, by rw [E2.out]; first | (simp; omega) | simp, hB9⟩
               case measure => simp [intOf]; omega)
        · obtain rfl : k = c.villages.length := by omega
          have hfl := pareto_flags (d := d) HLK.out HP.out HPD.out
          rw [← HGOT.out] at hfl
          cases hwn : worseN c.villages d got c.villages.length with
          | true =>
            have HWN := Lib.hid hwn
            clear hwn hfl
            cases hbn : betterN c.villages d got c.villages.length with
            | true =>
              have HBN := Lib.hid hbn
              clear hbn
              go_wp2_with fail
              go_roundw
              case rel => exact ⟨i + 1, by omega, by go_num, hBx⟩
              case measure => simp [intOf]; omega
            | false =>
              have HBN := Lib.hid hbn
              clear hbn
              go_wp2_with fail
              go_roundw
              case rel => exact ⟨i + 1, by omega, by go_num, hBx⟩
              case measure => simp [intOf]; omega
          | false =>
            rw [hfl hwn]
            clear hwn hfl
            go_wp2_with fail
            go_roundw
            case rel => exact ⟨i + 1, by omega, by go_num, hBx⟩
            case measure => simp [intOf]; omega
    · obtain rfl : i = all.length := by omega
      go_wp2_with (go_at_call 21; refine (drawn_c _).mono ?_; rintro e wz ⟨rfl, hBz⟩)
      go_ret
      exact ⟨rfl, bnx (bnx hT5 hB) hBz⟩

end Go.Proofs.Ythchpoabncdicaa
