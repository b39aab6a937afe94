/- The walk of LotsCore: it hands back true, whatever the numbers; conditions: the argument reads as numbers. -/
import Derived.Test.YthchpoabncdicaaCoreP
namespace Go.Proofs.Ythchpoabncdicaa
open Go.RowKit

/-- What a comparison reads. -/
def CoS (b : Nat) (vm vv : Value) (b1 o1 b2 o2 : Nat) (x1 x2 : Int) (w : World) : Prop := Blk b #[vm, vv] 25 w ∧ w.cell? ⟨b1, o1, none⟩ = some (.int .i64 x1) ∧ w.cell? ⟨b2, o2, none⟩ = some (.int .i64 x2)
theorem CoS.drew {b : Nat} {vm vv : Value} {b1 o1 b2 o2 : Nat} {x1 x2 : Int} {w : World} (h : CoS b vm vv b1 o1 b2 o2 x1 x2 w) : CoS b vm vv b1 o1 b2 o2 x1 x2 w.drew := h
def LaS (b : Nat) (vm vv : Value) (gb o : Nat) (row : Value) (w : World) : Prop := Blk b #[vm, vv] 25 w ∧ w.cell? ⟨gb, o, none⟩ = some row
theorem LaS.drew {b : Nat} {vm vv : Value} {gb o : Nat} {row : Value} {w : World} (h : LaS b vm vv gb o row w) : LaS b vm vv gb o row w.drew := h

set_option maxRecDepth 100000 in
set_option maxHeartbeats 4000000 in
theorem lotsCore_c {A : Nat → Prop} {w : World} {v : Value} {nums : List Int} (hn : Ints A w v nums) :
    Calls Try.prog 8 #[v] w fun e w' => e = .returned (.bool true) ∧ Below w.heap.size w w' := by
  go_enter Try.func8, Try.ntmps8
  go_wp2_with fail
  refine (newHand_c hn).mono ?_
  rintro e w1 ⟨rfl, hH, hB1⟩
  have hs1 := hH.lt
  go_wp2_with fail
  refine (commonsOf_c hH (by omega) 4 (by omega) (by omega)).mono ?_
  rintro e w2 ⟨vm, vv, rfl, ⟨c, hC, hok⟩, ⟨k2, hk2, hH⟩, hG⟩
  have hB2 : Below w.heap.size w w2 := hB1.grown hG (by omega) (fun k e => by injection e with e; omega)
  have hs2 := hG.size
  clear hG hB1
  obtain ⟨am, cpm, rfl, _, _⟩ := hC.1.shape
  obtain ⟨av, cpv, rfl, _, _⟩ := hC.2.shape
  have hH := hH.call ((Below.refl w2.heap.size w2).alloc (Nat.le_refl _) (.cells #[.slice am c.mountains.length cpm, .slice av c.villages.length cpv] 25))
  have hbx : Blk w2.heap.size #[.slice am c.mountains.length cpm, .slice av c.villages.length cpv] 25 (w2.alloc (.cells #[.slice am c.mountains.length cpm, .slice av c.villages.length cpv] 25)) := Blk.new w2 _ _
  have hC := hC.alloc (.cells #[.slice am c.mountains.length cpm, .slice av c.villages.length cpv] 25)
  have hT := bal (o := .cells #[.slice am c.mountains.length cpm, .slice av c.villages.length cpv] 25) hB2
  have hvl4 : c.villages.length ≤ 4 := by have := hok.vl; have := hok.n2; omega
  have hvl1 : 0 < c.villages.length := by have := hok.vl; have := hok.n1; omega
  have c1 := hbx.cell 1
  go_wp2_with fail
  clear c1
  refine (row_c hH c.villages.length (by omega) (by omega)).mono ?_
  rintro e w4 ⟨⟨vf, rfl, fst, hf4, hpf⟩, -, hG4⟩
  have hC4 := hC.hand hG4 hs1
  have hbx4 := hbx.hand hG4 (by omega)
  have hT4 := bhand hT hG4 (by omega)
  clear hC hbx hT hH hG4
  have hfl := hpf.len
  have hvl := hok.vl
  have hpf' : PermOf c.mountains.length fst := by rw [← hvl]; exact hpf
  have hlk : ∀ v ∈ c.villages, PermOf c.villages.length v.likes := fun v hv => by rw [hvl]; exact (hok.vil v hv).2.2.2.2
  have HPF := Lib.hid hpf
  have HPF' := Lib.hid hpf'
  have HLK := Lib.hid hlk
  have HFL := Lib.hid hfl
  clear hpf hpf' hlk hvl
  have htr := tradeF_c hC4 hf4 (divE_zero hok HPF'.out)
  have HTR := Lib.hid htr
  clear htr
  have hsf := hf4.shape
  rw [hfl] at hsf
  obtain ⟨af, cf, rfl, _, _⟩ := hsf
  obtain ⟨fb, fo, rfl, -, hfb4, hfc4⟩ := hf4.addr (by omega)
  clear hfl
  have c0 := hbx4.cell 0
  have c1 := hbx4.cell 1
  go_wp2_with fail
  clear c0 c1
  refine HTR.out.mono ?_
  rintro e w5 ⟨vb, rfl, hg5, hB5⟩
  have hC5 := hC4.call hB5
  have hbx5 := hbx4.call hB5
  have hT5 := bnx hT4 hB5
  have hf5 := hf4.call hB5
  have hs5 := hB5.size
  clear hC4 hbx4 hT4 HTR
  have hpb : PermOf c.villages.length (tradeF c.villages fst) := by
    have := trade_perm (vs := c.villages) (order := fst) (by have := HFL.out; omega) (by rw [HFL.out]) (by rw [HFL.out]; exact HPF.out) (by rw [HFL.out]; exact HLK.out)
    rwa [HFL.out] at this
  have hir : ∀ i, i < c.villages.length → rk c.villages i ((tradeF c.villages fst).getD i 0) ≤ rk c.villages i (fst.getD i 0) := fun i hi => core_ir (vs := c.villages) (fst := fst) (by have := HFL.out; omega) (by rw [HFL.out]) (by rw [HFL.out]; exact HPF.out) (by rw [HFL.out]; exact HLK.out) (by rw [HFL.out]; exact hi)
  have hfree : ¬ Blocks c.villages fst (tradeF c.villages fst) c.villages.length := by
    have := core_free (vs := c.villages) (fst := fst) (by have := HFL.out; omega) (by rw [HFL.out]) (by rw [HFL.out]; exact HPF.out) (by rw [HFL.out]; exact HLK.out)
    rwa [HFL.out] at this
  have honly : ∀ d, PermOf c.villages.length d → d ≠ tradeF c.villages fst → Blocks c.villages fst d c.villages.length := fun d hd hne => by
    have := core_only (vs := c.villages) (fst := fst) (by have := HFL.out; omega) (by rw [HFL.out]) (by rw [HFL.out]; exact HPF.out) (by rw [HFL.out]; exact HLK.out) (d := d) (by rw [HFL.out]; exact hd) hne
    rwa [HFL.out] at this
  obtain ⟨got, hgot⟩ : ∃ got, got = tradeF c.villages fst := ⟨_, rfl⟩
  rw [← hgot] at hg5 hpb hir hfree
  have honly : ∀ d, PermOf c.villages.length d → d ≠ got → Blocks c.villages fst d c.villages.length := fun d hd hne => honly d hd (by rw [← hgot]; exact hne)
  have hgl := hpb.len
  have HPB := Lib.hid hpb
  have HIR := Lib.hid hir
  have HFREE := Lib.hid hfree
  have HONLY := Lib.hid honly
  have hsg := hg5.shape
  rw [hgl] at hsg
  obtain ⟨ag, cg, rfl, _, _⟩ := hsg
  obtain ⟨gb, go, rfl, -, hgb5, hgc5⟩ := hg5.addr (by omega)
  have HGL := Lib.hid hgl
  clear hpb hir hfree honly hgot hgl
  go_wp2_with fail
  refine (whole_t hg5 HPB.out).mono ?_
  rintro e w6 ⟨rfl, hq6⟩
  have hB6 := hq6.below w5.heap.size
  have hC6 := hC5.call hB6
  have hbx6 := hbx5.call hB6
  have hT6 := bnx hT5 hB6
  have hf6 := hf5.call hB6
  have hg6 := hg5.call hB6
  have hs6 := hB6.size
  have hfb6 : fb < w6.heap.size := by omega
  have hgb6 : gb < w6.heap.size := by omega
  clear hC5 hbx5 hT5 hf5 hg5 hB6 hq6 hfc4 hgc5
  go_wp2_with fail
  go_loopw [9] (fun s wr => ∃ i : Nat, i ≤ c.villages.length ∧ s = .int .i64 i ∧ Below w6.heap.size w6 wr) (fun s _ => c.villages.length - (intOf s).toNat)
  case atStart => exact ⟨0, Nat.zero_le _, rfl, Below.refl _ _⟩
  case round =>
    obtain ⟨i, hi, rfl, hB⟩ := hrel
    by_cases hlt : i < c.villages.length
    · have kf : i < fst.length := by have := HFL.out; omega
      have kg : i < got.length := by have := HGL.out; omega
      have hr := HIR.out i hlt
      have e3 : fst.getD i 0 = fst[i] := by simp [kf]
      have e4 : got.getD i 0 = got[i] := by simp [kg]
      rw [e3, e4] at hr
      have c1 := hg6.cell i kg
      have c2 := hf6.cell i kf
      obtain ⟨x, hx⟩ : ∃ x, x = got[i] := ⟨_, rfl⟩
      obtain ⟨y, hy⟩ : ∃ y, y = fst[i] := ⟨_, rfl⟩
      rw [← hx] at hr c1
      rw [← hy] at hr c2
      have b1 : decide (rk c.villages i x > rk c.villages i y) = false := decide_eq_false (by omega)
      have b2 : ¬ rk c.villages i x > rk c.villages i y := by omega
      have hE : ∀ w', Below w6.heap.size w6 w' → (CoS w2.heap.size (.slice am c.mountains.length cpm) (.slice av c.villages.length cpv) gb (go + i) fb (fo + i) x y) w' := fun w' h => ⟨hbx6.call h, (World.cell?_of_block (h.block gb hgb6)).trans c1, (World.cell?_of_block (h.block fb hfb6)).trans c2⟩
      clear hx hy hr e3 e4 c1 c2 kf kg
      go_wp2_with fail
      refine wp_region_mix2 (.one 0 (.pur 1 (.pur 2 (.pur 3 (.pur 4 (.one 5 (.one 7 (.pur 8 (.pur 9 (.pur 10 (.pur 11 (.one 12 (.act 6 (.act 13 (.pur 14 .fin))))))))))))))) 99 (CoS w2.heap.size (.slice am c.mountains.length cpm) (.slice av c.villages.length cpv) gb (go + i) fb (fo + i) x y) (fun _ => True) (by kernel_rfl) (by kernel_rfl) rfl (by kernel_rfl) (hE _ hB).drew (fun wd hqd _ => ?_)
      have hBd : Below w6.heap.size w6 wd := hB.trans (hqd.below _)
      refine mix_load2 rfl rfl rfl (.agg #[.slice am c.mountains.length cpm, .slice av c.villages.length cpv]) (fun w' h => by have h : (CoS w2.heap.size (.slice am c.mountains.length cpm) (.slice av c.villages.length cpv) gb (go + i) fb (fo + i) x y) w' := h; have h0 := h.1.cell 0; have h1 := h.1.cell 1; go_simp) rfl ?_
      refine mix_pur2 rfl (fun K hK => ?_)
      go_simp
      first | refine ⟨_, fun _ => rfl, hK _ ?_⟩ | refine hK _ ?_
      clear hK K
      refine mix_pur2 rfl (fun K hK => ?_)
      go_simp
      first | refine ⟨_, fun _ => rfl, hK _ ?_⟩ | refine hK _ ?_
      clear hK K
      refine mix_pur2 rfl (fun K hK => ?_)
      go_simp
      first | refine ⟨_, fun _ => rfl, hK _ ?_⟩ | refine hK _ ?_
      clear hK K
      refine mix_pur2 rfl (fun K hK => ?_)
      go_simp
      first | refine ⟨_, fun _ => rfl, hK _ ?_⟩ | refine hK _ ?_
      clear hK K
      refine mix_load2 rfl rfl rfl (.int .i64 x) (fun w' h => by have h : (CoS w2.heap.size (.slice am c.mountains.length cpm) (.slice av c.villages.length cpv) gb (go + i) fb (fo + i) x y) w' := h; have h0 := h.2.1; go_simp) rfl ?_
      refine mix_load2 rfl rfl rfl (.agg #[.slice am c.mountains.length cpm, .slice av c.villages.length cpv]) (fun w' h => by have h : (CoS w2.heap.size (.slice am c.mountains.length cpm) (.slice av c.villages.length cpv) gb (go + i) fb (fo + i) x y) w' := h; have h0 := h.1.cell 0; have h1 := h.1.cell 1; go_simp) rfl ?_
      refine mix_pur2 rfl (fun K hK => ?_)
      go_simp
      first | refine ⟨_, fun _ => rfl, hK _ ?_⟩ | refine hK _ ?_
      clear hK K
      refine mix_pur2 rfl (fun K hK => ?_)
      go_simp
      first | refine ⟨_, fun _ => rfl, hK _ ?_⟩ | refine hK _ ?_
      clear hK K
      refine mix_pur2 rfl (fun K hK => ?_)
      go_simp
      first | refine ⟨_, fun _ => rfl, hK _ ?_⟩ | refine hK _ ?_
      clear hK K
      refine mix_pur2 rfl (fun K hK => ?_)
      go_simp
      first | refine ⟨_, fun _ => rfl, hK _ ?_⟩ | refine hK _ ?_
      clear hK K
      refine mix_load2 rfl rfl rfl (.int .i64 y) (fun w' h => by have h : (CoS w2.heap.size (.slice am c.mountains.length cpm) (.slice av c.villages.length cpv) gb (go + i) fb (fo + i) x y) w' := h; have h0 := h.2.2; go_simp) rfl ?_
      refine mix_eff2 rfl false rfl (fun K hK => ?_)
      go_simp
      refine (plc_c (hC6.call hBd) i hlt x).mono ?_
      rintro e w8 ⟨rfl, hC8⟩
      have hB8 := hBd.trans (hC8.mono hBd.size)
      refine hK _ _ (hE w8 hB8) ?_
      clear hK K
      refine mix_eff2 rfl false rfl (fun K hK => ?_)
      go_simp
      refine (plc_c (hC6.call hB8) i hlt y).mono ?_
      rintro e w9 ⟨rfl, hC9⟩
      have hB9 := hB8.trans (hC9.mono hB8.size)
      refine hK _ _ (hE w9 hB9) ?_
      clear hK K
      refine mix_pur2 rfl (fun K hK => ?_)
      go_simp
      first | refine ⟨_, fun _ => rfl, hK _ ?_⟩ | refine hK _ ?_
      clear hK K
      refine mix_done2 ?_
      go_wp2_with fail
      go_roundw
      case rel => exact ⟨i + 1, by omega, by go_num, hB9⟩
      case measure => simp [intOf]; omega
    · obtain rfl : i = c.villages.length := by omega
      go_wp2_with fail
      refine (orders_c hvl4 wr).mono ?_
      rintro e w7 ⟨vo, rfl, hO, hB7⟩
      have hB67 := hB.trans (hB7.mono hB.size)
      have hC7 := hC6.call hB67
      have hbx7 := hbx6.call hB67
      have hT7 := bnx hT6 hB67
      have hf7 := hf6.call hB67
      have hg7 := hg6.call hB67
      clear hC6 hbx6 hT6 hf6 hg6 hB67 hB hB7
      have hop := orders_perm hvl4
      generalize ordersL c.villages.length = all at hO hop
      obtain ⟨ao1, co, rfl, _, _⟩ := hO.shape
      have hol := hO.len
      have HOP := Lib.hid hop
      clear hop
      go_wp2_with fail
      go_loopw [11] (fun s wx => ∃ i : Nat, i ≤ all.length ∧ s = .int .i64 i ∧ Below w7.heap.size w7 wx) (fun s _ => all.length - (intOf s).toNat)
      case atStart => exact ⟨0, Nat.zero_le _, rfl, Below.refl _ _⟩
      case round =>
        rename World => wx
        obtain ⟨i, hi, rfl, hB⟩ := hrel
        by_cases hil : i < all.length
        · obtain ⟨ab, ao, rfl, -, hab⟩ := hO.addr (by omega)
          obtain ⟨ar, cr, r1, hR⟩ := hO.row i hil
          have hpd := HOP.out _ (List.getElem_mem hil)
          have hdl := hpd.len
          obtain ⟨d, hd⟩ : ∃ d, d = all[i] := ⟨_, rfl⟩
          rw [← hd] at r1 hR hpd hdl
          rw [hdl] at r1 hR
          have HPD := Lib.hid hpd
          have HDL := Lib.hid hdl
          have hE : ∀ w', Below w7.heap.size w7 w' → (LaS w2.heap.size (.slice am c.mountains.length cpm) (.slice av c.villages.length cpv) ab (ao + i) (.slice ar c.villages.length cr)) w' := fun w' h => ⟨hbx7.call h, (World.cell?_of_block (h.block ab hab)).trans r1⟩
          clear hd hpd hdl r1
          go_wp2_with fail
          refine wp_region_mix2 (.one 0 (.pur 1 (.pur 2 (.pur 3 (.pur 4 (.one 5 (.pur 7 (.pur 8 (.pur 9 (.one 10 (.pur 11 (.act 6 (.act 12 (.pur 13 .fin)))))))))))))) 99 (LaS w2.heap.size (.slice am c.mountains.length cpm) (.slice av c.villages.length cpv) ab (ao + i) (.slice ar c.villages.length cr)) (fun _ => True) (by kernel_rfl) (by kernel_rfl) rfl (by kernel_rfl) (hE _ hB).drew (fun wd hqd _ => ?_)
          have hBd : Below w7.heap.size w7 wd := hB.trans (hqd.below _)
          refine mix_load2 rfl rfl rfl (.agg #[.slice am c.mountains.length cpm, .slice av c.villages.length cpv]) (fun w' h => by have h : (LaS w2.heap.size (.slice am c.mountains.length cpm) (.slice av c.villages.length cpv) ab (ao + i) (.slice ar c.villages.length cr)) w' := h; have h0 := h.1.cell 0; have h1 := h.1.cell 1; go_simp) rfl ?_
          refine mix_pur2 rfl (fun K hK => ?_)
          go_simp
          first | refine ⟨_, fun _ => rfl, hK _ ?_⟩ | refine hK _ ?_
          clear hK K
          refine mix_pur2 rfl (fun K hK => ?_)
          go_simp
          first | refine ⟨_, fun _ => rfl, hK _ ?_⟩ | refine hK _ ?_
          clear hK K
          refine mix_pur2 rfl (fun K hK => ?_)
          go_simp
          first | refine ⟨_, fun _ => rfl, hK _ ?_⟩ | refine hK _ ?_
          clear hK K
          refine mix_pur2 rfl (fun K hK => ?_)
          go_simp
          first | refine ⟨_, fun _ => rfl, hK _ ?_⟩ | refine hK _ ?_
          clear hK K
          refine mix_load2 rfl rfl rfl (.slice ar c.villages.length cr) (fun w' h => by have h : (LaS w2.heap.size (.slice am c.mountains.length cpm) (.slice av c.villages.length cpv) ab (ao + i) (.slice ar c.villages.length cr)) w' := h; have h0 := h.2; go_simp) rfl ?_
          refine mix_pur2 rfl (fun K hK => ?_)
          go_simp
          first | refine ⟨_, fun _ => rfl, hK _ ?_⟩ | refine hK _ ?_
          clear hK K
          refine mix_pur2 rfl (fun K hK => ?_)
          go_simp
          first | refine ⟨_, fun _ => rfl, hK _ ?_⟩ | refine hK _ ?_
          clear hK K
          refine mix_pur2 rfl (fun K hK => ?_)
          go_simp
          first | refine ⟨_, fun _ => rfl, hK _ ?_⟩ | refine hK _ ?_
          clear hK K
          refine mix_load2 rfl rfl rfl (.slice ar c.villages.length cr) (fun w' h => by have h : (LaS w2.heap.size (.slice am c.mountains.length cpm) (.slice av c.villages.length cpv) ab (ao + i) (.slice ar c.villages.length cr)) w' := h; have h0 := h.2; go_simp) rfl ?_
          refine mix_pur2 rfl (fun K hK => ?_)
          go_simp
          first | refine ⟨_, fun _ => rfl, hK _ ?_⟩ | refine hK _ ?_
          clear hK K
          refine mix_eff2 rfl false rfl (fun K hK => ?_)
          go_simp
          refine (blocked_c (hC7.call hBd) hok (hf7.call hBd) (hR.call hBd) HFL.out HDL.out).mono ?_
          rintro e w8 ⟨bk, rfl, hbk, hC8⟩
          have hB8 := hBd.trans (hC8.mono hBd.size)
          refine hK _ _ (hE w8 hB8) ?_
          clear hK K
          refine mix_eff2 rfl false rfl (fun K hK => ?_)
          go_simp
          refine (sameInts_q (hR.call hB8) (hg7.call hB8)).mono ?_
          rintro e w9 ⟨rfl, hq9⟩
          have hB9 := hB8.trans (hq9.below w7.heap.size)
          refine hK _ _ (hE w9 hB9) ?_
          clear hK K
          refine mix_pur2 rfl (fun K hK => ?_)
          go_simp
          first | refine ⟨_, fun _ => rfl, hK _ ?_⟩ | refine hK _ ?_
          clear hK K
          refine mix_done2 ?_
          by_cases hdg : d = got
          · have hbf : bk = false := by
              cases bk with
              | false => rfl
              | true => exact absurd (hbk.1 rfl) (by rw [hdg]; exact HFREE.out)
            subst hbf
            have hdd : (d == got) = true := by rw [hdg]; simp
            clear hbk
            rw [hdd]
            clear hdd
            go_wp2_with fail
            go_roundw
            case rel => exact ⟨i + 1, by omega, by go_num, hB9⟩
            case measure => simp [intOf]; omega
          · have hbf : bk = true := hbk.2 (HONLY.out d HPD.out hdg)
            subst hbf
            have hdd : (d == got) = false := by simpa using hdg
            clear hbk
            rw [hdd]
            clear hdd
            go_wp2_with fail
            go_roundw
            case rel => exact ⟨i + 1, by omega, by go_num, hB9⟩
            case measure => simp [intOf]; omega
        · obtain rfl : i = all.length := by omega
          go_wp2_with (go_at_call 21; refine (drawn_c _).mono ?_; rintro e wz ⟨rfl, hBz⟩)
          go_ret
          exact ⟨rfl, bnx (bnx hT7 hB) hBz⟩

end Go.Proofs.Ythchpoabncdicaa
