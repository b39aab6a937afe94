/- The walk of LotsSwaps: it hands back true, whatever the numbers; conditions: the argument reads as numbers. -/
import Derived.Test.YthchpoabncdicaaO1
import Derived.Test.YthchpoabncdicaaSwP
import Derived.Test.YthchpoabncdicaaLNext
namespace Go.Proofs.Ythchpoabncdicaa
open Go.RowKit

theorem copyInts_own {A : Nat → Prop} {w : World} {v : Value} {l : List Int} (h : Ints A w v l) (hl : l.length ≤ 1000000) :
    Calls Try.prog 25 #[v] w fun e w' => ∃ v', e = .returned v' ∧ Own w.heap.size w' 3 1 v' l.length (I64 l) ∧ Below w.heap.size w w' := by
  have n1 := h.len
  have hh := h.call ((Below.refl w.heap.size w).alloc (Nat.le_refl _) (.cells #[] 3))
  have ho := own_lit w 3 1 #[] 0 rfl (by omega)
  obtain ⟨a1, c1, rfl, hc1, hm1⟩ := h.shape
  go_enter Try.func25, Try.ntmps25
  go_wp2_with (at_builtin; refine wpList_append_arr rfl _ _ 22 rfl 3 (.int .i64 0) 1 8 Try.underlying22 Try.info3 rfl (by decide) (by decide) (by simp) ho rfl hh rfl (by rw [I64_len, Nat.mul_one]) (ints_one l) (by omega) ?_; intro v' w' hown hT)
  go_ret
  rw [Nat.zero_add, List.nil_append] at hown
  exact ⟨_, rfl, hown, hT.below ho ((Below.refl w.heap.size w).alloc (Nat.le_refl _) _) (by simp)⟩

/-- What a round over the exchanges reads. -/
def SwS (b : Nat) (vm vv : Value) (gb o : Nat) (row : Value) (rb ro : Nat) (i j : Nat) (w : World) : Prop := Blk b #[vm, vv] 25 w ∧ w.cell? ⟨gb, o, none⟩ = some row ∧ w.cell? ⟨rb, ro, none⟩ = some (.int .i64 i) ∧ w.cell? ⟨rb, ro + 1, none⟩ = some (.int .i64 j)
theorem SwS.drew {b : Nat} {vm vv : Value} {gb o : Nat} {row : Value} {rb ro i j : Nat} {w : World} (h : SwS b vm vv gb o row rb ro i j w) : SwS b vm vv gb o row rb ro i j w.drew := h
/-- What the last comparison reads. -/
def PrS (b : Nat) (vm vv : Value) (bf fo bl lo i : Nat) (x y : Int) (w : World) : Prop := Blk b #[vm, vv] 25 w ∧ w.cell? ⟨bf, fo + i, none⟩ = some (.int .i64 x) ∧ w.cell? ⟨bl, lo + i, none⟩ = some (.int .i64 y)
theorem PrS.drew {b : Nat} {vm vv : Value} {bf fo bl lo i : Nat} {x y : Int} {w : World} (h : PrS b vm vv bf fo bl lo i x y w) : PrS b vm vv bf fo bl lo i x y w.drew := h

set_option maxRecDepth 100000 in
set_option maxHeartbeats 4000000 in
theorem lotsSwaps_c {A : Nat → Prop} {w : World} {v : Value} {nums : List Int} (hn : Ints A w v nums) :
    Calls Try.prog 10 #[v] w fun e w' => e = .returned (.bool true) ∧ Below w.heap.size w w' := by
  go_enter Try.func10, Try.ntmps10
  go_wp2_with fail
  refine (newHand_c hn).mono ?_
  rintro e w1 ⟨rfl, hH, hB1⟩
  have hs1 := hH.lt
  go_wp2_with fail
  refine (commonsOf_c hH (by omega) 4 (by omega) (by omega)).mono ?_
  rintro e w2 ⟨vm, vv, rfl, ⟨c, hC, hok⟩, ⟨k2, hk2, hH⟩, hG⟩
  have hB2 : Below w.heap.size w w2 := hB1.grown hG (by omega) (fun k e => by injection e with e; omega)
  have hs2 := hG.size
  clear hG hB1
  obtain ⟨am, cpm, rfl, _, _⟩ := hC.1.shape
  obtain ⟨av, cpv, rfl, _, _⟩ := hC.2.shape
  have hH := hH.call ((Below.refl w2.heap.size w2).alloc (Nat.le_refl _) (.cells #[.slice am c.mountains.length cpm, .slice av c.villages.length cpv] 25))
  have hbx : Blk w2.heap.size #[.slice am c.mountains.length cpm, .slice av c.villages.length cpv] 25 (w2.alloc (.cells #[.slice am c.mountains.length cpm, .slice av c.villages.length cpv] 25)) := Blk.new w2 _ _
  have hC := hC.alloc (.cells #[.slice am c.mountains.length cpm, .slice av c.villages.length cpv] 25)
  have hT := bal (o := .cells #[.slice am c.mountains.length cpm, .slice av c.villages.length cpv] 25) hB2
  have hvl4 : c.villages.length ≤ 4 := by have := hok.vl; have := hok.n2; omega
  have hvl1 : 0 < c.villages.length := by have := hok.vl; have := hok.n1; omega
  have c1 := hbx.cell 1
  go_wp2_with fail
  clear c1
  refine (row_c hH c.villages.length (by omega) (by omega)).mono ?_
  rintro e w3 ⟨⟨vf, rfl, l0, hf, hp⟩, -, hG3⟩
  have hC3 := hC.hand hG3 hs1
  have hbx3 := hbx.hand hG3 (by omega)
  have hT3 := bhand hT hG3 (by omega)
  have hl0 := hp.len
  have hpm : PermOf c.mountains.length l0 := by rw [← hok.vl]; exact hp
  have hlaw := swaps_law hok hpm
  have hsg := swaps_good hC3 hf (divE_zero hok hpm)
  clear hC hbx hT hH hG3
  generalize swapsF c.villages l0 = sf at hlaw hsg
  obtain ⟨out, fin⟩ := sf
  dsimp only at hlaw hsg
  have hpf : PermOf c.villages.length fin := by rw [hok.vl]; exact hlaw.perm
  have hfl := hpf.len
  have HSG := Lib.hid hsg
  have HLAW := Lib.hid hlaw
  have HPF := Lib.hid hpf
  clear hsg hlaw hpf hp hpm
  have c0 := hbx3.cell 0
  have c1 := hbx3.cell 1
  go_wp2_with fail
  clear c0 c1
  refine HSG.out.mono ?_
  rintro e w4 ⟨vo, va, rfl, hg, hfin, hB4⟩
  have hC4 := hC3.call hB4
  have hbx4 := hbx3.call hB4
  have hT4 := bnx hT3 hB4
  have hf4 := hf.call hB4
  clear hC3 hbx3 hT3 hf HSG
  go_wp2_with fail
  refine (whole_t hfin HPF.out).mono ?_
  rintro e w5 ⟨rfl, hq5⟩
  have hB5 := hq5.below w4.heap.size
  have hC5 := hC4.call hB5
  have hbx5 := hbx4.call hB5
  have hT5 := bnx hT4 hB5
  have hf5 := hf4.call hB5
  have hg5 := hg.qt hq5
  have hfin5 := hfin.qt hq5
  clear hC4 hbx4 hT4 hf4 hg hfin hq5 hB5
  obtain ⟨ao, co, rfl, _, _⟩ := hg5.shape
  have hgl := hg5.len
  have hsf := hfin5.shape
  have hsl := hf5.shape
  rw [hfl] at hsf
  rw [hl0] at hsl
  obtain ⟨bf0, cf, rfl, _, _⟩ := hsf
  obtain ⟨bl0, cl, rfl, _, _⟩ := hsl
  go_wp2_with fail
  refine (copyInts_own hf5 (by omega)).mono ?_
  rintro e w6 ⟨vn, rfl, hown, hB6⟩
  rw [hl0] at hown
  obtain ⟨g, cap, rfl, hg1, hg2⟩ := own_shape hown hvl1
  have HL0 := Lib.hid hl0
  have HFL := Lib.hid hfl
  clear hl0 hfl
  go_wp2_with fail
  go_loopw [11] (fun i wr => ∃ (k : Nat) (m : List Int), k ≤ out.length ∧ i = .int .i64 k ∧ Seq c.villages m (out.drop k) fin ∧ Own w5.heap.size wr 3 1 (.slice (some ⟨g, 0, none⟩) c.villages.length cap) c.villages.length (I64 m) ∧ Below w5.heap.size w5 wr) (fun i _ => out.length - (intOf i).toNat)
  case atStart => exact ⟨0, l0, Nat.zero_le _, rfl, HLAW.out.seq, hown, hB6⟩
  case round =>
    obtain ⟨k, m, hk, rfl, hsq, ho, hB⟩ := hrel
    have hml := own_len ho
    by_cases hlt : k < out.length
    · obtain ⟨i, j, hrw, hij, hj, hbo, hsq2⟩ := hsq.at hlt
      obtain ⟨gb, go, rfl, -, hgb⟩ := hg5.addr (by omega)
      obtain ⟨ar, cr, r1, hR⟩ := hg5.row k hlt
      rw [hrw] at r1 hR
      obtain ⟨rb, ro, rfl, -, hrb, hrc⟩ := hR.addr (by simp)
      have r1 : w5.cell? ⟨gb, go + k, none⟩ = some (.slice (some ⟨rb, ro, none⟩) 2 cr) := r1
      have r2 : w5.cell? ⟨rb, ro, none⟩ = some (.int .i64 (i : Nat)) := hrc 0 (by simp)
      have r3 : w5.cell? ⟨rb, ro + 1, none⟩ = some (.int .i64 (j : Nat)) := hrc 1 (by simp)
      have hD : ∀ w', Below w5.heap.size w5 w' → SwS w2.heap.size (.slice am c.mountains.length cpm) (.slice av c.villages.length cpv) gb (go + k) (.slice (some ⟨rb, ro, none⟩) 2 cr) rb ro i j w' := fun w' h => ⟨hbx5.call h, (World.cell?_of_block (h.block gb hgb)).trans r1, (World.cell?_of_block (h.block rb hrb)).trans r2, (World.cell?_of_block (h.block rb hrb)).trans r3⟩
      have HBO := Lib.hid hbo
      have HSQ := Lib.hid hsq2
      have HRW := Lib.hid hrw
      clear hsq hrw r1 r2 r3 hR hrc hbo hsq2
      have b1 : decide ((i : Int) < 0) = false := by simp
      have b2 : decide ((i : Int) ≥ (j : Int)) = false := by simp; omega
      have b3 : j < c.villages.length := by omega
      have hil : i < m.length := by omega
      go_wp2_with fail
      refine wp_region_mix2 (.pur 0 (.pur 1 (.pur 2 (.one 3 (.pur 4 (.pur 5 (.pur 6 (.pur 7 (.pur 8 (.pur 9 (.one 10 (.pur 11 (.one 12 (.pur 13 (.pur 14 (.pur 15 (.pur 16 (.pur 17 (.pur 18 (.one 19 (.pur 20 (.one 21 (.pur 22 (.pur 23 (.pur 24 (.one 25 (.pur 26 (.one 27 (.pur 28 (.pur 29 (.pur 30 (.pur 31 (.pur 32 (.pur 33 (.one 34 (.pur 35 (.one 36 (.pur 37 (.pur 38 (.pur 39 (.pur 40 (.one 41 (.pur 42 (.pur 43 (.pur 44 (.pur 45 (.one 46 (.pur 47 (.one 48 (.pur 49 (.pur 50 (.pur 51 (.one 52 (.pur 53 (.one 54 (.act 55 (.pur 56 (.pur 57 .fin)))))))))))))))))))))))))))))))))))))))))))))))))))))))))) 99 (SwS w2.heap.size (.slice am c.mountains.length cpm) (.slice av c.villages.length cpv) gb (go + k) (.slice (some ⟨rb, ro, none⟩) 2 cr) rb ro i j) (fun _ => True) (by kernel_rfl) (by kernel_rfl) rfl (by kernel_rfl) (hD wr hB).drew (fun wd hqd _ => ?_)
      have hBd : Below w5.heap.size w5 wd := hB.trans (hqd.below _)
      refine mix_pur2 rfl (fun K hK => ?_)
      go_simp
      first | refine ⟨_, fun _ => rfl, hK _ ?_⟩ | refine hK _ ?_
      clear hK K
      refine mix_pur2 rfl (fun K hK => ?_)
      go_simp
      first | refine ⟨_, fun _ => rfl, hK _ ?_⟩ | refine hK _ ?_
      clear hK K
      refine mix_pur2 rfl (fun K hK => ?_)
      go_simp
      first | refine ⟨_, fun _ => rfl, hK _ ?_⟩ | refine hK _ ?_
      clear hK K
      refine mix_load2 rfl rfl rfl (.slice (some ⟨rb, ro, none⟩) 2 cr) (fun w' h => by have h : (SwS w2.heap.size (.slice am c.mountains.length cpm) (.slice av c.villages.length cpv) gb (go + k) (.slice (some ⟨rb, ro, none⟩) 2 cr) rb ro i j) w' := h; have h0 := h.2.1; go_simp) rfl ?_
      refine mix_pur2 rfl (fun K hK => ?_)
      go_simp
      first | refine ⟨_, fun _ => rfl, hK _ ?_⟩ | refine hK _ ?_
      clear hK K
      refine mix_pur2 rfl (fun K hK => ?_)
      go_simp
      first | refine ⟨_, fun _ => rfl, hK _ ?_⟩ | refine hK _ ?_
      clear hK K
      refine mix_pur2 rfl (fun K hK => ?_)
      go_simp
      first | refine ⟨_, fun _ => rfl, hK _ ?_⟩ | refine hK _ ?_
      clear hK K
      refine mix_pur2 rfl (fun K hK => ?_)
      go_simp
      first | refine ⟨_, fun _ => rfl, hK _ ?_⟩ | refine hK _ ?_
      clear hK K
      refine mix_pur2 rfl (fun K hK => ?_)
      go_simp
      first | refine ⟨_, fun _ => rfl, hK _ ?_⟩ | refine hK _ ?_
      clear hK K
      refine mix_pur2 rfl (fun K hK => ?_)
      go_simp
      first | refine ⟨_, fun _ => rfl, hK _ ?_⟩ | refine hK _ ?_
      clear hK K
      refine mix_loadg2 rfl rfl (.slice (some ⟨rb, ro, none⟩) 2 cr) (by go_simp) (fun w' h => by have h : (SwS w2.heap.size (.slice am c.mountains.length cpm) (.slice av c.villages.length cpv) gb (go + k) (.slice (some ⟨rb, ro, none⟩) 2 cr) rb ro i j) w' := h; have h0 := h.2.1; go_simp) rfl ?_
      refine mix_pur2 rfl (fun K hK => ?_)
      go_simp
      first | refine ⟨_, fun _ => rfl, hK _ ?_⟩ | refine hK _ ?_
      clear hK K
      refine mix_loadg2 rfl rfl (.int .i64 (i : Nat)) (by go_simp) (fun w' h => by have h : (SwS w2.heap.size (.slice am c.mountains.length cpm) (.slice av c.villages.length cpv) gb (go + k) (.slice (some ⟨rb, ro, none⟩) 2 cr) rb ro i j) w' := h; have h0 := h.2.2.1; go_simp) rfl ?_
      refine mix_pur2 rfl (fun K hK => ?_)
      go_simp
      first | refine ⟨_, fun _ => rfl, hK _ ?_⟩ | refine hK _ ?_
      clear hK K
      refine mix_pur2 rfl (fun K hK => ?_)
      go_simp
      first | refine ⟨_, fun _ => rfl, hK _ ?_⟩ | refine hK _ ?_
      clear hK K
      refine mix_pur2 rfl (fun K hK => ?_)
      go_simp
      first | refine ⟨_, fun _ => rfl, hK _ ?_⟩ | refine hK _ ?_
      clear hK K
      refine mix_pur2 rfl (fun K hK => ?_)
      go_simp
      first | refine ⟨_, fun _ => rfl, hK _ ?_⟩ | refine hK _ ?_
      clear hK K
      refine mix_pur2 rfl (fun K hK => ?_)
      go_simp
      first | refine ⟨_, fun _ => rfl, hK _ ?_⟩ | refine hK _ ?_
      clear hK K
      refine mix_pur2 rfl (fun K hK => ?_)
      go_simp
      first | refine ⟨_, fun _ => rfl, hK _ ?_⟩ | refine hK _ ?_
      clear hK K
      refine mix_loadg2 rfl rfl (.slice (some ⟨rb, ro, none⟩) 2 cr) (by go_simp) (fun w' h => by have h : (SwS w2.heap.size (.slice am c.mountains.length cpm) (.slice av c.villages.length cpv) gb (go + k) (.slice (some ⟨rb, ro, none⟩) 2 cr) rb ro i j) w' := h; have h0 := h.2.1; go_simp) rfl ?_
      refine mix_pur2 rfl (fun K hK => ?_)
      go_simp
      first | refine ⟨_, fun _ => rfl, hK _ ?_⟩ | refine hK _ ?_
      clear hK K
      refine mix_loadg2 rfl rfl (.int .i64 (i : Nat)) (by go_simp) (fun w' h => by have h : (SwS w2.heap.size (.slice am c.mountains.length cpm) (.slice av c.villages.length cpv) gb (go + k) (.slice (some ⟨rb, ro, none⟩) 2 cr) rb ro i j) w' := h; have h0 := h.2.2.1; go_simp) rfl ?_
      refine mix_pur2 rfl (fun K hK => ?_)
      go_simp
      first | refine ⟨_, fun _ => rfl, hK _ ?_⟩ | refine hK _ ?_
      clear hK K
      refine mix_pur2 rfl (fun K hK => ?_)
      go_simp
      first | refine ⟨_, fun _ => rfl, hK _ ?_⟩ | refine hK _ ?_
      clear hK K
      refine mix_pur2 rfl (fun K hK => ?_)
      go_simp
      first | refine ⟨_, fun _ => rfl, hK _ ?_⟩ | refine hK _ ?_
      clear hK K
      refine mix_loadg2 rfl rfl (.slice (some ⟨rb, ro, none⟩) 2 cr) (by go_simp) (fun w' h => by have h : (SwS w2.heap.size (.slice am c.mountains.length cpm) (.slice av c.villages.length cpv) gb (go + k) (.slice (some ⟨rb, ro, none⟩) 2 cr) rb ro i j) w' := h; have h0 := h.2.1; go_simp) rfl ?_
      refine mix_pur2 rfl (fun K hK => ?_)
      go_simp
      first | refine ⟨_, fun _ => rfl, hK _ ?_⟩ | refine hK _ ?_
      clear hK K
      refine mix_loadg2 rfl rfl (.int .i64 (j : Nat)) (by go_simp) (fun w' h => by have h : (SwS w2.heap.size (.slice am c.mountains.length cpm) (.slice av c.villages.length cpv) gb (go + k) (.slice (some ⟨rb, ro, none⟩) 2 cr) rb ro i j) w' := h; have h0 := h.2.2.2; go_simp) rfl ?_
      refine mix_pur2 rfl (fun K hK => ?_)
      go_simp
      first | refine ⟨_, fun _ => rfl, hK _ ?_⟩ | refine hK _ ?_
      clear hK K
      refine mix_pur2 rfl (fun K hK => ?_)
      go_simp
      first | refine ⟨_, fun _ => rfl, hK _ ?_⟩ | refine hK _ ?_
      clear hK K
      refine mix_pur2 rfl (fun K hK => ?_)
      go_simp
      first | refine ⟨_, fun _ => rfl, hK _ ?_⟩ | refine hK _ ?_
      clear hK K
      refine mix_pur2 rfl (fun K hK => ?_)
      go_simp
      first | refine ⟨_, fun _ => rfl, hK _ ?_⟩ | refine hK _ ?_
      clear hK K
      refine mix_pur2 rfl (fun K hK => ?_)
      go_simp
      first | refine ⟨_, fun _ => rfl, hK _ ?_⟩ | refine hK _ ?_
      clear hK K
      refine mix_pur2 rfl (fun K hK => ?_)
      go_simp
      first | refine ⟨_, fun _ => rfl, hK _ ?_⟩ | refine hK _ ?_
      clear hK K
      refine mix_loadg2 rfl rfl (.slice (some ⟨rb, ro, none⟩) 2 cr) (by go_simp) (fun w' h => by have h : (SwS w2.heap.size (.slice am c.mountains.length cpm) (.slice av c.villages.length cpv) gb (go + k) (.slice (some ⟨rb, ro, none⟩) 2 cr) rb ro i j) w' := h; have h0 := h.2.1; go_simp) rfl ?_
      refine mix_pur2 rfl (fun K hK => ?_)
      go_simp
      first | refine ⟨_, fun _ => rfl, hK _ ?_⟩ | refine hK _ ?_
      clear hK K
      refine mix_loadg2 rfl rfl (.int .i64 (j : Nat)) (by go_simp) (fun w' h => by have h : (SwS w2.heap.size (.slice am c.mountains.length cpm) (.slice av c.villages.length cpv) gb (go + k) (.slice (some ⟨rb, ro, none⟩) 2 cr) rb ro i j) w' := h; have h0 := h.2.2.2; go_simp) rfl ?_
      refine mix_pur2 rfl (fun K hK => ?_)
      go_simp
      first | refine ⟨_, fun _ => rfl, hK _ ?_⟩ | refine hK _ ?_
      clear hK K
      refine mix_pur2 rfl (fun K hK => ?_)
      go_simp
      first | refine ⟨_, fun _ => rfl, hK _ ?_⟩ | refine hK _ ?_
      clear hK K
      refine mix_pur2 rfl (fun K hK => ?_)
      go_simp
      first | refine ⟨_, fun _ => rfl, hK _ ?_⟩ | refine hK _ ?_
      clear hK K
      refine mix_pur2 rfl (fun K hK => ?_)
      go_simp
      first | refine ⟨_, fun _ => rfl, hK _ ?_⟩ | refine hK _ ?_
      clear hK K
      refine mix_loadg2 rfl rfl (.agg #[.slice am c.mountains.length cpm, .slice av c.villages.length cpv]) (by go_simp) (fun w' h => by have h : (SwS w2.heap.size (.slice am c.mountains.length cpm) (.slice av c.villages.length cpv) gb (go + k) (.slice (some ⟨rb, ro, none⟩) 2 cr) rb ro i j) w' := h; have h0 := h.1.cell 0; have h1 := h.1.cell 1; go_simp) rfl ?_
      refine mix_pur2 rfl (fun K hK => ?_)
      go_simp
      first | refine ⟨_, fun _ => rfl, hK _ ?_⟩ | refine hK _ ?_
      clear hK K
      refine mix_pur2 rfl (fun K hK => ?_)
      go_simp
      first | refine ⟨_, fun _ => rfl, hK _ ?_⟩ | refine hK _ ?_
      clear hK K
      refine mix_pur2 rfl (fun K hK => ?_)
      go_simp
      first | refine ⟨_, fun _ => rfl, hK _ ?_⟩ | refine hK _ ?_
      clear hK K
      refine mix_pur2 rfl (fun K hK => ?_)
      go_simp
      first | refine ⟨_, fun _ => rfl, hK _ ?_⟩ | refine hK _ ?_
      clear hK K
      refine mix_loadg2 rfl rfl (.slice (some ⟨rb, ro, none⟩) 2 cr) (by go_simp) (fun w' h => by have h : (SwS w2.heap.size (.slice am c.mountains.length cpm) (.slice av c.villages.length cpv) gb (go + k) (.slice (some ⟨rb, ro, none⟩) 2 cr) rb ro i j) w' := h; have h0 := h.2.1; go_simp) rfl ?_
      refine mix_pur2 rfl (fun K hK => ?_)
      go_simp
      first | refine ⟨_, fun _ => rfl, hK _ ?_⟩ | refine hK _ ?_
      clear hK K
      refine mix_loadg2 rfl rfl (.int .i64 (i : Nat)) (by go_simp) (fun w' h => by have h : (SwS w2.heap.size (.slice am c.mountains.length cpm) (.slice av c.villages.length cpv) gb (go + k) (.slice (some ⟨rb, ro, none⟩) 2 cr) rb ro i j) w' := h; have h0 := h.2.2.1; go_simp) rfl ?_
      refine mix_pur2 rfl (fun K hK => ?_)
      go_simp
      first | refine ⟨_, fun _ => rfl, hK _ ?_⟩ | refine hK _ ?_
      clear hK K
      refine mix_pur2 rfl (fun K hK => ?_)
      go_simp
      first | refine ⟨_, fun _ => rfl, hK _ ?_⟩ | refine hK _ ?_
      clear hK K
      refine mix_pur2 rfl (fun K hK => ?_)
      go_simp
      first | refine ⟨_, fun _ => rfl, hK _ ?_⟩ | refine hK _ ?_
      clear hK K
      refine mix_loadg2 rfl rfl (.slice (some ⟨rb, ro, none⟩) 2 cr) (by go_simp) (fun w' h => by have h : (SwS w2.heap.size (.slice am c.mountains.length cpm) (.slice av c.villages.length cpv) gb (go + k) (.slice (some ⟨rb, ro, none⟩) 2 cr) rb ro i j) w' := h; have h0 := h.2.1; go_simp) rfl ?_
      refine mix_pur2 rfl (fun K hK => ?_)
      go_simp
      first | refine ⟨_, fun _ => rfl, hK _ ?_⟩ | refine hK _ ?_
      clear hK K
      refine mix_loadg2 rfl rfl (.int .i64 (j : Nat)) (by go_simp) (fun w' h => by have h : (SwS w2.heap.size (.slice am c.mountains.length cpm) (.slice av c.villages.length cpv) gb (go + k) (.slice (some ⟨rb, ro, none⟩) 2 cr) rb ro i j) w' := h; have h0 := h.2.2.2; go_simp) rfl ?_
      refine mix_eff2 rfl false rfl (fun K hK => ?_)
      go_simp
      have hwn := want_c (hC5.call hBd) (Own.ints (ho.qt hqd)) hml i j (by omega) (by omega)
      rw [HBO.out] at hwn
      refine hwn.mono ?_
      rintro e w8 ⟨rfl, hC8⟩
      refine hK _ _ (hD w8 (hBd.trans (hC8.mono hBd.size))) ?_
      clear hK K
      refine mix_pur2 rfl (fun K hK => ?_)
      go_simp
      first | refine ⟨_, fun _ => rfl, hK _ ?_⟩ | refine hK _ ?_
      clear hK K
      refine mix_pur2 rfl (fun K hK => ?_)
      go_simp
      first | refine ⟨_, fun _ => rfl, hK _ ?_⟩ | refine hK _ ?_
      clear hK K
      refine mix_done2 ?_
      have hB8 := hBd.trans (hC8.mono hBd.size)
      have hS8 := hD w8 hB8
      have ho8 := (ho.qt hqd).call hC8
      have x1 := hS8.2.1
      have x2 := hS8.2.2.1
      have x3 := hS8.2.2.2
      have y1 := own_cell ho8 i hil
      have y2 := own_cell ho8 j hj
      obtain ⟨x, hx⟩ : ∃ x, x = m[i] := ⟨_, rfl⟩
      obtain ⟨y, hy⟩ : ∃ y, y = m[j] := ⟨_, rfl⟩
      rw [← hx] at y1
      rw [← hy] at y2
      have HX := Lib.hid hx
      have HY := Lib.hid hy
      clear hx hy hC8 hqd hS8
      go_wp2_with fail
      go_quiet (fail)
      rename_i nq
      have ho9 := ho8.drewN nq
      have hB9 : Below w5.heap.size w5 (w8.drewN nq) := below_drewN hB8 nq
      clear x1 x2 x3 y1 y2 ho8 hB8
      generalize w8.drewN nq = w9 at *
      have hS9 := hD w9 hB9
      have x1 := hS9.2.1
      have x2 := hS9.2.2.1
      have y1 := own_cell ho9 i hil
      have f1 := own_free ho9 i
      go_upto_region 16 with fail
      have ho10 := own_set ho9 i y
      have hB10 : Below w5.heap.size w5 (w9.setCell ⟨g, i, none⟩ (.int .i64 y)) := hB9.setCell hg1 _
      clear x1 x2 y1 f1 hS9 ho9 hB9
      generalize w9.setCell ⟨g, i, none⟩ (.int .i64 y) = w10 at *
      have hS10 := hD w10 hB10
      have x1 := hS10.2.1
      have x2 := hS10.2.2.2
      have y1 := own_cell ho10 j (by simpa using hj)
      have f1 := own_free ho10 j
      have ho11 := own_set ho10 j x
      have hB11 : Below w5.heap.size w5 (w10.setCell ⟨g, j, none⟩ (.int .i64 x)) := hB10.setCell hg1 _
      have hsw : (m.set i y).set j x = swapAt m (i, j) := by
        rw [swapAt, HX.out, HY.out]
        simp only [List.getD_eq_getElem?_getD, List.getElem?_eq_getElem hil, List.getElem?_eq_getElem hj, Option.getD_some]
      rw [hsw] at ho11
      clear hS10 hsw
      go_wp2_with fail
      go_roundw
      case rel => exact ⟨k + 1, swapAt m (i, j), by omega, by go_num, HSQ.out, ho11, hB11⟩
      case measure => simp [intOf]; omega
    · obtain rfl : k = out.length := by omega
      have hmf := hsq.stop
      subst hmf
      have HML := Lib.hid hml
      clear hsq hml
      go_wp2_with fail
      go_loopw [14] (fun i wx => ∃ k : Nat, k ≤ c.villages.length ∧ i = .int .i64 k ∧ Below w5.heap.size w5 wx ∧ Own w5.heap.size wx 3 1 (.slice (some ⟨g, 0, none⟩) c.villages.length cap) c.villages.length (I64 m)) (fun i _ => c.villages.length - (intOf i).toNat)
      case atStart => exact ⟨0, Nat.zero_le _, rfl, hB, ho⟩
      case round =>
        obtain ⟨i, hi, rfl, hBi, hoi⟩ := hrel
        by_cases hlt : i < c.villages.length
        · go_wp2_with fail
          go_loopw [15] (fun i2 wx => ∃ k : Nat, k ≤ i ∧ i2 = .int .i64 k ∧ Below w5.heap.size w5 wx ∧ Own w5.heap.size wx 3 1 (.slice (some ⟨g, 0, none⟩) c.villages.length cap) c.villages.length (I64 m)) (fun i2 _ => i - (intOf i2).toNat)
          case atStart => exact ⟨0, Nat.zero_le _, rfl, hBi, hoi⟩
          case round =>
            obtain ⟨k, hk, rfl, hBx, hox⟩ := hrel
            by_cases hki : k < i
            · have hwn := want_c (hC5.call hBx) (hfin5.call hBx) HML.out k i (by have := HML.out; omega) (by have := HML.out; omega)
              rw [HLAW.out.quiet k i hki (by have := HML.out; omega)] at hwn
              have HWN := Lib.hid hwn
              have c0 := (hbx5.call hBx).cell 0
              have c1 := (hbx5.call hBx).cell 1
              clear hwn
              go_wp2_with (go_at_call 46; refine HWN.out.mono ?_; rintro e wy ⟨rfl, hCy⟩)
              go_roundw
              case rel => exact ⟨k + 1, by omega, by go_num, hBx.trans (hCy.mono hBx.size), hox.call hCy⟩
              case measure => simp [intOf]; omega
            · obtain rfl : k = i := by omega
              have hif : k < m.length := by have := HML.out; omega
              have hil : k < l0.length := by have := HL0.out; omega
              have hle := HLAW.out.le k
              rw [List.getD_eq_getElem?_getD, List.getD_eq_getElem?_getD, List.getElem?_eq_getElem hif, List.getElem?_eq_getElem hil] at hle
              simp only [Option.getD_some] at hle
              have hle : decide (rk c.villages k m[k] > rk c.villages k l0[k]) = false := by simp; omega
              obtain ⟨bf, fo, rfl, -, hbf, hcf⟩ := hfin5.addr (by omega)
              obtain ⟨bl, lo, rfl, -, hbl, hcl⟩ := hf5.addr (by omega)
              have hE : ∀ w', Below w5.heap.size w5 w' → PrS w2.heap.size (.slice am c.mountains.length cpm) (.slice av c.villages.length cpv) bf fo bl lo k (m[k]'hif) (l0[k]'hil) w' := fun w' h => ⟨hbx5.call h, (World.cell?_of_block (h.block bf hbf)).trans (hcf k hif), (World.cell?_of_block (h.block bl hbl)).trans (hcl k hil)⟩
              have HLE := Lib.hid hle
              clear hle hcf hcl
              go_wp2_with fail
              refine wp_region_mix2 (.one 0 (.pur 1 (.pur 2 (.pur 3 (.pur 4 (.one 5 (.one 7 (.pur 8 (.pur 9 (.pur 10 (.pur 11 (.one 12 (.act 6 (.act 13 (.pur 14 .fin))))))))))))))) 99 (PrS w2.heap.size (.slice am c.mountains.length cpm) (.slice av c.villages.length cpv) bf fo bl lo k (m[k]'hif) (l0[k]'hil)) (fun _ => True) (by kernel_rfl) (by kernel_rfl) rfl (by kernel_rfl) (hE _ hBx).drew (fun wd hqd _ => ?_)
              have hBd : Below w5.heap.size w5 wd := hBx.trans (hqd.below _)
              refine mix_load2 rfl rfl rfl (.agg #[.slice am c.mountains.length cpm, .slice av c.villages.length cpv]) (fun w' h => by have h : (PrS w2.heap.size (.slice am c.mountains.length cpm) (.slice av c.villages.length cpv) bf fo bl lo k (m[k]'hif) (l0[k]'hil)) w' := h; have h0 := h.1.cell 0; have h1 := h.1.cell 1; go_simp) rfl ?_
              refine mix_pur2 rfl (fun K hK => ?_)
              go_simp
              first | refine ⟨_, fun _ => rfl, hK _ ?_⟩ | refine hK _ ?_
              clear hK K
              refine mix_pur2 rfl (fun K hK => ?_)
              go_simp
              first | refine ⟨_, fun _ => rfl, hK _ ?_⟩ | refine hK _ ?_
              clear hK K
              refine mix_pur2 rfl (fun K hK => ?_)
              go_simp
              first | refine ⟨_, fun _ => rfl, hK _ ?_⟩ | refine hK _ ?_
              clear hK K
              refine mix_pur2 rfl (fun K hK => ?_)
              go_simp
              first | refine ⟨_, fun _ => rfl, hK _ ?_⟩ | refine hK _ ?_
              clear hK K
              refine mix_load2 rfl rfl rfl (.int .i64 (m[k]'hif)) (fun w' h => by have h : (PrS w2.heap.size (.slice am c.mountains.length cpm) (.slice av c.villages.length cpv) bf fo bl lo k (m[k]'hif) (l0[k]'hil)) w' := h; have h0 := h.2.1; go_simp) rfl ?_
              refine mix_load2 rfl rfl rfl (.agg #[.slice am c.mountains.length cpm, .slice av c.villages.length cpv]) (fun w' h => by have h : (PrS w2.heap.size (.slice am c.mountains.length cpm) (.slice av c.villages.length cpv) bf fo bl lo k (m[k]'hif) (l0[k]'hil)) w' := h; have h0 := h.1.cell 0; have h1 := h.1.cell 1; go_simp) rfl ?_
              refine mix_pur2 rfl (fun K hK => ?_)
              go_simp
              first | refine ⟨_, fun _ => rfl, hK _ ?_⟩ | refine hK _ ?_
              clear hK K
              refine mix_pur2 rfl (fun K hK => ?_)
              go_simp
              first | refine ⟨_, fun _ => rfl, hK _ ?_⟩ | refine hK _ ?_
              clear hK K
              refine mix_pur2 rfl (fun K hK => ?_)
              go_simp
              first | refine ⟨_, fun _ => rfl, hK _ ?_⟩ | refine hK _ ?_
              clear hK K
              refine mix_pur2 rfl (fun K hK => ?_)
              go_simp
              first | refine ⟨_, fun _ => rfl, hK _ ?_⟩ | refine hK _ ?_
              clear hK K
              refine mix_load2 rfl rfl rfl (.int .i64 (l0[k]'hil)) (fun w' h => by have h : (PrS w2.heap.size (.slice am c.mountains.length cpm) (.slice av c.villages.length cpv) bf fo bl lo k (m[k]'hif) (l0[k]'hil)) w' := h; have h0 := h.2.2; go_simp) rfl ?_
              refine mix_eff2 rfl false rfl (fun K hK => ?_)
              go_simp
              refine (plc_c (hC5.call hBd) k hlt (m[k]'hif)).mono ?_
              rintro e w8 ⟨rfl, hC8⟩
              have hB8 := hBd.trans (hC8.mono hBd.size)
              refine hK _ _ (hE w8 hB8) ?_
              clear hK K
              refine mix_eff2 rfl false rfl (fun K hK => ?_)
              go_simp
              refine (plc_c (hC5.call hB8) k hlt (l0[k]'hil)).mono ?_
              rintro e w9 ⟨rfl, hC9⟩
              have hB9 := hB8.trans (hC9.mono hB8.size)
              refine hK _ _ (hE w9 hB9) ?_
              clear hK K
              refine mix_pur2 rfl (fun K hK => ?_)
              go_simp
              first | refine ⟨_, fun _ => rfl, hK _ ?_⟩ | refine hK _ ?_
              clear hK K
              refine mix_done2 ?_
              have hle := HLE.out
              have hox9 := ((hox.qt hqd).call hC8).call hC9
              clear hC8 hC9 hqd
              go_wp2_with fail
              go_roundw
              case rel => exact ⟨k + 1, by omega, by go_num, hB9, hox9⟩
              case measure => simp [intOf]; omega
        · obtain rfl : i = c.villages.length := by omega
          go_wp2_with fail
          refine (sameInts_t (Own.ints hoi) (hfin5.call hBi)).mono ?_
          rintro e wy ⟨rfl, hCy⟩
          have hTy := bnx hT5 (hBi.trans (hCy.mono hBi.size))
          go_wp2_with fail
          refine (drawn_c _).mono ?_
          rintro e wz ⟨rfl, hBz⟩
          go_wp2
          go_ret
          exact ⟨rfl, bnx hTy hBz⟩

end Go.Proofs.Ythchpoabncdicaa
