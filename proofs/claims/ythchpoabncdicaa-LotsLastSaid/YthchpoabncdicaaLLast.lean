/- The walk of LotsLast: it hands back true, whatever the numbers; conditions: the argument reads as numbers. -/
import Derived.Test.YthchpoabncdicaaLastQ
import Derived.Test.YthchpoabncdicaaLastJ
namespace Go.Proofs.Ythchpoabncdicaa
open Go.RowKit

/-- What a round over all lists reads. -/
def LaS (b : Nat) (vm vv : Value) (gb o : Nat) (row : Value) (w : World) : Prop := Blk b #[vm, vv] 25 w ∧ w.cell? ⟨gb, o, none⟩ = some row
theorem LaS.drew {b : Nat} {vm vv : Value} {gb o : Nat} {row : Value} {w : World} (h : LaS b vm vv gb o row w) : LaS b vm vv gb o row w.drew := h
theorem sameInts_tq {A A' : Nat → Prop} {w : World} {v1 v2 : Value} {l : List Int} (h1 : Ints A w v1 l) (h2 : Ints A' w v2 l) :
    Calls Try.prog 32 #[v1, v2] w fun e w' => e = .returned (.bool true) ∧ Qt w w' :=
  (sameInts_q h1 h2).mono fun e w' ⟨he, hq⟩ => ⟨by rw [he]; simp, hq⟩
theorem sumI_take (l : List Int) (k : Nat) (hk : k < l.length) : sumI (l.take (k + 1)) = sumI (l.take k) + l[k] := by
  rw [List.take_succ_eq_append_getElem hk, sumI_append]; simp [sumI]
/-- How many of the first k are just what is allotted. -/
def hits (all : List (List Int)) (got : List Int) (k : Nat) : Nat := (all.take k).count got
theorem hits_succ (all : List (List Int)) (got : List Int) (k : Nat) (hk : k < all.length) : hits all got (k + 1) = hits all got k + (if all[k] = got then 1 else 0) := by
  rw [hits, hits, List.take_succ_eq_append_getElem hk, List.count_append, List.count_singleton]
  simp
theorem hits_all {all : List (List Int)} {got : List Int} (hn : all.Nodup) (hm : got ∈ all) : hits all got all.length = 1 := by
  rw [hits, List.take_length]
  have h1 := List.nodup_iff_count.1 hn got
  have h2 := List.count_pos_iff.2 hm
  omega

set_option maxRecDepth 100000 in
set_option maxHeartbeats 4000000 in
theorem lotsLast_c {A : Nat → Prop} {w : World} {v : Value} {nums : List Int} (hn : Ints A w v nums) :
    Calls Try.prog 5 #[v] w fun e w' => e = .returned (.bool true) ∧ Below w.heap.size w w' := by
  go_enter Try.func5, Try.ntmps5
  go_wp2_with fail
  refine (newHand_c hn).mono ?_
  rintro e w1 ⟨rfl, hH, hB1⟩
  have hs1 := hH.lt
  go_wp2_with fail
  refine (commonsOf_c hH (by omega) 4 (by omega) (by omega)).mono ?_
  rintro e w2 ⟨vm, vv, rfl, ⟨c, hC, hok⟩, ⟨k2, hk2, hH⟩, hG⟩
  have hB2 : Below w.heap.size w w2 := hB1.grown hG (by omega) (fun k e => by injection e with e; omega)
  have hs2 := hG.size
  clear hG hB1
  obtain ⟨am, cpm, rfl, _, _⟩ := hC.1.shape
  obtain ⟨av, cpv, rfl, _, _⟩ := hC.2.shape
  have hH := hH.call ((Below.refl w2.heap.size w2).alloc (Nat.le_refl _) (.cells #[.slice am c.mountains.length cpm, .slice av c.villages.length cpv] 25))
  have hbx : Blk w2.heap.size #[.slice am c.mountains.length cpm, .slice av c.villages.length cpv] 25 (w2.alloc (.cells #[.slice am c.mountains.length cpm, .slice av c.villages.length cpv] 25)) := Blk.new w2 _ _
  have hC := hC.alloc (.cells #[.slice am c.mountains.length cpm, .slice av c.villages.length cpv] 25)
  have hT := bal (o := .cells #[.slice am c.mountains.length cpm, .slice av c.villages.length cpv] 25) hB2
  have hvl4 : c.villages.length ≤ 4 := by have := hok.vl; have := hok.n2; omega
  have hvok := hok.vok
  go_wp2_with fail
  refine (upto_c hH (by omega) 10 (by omega) (by omega)).mono ?_
  rintro e w3 ⟨⟨u1, rfl, hu1, hu1'⟩, -, hG3⟩
  have hC3 := hC.hand hG3 hs1
  have hbx3 := hbx.hand hG3 (by omega)
  have hT3 := bhand hT hG3 (by omega)
  clear hC hbx hT hH hG3
  obtain ⟨m, rfl⟩ : ∃ m : Nat, u1 = (m : Int) := ⟨u1.toNat, by omega⟩
  have hm : m ≤ 10 := by omega
  clear hu1 hu1'
  have HVOK := Lib.hid hvok
  clear hvok
  go_wp2_with fail
  go_loopw [6, 7] (fun s6 s7 wr => ∃ k : Nat, k ≤ c.villages.length ∧ s7 = .int .i64 k ∧ s6 = .int .i64 (sumI ((herds c.villages).take k)) ∧ 0 ≤ sumI ((herds c.villages).take k) ∧ sumI ((herds c.villages).take k) ≤ 60 * k ∧ Qt w3 wr) (fun _ s7 _ => c.villages.length - (intOf s7).toNat)
  case atStart => exact ⟨0, Nat.zero_le _, rfl, rfl, by simp [sumI], by simp [sumI], Qt.refl _⟩
  case round =>
    obtain ⟨k, hk, rfl, rfl, hb0, hb1, hq⟩ := hrel
    have d1 := (hbx3.keep (w' := wr) (by rw [hq.heap])).cell 1
    by_cases hlt : k < c.villages.length
    · have hst := sumI_take (herds c.villages) k (by simpa [herds] using hlt)
      obtain ⟨b3, o3, rfl, -, -⟩ := (hC3.2.qt hq).addr (by omega)
      obtain ⟨p3, d3, e1, e2, -, -⟩ := (hC3.2.qt hq).at k hlt
      have hvi := HVOK.out _ (List.getElem_mem hlt)
      have e3 : (herds c.villages)[k]'(by simpa [herds] using hlt) = c.villages[k].herd := by simp [herds]
      rw [e3] at hst
      obtain ⟨y, hy⟩ : ∃ y, y = c.villages[k].herd := ⟨_, rfl⟩
      rw [← hy] at hst e2 hvi
      obtain ⟨x, hx⟩ : ∃ x, x = sumI ((herds c.villages).take k) := ⟨_, rfl⟩
      rw [← hx] at hst hb0 hb1 ⊢
      have HST := Lib.hid hst
      clear hst e3 hy hx
      go_wp2
      go_roundw
      case rel => exact ⟨k + 1, by omega, by go_num, by rw [HST.out], by rw [HST.out]; omega, by rw [HST.out]; omega, hq⟩
      case measure => simp [intOf]; omega
    · obtain rfl : k = c.villages.length := by omega
      have hheads : sumI ((herds c.villages).take c.villages.length) = sumI (herds c.villages) := by rw [List.take_of_length_le (by simp [herds])]
      rw [hheads] at hb0 hb1 ⊢
      obtain ⟨hs, hhs⟩ : ∃ hs : Nat, sumI (herds c.villages) = (hs : Int) := ⟨(sumI (herds c.villages)).toNat, by omega⟩
      rw [hhs] at hb0 hb1 ⊢
      have HHS := Lib.hid hhs
      clear hheads hhs d1
      have hC4 := hC3.call (hq.below w3.heap.size)
      have hbx4 := hbx3.call (hq.below w3.heap.size)
      have hT4 := bnx hT3 (hq.below w3.heap.size)
      have c0 := hbx4.cell 0
      have c1 := hbx4.cell 1
      have hal := allot_ok hC4 hok m (by omega)
      have HAL := Lib.hid hal
      clear hal
      go_wp2_with fail
      clear c0 c1
      refine HAL.out.mono ?_
      rintro e w5 ⟨va, rfl, hva, hB5⟩
      have hC5 := hC4.call hB5
      have hbx5 := hbx4.call hB5
      have hT5 := bnx hT4 hB5
      have c1 := hbx5.cell 1
      obtain ⟨P, hP⟩ : ∃ P : Nat, P = min m hs := ⟨_, rfl⟩
      have hP2 : min (m : Int) (hs : Int) = (P : Int) := by omega
      have hP4 : (if hs < m then (hs : Int) else (m : Int)) = (P : Int) := by split <;> omega
      have HP2 := Lib.hid hP2
      clear hP2
      have hP3 : P ≤ 10 := by omega
      have HP := Lib.hid hP
      clear hP
      have hsh := shared_c HVOK.out hvl4 c.villages.length [] P w5 _ (.slice none 0 0) _ (fun _ => False) hC5.2 (ints_nil _ _) (by simp) hP3
      have HSH := Lib.hid hsh
      clear hsh hC3 hbx3 hT3 hC4 hbx4 hT4 HAL
      go_wp2_with fail
      clear c1
      refine HSH.out.mono ?_
      rintro e w6 ⟨vo, rfl, hO, hB6⟩
      have hC6 := hC5.call hB6
      have hbx6 := hbx5.call hB6
      have hT6 := bnx hT5 hB6
      have hva6 := hva.call hB6
      have hll := last_law HVOK.out m (P := P) (by rw [HHS.out]; exact HP2.out.symm)
      have hnd := shared_nodup (vs := c.villages) c.villages.length [] P
      have hlen := shared_len c.villages c.villages.length [] P hP3
      have hln2 : (11 : Nat) ^ c.villages.length ≤ 11 ^ 4 := Nat.pow_le_pow_right (by omega) hvl4
      generalize sharedL c.villages c.villages.length [] P = all at hO hll hnd hlen
      have hall : all.length ≤ 14641 := by omega
      clear hlen hln2
      obtain ⟨ao, co, rfl, _, _⟩ := hO.shape
      have hjg := allotN_just HVOK.out m
      obtain ⟨got, hgot⟩ : ∃ got, got = allotN c.villages m := ⟨_, rfl⟩
      rw [← hgot] at hva6 hll hjg
      have HJG := Lib.hid hjg
      clear hjg
      have HLL := Lib.hid hll
      have HND := Lib.hid hnd
      clear hll hnd hgot hva
      go_wp2_with fail
      go_loopw [11, 12] (fun s11 s12 wx => ∃ k : Nat, k ≤ all.length ∧ s12 = .int .i64 k ∧ s11 = .int .i64 (hits all got k : Nat) ∧ hits all got k ≤ k ∧ Qt w6 wx) (fun _ s12 _ => all.length - (intOf s12).toNat)
      case atStart => exact ⟨0, Nat.zero_le _, rfl, rfl, Nat.le_refl _, Qt.refl _⟩
      case round =>
        rename World => wx
        obtain ⟨k, hk, rfl, rfl, hhk, hqx⟩ := hrel
        by_cases hlt : k < all.length
        · obtain ⟨gb, go, rfl, -, hgb⟩ := hO.addr (by omega)
          obtain ⟨ar, cr, r1, hR⟩ := hO.row k hlt
          obtain ⟨l1, l2, l3⟩ := HLL.out.2 _ (List.getElem_mem hlt)
          have hsc := hits_succ all got k hlt
          obtain ⟨d, hd⟩ : ∃ d, d = all[k] := ⟨_, rfl⟩
          rw [← hd] at r1 hR l1 l2 l3 hsc
          have hHO : HOk d := fun x hx => by
            obtain ⟨i, hi, rfl⟩ := List.getElem_of_mem hx
            have h1 := l2 i (by omega)
            have h2 : d.getD i 0 = d[i] := by simp [hi]
            have h3 := (HVOK.out _ (List.getElem_mem (show i < c.villages.length by omega))).2.2.2
            rw [her_at (show i < c.villages.length by omega)] at h1
            omega
          have hj : ∀ w', Qt w6 w' → Calls Try.prog 40 #[.slice av c.villages.length cpv, .slice ar d.length cr] w' fun e w'' => ∃ b : Bool, e = .returned (.bool b) ∧ (b = true ↔ d = got) ∧ Qt w' w'' := fun w' hq' =>
            (just_at (hC6.2.qt hq') (hR.qt hq') l1 HVOK.out hHO).mono fun e w'' ⟨b, he, hb, hq⟩ => ⟨b, he, hb.trans ⟨fun h => l3 h, fun h => h ▸ HJG.out⟩, hq⟩
          rw [l1] at r1 hR hj
          have hD : ∀ w', Qt w6 w' → LaS w2.heap.size (.slice am c.mountains.length cpm) (.slice av c.villages.length cpv) gb (go + k) (.slice ar c.villages.length cr) w' := fun w' hq' => ⟨hbx6.call (hq'.below _), (World.cell?_of_block ((hq'.below w6.heap.size).block gb hgb)).trans r1⟩
          have HJ := Lib.hid hj
          have HSC := Lib.hid hsc
          clear hj hsc l1 l2 l3 hHO r1 hd
          go_wp2_with fail
          refine wp_region_mix2 (.pur 0 (.one 1 (.pur 2 (.pur 3 (.pur 4 (.one 5 (.act 6 .fin))))))) 99 (LaS w2.heap.size (.slice am c.mountains.length cpm) (.slice av c.villages.length cpv) gb (go + k) (.slice ar c.villages.length cr)) (fun _ => True) (by kernel_rfl) (by kernel_rfl) rfl (by kernel_rfl) (hD wx hqx).drew (fun wd hqd _ => ?_)
          refine mix_pur2 rfl (fun K hK => ?_)
          go_simp
          first | refine ⟨_, fun _ => rfl, hK _ ?_⟩ | refine hK _ ?_
          clear hK K
          refine mix_load2 rfl rfl rfl (.slice av c.villages.length cpv) (fun w' h => by have h : (LaS w2.heap.size (.slice am c.mountains.length cpm) (.slice av c.villages.length cpv) gb (go + k) (.slice ar c.villages.length cr)) w' := h; have h0 := h.1.cell 1; go_simp) rfl ?_
          refine mix_pur2 rfl (fun K hK => ?_)
          go_simp
          first | refine ⟨_, fun _ => rfl, hK _ ?_⟩ | refine hK _ ?_
          clear hK K
          refine mix_pur2 rfl (fun K hK => ?_)
          go_simp
          first | refine ⟨_, fun _ => rfl, hK _ ?_⟩ | refine hK _ ?_
          clear hK K
          refine mix_pur2 rfl (fun K hK => ?_)
          go_simp
          first | refine ⟨_, fun _ => rfl, hK _ ?_⟩ | refine hK _ ?_
          clear hK K
          refine mix_loadg2 rfl rfl (.slice ar c.villages.length cr) (by go_simp) (fun w' h => by have h : (LaS w2.heap.size (.slice am c.mountains.length cpm) (.slice av c.villages.length cpv) gb (go + k) (.slice ar c.villages.length cr)) w' := h; have h0 := h.2; go_simp) rfl ?_
          refine mix_eff2 rfl false rfl (fun K hK => ?_)
          go_simp
          refine (HJ.out wd (hqx.trans hqd)).mono ?_
          rintro e w8 ⟨bj, rfl, hbj, hq8⟩
          refine hK _ _ (hD w8 ((hqx.trans hqd).trans hq8)) ?_
          clear hK K
          refine mix_done2 ?_
          have hq9 := (hqx.trans hqd).trans hq8
          clear hqd hq8
          have hrow := (hD w8 hq9).2
          cases bj with
          | true =>
            have hdg := hbj.1 rfl
            rw [if_pos hdg] at HSC
            subst hdg
            have hsm := sameInts_tq (hR.qt hq9) (hva6.qt hq9)
            have HSM := Lib.hid hsm
            clear hsm hbj
            go_wp2_with (go_at_call 32; refine HSM.out.mono ?_; rintro e w10 ⟨rfl, hq10⟩)
            go_roundw
            case rel => exact ⟨k + 1, by omega, by go_num, by rw [HSC.out]; simp, by rw [HSC.out]; omega, hq9.trans hq10⟩
            case measure => simp [intOf]; omega
          | false =>
            have hdg : ¬ d = got := fun h => by have := hbj.2 h; simp at this
            rw [if_neg hdg] at HSC
            clear hbj
            go_wp2_with fail
            go_roundw
            case rel => exact ⟨k + 1, by omega, by go_num, by rw [HSC.out]; simp, by rw [HSC.out]; omega, hq9⟩
            case measure => simp [intOf]; omega
        · obtain rfl : k = all.length := by omega
          have hone := hits_all HND.out HLL.out.1
          rw [hone]
          go_wp2_with (go_at_call 21; refine (drawn_c _).mono ?_; rintro e wz ⟨rfl, hBz⟩)
          go_ret
          exact ⟨rfl, bnx (bnx hT6 (hqx.below _)) hBz⟩

end Go.Proofs.Ythchpoabncdicaa
