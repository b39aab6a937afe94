/- The walk of LotsLate: it hands back true, whatever the numbers; conditions: the argument reads as numbers. -/
import Derived.Test.YthchpoabncdicaaLate1
namespace Go.Proofs.Ythchpoabncdicaa
open Go.RowKit

theorem sumI_takeD (l : List Int) (k : Nat) (hk : k < l.length) : sumI (l.take (k + 1)) = sumI (l.take k) + l.getD k 0 := by
  rw [List.take_succ_eq_append_getElem hk, sumI_append]; simp [sumI, hk]
theorem lateL_at (b a : List Int) (n k : Nat) (hk : k < n) : (lateL b a n)[k]'(by rw [lateL_len]; exact hk) = b.getD k 0 - a.getD k 0 := by simp [lateL]

set_option maxRecDepth 100000 in
set_option maxHeartbeats 4000000 in
theorem lotsLate_c {A : Nat → Prop} {w : World} {v : Value} {nums : List Int} (hn : Ints A w v nums) :
    Calls Try.prog 14 #[v] w fun e w' => e = .returned (.bool true) ∧ Below w.heap.size w w' := by
  go_enter Try.func14, Try.ntmps14
  go_wp2_with fail
  refine (newHand_c hn).mono ?_
  rintro e w1 ⟨rfl, hH, hB1⟩
  have hs1 := hH.lt
  go_wp2_with fail
  refine (commonsOf_c hH (by omega) 4 (by omega) (by omega)).mono ?_
  rintro e w2 ⟨vm, vv, rfl, ⟨c, hC, hok⟩, ⟨k2, hk2, hH⟩, hG⟩
  have hB2 : Below w.heap.size w w2 := hB1.grown hG (by omega) (fun k e => by injection e with e; omega)
  have hs2 := hG.size
  clear hG hB1
  obtain ⟨am, cpm, rfl, _, _⟩ := hC.1.shape
  obtain ⟨av, cpv, rfl, _, _⟩ := hC.2.shape
  have hH := hH.call ((Below.refl w2.heap.size w2).alloc (Nat.le_refl _) (.cells #[.slice am c.mountains.length cpm, .slice av c.villages.length cpv] 25))
  have hbx : Blk w2.heap.size #[.slice am c.mountains.length cpm, .slice av c.villages.length cpv] 25 (w2.alloc (.cells #[.slice am c.mountains.length cpm, .slice av c.villages.length cpv] 25)) := Blk.new w2 _ _
  have hC := hC.alloc (.cells #[.slice am c.mountains.length cpm, .slice av c.villages.length cpv] 25)
  have hT := bal (o := .cells #[.slice am c.mountains.length cpm, .slice av c.villages.length cpv] 25) hB2
  have hvl4 : c.villages.length ≤ 4 := by have := hok.vl; have := hok.n2; omega
  have hvl1 : 0 < c.villages.length := by have := hok.vl; have := hok.n1; omega
  go_wp2_with fail
  refine (among_c hH (by omega) 1 50 (by omega) (by omega) (by omega) (by omega)).mono ?_
  rintro e w3 ⟨⟨u1, rfl, hu1, hu1'⟩, ⟨k3, hk3, hH3⟩, hG3⟩
  have hC3 := hC.hand hG3 hs1
  have hbx3 := hbx.hand hG3 (by omega)
  have hT3 := bhand hT hG3 (by omega)
  have hs3 : w2.heap.size + 1 ≤ w3.heap.size := by have := hG3.size; simp at this; omega
  clear hC hbx hT hH hG3
  go_wp2_with fail
  refine (upto_c hH3 (by omega) 60 (by omega) (by omega)).mono ?_
  rintro e w4 ⟨⟨u2, rfl, hu2, hu2'⟩, ⟨k4, hk4, hH4⟩, hG4⟩
  have hC4 := hC3.hand hG4 hs1
  have hbx4 := hbx3.hand hG4 (by omega)
  have hT4 := bhand hT3 hG4 (by omega)
  have hs4 := hG4.size
  clear hC3 hbx3 hT3 hH3 hG4
  go_wp2_with fail
  refine (upto_c hH4 (by omega) 20 (by omega) (by omega)).mono ?_
  rintro e w5 ⟨⟨u3, rfl, hu3, hu3'⟩, ⟨k5, hk5, hH5⟩, hG5⟩
  have hC5 := hC4.hand hG5 hs1
  have hbx5 := hbx4.hand hG5 (by omega)
  have hT5 := bhand hT4 hG5 (by omega)
  have hs5 := hG5.size
  clear hC4 hbx4 hT4 hH4 hG5
  go_wp2_with fail
  refine (upto_c hH5 (by omega) 99 (by omega) (by omega)).mono ?_
  rintro e w6 ⟨⟨u4, rfl, hu4, hu4'⟩, ⟨k6, hk6, hH6⟩, hG6⟩
  have hC6 := hC5.hand hG6 hs1
  have hbx6 := hbx5.hand hG6 (by omega)
  have hT6 := bhand hT5 hG6 (by omega)
  have hs6 := hG6.size
  clear hC5 hbx5 hT5 hH5 hG6
  go_wp2_with fail
  have hl1 : Ints (fun b => w6.heap.size ≤ b) (w6.alloc (.cells #[.int .i64 u4] 3)) (.slice (some ⟨w6.heap.size, 0, none⟩) 1 1) [u4] := Own.ints (n := 1) (own_lit w6 3 1 #[.int .i64 u4] 1 rfl (by omega))
  refine (of_c (hH6.call ((Below.refl w6.heap.size w6).alloc (Nat.le_refl _) (.cells #[.int .i64 u4] 3))) (by omega) u3 hl1 (by omega) (by simp)).mono ?_
  rintro e w7 ⟨⟨u, rfl, hu⟩, ⟨k7, hk7, -⟩, hG7⟩
  have hC7 := (hC6.alloc (.cells #[.int .i64 u4] 3)).hand hG7 hs1
  have hbx7 := (hbx6.alloc (.cells #[.int .i64 u4] 3)).hand hG7 (by omega)
  have hT7 := bhand (bal (o := (.cells #[.int .i64 u4] 3)) hT6) hG7 (by omega)
  have hu0 : 0 ≤ u ∧ u ≤ 99 := by
    rcases hu with h | h
    · rw [h]; omega
    · rw [List.mem_singleton] at h; rw [h]; omega
  clear hC6 hbx6 hT6 hH6 hG7 hl1 hu
  obtain ⟨m, rfl⟩ : ∃ m : Nat, u = (m : Int) := ⟨u.toNat, by omega⟩
  have hm : m ≤ 99 := by omega
  have hx1 : 1 ≤ u1 ∧ u1 ≤ 50 := ⟨hu1, by have : max (50 : Int) 1 = 50 := rfl; omega⟩
  have hx2 : 0 ≤ u2 ∧ u2 ≤ 60 := ⟨hu2, by omega⟩
  clear hu0 hu1 hu1' hu2 hu2' hu3 hu3' hu4 hu4' hk3 hk4 hk5 hk6 hk7 hk2
  have hvok := hok.vok
  have hvok2 : VOk (c.villages ++ [⟨u1, u2, []⟩]) := by
    intro v hv
    rcases List.mem_append.1 hv with hv | hv
    · exact hvok v hv
    · rw [List.mem_singleton] at hv; subst hv; exact ⟨hx1.1, hx1.2, hx2.1, hx2.2⟩
  have hlaw := late_law hvok hvok2 m
  have HLAW := Lib.hid hlaw
  clear hlaw hvok hvok2
  have c0 := hbx7.cell 0
  have c1 := hbx7.cell 1
  have hlt := late_c hC7 hok u1 u2 hx1 hx2 m hm
  obtain ⟨q, hq⟩ : ∃ q, q = (allotN (c.villages ++ [⟨u1, u2, []⟩]) m).getD c.villages.length 0 := ⟨_, rfl⟩
  rw [← hq] at hlt
  have HQ := Lib.hid hq
  clear hq
  have HLT := Lib.hid hlt
  clear hlt
  go_wp2_with fail
  clear c0 c1
  refine HLT.out.mono ?_
  rintro e w8 ⟨vg, rfl, hvg, hB8⟩
  have hC8 := hC7.call hB8
  have hbx8 := hbx7.call hB8
  have hT8 := bnx hT7 hB8
  have c0 := hbx8.cell 0
  have c1 := hbx8.cell 1
  have hal := allot_ok hC8 hok m hm
  have HAL := Lib.hid hal
  clear hal hC7 hbx7 hT7 hB8 HLT
  go_wp2_with fail
  clear c0 c1
  refine HAL.out.mono ?_
  rintro e w9 ⟨vb, rfl, hvb, hB9⟩
  have hbx9 := hbx8.call hB9
  have hT9 := bnx hT8 hB9
  have hvg9 := hvg.call hB9
  clear hC8 hbx8 hT8 hvg HAL hB9
  have hlb := allotN_len c.villages m
  have hla := allotN_len (c.villages ++ [⟨u1, u2, []⟩]) m
  simp only [List.length_append, List.length_cons, List.length_nil] at hla
  have hbb := allotN_bd c.villages m
  generalize allotN (c.villages ++ [⟨u1, u2, []⟩]) m = la at hvg9 hla HLAW HQ ⊢
  generalize allotN c.villages m = lb at hvb hlb hbb hvg9 HLAW ⊢
  have hgl := lateL_len lb la c.villages.length
  have hsb := hvb.shape
  rw [hlb] at hsb
  obtain ⟨ab, cb, rfl, _, _⟩ := hsb
  obtain ⟨bb, ob, rfl, -, -, -⟩ := hvb.addr (by omega)
  have hsg := hvg9.shape
  rw [hgl] at hsg
  obtain ⟨ag, cg, rfl, _, _⟩ := hsg
  obtain ⟨bg, og, rfl, -, -, -⟩ := hvg9.addr (by omega)
  have hq1 := HLAW.out.2.1
  have hq2 := HLAW.out.2.2.1
  rw [← HQ.out] at hq1 hq2
  have HLB := Lib.hid hlb
  have HLA := Lib.hid hla
  have HBB := Lib.hid hbb
  have HGL := Lib.hid hgl
  clear hlb hla hbb hgl
  have d1 := hbx9.cell 1
  have bn : ((c.villages.length : Int) != (c.villages.length : Int)) = false := by simp
  have bq1 : decide (q < 0) = false := by simp; omega
  have bq2 : decide (q > u2) = false := by simp; omega
  have pq1 : ¬ q < 0 := by omega
  have pq2 : ¬ q > u2 := by omega
  go_wp2_with fail
  clear d1 bn bq1 bq2 pq1 pq2
  go_loopw [13, 14, 15] (fun sg sb i wr => ∃ k : Nat, k ≤ c.villages.length ∧ i = .int .i64 k ∧ sg = .int .i64 (sumI (lb.take k) - sumI (la.take k)) ∧ sb = .int .i64 (sumI (lb.take k)) ∧ 0 ≤ sumI (la.take k) ∧ sumI (la.take k) ≤ sumI (lb.take k) ∧ sumI (lb.take k) ≤ 99 * k ∧ Qt w9 wr) (fun _ _ i _ => c.villages.length - (intOf i).toNat)
  case atStart => exact ⟨0, Nat.zero_le _, rfl, rfl, rfl, by simp [sumI], by simp [sumI], by simp [sumI], Qt.refl _⟩
  case round =>
    obtain ⟨k, hk, rfl, rfl, rfl, hs0, hs1', hs2', hqt⟩ := hrel
    by_cases hlt : k < c.villages.length
    · have hkb : k < lb.length := by have := HLB.out; omega
      have hka : k < la.length := by have := HLA.out; omega
      have hkg : k < (lateL lb la c.villages.length).length := by have := HGL.out; omega
      have e1 := (hvb.qt hqt).cell k hkb
      have e2 := (hvg9.qt hqt).cell k hkg
      rw [lateL_at lb la _ k hlt] at e2
      have bd := HBB.out _ (List.getElem_mem hkb)
      have hst1 := sumI_takeD lb k hkb
      have hst2 := sumI_takeD la k hka
      obtain ⟨l1, l2, l3⟩ := HLAW.out.1 k hlt
      have e3 : lb.getD k 0 = lb[k] := by simp [hkb]
      rw [← e3] at bd e1
      obtain ⟨x, hx⟩ : ∃ x, x = lb.getD k 0 := ⟨_, rfl⟩
      obtain ⟨y, hy⟩ : ∃ y, y = la.getD k 0 := ⟨_, rfl⟩
      rw [← hx] at e1 e2 bd hst1 l1 l3
      rw [← hy] at e2 hst2 l2 l3
      obtain ⟨p1, hp1⟩ : ∃ p1, p1 = sumI (lb.take k) := ⟨_, rfl⟩
      obtain ⟨p2, hp2⟩ : ∃ p2, p2 = sumI (la.take k) := ⟨_, rfl⟩
      rw [← hp1] at hst1 hs1' hs2' ⊢
      rw [← hp2] at hst2 hs0 hs1' ⊢
      have HS1 := Lib.hid hst1
      have HS2 := Lib.hid hst2
      have HX := Lib.hid hx
      have HY := Lib.hid hy
      have HE3 := Lib.hid e3
      clear hst1 hst2 e3 hx hy hp1 hp2
      have hf1 : ∀ w', Qt w9 w' → w'.cell? ⟨bb, ob + k, none⟩ = some (.int .i64 x) := fun w' h => HX.out ▸ HE3.out ▸ (hvb.qt h).cell k hkb
      have hf2 : ∀ w', Qt w9 w' → w'.cell? ⟨bg, og + k, none⟩ = some (.int .i64 (x - y)) := fun w' h => by
        have := (hvg9.qt h).cell k hkg
        rw [lateL_at lb la _ k hlt, ← HX.out, ← HY.out] at this
        exact this
      have b1 : decide (x - y < 0) = false := decide_eq_false (by omega)
      have b2 : decide (x - y > x) = false := decide_eq_false (by omega)
      have b3 : ¬ x - y < 0 := by omega
      have b4 : ¬ x - y > x := by omega
      go_wp2_with fail
      go_quiet (fail)
      rename_i nq
      have hq2 := hqt.drewN nq
      clear e1 e2 b1 b2 b3 b4
      generalize wr.drewN nq = w10 at *
      have e1 := hf1 _ hq2
      have e2 := hf2 _ hq2
      go_wp2_with fail
      go_quiet (fail)
      go_wp2
      go_roundw
      case rel => exact ⟨k + 1, by omega, by go_num, by rw [HS1.out, HS2.out]; congr 1; omega, by rw [HS1.out], by rw [HS2.out]; omega, by rw [HS1.out, HS2.out]; omega, by rw [HS1.out]; omega, hq2.drewN _⟩
      case measure => simp [intOf]; omega
    · obtain rfl : k = c.villages.length := by omega
      have hl := HLAW.out.2.2.2
      obtain ⟨g, hg, hg1, hg2⟩ := hl
      have hlt2 : lb.take c.villages.length = lb := List.take_of_length_le (by have := HLB.out; omega)
      rw [hlt2] at hs1' hs2' ⊢
      rw [← hg]
      rw [← HQ.out] at hg1 hg2
      have hgb : 0 ≤ g := by omega
      obtain ⟨p1, hp1⟩ : ∃ p1, p1 = sumI lb := ⟨_, rfl⟩
      rw [← hp1] at hs1' hs2' hg2 ⊢
      clear hg hp1 hs1' hlt2
      have b1 : decide (g ≤ q) = true := decide_eq_true hg1
      by_cases hpm : p1 < (m : Int)
      · have b2 : decide (p1 < (m : Int)) = true := decide_eq_true hpm
        clear hg2
        go_wp2_with (go_at_call 21; refine (drawn_c _).mono ?_; rintro e wz ⟨rfl, hBz⟩)
        go_ret
        exact ⟨rfl, bnx (bnx hT9 (hqt.below _)) hBz⟩
      · have b2 : decide (p1 < (m : Int)) = false := decide_eq_false hpm
        have hgq := hg2 (by omega)
        subst hgq
        have b3 : (g == g) = true := by simp
        clear hg2
        go_wp2_with (go_at_call 21; refine (drawn_c _).mono ?_; rintro e wz ⟨rfl, hBz⟩)
        go_ret
        exact ⟨rfl, bnx (bnx hT9 (hqt.below _)) hBz⟩

end Go.Proofs.Ythchpoabncdicaa
