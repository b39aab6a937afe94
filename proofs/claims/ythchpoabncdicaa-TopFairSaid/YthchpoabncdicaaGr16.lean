/- Mountains as pastures, and the commons of the villages that share them (mestatop): ranges; conditions: a hand. -/
import Derived.Test.YthchpoabncdicaaGr15
namespace Go.Proofs.Ythchpoabncdicaa
open Go.RowKit

theorem Try.info75 : (Try.prog.info? 75).map (fun i => (i.zero, i.size, i.bytes)) = some (some (.agg #[.int .i64 0, .int .i64 0, .int .i64 0, .int .i64 0, .int .i64 0, .int .i64 0]), 6, 48) := by kernel_rfl

theorem pas_one (p : Pas) : ∀ u ∈ [Value.int .i64 p.grass, .int .i64 p.bears, .int .i64 p.dry, .int .i64 p.wet, .int .i64 p.stub, .int .i64 p.sleep], u.oneCell' = true := by
  intro u hu
  simp only [List.mem_cons, List.not_mem_nil, or_false] at hu
  rcases hu with rfl | rfl | rfl | rfl | rfl | rfl <;> rfl
/-- What is known of the numbers after some rounds. -/
structure RD (s : Sky) (n i : Nat) (ms : List Int) (vs : List Vil) (ps : List Pas) : Prop where
  ml : ms.length = n
  vl : vs.length = n
  pl : ps.length = i
  mb : ∀ x ∈ ms, 0 ≤ x ∧ x ≤ 99
  vb : ∀ v ∈ vs, 1 ≤ v.hearths ∧ v.hearths ≤ 50 ∧ 0 ≤ v.herd ∧ v.herd ≤ 60 ∧ PermOf n v.likes
  hd : ∀ j (a : j < vs.length), j < i → vs[j].herd ≤ 40
  pk : ∀ j (a : j < ps.length), ps[j].Ok
  hh : ∀ j (a : j < ps.length) (b : j < ms.length), IsHeads ps[j] s ms[j]
theorem RD.next {s : Sky} {n i : Nat} {ms : List Int} {vs : List Vil} {ps : List Pas} {m y : Int} {p : Pas} (h : RD s n i ms vs ps) (hi : i < vs.length) (hm : IsHeads p s m) (hp : p.Ok) (hy : 0 ≤ y ∧ y ≤ 40) :
    RD s n (i + 1) (ms.set i m) (vs.set i ⟨vs[i].hearths, y, vs[i].likes⟩) (ps ++ [p]) := by
  have hpl := h.pl
  have hmr := hm.r
  refine ⟨by rw [List.length_set]; exact h.ml, by rw [List.length_set]; exact h.vl, by rw [List.length_append, h.pl]; rfl, fun x hx => ?_, fun v hv => ?_, fun j a hj => ?_, fun j a => ?_, fun j a b => ?_⟩
  · rcases List.mem_or_eq_of_mem_set hx with hx | rfl
    · exact h.mb x hx
    · omega
  · rcases List.mem_or_eq_of_mem_set hv with hv | rfl
    · exact h.vb v hv
    · have := h.vb vs[i] (List.getElem_mem hi)
      exact ⟨this.1, this.2.1, by show 0 ≤ y; omega, by show y ≤ 60; omega, this.2.2.2.2⟩
  · rw [List.getElem_set]
    split
    · exact hy.2
    · exact h.hd j (by simpa using a) (by omega)
  · by_cases e : j < ps.length
    · rw [List.getElem_append_left e]; exact h.pk j e
    · rw [List.getElem_append_right (by omega)]
      have e2 : j - ps.length = 0 := by simp at a; omega
      simp only [e2, List.getElem_cons_zero]
      exact hp
  · by_cases e : j < ps.length
    · rw [List.getElem_append_left e, List.getElem_set, if_neg (by omega)]
      exact h.hh j e (by simpa using b)
    · have e2 : j = i := by simp at a; omega
      subst e2
      rw [List.getElem_append_right (by omega), List.getElem_set, if_pos rfl]
      have e3 : j - ps.length = 0 := by omega
      simp only [e3, List.getElem_cons_zero]
      exact hm

set_option maxRecDepth 100000 in
set_option maxHeartbeats 2000000 in
theorem ranges_c {w : World} {hb k : Nat} (h : Hnd w hb k) (hk : k < 600000) :
    Calls Try.prog 51 #[.pointer (some ⟨hb, 0, none⟩)] w fun e w' => ∃ (vl vm vv : Value) (ms : List Int) (vs : List Vil) (ps : List Pas) (s : Sky), e = .returned (.tuple #[vl, (.agg #[.int .i64 s.days, .int .i64 s.drought, .int .i64 s.flood]), .agg #[vm, vv], .bool true]) ∧
      Cm (fun b => w.heap.size ≤ b) w' vm vv ⟨ms, vs⟩ ∧ RD s ms.length ms.length ms vs ps ∧ 1 ≤ ms.length ∧ ms.length ≤ 3 ∧ s.Ok ∧ Arr (fun b => w.heap.size ≤ b) w' vl ps.length (pcells ps) ∧ w.grownBy w' (some hb) := by
  have hlt := h.lt
  obtain ⟨rb, hrb⟩ : ∃ b, b = w.heap.size := ⟨_, rfl⟩
  obtain ⟨w2, hw2⟩ : ∃ w2, w2 = ((w.alloc (.cells #[.int .i64 0, .int .i64 0, .int .i64 0] 67)).alloc (.cells #[.slice none 0 0, .slice none 0 0] 25)) := ⟨_, rfl⟩
  have hR1 : Blk rb #[.int .i64 0, .int .i64 0, .int .i64 0] 67 w2 := by rw [hw2, hrb]; exact (blk_at rfl _ _).alloc _
  have hR2 : Blk (rb + 1) #[.slice none 0 0, .slice none 0 0] 25 w2 := by rw [hw2, hrb]; exact blk_at (by simp) _ _
  have hB2 : Below w.heap.size w w2 := by rw [hw2]; exact ((Below.refl _ w).alloc (Nat.le_refl _) _).alloc (by simp) _
  have hrl1 : w.heap.size ≤ rb := by omega
  have hH2 := h.call hB2
  have hG2 := only_below (r := hb) hB2
  go_enter Try.func51, Try.ntmps51
  go_upto_region 1 with fail
  rw [← hw2, ← hrb]
  clear hw2 hrb hB2
  go_wp2_with fail
  refine (commonsM_c hH2 (by omega) 3 (by omega) (by omega)).mono ?_
  rintro e w3 ⟨vm, vv, rfl, ⟨ms, vs, ls, hM3, hok⟩, ⟨k3, hk3, hH3⟩, hG3⟩
  have hn1 := hok.n1
  have hn2 := hok.n2
  have hvl := hok.vl
  simp only at hn1 hn2 hvl
  obtain ⟨gm, cm, rfl, hgm, hgmS⟩ := own_head hM3.om hn1
  obtain ⟨gv, cv, rfl, hgv, hgvS⟩ := own_head hM3.ov (by omega)
  obtain ⟨n, hn⟩ : ∃ n, n = ms.length := ⟨_, rfl⟩
  have hvn : vs.length = n := by rw [hn]; exact hvl
  rw [hvn] at hM3 ⊢
  rw [← hn] at hM3 hn1 hn2 ⊢
  have hrb2 := hR2.lt
  have hR1 := hR1.hand hG3 (by omega)
  have hR2 := hR2.hand hG3 (by omega)
  have hG3' := only_trans hG2 hG3
  have hz3 := hG3.size
  have hD0 : ∀ s, RD s n 0 ms vs [] := fun s => ⟨hn.symm, hvn, rfl, hok.bears, fun v hv => by have := hok.vil v hv; rw [hn]; exact this, fun j a hj => by omega, fun j a => by simp at a, fun j a => by simp at a⟩
  have hmn := hn.symm
  have HMN := Lib.hid hmn
  have HVN := Lib.hid hvn
  clear hG2 hG3 hvl hH2 hn hvn hmn hok
  go_upto_region 2 with fail
  obtain ⟨w4, hw4⟩ : ∃ w4, w4 = w3.alloc (.cells #[(.slice (some ⟨gm, 0, none⟩) n cm), (.slice (some ⟨gv, 0, none⟩) n cv)] 25) := ⟨_, rfl⟩
  obtain ⟨bc, hbc⟩ : ∃ b, b = w3.heap.size := ⟨_, rfl⟩
  have hC4 : Blk bc #[(.slice (some ⟨gm, 0, none⟩) n cm), (.slice (some ⟨gv, 0, none⟩) n cv)] 25 w4 := by rw [hw4, hbc]; exact blk_at rfl _ _
  have hB4 : Below w3.heap.size w3 w4 := by rw [hw4]; exact (Below.refl _ w3).alloc (Nat.le_refl _) _
  rw [← hw4, ← hbc]
  have hR14 := hR1.call hB4
  have hR24 := hR2.call hB4
  have hM4 := hM3.call hB4
  have hH4 := hH3.call hB4
  have hG4 := only_trans hG3' (only_below hB4)
  have hbcl : w3.heap.size ≤ bc := by omega
  clear hw4 hbc hB4 hR1 hR2 hM3 hH3 hG3'
  go_wp2_with fail
  refine (sky_c hH4 (by omega) 4 (by omega)).mono ?_
  rintro e w5 ⟨s, rfl, hs, ⟨k5, hk5, hH5⟩, hG5⟩
  have hbc5 := hC4.lt
  have hC5 := hC4.hand hG5 (by omega)
  have hR15 := hR14.hand hG5 (by omega)
  have hR25 := hR24.hand hG5 (by omega)
  have hM5 : MKB (w2.heap.size + 2) w5 (.slice (some ⟨gm, 0, none⟩) n cm) (.slice (some ⟨gv, 0, none⟩) n cv) ms vs ls := hM4.below hG5.size fun q h1 h2 => hG5.block q h2 (fun e => by injection e with e; omega)
  have hG5' := only_trans hG4 hG5
  have hz5 := hG5.size
  clear hC4 hR14 hR24 hM4 hH4 hG4 hG5
  go_upto_region 3 with fail
  obtain ⟨w6, hw6⟩ : ∃ w6, w6 = w5.alloc (.cells #[.int .i64 s.days, .int .i64 s.drought, .int .i64 s.flood] 67) := ⟨_, rfl⟩
  obtain ⟨bs, hbs⟩ : ∃ b, b = w5.heap.size := ⟨_, rfl⟩
  have hS6 : Blk bs #[.int .i64 s.days, .int .i64 s.drought, .int .i64 s.flood] 67 w6 := by rw [hw6, hbs]; exact blk_at rfl _ _
  have hB6 : Below w5.heap.size w5 w6 := by rw [hw6]; exact (Below.refl _ w5).alloc (Nat.le_refl _) _
  rw [← hw6, ← hbs]
  have hbsl : w5.heap.size ≤ bs := by omega
  have hrm := RM.of (hM5.call hB6) HMN.out HVN.out
  have hL0 : RL w hb rb bc bs (w2.heap.size + 2) w6.heap.size gm gv n cm cv s 0 (.slice none 0 0) ms vs ls [] (k + 200) w6 := ⟨hR15.call hB6, hR25.call hB6, hC5.call hB6, hS6, hrm, Own.nil, ⟨k5, by omega, hH5.call hB6⟩, only_trans hG5' (only_below hB6)⟩
  have ho : RO w hb rb bc bs (w2.heap.size + 2) w6.heap.size gm gv := ⟨hlt, hrl1, by omega, hgm, hgv, by omega, by omega, by omega, hS6.lt⟩
  clear hw6 hbs hB6 hM5 hR15 hR25 hC5 hS6 hH5 hG5' hrm
  obtain ⟨S, hS⟩ : ∃ S, S = w6.heap.size := ⟨_, rfl⟩
  obtain ⟨N, hN⟩ : ∃ N, N = w2.heap.size + 2 := ⟨_, rfl⟩
  rw [← hS, ← hN] at hL0 ho
  have hSw : S ≤ w6.heap.size := by omega
  clear hS hN
  go_wp2_with fail
  go_loopw [8, 9] (fun s8 s9 wr => ∃ i : Nat, i ≤ n ∧ s9 = .int .i64 i ∧ ∃ vl, vl = s8 ∧ ∃ ms vs ls ps, RL w hb rb bc bs N S gm gv n cm cv s i vl ms vs ls ps (k + 200 + 25 * i) wr ∧ RD s n i ms vs ps ∧ S ≤ wr.heap.size) (fun _ s9 _ => n - (intOf s9).toNat)
  case atStart => exact ⟨0, Nat.zero_le _, rfl, _, rfl, ms, vs, ls, [], hL0, hD0 s, hSw⟩
  case round =>
    clear hL0 hD0 HMN HVN hSw
    obtain ⟨i, hi, rfl, vl, rfl, ms, vs, ls, ps, hL, hD, hSr⟩ := hrel
    have c0 := hL.bC.cell 0
    by_cases hin : i < n
    · have hmi : i < ms.length := by have := hD.ml; omega
      have hvi : i < vs.length := by have := hD.vl; omega
      obtain ⟨kk, hkk, hH⟩ := hL.h
      go_wp2_with fail
      refine (pasture_c hH (by omega)).mono ?_
      rintro e w1 ⟨p, rfl, hp, ⟨k1, hk1, hH1⟩, hG1⟩
      have hL1 := hL.dealt ho hSr hG1 hH1 (by omega : k1 ≤ k + 200 + 25 * (i + 1))
      have hS1 : S ≤ w1.heap.size := Nat.le_trans hSr hG1.size
      clear hH hG1 hH1 c0 hL hSr
      go_upto_region 8 with fail
      obtain ⟨w4, hw4⟩ : ∃ w4, w4 = w1.alloc (.cells #[.int .i64 p.grass, .int .i64 p.bears, .int .i64 p.dry, .int .i64 p.wet, .int .i64 p.stub, .int .i64 p.sleep] 75) := ⟨_, rfl⟩
      obtain ⟨bp, hbp⟩ : ∃ b, b = w1.heap.size := ⟨_, rfl⟩
      have hP4 : Blk bp #[.int .i64 p.grass, .int .i64 p.bears, .int .i64 p.dry, .int .i64 p.wet, .int .i64 p.stub, .int .i64 p.sleep] 75 w4 := by rw [hw4, hbp]; exact blk_at rfl _ _
      have hB4 : Below w1.heap.size w1 w4 := by rw [hw4]; exact (Below.refl _ w1).alloc (Nat.le_refl _) _
      have hbpS : S ≤ bp := by omega
      rw [← hw4, ← hbp]
      have hL4 := hL1.below hS1 hB4
      have hS4 : S ≤ w4.heap.size := Nat.le_trans hS1 hB4.size
      clear hw4 hbp hB4 hL1 hS1
      have c0 := hP4.cell 0
      have c1 := hP4.cell 1
      have c2 := hP4.cell 2
      have c3 := hP4.cell 3
      have c4 := hP4.cell 4
      have c5 := hP4.cell 5
      have d0 := hL4.bS.cell 0
      have d1 := hL4.bS.cell 1
      have d2 := hL4.bS.cell 2
      go_wp2_with fail
      refine (heads_c hp hs).mono ?_
      rintro e w5 ⟨m, rfl, hm, hB5⟩
      have hL5 := hL4.below hS4 hB5
      have hS5 : S ≤ w5.heap.size := Nat.le_trans hS4 hB5.size
      have hP5 := hP4.call hB5
      have hmr := hm.r
      have bm0 : decide (m < 0) = false := decide_eq_false (by omega)
      have bm1 : decide (m > 40) = false := decide_eq_false (by omega)
      clear c0 c1 c2 c3 c4 c5 d0 d1 d2 hL4 hS4 hP4 hB5
      have c0 := hL5.bC.cell 0
      have y0 := hL5.rm.cellM i (by have := hL5.rm.ml; omega)
      have y1 := own_free hL5.rm.om i
      go_upto_region 12 with fail
      have hL6 := hL5.setM ho i m
      have hP6 := hP5.other (a := ⟨gm, i, none⟩) (by show bp ≠ gm; have := ho.o6; have := ho.o8; have := ho.o9; omega) (.int .i64 m)
      have hS6 : S ≤ (w5.setCell ⟨gm, i, none⟩ (.int .i64 m)).heap.size := by simpa [World.setCell] using hS5
      generalize w5.setCell ⟨gm, i, none⟩ (.int .i64 m) = w6 at *
      clear hL5 hS5 hP5 c0 y0 y1 bm0 bm1
      obtain ⟨hd, hhd⟩ : ∃ x, x = vs[i].herd := ⟨_, rfl⟩
      have hcy := (hL6.below hS6 (((Qt.refl w6).drewN 1).below _)).rm.cellH i hvi
      rw [← hhd] at hcy
      have hvb := hD.vb vs[i] (List.getElem_mem hvi)
      rw [← hhd] at hvb
      clear hhd
      refine wp_region_mix2 (.pur 0 (.one 1 (.pur 2 (.pur 3 (.one 4 (.pur 5 (.pur 6 (.pur 7 (.one 8 (.pur 9 (.pur 10 (.pur 11 (.act 12 .fin))))))))))))) 12 (fun w' => Blk bc #[.slice (some ⟨gm, 0, none⟩) n cm, .slice (some ⟨gv, 0, none⟩) n cv] 25 w' ∧ w'.cell? ⟨gv, i * 3 + 1, none⟩ = some (.int .i64 hd)) (fun _ => True) (by kernel_rfl) (by kernel_rfl) rfl (by kernel_rfl) ⟨hL6.bC.call (((Qt.refl w6).drewN 1).below _), hcy⟩ (fun wd hqd _ => ?_)
      refine mix_pur2 rfl (fun K hK => ?_)
      go_simp
      first | refine ⟨_, fun _ => rfl, hK _ ?_⟩ | refine hK _ ?_
      clear hK K
      refine mix_load2 rfl rfl rfl (.slice (some ⟨gv, 0, none⟩) n cv) (fun w' h => by have h : (fun w' => Blk bc #[.slice (some ⟨gm, 0, none⟩) n cm, .slice (some ⟨gv, 0, none⟩) n cv] 25 w' ∧ w'.cell? ⟨gv, i * 3 + 1, none⟩ = some (.int .i64 hd)) w' := h; have h0 := h.1.cell 1; go_simp) rfl ?_
      refine mix_pur2 rfl (fun K hK => ?_)
      go_simp
      first | refine ⟨_, fun _ => rfl, hK _ ?_⟩ | refine hK _ ?_
      clear hK K
      refine mix_pur2 rfl (fun K hK => ?_)
      go_simp
      first | refine ⟨_, fun _ => rfl, hK _ ?_⟩ | refine hK _ ?_
      clear hK K
      refine mix_load2 rfl rfl rfl (.slice (some ⟨gv, 0, none⟩) n cv) (fun w' h => by have h : (fun w' => Blk bc #[.slice (some ⟨gm, 0, none⟩) n cm, .slice (some ⟨gv, 0, none⟩) n cv] 25 w' ∧ w'.cell? ⟨gv, i * 3 + 1, none⟩ = some (.int .i64 hd)) w' := h; have h0 := h.1.cell 1; go_simp) rfl ?_
      refine mix_pur2 rfl (fun K hK => ?_)
      go_simp
      first | refine ⟨_, fun _ => rfl, hK _ ?_⟩ | refine hK _ ?_
      clear hK K
      refine mix_pur2 rfl (fun K hK => ?_)
      go_simp
      first | refine ⟨_, fun _ => rfl, hK _ ?_⟩ | refine hK _ ?_
      clear hK K
      refine mix_pur2 rfl (fun K hK => ?_)
      go_simp
      first | refine ⟨_, fun _ => rfl, hK _ ?_⟩ | refine hK _ ?_
      clear hK K
      refine mix_load2 rfl rfl rfl (.int .i64 hd) (fun w' h => by have h : (fun w' => Blk bc #[.slice (some ⟨gm, 0, none⟩) n cm, .slice (some ⟨gv, 0, none⟩) n cv] 25 w' ∧ w'.cell? ⟨gv, i * 3 + 1, none⟩ = some (.int .i64 hd)) w' := h; have h0 := h.2; go_simp) rfl ?_
      refine mix_pur2 rfl (fun K hK => ?_)
      go_simp
      first | refine ⟨_, fun _ => rfl, hK _ ?_⟩ | refine hK _ ?_
      clear hK K
      refine mix_pur2 rfl (fun K hK => ?_)
      go_simp
      first | refine ⟨_, fun _ => rfl, hK _ ?_⟩ | refine hK _ ?_
      clear hK K
      refine mix_pur2 rfl (fun K hK => ?_)
      go_simp
      first | refine ⟨_, fun _ => rfl, hK _ ?_⟩ | refine hK _ ?_
      clear hK K
      refine mix_eff2 rfl true rfl (fun K hK => ?_)
      have hX := hL6.below hS6 (hqd.below w6.heap.size)
      have y0 := hX.rm.cellH i (by have := hX.rm.vl; omega)
      have y1 : wd.frozen? ⟨gv, i * 3 + 1, none⟩ = false := own_free hX.rm.ov (i * 3 + 1)
      go_simp
      refine hK _ _ trivial ?_
      clear hK K y0 y1
      refine mix_done2 ?_
      obtain ⟨yy, hyy⟩ : ∃ y : Int, y = (if 40 < hd then 40 else hd) := ⟨_, rfl⟩
      rw [← hyy]
      have hy2 : 0 ≤ yy ∧ yy ≤ 40 := by rw [hyy]; split <;> omega
      have hL7 := (hL6.below hS6 (hqd.below _)).setH ho i hvi yy
      have hP7 := (hP6.call (hqd.below _)).other (a := ⟨gv, i * 3 + 1, none⟩) (by show bp ≠ gv; have := ho.o7; have := ho.o8; have := ho.o9; omega) (.int .i64 yy)
      have hS7 : S ≤ (wd.setCell ⟨gv, i * 3 + 1, none⟩ (.int .i64 yy)).heap.size := by have := (hqd.below w6.heap.size).size; simp [World.setCell]; omega
      generalize wd.setCell ⟨gv, i * 3 + 1, none⟩ (.int .i64 yy) = w7 at hL7 hP7 hS7 ⊢
      have hD7 := hD.next hvi hm hp hy2
      clear hyy hcy hL6 hP6 hS6 hX hvb hD
      have c0 := hP7.cell 0
      have c1 := hP7.cell 1
      have c2 := hP7.cell 2
      have c3 := hP7.cell 3
      have c4 := hP7.cell 4
      have c5 := hP7.cell 5
      have hB8 := (Below.refl w7.heap.size w7).alloc (Nat.le_refl _) (.cells #[.int .i64 p.grass, .int .i64 p.bears, .int .i64 p.dry, .int .i64 p.wet, .int .i64 p.stub, .int .i64 p.sleep] 75)
      have hL8 := hL7.below hS7 hB8
      have hS8 : S ≤ (w7.alloc (.cells #[.int .i64 p.grass, .int .i64 p.bears, .int .i64 p.dry, .int .i64 p.wet, .int .i64 p.stub, .int .i64 p.sleep] 75)).heap.size := Nat.le_trans hS7 hB8.size
      have hsrc := Own.arr (own_lit w7 75 6 #[.int .i64 p.grass, .int .i64 p.bears, .int .i64 p.dry, .int .i64 p.wet, .int .i64 p.stub, .int .i64 p.sleep] 1 rfl (by omega))
      go_wp2_with (at_builtin; refine wpList_append_arr rfl _ _ 65 rfl 75 _ 6 48 Try.underlying65 Try.info75 rfl (by decide) (by decide) hS8 hL8.pl rfl hsrc rfl rfl (pas_one p) (by omega) ?_; intro v' w9 hown hT)
      have hL9 := hL8.push ho hS8 hown hT
      have hS9 : S ≤ w9.heap.size := Nat.le_trans hS8 hT.size
      go_roundw
      case rel => exact ⟨i + 1, by omega, by go_num, _, rfl, _, _, _, _, hL9, hD7, hS9⟩
      case measure => simp [intOf]; omega
    · obtain rfl : i = n := by omega
      have hml := hD.ml
      have hrm := hL.rm
      go_upto_region 14 with fail
      refine wp_region_mix2 (.pur 0 (.one 1 (.pur 2 (.pur 3 (.act 4 (.act 5 (.pur 6 .fin))))))) 4 (fun w' => Blk bs #[.int .i64 s.days, .int .i64 s.drought, .int .i64 s.flood] 67 w' ∧ Blk bc #[.slice (some ⟨gm, 0, none⟩) i cm, .slice (some ⟨gv, 0, none⟩) i cv] 25 w') (Blk bc #[.slice (some ⟨gm, 0, none⟩) i cm, .slice (some ⟨gv, 0, none⟩) i cv] 25) (by kernel_rfl) (by kernel_rfl) rfl (by kernel_rfl) ⟨hL.bS.call (((Qt.refl wr).drewN 1).below _), hL.bC.call (((Qt.refl wr).drewN 1).below _)⟩ (fun wd hqd _ => ?_)
      refine mix_pur2 rfl (fun K hK => ?_)
      go_simp
      first | refine ⟨_, fun _ => rfl, hK _ ?_⟩ | refine hK _ ?_
      clear hK K
      refine mix_load2 rfl rfl rfl (.agg #[.int .i64 s.days, .int .i64 s.drought, .int .i64 s.flood]) (fun w' h => by have h : (fun w' => Blk bs #[.int .i64 s.days, .int .i64 s.drought, .int .i64 s.flood] 67 w' ∧ Blk bc #[.slice (some ⟨gm, 0, none⟩) i cm, .slice (some ⟨gv, 0, none⟩) i cv] 25 w') w' := h; have h0 := h.1.cell 0; have h1 := h.1.cell 1; have h2 := h.1.cell 2; go_simp) rfl ?_
      refine mix_pload2 rfl rfl rfl (.agg #[.slice (some ⟨gm, 0, none⟩) i cm, .slice (some ⟨gv, 0, none⟩) i cv]) (fun w' h => by have h : (fun w' => Blk bs #[.int .i64 s.days, .int .i64 s.drought, .int .i64 s.flood] 67 w' ∧ Blk bc #[.slice (some ⟨gm, 0, none⟩) i cm, .slice (some ⟨gv, 0, none⟩) i cv] 25 w') w' ∨ (Blk bc #[.slice (some ⟨gm, 0, none⟩) i cm, .slice (some ⟨gv, 0, none⟩) i cv] 25) w' := h; have h0 := (h.elim (fun h => h.2) id).cell 0; have h1 := (h.elim (fun h => h.2) id).cell 1; go_simp) rfl ?_
      refine mix_pur2 rfl (fun K hK => ?_)
      go_simp
      first | refine ⟨_, fun _ => rfl, hK _ ?_⟩ | refine hK _ ?_
      clear hK K
      refine mix_eff2 rfl true rfl (fun K hK => ?_)
      have hX := hL.below hSr (hqd.below wr.heap.size)
      have y0 := hX.r1.cell 0
      have y1 := hX.r1.cell 1
      have y2 := hX.r1.cell 2
      have f0 := hX.r1.free 0
      have f1 := hX.r1.free 1
      have f2 := hX.r1.free 2
      go_simp
      refine hK _ _ (((hX.bC.other (a := ⟨rb, 0, none⟩) (by show bc ≠ rb; have := ho.o3; have := ho.o4; have := ho.o6; omega) _).other (a := ⟨rb, 1, none⟩) (by show bc ≠ rb; have := ho.o3; have := ho.o4; have := ho.o6; omega) _).other (a := ⟨rb, 2, none⟩) (by show bc ≠ rb; have := ho.o3; have := ho.o4; have := ho.o6; omega) _) ?_
      clear hK K y0 y1 y2 f0 f1 f2
      have hX4 : Blk rb #[.int .i64 s.days, .int .i64 s.drought, .int .i64 s.flood] 67 (((wd.setCell ⟨rb, 0, none⟩ (.int .i64 s.days)).setCell ⟨rb, 1, none⟩ (.int .i64 s.drought)).setCell ⟨rb, 2, none⟩ (.int .i64 s.flood)) := by simpa using ((hX.r1.set 0 (.int .i64 s.days)).set 1 (.int .i64 s.drought)).set 2 (.int .i64 s.flood)
      have hY4 := ((hX.r2.other (a := ⟨rb, 0, none⟩) (by simp) (.int .i64 s.days)).other (a := ⟨rb, 1, none⟩) (by simp) (.int .i64 s.drought)).other (a := ⟨rb, 2, none⟩) (by simp) (.int .i64 s.flood)
      refine mix_eff2 rfl true rfl (fun K hK => ?_)
      have y0 := hY4.cell 0
      have y1 := hY4.cell 1
      have f0 := hY4.free 0
      have f1 := hY4.free 1
      go_simp
      refine hK _ _ (((((hX.bC.other (a := ⟨rb, 0, none⟩) (by show bc ≠ rb; have := ho.o3; have := ho.o4; have := ho.o6; omega) _).other (a := ⟨rb, 1, none⟩) (by show bc ≠ rb; have := ho.o3; have := ho.o4; have := ho.o6; omega) _).other (a := ⟨rb, 2, none⟩) (by show bc ≠ rb; have := ho.o3; have := ho.o4; have := ho.o6; omega) _).other (a := ⟨rb + 1, 0, none⟩) (by show bc ≠ rb + 1; have := ho.o3; have := ho.o4; have := ho.o6; omega) _).other (a := ⟨rb + 1, 1, none⟩) (by show bc ≠ rb + 1; have := ho.o3; have := ho.o4; have := ho.o6; omega) _) ?_
      clear hK K y0 y1 f0 f1
      refine mix_pur2 rfl (fun K hK => ?_)
      go_simp
      first | refine ⟨_, fun _ => rfl, hK _ ?_⟩ | refine hK _ ?_
      clear hK K
      refine mix_done2 ?_
      have hY5 : Blk (rb + 1) #[.slice (some ⟨gm, 0, none⟩) i cm, .slice (some ⟨gv, 0, none⟩) i cv] 25 (((((wd.setCell ⟨rb, 0, none⟩ (.int .i64 s.days)).setCell ⟨rb, 1, none⟩ (.int .i64 s.drought)).setCell ⟨rb, 2, none⟩ (.int .i64 s.flood)).setCell ⟨rb + 1, 0, none⟩ (.slice (some ⟨gm, 0, none⟩) i cm)).setCell ⟨rb + 1, 1, none⟩ (.slice (some ⟨gv, 0, none⟩) i cv)) := by simpa using (hY4.set 0 (.slice (some ⟨gm, 0, none⟩) i cm)).set 1 (.slice (some ⟨gv, 0, none⟩) i cv)
      have hX5 := (hX4.other (a := ⟨rb + 1, 0, none⟩) (by simp) (.slice (some ⟨gm, 0, none⟩) i cm)).other (a := ⟨rb + 1, 1, none⟩) (by simp) (.slice (some ⟨gv, 0, none⟩) i cv)
      have hoth : ∀ q, q ≠ rb → q ≠ rb + 1 → (((((wd.setCell ⟨rb, 0, none⟩ (.int .i64 s.days)).setCell ⟨rb, 1, none⟩ (.int .i64 s.drought)).setCell ⟨rb, 2, none⟩ (.int .i64 s.flood)).setCell ⟨rb + 1, 0, none⟩ (.slice (some ⟨gm, 0, none⟩) i cm)).setCell ⟨rb + 1, 1, none⟩ (.slice (some ⟨gv, 0, none⟩) i cv)).heap[q]? = wd.heap[q]? := fun q h1 h2 =>
        (((((Below.heap_setCell _ _ _ _ (show q ≠ rb + 1 from h2)).trans (Below.heap_setCell _ _ _ _ (show q ≠ rb + 1 from h2))).trans (Below.heap_setCell _ _ _ _ (show q ≠ rb from h1))).trans (Below.heap_setCell _ _ _ _ (show q ≠ rb from h1))).trans (Below.heap_setCell _ _ _ _ (show q ≠ rb from h1)))
      have hsz : wd.heap.size ≤ (((((wd.setCell ⟨rb, 0, none⟩ (.int .i64 s.days)).setCell ⟨rb, 1, none⟩ (.int .i64 s.drought)).setCell ⟨rb, 2, none⟩ (.int .i64 s.flood)).setCell ⟨rb + 1, 0, none⟩ (.slice (some ⟨gm, 0, none⟩) i cm)).setCell ⟨rb + 1, 1, none⟩ (.slice (some ⟨gv, 0, none⟩) i cv)).heap.size := by simp [World.setCell]
      have hG9 : w.grownBy (((((wd.setCell ⟨rb, 0, none⟩ (.int .i64 s.days)).setCell ⟨rb, 1, none⟩ (.int .i64 s.drought)).setCell ⟨rb, 2, none⟩ (.int .i64 s.flood)).setCell ⟨rb + 1, 0, none⟩ (.slice (some ⟨gm, 0, none⟩) i cm)).setCell ⟨rb + 1, 1, none⟩ (.slice (some ⟨gv, 0, none⟩) i cv)) (some hb) := only_setCell (only_setCell (only_setCell (only_setCell (only_setCell hX.g hrl1 _) hrl1 _) hrl1 _) (show w.heap.size ≤ rb + 1 by omega) _) (show w.heap.size ≤ rb + 1 by omega) _
      generalize (((((wd.setCell ⟨rb, 0, none⟩ (.int .i64 s.days)).setCell ⟨rb, 1, none⟩ (.int .i64 s.drought)).setCell ⟨rb, 2, none⟩ (.int .i64 s.flood)).setCell ⟨rb + 1, 0, none⟩ (.slice (some ⟨gm, 0, none⟩) i cm)).setCell ⟨rb + 1, 1, none⟩ (.slice (some ⟨gv, 0, none⟩) i cv)) = wz at hY5 hX5 hoth hsz hG9 ⊢
      have o3 := ho.o3
      have o4 := ho.o4
      have o6 := ho.o6
      have o8 := ho.o8
      have o9 := ho.o9
      have hCm := hX.rm.com.step (w' := wz) hsz fun q hq _ => hoth q (by omega) (by omega)
      have hPl := Own.step (w' := wz) hX.pl fun q _ h1 _ => hoth q (by omega) (by omega)
      have hpl := hD.pl
      have e0 := hX5.cell 0
      have e1 := hX5.cell 1
      have e2 := hX5.cell 2
      have e3 := hY5.cell 0
      have e4 := hY5.cell 1
      go_wp2_with fail
      refine bodyPost_ret (v := .tuple #[vl, .agg #[.int .i64 s.days, .int .i64 s.drought, .int .i64 s.flood], .agg #[(.slice (some ⟨gm, 0, none⟩) i cm), (.slice (some ⟨gv, 0, none⟩) i cv)], .bool true]) (by simp [results, Try.results51, go_sem, e0, e1, e2, e3, e4]) rfl ⟨_, _, _, ms, vs, ps, s, rfl, hCm.wide fun q hq _ => by omega, ?_, by omega, by omega, hs, ?_, hG9⟩
      · rw [hml]; exact hD
      · rw [hpl]; exact (Own.arr hPl).wide fun q hq _ => by omega

end Go.Proofs.Ythchpoabncdicaa
