/- The chapter's examples (edge); conditions: none. -/
import Derived.Test.YtbpfhoihfoojfaaGreatDoorTq
import Derived.Test.YtbpfhoihfoojfaaGreatDoorCw
import Derived.Test.YtbpfhoihfoojfaaGreatDoorFq
import Derived.Test.YtbpfhoihfoojfaaGreatDoorCk
import Derived.Test.YtbpfhoihfoojfaaGreatDoorPla
namespace Go.Proofs.YtbpfhoihfoojfaaGreatDoor
open Go.RowKit

set_option maxHeartbeats 1000000 in
theorem ofr_c (a b : Int) (w : World) : Calls Tryz.prog 24 #[.int .i64 a, .int .i64 b] w fun e w' => e = .returned (.agg #[.int .i64 a, .int .i64 b]) ∧ Below w.heap.size w w' := by
  obtain ⟨w1, hw1⟩ : ∃ w1, w1 = w.alloc (.cells #[.int .i64 0, .int .i64 0] 59) := ⟨_, rfl⟩
  obtain ⟨b0, hb0⟩ : ∃ b, b = w.heap.size := ⟨_, rfl⟩
  have hO1 : Blk b0 #[.int .i64 0, .int .i64 0] 59 w1 := by rw [hw1, hb0]; exact Blk.new _ _ _
  have hB1 : Below w.heap.size w w1 := by rw [hw1]; exact (Below.refl _ w).alloc (Nat.le_refl _) _
  go_enter Tryz.func24, Tryz.ntmps24
  go_upto_region 1 with fail
  rw [← hw1, ← hb0]
  have hbw : w.heap.size ≤ b0 := Nat.le_of_eq hb0.symm
  clear hw1 hb0
  have f0 := hO1.free 0
  have c0 := hO1.cell 0
  have f1 := hO1.free 1
  have c1 := hO1.cell 1
  go_wp2
  have hO2 := ((hO1.set 0 (.int .i64 a)).set 1 (.int .i64 b))
  have hB2 := ((hB1.setCell (p := ⟨b0, 0, none⟩) hbw (.int .i64 a)).setCell (p := ⟨b0, 1, none⟩) hbw (.int .i64 b))
  generalize ((w1.setCell ⟨b0, 0, none⟩ (.int .i64 a)).setCell ⟨b0, 1, none⟩ (.int .i64 b)) = wf at hO2 hB2 ⊢
  have x0 := hO2.cell 0
  have x1 := hO2.cell 1
  exact bodyPost_ret (v := .agg #[.int .i64 a, .int .i64 b]) (by simp [results, Tryz.results24, go_sem, x0, x1]) rfl ⟨rfl, hB2⟩

set_option maxHeartbeats 1000000 in
theorem claim_c (a b c : Int) (w : World) : Calls Tryz.prog 20 #[.int .i64 a, .int .i64 b, .int .i64 c] w fun e w' => e = .returned (.agg #[.int .i64 a, .int .i64 b, .int .i64 0, .int .i64 c, .int .i64 0]) ∧ Below w.heap.size w w' := by
  obtain ⟨w1, hw1⟩ : ∃ w1, w1 = w.alloc (.cells #[.int .i64 0, .int .i64 0, .int .i64 0, .int .i64 0, .int .i64 0] 54) := ⟨_, rfl⟩
  obtain ⟨b0, hb0⟩ : ∃ b, b = w.heap.size := ⟨_, rfl⟩
  have hO1 : Blk b0 #[.int .i64 0, .int .i64 0, .int .i64 0, .int .i64 0, .int .i64 0] 54 w1 := by rw [hw1, hb0]; exact Blk.new _ _ _
  have hB1 : Below w.heap.size w w1 := by rw [hw1]; exact (Below.refl _ w).alloc (Nat.le_refl _) _
  go_enter Tryz.func20, Tryz.ntmps20
  go_upto_region 1 with fail
  rw [← hw1, ← hb0]
  have hbw : w.heap.size ≤ b0 := Nat.le_of_eq hb0.symm
  clear hw1 hb0
  have f0 := hO1.free 0
  have c0 := hO1.cell 0
  have f1 := hO1.free 1
  have c1 := hO1.cell 1
  have f2 := hO1.free 2
  have c2 := hO1.cell 2
  have f3 := hO1.free 3
  have c3 := hO1.cell 3
  have f4 := hO1.free 4
  have c4 := hO1.cell 4
  go_wp2
  have hO2 := (((((hO1.set 0 (.int .i64 a)).set 1 (.int .i64 b)).set 2 (.int .i64 0)).set 3 (.int .i64 c)).set 4 (.int .i64 0))
  have hB2 := (((((hB1.setCell (p := ⟨b0, 0, none⟩) hbw (.int .i64 a)).setCell (p := ⟨b0, 1, none⟩) hbw (.int .i64 b)).setCell (p := ⟨b0, 2, none⟩) hbw (.int .i64 0)).setCell (p := ⟨b0, 3, none⟩) hbw (.int .i64 c)).setCell (p := ⟨b0, 4, none⟩) hbw (.int .i64 0))
  generalize (((((w1.setCell ⟨b0, 0, none⟩ (.int .i64 a)).setCell ⟨b0, 1, none⟩ (.int .i64 b)).setCell ⟨b0, 2, none⟩ (.int .i64 0)).setCell ⟨b0, 3, none⟩ (.int .i64 c)).setCell ⟨b0, 4, none⟩ (.int .i64 0)) = wf at hO2 hB2 ⊢
  have x0 := hO2.cell 0
  have x1 := hO2.cell 1
  have x2 := hO2.cell 2
  have x3 := hO2.cell 3
  have x4 := hO2.cell 4
  exact bodyPost_ret (v := .agg #[.int .i64 a, .int .i64 b, .int .i64 0, .int .i64 c, .int .i64 0]) (by simp [results, Tryz.results20, go_sem, x0, x1, x2, x3, x4]) rfl ⟨rfl, hB2⟩

theorem cls_one (l : List Cl) : ∀ u ∈ l.flatMap ccells, u.oneCell' = true := by
  intro u hu
  obtain ⟨c, _, hc⟩ := List.mem_flatMap.1 hu
  exact ccells_one c u hc
theorem rgs3 (w : World) (a b c d e f : Int) : RgsM (fun q => w.heap.size ≤ q) (w.alloc (.cells #[.int .i64 a, .int .i64 b, .int .i64 c, .int .i64 d, .int .i64 e, .int .i64 f] 59)) (.slice (some ⟨w.heap.size, 0, none⟩) 3 3) [(a, b), (c, d), (e, f)] :=
  Own.arr (own_lit w 59 2 #[.int .i64 a, .int .i64 b, .int .i64 c, .int .i64 d, .int .i64 e, .int .i64 f] 3 rfl (by omega))

set_option maxRecDepth 100000 in
theorem ploughs_c (w : World) : Calls Tryz.prog 22 #[] w fun e w' => ∃ v, e = .returned v ∧ FusM (fun q => w.heap.size ≤ q) w' v ploughF ∧ Below w.heap.size w w' := by
  have hP : FusM (fun q => w.heap.size ≤ q) (w.alloc (.cells #[.int .i64 1, .int .i64 3, .int .i64 5, .int .i64 1, .int .i64 8, .int .i64 3, .int .i64 2, .int .i64 5, .int .i64 6] 73)) (.slice (some ⟨w.heap.size, 0, none⟩) 3 3) ploughF := Own.arr (own_lit w 73 3 #[.int .i64 1, .int .i64 3, .int .i64 5, .int .i64 1, .int .i64 8, .int .i64 3, .int .i64 2, .int .i64 5, .int .i64 6] 3 rfl (by omega))
  have hB := (Below.refl w.heap.size w).alloc (Nat.le_refl _) (.cells #[.int .i64 1, .int .i64 3, .int .i64 5, .int .i64 1, .int .i64 8, .int .i64 3, .int .i64 2, .int .i64 5, .int .i64 6] 73)
  go_enter Tryz.func22, Tryz.ntmps22
  go_wp2
  go_ret
  exact ⟨_, rfl, hP, hB⟩

set_option maxRecDepth 100000 in
set_option maxHeartbeats 1000000 in
theorem bank_c {A : Nat → Prop} {w : World} {v : Value} {l : List Cl} (h : ClsM A w v l) (hl : l.length ≤ 10) :
    Calls Tryz.prog 17 #[v] w fun e w' => ∃ v', e = .returned (.agg #[.int .i64 3, .int .i64 2, v']) ∧ ClsM (fun q => w.heap.size ≤ q) w' v' (bankE l).claims ∧ Below w.heap.size w w' := by
  obtain ⟨a1, cp, rfl, _, _⟩ := h.shape
  obtain ⟨w1, hw1⟩ : ∃ w1, w1 = w.alloc (.cells #[.int .i64 0, .int .i64 0, .slice none 0 0] 24) := ⟨_, rfl⟩
  obtain ⟨b2, hb2⟩ : ∃ b, b = w.heap.size := ⟨_, rfl⟩
  have hO1 : Blk b2 #[.int .i64 0, .int .i64 0, .slice none 0 0] 24 w1 := by rw [hw1, hb2]; exact Blk.new _ _ _
  have hB1 : Below w.heap.size w w1 := by rw [hw1]; exact (Below.refl _ w).alloc (Nat.le_refl _) _
  go_enter Tryz.func17, Tryz.ntmps17
  go_upto_region 1 with fail
  rw [← hw1, ← hb2]
  have hbw : w.heap.size ≤ b2 := Nat.le_of_eq hb2.symm
  clear hw1 hb2
  go_wp2_with fail
  refine (claim_c 1 0 4 _).mono ?_
  rintro e w2 ⟨rfl, hB2⟩
  go_wp2_with fail
  refine (claim_c 3 1 5 _).mono ?_
  rintro e w3 ⟨rfl, hB3⟩
  have hB13 := bnx hB1 (bnx hB2 hB3)
  have hO3 := (hO1.call hB2).call hB3
  have hz3 := hO3.lt
  have h4 := (h.call hB13).call ((Below.refl w3.heap.size w3).alloc (Nat.le_refl _) (.cells #[.int .i64 1, .int .i64 0, .int .i64 0, .int .i64 4, .int .i64 0, .int .i64 2, .int .i64 2, .int .i64 0, .int .i64 7, .int .i64 1, .int .i64 3, .int .i64 1, .int .i64 0, .int .i64 5, .int .i64 0] 54))
  have hown := own_lit w3 54 5 #[.int .i64 1, .int .i64 0, .int .i64 0, .int .i64 4, .int .i64 0, .int .i64 2, .int .i64 2, .int .i64 0, .int .i64 7, .int .i64 1, .int .i64 3, .int .i64 1, .int .i64 0, .int .i64 5, .int .i64 0] 3 rfl (by omega)
  have hO4 := hO3.alloc (.cells #[.int .i64 1, .int .i64 0, .int .i64 0, .int .i64 4, .int .i64 0, .int .i64 2, .int .i64 2, .int .i64 0, .int .i64 7, .int .i64 1, .int .i64 3, .int .i64 1, .int .i64 0, .int .i64 5, .int .i64 0] 54)
  have hB4 := bal2 (o := .cells #[.int .i64 1, .int .i64 0, .int .i64 0, .int .i64 4, .int .i64 0, .int .i64 2, .int .i64 2, .int .i64 0, .int .i64 7, .int .i64 1, .int .i64 3, .int .i64 1, .int .i64 0, .int .i64 5, .int .i64 0] 54) hB13
  go_wp2_with (at_builtin; go_loud (refine wpList_append_arr rfl _ _ 22 rfl 54 _ 5 40 Tryz.underlying22 Tryz.info54 rfl (by decide) (by decide) (by simp) hown rfl h4 rfl (flat_len ccells_len l) (cls_one l) (by omega) ?_; intro v' w5 hown5 hT; obtain ⟨a5, c5, rfl⟩ := own_slice hown5; have hO5 := hO4.keep (hT.block _ hO4.lt (fun e => by have := (World.ownsRow.lt hown _ e).1; omega)); have o0 := hO5.cell 0; have o1 := hO5.cell 1; have o2 := hO5.cell 2; have g0 := hO5.free 0; have g1 := hO5.free 1; have g2 := hO5.free 2))
  have hO6 := hO5.set3 (x' := .int .i64 3) (y' := .int .i64 2) (z' := .slice a5 (3 + l.length) c5)
  have hB5 := hT.below2 hown hB4 (by simp; have := hB13.size; omega) (by have := hB13.size; omega)
  have hB6 := ((hB5.setCell (p := ⟨b2, 0, none⟩) hbw (.int .i64 3)).setCell (p := ⟨b2, 1, none⟩) hbw (.int .i64 2)).setCell (p := ⟨b2, 2, none⟩) hbw (.slice a5 (3 + l.length) c5)
  have hR6 : ClsM (fun q => w3.heap.size ≤ q) (((w5.setCell ⟨b2, 0, none⟩ (.int .i64 3)).setCell ⟨b2, 1, none⟩ (.int .i64 2)).setCell ⟨b2, 2, none⟩ (.slice a5 (3 + l.length) c5)) (.slice a5 (3 + l.length) c5) (bankE l).claims := by
    have h1 : ClsM (fun q => w3.heap.size ≤ q) w5 (.slice a5 (3 + l.length) c5) (bankE l).claims := by
      have h2 := Own.arr hown5
      show Arr _ _ _ ((bankE l).claims).length _
      have e1 : (bankE l).claims.length = 3 + l.length := by simp [bankE]; omega
      have e2 : (bankE l).claims.flatMap ccells = #[.int .i64 1, .int .i64 0, .int .i64 0, .int .i64 4, .int .i64 0, .int .i64 2, .int .i64 2, .int .i64 0, .int .i64 7, .int .i64 1, .int .i64 3, .int .i64 1, .int .i64 0, .int .i64 5, .int .i64 0].toList ++ l.flatMap ccells := by simp [bankE, ccells]
      rw [e1, e2]
      exact h2
    exact h1.step (by simp [World.setCell]) fun q hq _ => (Below.heap_setCell _ _ _ _ (show q ≠ b2 by omega)).trans ((Below.heap_setCell _ _ _ _ (show q ≠ b2 by omega)).trans (Below.heap_setCell _ _ _ _ (show q ≠ b2 by omega)))
  generalize ((w5.setCell ⟨b2, 0, none⟩ (.int .i64 3)).setCell ⟨b2, 1, none⟩ (.int .i64 2)).setCell ⟨b2, 2, none⟩ (.slice a5 (3 + l.length) c5) = wf at hO6 hB6 hR6 ⊢
  have x0 := hO6.cell 0
  have x1 := hO6.cell 1
  have x2 := hO6.cell 2
  exact bodyPost_ret (v := .agg #[.int .i64 3, .int .i64 2, .slice a5 (3 + l.length) c5]) (by simp [results, Tryz.results17, go_sem, x0, x1, x2]) rfl ⟨_, rfl, hR6.wide fun q hq _ => by have := hB13.size; omega, hB6⟩

theorem bankCount {A : Nat → Prop} {w : World} {v : Value} (h : ClsM A w v (bankE []).claims) : Calls Tryz.prog 16 #[.agg #[.int .i64 3, .int .i64 2, v]] w fun e w' => e = .returned (.tuple #[.int .i64 3, .int .i64 0]) ∧ Below w.heap.size w w' := by
  have := count25_c (x := bankE []) h
  rw [known_count] at this
  exact this
theorem bankBounds {A : Nat → Prop} {w : World} {v : Value} (h : ClsM A w v (bankE []).claims) : Calls Tryz.prog 18 #[.agg #[.int .i64 3, .int .i64 2, v]] w fun e w' => ∃ v', e = .returned (.tuple #[v', .int .i64 0]) ∧ RgsM (fun q => w.heap.size ≤ q) w' v' [(4, 4), (4, 5), (6, 7)] ∧ Below w.heap.size w w' := by
  have := bounds27_c (x := bankE []) h
  rw [known_bounds] at this
  exact this
theorem bankClash {A : Nat → Prop} {w : World} {v : Value} (h : ClsM A w v (bankE [⟨1, 1, 0, 7, 0⟩]).claims) : Calls Tryz.prog 19 #[.agg #[.int .i64 3, .int .i64 2, v]] w fun e w' => ∃ v', e = .returned (.tuple #[v', .int .i64 0]) ∧ Ints (fun q => w.heap.size ≤ q) w' v' [0, 3] ∧ Below w.heap.size w w' := by
  have := clash_c (x := bankE [⟨1, 1, 0, 7, 0⟩]) h
  rw [known_clash] at this
  exact this
theorem bankEncr {A A' : Nat → Prop} {w : World} {v vl : Value} (h : ClsM A w v (bankE []).claims) (hl : FusM A' w vl ploughF) : Calls Tryz.prog 21 #[.agg #[.int .i64 3, .int .i64 2, v], vl, .int .i64 8] w fun e w' => ∃ v', e = .returned (.tuple #[v', .int .i64 0]) ∧ Ints (fun q => w.heap.size ≤ q) w' v' [2, 1, 3] ∧ Below w.heap.size w w' := by
  have := encr_c (x := bankE []) h hl 8
  rw [known_encr] at this
  exact this
theorem bankFine {A A' : Nat → Prop} {w : World} {v vl : Value} (h : ClsM A w v (bankE []).claims) (hl : FusM A' w vl ploughF) : Calls Tryz.prog 23 #[.agg #[.int .i64 3, .int .i64 2, v], vl, .int .i64 2, .int .i64 7, .int .i64 8] w fun e w' => e = .returned (.tuple #[.agg #[.int .i64 2, .int .i64 8], .int .i64 0]) ∧ Below w.heap.size w w' := by
  have := fine_c (x := bankE []) h hl 2 7 8
  rw [known_fine] at this
  exact this

set_option maxRecDepth 100000 in
set_option maxHeartbeats 2000000 in
theorem surveyed_c (w : World) : Calls Tryz.prog 5 #[] w fun e w' => e = .returned (.bool true) ∧ Below w.heap.size w w' := by
  have hnil : ∀ w, ClsM (fun _ => True) w (.slice none 0 0) [] := fun w => ⟨none, 0, rfl, Nat.le_refl _, ⟨by unfold maxLen; omega, fun _ => rfl⟩, .inl rfl⟩
  go_enter Tryz.func5, Tryz.ntmps5
  go_wp2_with fail
  refine (bank_c (hnil _) (by simp)).mono ?_
  rintro e w1 ⟨v1, rfl, h1, hB1⟩
  go_wp2_with fail
  refine (bankCount h1).mono ?_
  rintro e w2 ⟨rfl, hB2⟩
  have hS2 := bnx hB1 hB2
  clear hB1 hB2 h1
  go_wp2_with fail
  refine (bank_c (hnil _) (by simp)).mono ?_
  rintro e w3 ⟨v3, rfl, h3, hB3⟩
  go_wp2_with fail
  refine (bankBounds h3).mono ?_
  rintro e w4 ⟨v4, rfl, h4, hB4⟩
  have hS4 := bnx hS2 (bnx hB3 hB4)
  obtain ⟨a4, c4, rfl, _, _⟩ := h4.shape
  clear hB3 hB4 h3 hS2
  go_wp2_with fail
  refine (claim_c 1 1 7 _).mono ?_
  rintro e w5 ⟨rfl, hB5⟩
  go_wp2_with fail
  have h6 : ClsM (fun q => w5.heap.size ≤ q) (w5.alloc (.cells #[.int .i64 1, .int .i64 1, .int .i64 0, .int .i64 7, .int .i64 0] 54)) (.slice (some ⟨w5.heap.size, 0, none⟩) 1 1) [⟨1, 1, 0, 7, 0⟩] := Own.arr (own_lit w5 54 5 #[.int .i64 1, .int .i64 1, .int .i64 0, .int .i64 7, .int .i64 0] 1 rfl (by omega))
  have hS6 := bal2 (o := .cells #[.int .i64 1, .int .i64 1, .int .i64 0, .int .i64 7, .int .i64 0] 54) (bnx hS4 hB5)
  have h46 := (h4.call hB5).call ((Below.refl w5.heap.size w5).alloc (Nat.le_refl _) (.cells #[.int .i64 1, .int .i64 1, .int .i64 0, .int .i64 7, .int .i64 0] 54))
  refine (bank_c h6 (by simp)).mono ?_
  rintro e w7 ⟨v7, rfl, h7, hB7⟩
  go_wp2_with fail
  refine (bankClash h7).mono ?_
  rintro e w8 ⟨v8, rfl, h8, hB8⟩
  have hS8 := bnx hS6 (bnx hB7 hB8)
  have h48 := (h46.call hB7).call hB8
  obtain ⟨a8, c8, rfl, _, _⟩ := h8.shape
  clear hB7 hB8 h7 hS6 hS4 h4 h46 h6 hB5
  go_wp2_with fail
  refine (bank_c (hnil _) (by simp)).mono ?_
  rintro e w9 ⟨v9, rfl, h9, hB9⟩
  go_wp2_with fail
  refine (ploughs_c _).mono ?_
  rintro e w10 ⟨v10, rfl, h10, hB10⟩
  go_wp2_with fail
  refine (bankEncr (h9.call hB10) h10).mono ?_
  rintro e w11 ⟨v11, rfl, h11, hB11⟩
  have hB811 := bnx hB9 (bnx hB10 hB11)
  have hS11 := bnx hS8 hB811
  have h411 := h48.call hB811
  have h811 := h8.call hB811
  obtain ⟨a11, c11, rfl, _, _⟩ := h11.shape
  clear hB9 hB10 hB11 hB811 hS8 h48 h8 h9 h10
  go_wp2_with fail
  refine (bank_c (hnil _) (by simp)).mono ?_
  rintro e w12 ⟨v12, rfl, h12, hB12⟩
  go_wp2_with fail
  refine (ploughs_c _).mono ?_
  rintro e w13 ⟨v13, rfl, h13, hB13⟩
  go_wp2_with fail
  refine (bankFine (h12.call hB13) h13).mono ?_
  rintro e w14 ⟨rfl, hB14⟩
  have hBy := bnx hB12 (bnx hB13 hB14)
  obtain ⟨w5, hw5⟩ : ∃ w5, w5 = w14.alloc (.cells #[.int .i64 2, .int .i64 8] 59) := ⟨_, rfl⟩
  obtain ⟨b9, hb9⟩ : ∃ b, b = w14.heap.size := ⟨_, rfl⟩
  have hR5 : Blk b9 #[.int .i64 2, .int .i64 8] 59 w5 := by rw [hw5, hb9]; exact Blk.new _ _ _
  have hBz : Below w11.heap.size w11 w5 := by rw [hw5]; exact bal2 hBy
  have hS5 := bnx hS11 hBz
  have hBd5 := h411.call hBz
  have hCl5 := h811.call hBz
  have hEn5 := h11.call hBz
  clear hBy hBz hS11 h411 h811 h11 h12 h13 hB12 hB13 hB14
  go_upto_region 6 with fail
  rw [← hw5, ← hb9]
  clear hw5 hb9
  refine wp_region_mix2 (.pur 0 (.pur 1 (.pur 2 (.pur 3 (.pur 4 (.pur 5 (.pur 6 (.pur 7 (.pur 8 (.pur 9 (.pur 10 (.pur 11 (.pur 12 (.pur 13 (.pur 14 (.pur 15 (.pur 16 (.pur 17 (.pur 18 (.pur 19 (.pur 20 (.pur 21 (.pur 22 (.one 23 (.act 24 (.pur 25 (.pur 26 (.pur 27 (.pur 28 (.act 29 (.act 30 (.act 31 (.act 32 (.act 33 (.pur 34 (.pur 35 (.pur 36 (.act 37 (.act 38 (.pur 39 (.pur 40 (.pur 41 (.act 42 (.act 43 (.pur 44 (.pur 45 .fin)))))))))))))))))))))))))))))))))))))))))))))) 29 (Blk b9 #[.int .i64 2, .int .i64 8] 59) (fun _ => True) (by kernel_rfl) (by kernel_rfl) rfl (by kernel_rfl) (hR5.qt ((Qt.refl _).drewN 1)) (fun wd hqd _ => ?_)
  have hRd := hR5.qt hqd
  have hCd : Below w5.heap.size w5 wd := hqd.below _
  refine mix_pur2 rfl (fun K hK => ?_)
  go_simp
  first | refine ⟨_, fun _ => rfl, hK _ ?_⟩ | refine hK _ ?_
  clear hK K
  refine mix_pur2 rfl (fun K hK => ?_)
  go_simp
  first | refine ⟨_, fun _ => rfl, hK _ ?_⟩ | refine hK _ ?_
  clear hK K
  refine mix_pur2 rfl (fun K hK => ?_)
  go_simp
  first | refine ⟨_, fun _ => rfl, hK _ ?_⟩ | refine hK _ ?_
  clear hK K
  refine mix_pur2 rfl (fun K hK => ?_)
  go_simp
  first | refine ⟨_, fun _ => rfl, hK _ ?_⟩ | refine hK _ ?_
  clear hK K
  refine mix_pur2 rfl (fun K hK => ?_)
  go_simp
  first | refine ⟨_, fun _ => rfl, hK _ ?_⟩ | refine hK _ ?_
  clear hK K
  refine mix_pur2 rfl (fun K hK => ?_)
  go_simp
  first | refine ⟨_, fun _ => rfl, hK _ ?_⟩ | refine hK _ ?_
  clear hK K
  refine mix_pur2 rfl (fun K hK => ?_)
  go_simp
  first | refine ⟨_, fun _ => rfl, hK _ ?_⟩ | refine hK _ ?_
  clear hK K
  refine mix_pur2 rfl (fun K hK => ?_)
  go_simp
  first | refine ⟨_, fun _ => rfl, hK _ ?_⟩ | refine hK _ ?_
  clear hK K
  refine mix_pur2 rfl (fun K hK => ?_)
  go_simp
  first | refine ⟨_, fun _ => rfl, hK _ ?_⟩ | refine hK _ ?_
  clear hK K
  refine mix_pur2 rfl (fun K hK => ?_)
  go_simp
  first | refine ⟨_, fun _ => rfl, hK _ ?_⟩ | refine hK _ ?_
  clear hK K
  refine mix_pur2 rfl (fun K hK => ?_)
  go_simp
  first | refine ⟨_, fun _ => rfl, hK _ ?_⟩ | refine hK _ ?_
  clear hK K
  refine mix_pur2 rfl (fun K hK => ?_)
  go_simp
  first | refine ⟨_, fun _ => rfl, hK _ ?_⟩ | refine hK _ ?_
  clear hK K
  refine mix_pur2 rfl (fun K hK => ?_)
  go_simp
  first | refine ⟨_, fun _ => rfl, hK _ ?_⟩ | refine hK _ ?_
  clear hK K
  refine mix_pur2 rfl (fun K hK => ?_)
  go_simp
  first | refine ⟨_, fun _ => rfl, hK _ ?_⟩ | refine hK _ ?_
  clear hK K
  refine mix_pur2 rfl (fun K hK => ?_)
  go_simp
  first | refine ⟨_, fun _ => rfl, hK _ ?_⟩ | refine hK _ ?_
  clear hK K
  refine mix_pur2 rfl (fun K hK => ?_)
  go_simp
  first | refine ⟨_, fun _ => rfl, hK _ ?_⟩ | refine hK _ ?_
  clear hK K
  refine mix_pur2 rfl (fun K hK => ?_)
  go_simp
  first | refine ⟨_, fun _ => rfl, hK _ ?_⟩ | refine hK _ ?_
  clear hK K
  refine mix_pur2 rfl (fun K hK => ?_)
  go_simp
  first | refine ⟨_, fun _ => rfl, hK _ ?_⟩ | refine hK _ ?_
  clear hK K
  refine mix_pur2 rfl (fun K hK => ?_)
  go_simp
  first | refine ⟨_, fun _ => rfl, hK _ ?_⟩ | refine hK _ ?_
  clear hK K
  refine mix_pur2 rfl (fun K hK => ?_)
  go_simp
  first | refine ⟨_, fun _ => rfl, hK _ ?_⟩ | refine hK _ ?_
  clear hK K
  refine mix_pur2 rfl (fun K hK => ?_)
  go_simp
  first | refine ⟨_, fun _ => rfl, hK _ ?_⟩ | refine hK _ ?_
  clear hK K
  refine mix_pur2 rfl (fun K hK => ?_)
  go_simp
  first | refine ⟨_, fun _ => rfl, hK _ ?_⟩ | refine hK _ ?_
  clear hK K
  refine mix_pur2 rfl (fun K hK => ?_)
  go_simp
  first | refine ⟨_, fun _ => rfl, hK _ ?_⟩ | refine hK _ ?_
  clear hK K
  refine mix_loadg2 rfl rfl (.agg #[.int .i64 2, .int .i64 8]) (by go_simp) (fun w' h => by have h : (Blk b9 #[.int .i64 2, .int .i64 8] 59) w' := h; have h0 := h.cell 0; have h1 := h.cell 1; go_simp) rfl ?_
  refine mix_eff2 rfl false rfl (fun K hK => ?_)
  go_simp
  refine (ofr_c 2 8 _).mono ?_
  rintro e u24 ⟨rfl, hB24⟩
  have hC24 := bnx hCd hB24
  have hR24 := hRd.call hB24
  refine hK _ _ hR24 ?_
  clear hK K
  refine mix_pur2 rfl (fun K hK => ?_)
  go_simp
  first | refine ⟨_, fun _ => rfl, hK _ ?_⟩ | refine hK _ ?_
  clear hK K
  refine mix_pur2 rfl (fun K hK => ?_)
  go_simp
  first | refine ⟨_, fun _ => rfl, hK _ ?_⟩ | refine hK _ ?_
  clear hK K
  refine mix_pur2 rfl (fun K hK => ?_)
  go_simp
  first | refine ⟨_, fun _ => rfl, hK _ ?_⟩ | refine hK _ ?_
  clear hK K
  refine mix_pur2 rfl (fun K hK => ?_)
  go_simp
  first | refine ⟨_, fun _ => rfl, hK _ ?_⟩ | refine hK _ ?_
  clear hK K
  refine mix_eff2 rfl true rfl (fun K hK => ?_)
  go_simp
  refine (ofr_c 4 4 _).mono ?_
  rintro e u29 ⟨rfl, hB29⟩
  have hC29 := bnx hC24 hB29
  refine hK _ _ trivial ?_
  clear hK K
  refine mix_eff2 rfl true rfl (fun K hK => ?_)
  go_simp
  refine (ofr_c 4 5 _).mono ?_
  rintro e u30 ⟨rfl, hB30⟩
  have hC30 := bnx hC29 hB30
  refine hK _ _ trivial ?_
  clear hK K
  refine mix_eff2 rfl true rfl (fun K hK => ?_)
  go_simp
  refine (ofr_c 6 7 _).mono ?_
  rintro e u31 ⟨rfl, hB31⟩
  have hC31 := bnx hC30 hB31
  refine hK _ _ trivial ?_
  clear hK K
  refine mix_eff2 rfl true rfl (fun K hK => ?_)
  go_simp
  have hC32 := bal2 (o := .cells #[.int .i64 4, .int .i64 4, .int .i64 4, .int .i64 5, .int .i64 6, .int .i64 7] 59) hC31
  refine hK _ _ trivial ?_
  clear hK K
  refine mix_eff2 rfl true rfl (fun K hK => ?_)
  go_simp
  refine (sameRanges_q (hBd5.call hC32) (rgs3 u31 4 4 4 5 6 7)).mono ?_
  rintro e u33 ⟨⟨b, rfl, hb⟩, hq33⟩
  have hC33 := bnx hC32 (hq33.below _)
  obtain rfl : b = true := hb.2 rfl
  refine hK _ _ trivial ?_
  clear hK K
  refine mix_pur2 rfl (fun K hK => ?_)
  go_simp
  first | refine ⟨_, fun _ => rfl, hK _ ?_⟩ | refine hK _ ?_
  clear hK K
  refine mix_pur2 rfl (fun K hK => ?_)
  go_simp
  first | refine ⟨_, fun _ => rfl, hK _ ?_⟩ | refine hK _ ?_
  clear hK K
  refine mix_pur2 rfl (fun K hK => ?_)
  go_simp
  first | refine ⟨_, fun _ => rfl, hK _ ?_⟩ | refine hK _ ?_
  clear hK K
  refine mix_eff2 rfl true rfl (fun K hK => ?_)
  go_simp
  have hC37 := bal2 (o := .cells #[.int .i64 0, .int .i64 3] 3) hC33
  refine hK _ _ trivial ?_
  clear hK K
  refine mix_eff2 rfl true rfl (fun K hK => ?_)
  go_simp
  refine (sameInts_q (hCl5.call hC37) (Own.ints (l := [0, 3]) (n := 2) (own_lit u33 3 1 #[.int .i64 0, .int .i64 3] 2 rfl (by omega)))).mono ?_
  rintro e u38 ⟨rfl, hq38⟩
  have hC38 := bnx hC37 (hq38.below _)
  refine hK _ _ trivial ?_
  clear hK K
  refine mix_pur2 rfl (fun K hK => ?_)
  go_simp
  first | refine ⟨_, fun _ => rfl, hK _ ?_⟩ | refine hK _ ?_
  clear hK K
  refine mix_pur2 rfl (fun K hK => ?_)
  go_simp
  first | refine ⟨_, fun _ => rfl, hK _ ?_⟩ | refine hK _ ?_
  clear hK K
  refine mix_pur2 rfl (fun K hK => ?_)
  go_simp
  first | refine ⟨_, fun _ => rfl, hK _ ?_⟩ | refine hK _ ?_
  clear hK K
  refine mix_eff2 rfl true rfl (fun K hK => ?_)
  go_simp
  have hC42 := bal2 (o := .cells #[.int .i64 2, .int .i64 1, .int .i64 3] 3) hC38
  refine hK _ _ trivial ?_
  clear hK K
  refine mix_eff2 rfl true rfl (fun K hK => ?_)
  go_simp
  refine (sameInts_q (hEn5.call hC42) (Own.ints (l := [2, 1, 3]) (n := 3) (own_lit u38 3 1 #[.int .i64 2, .int .i64 1, .int .i64 3] 3 rfl (by omega)))).mono ?_
  rintro e u43 ⟨rfl, hq43⟩
  have hC43 := bnx hC42 (hq43.below _)
  refine hK _ _ trivial ?_
  clear hK K
  refine mix_pur2 rfl (fun K hK => ?_)
  go_simp
  first | refine ⟨_, fun _ => rfl, hK _ ?_⟩ | refine hK _ ?_
  clear hK K
  refine mix_pur2 rfl (fun K hK => ?_)
  go_simp
  first | refine ⟨_, fun _ => rfl, hK _ ?_⟩ | refine hK _ ?_
  clear hK K
  refine mix_done2 ?_
  go_wp2
  go_ret
  exact ⟨rfl, bnx hS5 hC43⟩

end Go.Proofs.YtbpfhoihfoojfaaGreatDoor
