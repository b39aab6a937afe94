/- CopyEdge of mestakit (edge): the copy's claims are its own row; conditions: the claims read as a list. -/
import Derived.Test.YtgdifckmjdjcpaaSur
import Derived.Test.YtgdifckmjdjcpaaEof
namespace Go.Proofs.Ytgdifckmjdjcpaa
open Go.RowKit

set_option maxRecDepth 100000 in
set_option maxHeartbeats 1000000 in
theorem copyEdge_c {A : Nat → Prop} {w : World} {x : Edg} {v : Value} (h : ClsM A w v x.claims) (hm : x.claims.length ≤ 100) :
    Calls Try.prog 24 #[.agg #[.int .i64 x.points, .int .i64 x.bend, v]] w fun e w' => ∃ v', e = .returned (.agg #[.int .i64 x.points, .int .i64 x.bend, v']) ∧ Own (w.heap.size + 2) w' 26 5 v' x.claims.length (x.claims.flatMap ccells) ∧ Below w.heap.size w w' := by
  obtain ⟨a1, c1, rfl, _, _⟩ := h.shape
  obtain ⟨w1, hw1⟩ : ∃ w1, w1 = (w.alloc (.cells #[.int .i64 x.points, .int .i64 x.bend, .slice a1 x.claims.length c1] 24)).alloc (.cells #[.int .i64 0, .int .i64 0, .slice none 0 0] 24) := ⟨_, rfl⟩
  obtain ⟨b1, hb1⟩ : ∃ b, b = w.heap.size := ⟨_, rfl⟩
  have hX1 : Blk b1 #[.int .i64 x.points, .int .i64 x.bend, .slice a1 x.claims.length c1] 24 w1 := by rw [hw1, hb1]; exact (Blk.new w _ _).alloc _
  have hR1 : Blk (b1 + 1) #[.int .i64 0, .int .i64 0, .slice none 0 0] 24 w1 := by rw [hw1, hb1]; exact blk_at (by simp) _ _
  have hB1 : Below w.heap.size w w1 := by rw [hw1]; exact bal2 ((Below.refl _ w).alloc (Nat.le_refl _) _)
  have hz1 : b1 + 2 ≤ w1.heap.size := by rw [hw1, hb1]; simp
  have hz2 : w1.heap.size ≤ b1 + 2 := by rw [hw1, hb1]; simp
  rw [← hb1]
  go_enter Try.func24, Try.ntmps24
  go_upto_region 1 with fail
  rw [← hw1, ← hb1]
  have hbw : w.heap.size ≤ b1 := Nat.le_of_eq hb1.symm
  have hbw2 : b1 ≤ w.heap.size := Nat.le_of_eq hb1
  clear hw1 hb1
  have h1 := (h.call hB1).call ((Below.refl w1.heap.size w1).alloc (Nat.le_refl _) (.cells #[] 26))
  have hown := own_lit w1 26 5 #[] 0 rfl (by omega)
  have hX2 := hX1.alloc (.cells #[] 26)
  have hR2 := hR1.alloc (.cells #[] 26)
  have hB2 := bal2 (o := .cells #[] 26) hB1
  have c2 := hX2.cell 2
  go_upto_region 2 with (at_builtin; go_loud (refine wpList_append_arr rfl _ _ 22 rfl 26 _ 5 40 Try.underlying22 Try.info26 rfl (by decide) (by decide) (by simp) hown rfl h1 rfl (flat_len ccells_len x.claims) (cls_one x.claims) (by omega) ?_; intro v' w3 hown3 hT; obtain ⟨a3, c3, rfl⟩ := own_slice hown3; have hX3 := hX2.keep (hT.block _ hX2.lt (fun e => by have := (World.ownsRow.lt hown _ e).1; omega)); have hR3 := hR2.keep (hT.block _ hR2.lt (fun e => by have := (World.ownsRow.lt hown _ e).1; omega)); have x2 := hX3.cell 2; have f2 := hX3.free 2))
  have hB3 := hT.below2 (B' := b1) hown (hB2.mono (by omega)) (by simp; omega) (by omega)
  have hX4 := hX3.set 2 (.slice a3 (0 + x.claims.length) c3)
  have hR4 := hR3.other (a := ⟨b1, 2, none⟩) (by show b1 + 1 ≠ b1; omega) (.slice a3 (0 + x.claims.length) c3)
  have hB4 := hB3.setCell (p := ⟨b1, 2, none⟩) (Nat.le_refl _) (.slice a3 (0 + x.claims.length) c3)
  have hO4 : Own w1.heap.size (w3.setCell ⟨b1, 2, none⟩ (.slice a3 (0 + x.claims.length) c3)) 26 5 (.slice a3 (0 + x.claims.length) c3) (0 + x.claims.length) ([] ++ x.claims.flatMap ccells) := hown3.step fun q _ hq _ => Below.heap_setCell _ _ _ _ (show q ≠ b1 by omega)
  rw [Nat.zero_add, List.nil_append] at hO4
  simp only [Nat.zero_add] at hX4 hR4 hB4 hO4 ⊢
  clear hX3 hR3 hB3 hown3 hT x2 f2 hX2 hR2 hB2 c2
  generalize w3.setCell ⟨b1, 2, none⟩ (.slice a3 x.claims.length c3) = w4 at hX4 hR4 hB4 hO4 ⊢
  have x0 : w4.cell? ⟨b1, 0, none⟩ = some (.int .i64 x.points) := hX4.cell 0
  have x1 : w4.cell? ⟨b1, 1, none⟩ = some (.int .i64 x.bend) := hX4.cell 1
  have x2 : w4.cell? ⟨b1, 2, none⟩ = some (.slice a3 x.claims.length c3) := hX4.cell 2
  have r0 := hR4.cell 0
  have r1 := hR4.cell 1
  have r2 := hR4.cell 2
  have g0 := hR4.free 0
  have g1 := hR4.free 1
  have g2 := hR4.free 2
  go_wp2
  have hR6 := hR4.set3 (x' := .int .i64 x.points) (y' := .int .i64 x.bend) (z' := .slice a3 x.claims.length c3)
  have hB6 := ((hB4.setCell (p := ⟨b1 + 1, 0, none⟩) (by show b1 ≤ b1 + 1; omega) (.int .i64 x.points)).setCell (p := ⟨b1 + 1, 1, none⟩) (by show b1 ≤ b1 + 1; omega) (.int .i64 x.bend)).setCell (p := ⟨b1 + 1, 2, none⟩) (by show b1 ≤ b1 + 1; omega) (.slice a3 x.claims.length c3)
  have hO6 : Own w1.heap.size (((w4.setCell ⟨b1 + 1, 0, none⟩ (.int .i64 x.points)).setCell ⟨b1 + 1, 1, none⟩ (.int .i64 x.bend)).setCell ⟨b1 + 1, 2, none⟩ (.slice a3 x.claims.length c3)) 26 5 (.slice a3 x.claims.length c3) x.claims.length (x.claims.flatMap ccells) :=
    hO4.step fun q _ hq _ => (Below.heap_setCell _ _ _ _ (show q ≠ b1 + 1 by omega)).trans ((Below.heap_setCell _ _ _ _ (show q ≠ b1 + 1 by omega)).trans (Below.heap_setCell _ _ _ _ (show q ≠ b1 + 1 by omega)))
  generalize ((w4.setCell ⟨b1 + 1, 0, none⟩ (.int .i64 x.points)).setCell ⟨b1 + 1, 1, none⟩ (.int .i64 x.bend)).setCell ⟨b1 + 1, 2, none⟩ (.slice a3 x.claims.length c3) = wf at hR6 hB6 hO6 ⊢
  have y0 := hR6.cell 0
  have y1 := hR6.cell 1
  have y2 := hR6.cell 2
  exact bodyPost_ret (v := .agg #[.int .i64 x.points, .int .i64 x.bend, .slice a3 x.claims.length c3]) (by simp [results, Try.results24, go_sem, y0, y1, y2]) rfl ⟨_, rfl, own_from hO6 hz1, hB6⟩

end Go.Proofs.Ytgdifckmjdjcpaa
