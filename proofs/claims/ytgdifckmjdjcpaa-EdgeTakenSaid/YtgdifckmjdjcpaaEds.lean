/- edges of mestalaw06: a raw edge, one that is made of numbers, and that one with another claim (edge); conditions: the hand reads its numbers. -/
import Derived.Test.YtgdifckmjdjcpaaAdd
import Derived.Test.YtgdifckmjdjcpaaCpe
import Derived.Test.YtgdifckmjdjcpaaDea
import Derived.Great.BuildSlice
namespace Go.Proofs.Ytgdifckmjdjcpaa
open Go.RowKit

/-- Three edges in a block. -/
def E3 (b : Nat) (x y z : Edg) (vx vy vz : Value) (w : World) : Prop := Blk b #[.int .i64 x.points, .int .i64 x.bend, vx, .int .i64 y.points, .int .i64 y.bend, vy, .int .i64 z.points, .int .i64 z.bend, vz] 24 w

set_option maxRecDepth 100000 in
set_option maxHeartbeats 1000000 in
theorem edges_c {w : World} {hb k : Nat} (hH : Hnd w hb k) (hk : k < 800000) (x : Edg) (ax : Option Addr) (nx cx : Nat) (c : Cl) :
    Calls Try.prog 22 #[.agg #[.int .i64 x.points, .int .i64 x.bend, .slice ax nx cx], .agg #[.int .i64 c.kind, .int .i64 c.point, .int .i64 c.other, .int .i64 c.off, .int .i64 c.err], .pointer (some ⟨hb, 0, none⟩)] w fun e w' => (∃ (b : Nat) (y : Edg) (vy vz : Value), e = .returned (.slice (some ⟨b, 0, none⟩) 3 3) ∧ y.Ok ∧ y.claims.length ≤ 6 ∧ E3 b x y (y.add c) (.slice ax nx cx) vy vz w' ∧ ClsM (fun q => w.heap.size ≤ q) w' vy y.claims ∧ ClsM (fun q => w.heap.size ≤ q) w' vz (y.add c).claims) ∧ (∃ k', k' ≤ k + 100 ∧ Hnd w' hb k') ∧ w.grownBy w' (some hb) := by
  have hhb := hH.lt
  obtain ⟨w1, hw1⟩ : ∃ w1, w1 = (w.alloc (.cells #[.int .i64 x.points, .int .i64 x.bend, .slice ax nx cx] 24)).alloc (.cells #[.int .i64 c.kind, .int .i64 c.point, .int .i64 c.other, .int .i64 c.off, .int .i64 c.err] 26) := ⟨_, rfl⟩
  obtain ⟨b0, hb0⟩ : ∃ b, b = w.heap.size := ⟨_, rfl⟩
  have hX1 : Blk b0 #[.int .i64 x.points, .int .i64 x.bend, .slice ax nx cx] 24 w1 := by rw [hw1, hb0]; exact (Blk.new w _ _).alloc _
  have hC1 : Blk (b0 + 1) #[.int .i64 c.kind, .int .i64 c.point, .int .i64 c.other, .int .i64 c.off, .int .i64 c.err] 26 w1 := by rw [hw1, hb0]; exact blk_at (by simp) _ _
  have hB1 : Below w.heap.size w w1 := by rw [hw1]; exact bal2 ((Below.refl _ w).alloc (Nat.le_refl _) _)
  have hH1 := hH.call hB1
  have hbb : hb < b0 := by omega
  go_enter Try.func22, Try.ntmps22
  go_upto_region 1 with fail
  rw [← hw1, ← hb0]
  clear hw1 hb0 hH
  go_wp2_with fail
  refine (edgeOf_c hH1 (by omega) (pts := 4) (cl := 6) (by omega) (by omega)).mono ?_
  rintro e w2 ⟨⟨y, vy, rfl, hy, hy4, hy6, hO2⟩, ⟨k2, hk2, hH2⟩, hG2⟩
  have hX2 := hX1.hand hG2 (by omega)
  have hC2 := hC1.hand hG2 (by omega)
  have hGw : w.grownBy w2 (some hb) := only_trans (only_below hB1) hG2
  obtain ⟨ay, cy, rfl⟩ := own_slice hO2
  obtain ⟨w3, hw3⟩ : ∃ w3, w3 = w2.alloc (.cells #[.int .i64 y.points, .int .i64 y.bend, .slice ay y.claims.length cy] 24) := ⟨_, rfl⟩
  obtain ⟨by0, hby⟩ : ∃ b, b = w2.heap.size := ⟨_, rfl⟩
  have hY3 : Blk by0 #[.int .i64 y.points, .int .i64 y.bend, .slice ay y.claims.length cy] 24 w3 := by rw [hw3, hby]; exact Blk.new _ _ _
  have hE3 : Below w2.heap.size w2 w3 := by rw [hw3]; exact (Below.refl _ _).alloc (Nat.le_refl _) _
  have hO3 : Own w1.heap.size w3 26 5 (.slice ay y.claims.length cy) y.claims.length (y.claims.flatMap ccells) := by rw [hw3]; exact hO2.alloc _
  have hX3 := hX2.call hE3
  have hC3 := hC2.call hE3
  have hH3 := hH2.call hE3
  have hGw3 := only_trans hGw (only_below (r := hb) hE3)
  have hy3 := Own.cls hO3
  have hz1 := hB1.size
  have hz2 := hG2.size
  have hz3 := hE3.size
  go_upto_region 2 with fail
  rw [← hw3, ← hby]
  clear hw3 hby hX1 hC1 hX2 hC2 hO2 hH1 hH2 hE3 hGw hB1 hG2
  have c0 := hY3.cell 0
  have c1 := hY3.cell 1
  have c2 := hY3.cell 2
  go_wp2_with fail
  refine (copyEdge_c hy3 (by omega)).mono ?_
  rintro e w4 ⟨vz, rfl, hO4, hE4⟩
  obtain ⟨az, cz, rfl⟩ := own_slice hO4
  obtain ⟨w5, hw5⟩ : ∃ w5, w5 = w4.alloc (.cells #[.int .i64 y.points, .int .i64 y.bend, .slice az y.claims.length cz] 24) := ⟨_, rfl⟩
  obtain ⟨bz, hbz⟩ : ∃ b, b = w4.heap.size := ⟨_, rfl⟩
  have hZ5 : Blk bz #[.int .i64 y.points, .int .i64 y.bend, .slice az y.claims.length cz] 24 w5 := by rw [hw5, hbz]; exact Blk.new _ _ _
  have hE5 : Below w3.heap.size w3 w5 := by rw [hw5]; exact bal2 hE4
  have hO5 : Own w3.heap.size w5 26 5 (.slice az y.claims.length cz) y.claims.length (y.claims.flatMap ccells) := by rw [hw5]; exact (own_from hO4 (by omega)).alloc _
  have hX5 := hX3.call hE5
  have hC5 := hC3.call hE5
  have hH5 := hH3.call hE5
  have hY5 := hY3.call hE5
  have hy5 := hy3.call hE5
  have hGw5 := only_trans hGw3 (only_below (r := hb) hE5)
  have hz5 := hE5.size
  have hbz3 : w3.heap.size ≤ bz := by rw [hbz]; exact hE4.size
  go_upto_region 3 with fail
  rw [← hw5, ← hbz]
  clear hw5 hbz hO3 hO4 hE4 c0 c1 c2
  have z2 := hZ5.cell 2
  have d0 := hC5.cell 0
  have d1 := hC5.cell 1
  have d2 := hC5.cell 2
  have d3 := hC5.cell 3
  have d4 := hC5.cell 4
  have ho6 := hO5.alloc (.cells #[.int .i64 c.kind, .int .i64 c.point, .int .i64 c.other, .int .i64 c.off, .int .i64 c.err] 26)
  have hZ6 := hZ5.alloc (.cells #[.int .i64 c.kind, .int .i64 c.point, .int .i64 c.other, .int .i64 c.off, .int .i64 c.err] 26)
  have hE6 := (Below.refl w5.heap.size w5).alloc (Nat.le_refl _) (.cells #[.int .i64 c.kind, .int .i64 c.point, .int .i64 c.other, .int .i64 c.off, .int .i64 c.err] 26)
  have ha6 := blk_arr (Blk.new w5 #[.int .i64 c.kind, .int .i64 c.point, .int .i64 c.other, .int .i64 c.off, .int .i64 c.err] 26) 1 (by omega)
  go_upto_region 4 with (at_builtin; go_loud (refine wpList_append_arr rfl _ _ 22 rfl 26 _ 5 40 Try.underlying22 Try.info26 rfl (by decide) (by decide) (by simp; omega) ho6 rfl ha6 rfl rfl (ccells_one c) (by omega) ?_; intro v7 w7 hO7 hT7; obtain ⟨a7, c7, rfl⟩ := own_slice hO7; have hZ7 := hZ6.keep (hT7.block _ hZ6.lt (fun e => by exact own_ne_t ho6 hZ6 (by decide) e)); have y2 := hZ7.cell 2; have f2 := hZ7.free 2))
  have hE7 := hT7.below2 (B' := w3.heap.size) ho6 (((Below.refl w3.heap.size w5)).alloc hz5 _) (by simp; omega) (Nat.le_refl _)
  have hZ8 := hZ7.set 2 (.slice a7 (y.claims.length + 1) c7)
  have hE8 := hE7.setCell (p := ⟨bz, 2, none⟩) hbz3 (.slice a7 (y.claims.length + 1) c7)
  have hO8 : Own w3.heap.size (w7.setCell ⟨bz, 2, none⟩ (.slice a7 (y.claims.length + 1) c7)) 26 5 (.slice a7 (y.claims.length + 1) c7) (y.claims.length + 1) (y.claims.flatMap ccells ++ ccells c) :=
    hO7.step fun q hq _ _ => Below.heap_setCell _ _ _ _ (fun e => own_ne_t hO7 hZ7 (by decide) (by rw [hq, e]))
  clear hZ7 hO7 hT7 y2 f2 hZ6 ho6 ha6 hE6 hE7 hZ5 hO5 z2
  generalize w7.setCell ⟨bz, 2, none⟩ (.slice a7 (y.claims.length + 1) c7) = w8 at hZ8 hE8 hO8 ⊢
  have hE38 : Below w3.heap.size w3 w8 := hE5.trans hE8
  have hX8 := hX3.call hE38
  have hY8 := hY3.call hE38
  have hy8 := hy3.call hE38
  have hH8 := hH3.call hE38
  have hG8 := only_trans hGw3 (only_below (r := hb) hE38)
  have hz8 := hE38.size
  have hl : (y.add c).claims.length = y.claims.length + 1 := by unfold Edg.add; simp
  have hc8 : ClsM (fun q => w3.heap.size ≤ q) w8 (.slice a7 (y.claims.length + 1) c7) (y.add c).claims := by
    rw [← hl]
    refine Own.cls ?_
    rw [hl]
    unfold Edg.add
    rw [cls_snoc]
    exact hO8
  clear hX5 hC5 hH5 hY5 hy5 hGw5 hO8 hE5 hE8 hX3 hY3 hy3 hH3 hGw3 hl d0 d1 d2 d3 d4
  have x0 := hX8.cell 0
  have x1 := hX8.cell 1
  have x2 := hX8.cell 2
  have y0 := hY8.cell 0
  have y1 := hY8.cell 1
  have y2 := hY8.cell 2
  have z0 := hZ8.cell 0
  have z1 := hZ8.cell 1
  have z2 := hZ8.cell 2
  go_wp2_with fail
  go_ret
  have hE9 := (Below.refl w8.heap.size w8).alloc (Nat.le_refl _) (.cells #[.int .i64 x.points, .int .i64 x.bend, .slice ax nx cx, .int .i64 y.points, .int .i64 y.bend, .slice ay y.claims.length cy, .int .i64 y.points, .int .i64 y.bend, .slice a7 (y.claims.length + 1) c7] 24)
  exact ⟨⟨w8.heap.size, y, _, _, rfl, hy, by omega, Blk.new _ _ _, (hy8.call hE9).wide fun q hq _ => by omega, (hc8.call hE9).wide fun q hq _ => by omega⟩, ⟨k2, by omega, hH8.call hE9⟩, only_trans hG8 (only_below hE9)⟩

end Go.Proofs.Ytgdifckmjdjcpaa
