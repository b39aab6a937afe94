/- SameEdges of mestakit, at two edges that are equal (edge); conditions: the claims read as lists. -/
import Derived.Test.YtbpfhoihfoojfaaGreatDoorIdl
import Derived.Test.YtbpfhoihfoojfaaGreatDoorCk
namespace Go.Proofs.YtbpfhoihfoojfaaGreatDoor
open Go.RowKit

theorem ne26 (r : Cl) (w : World) : (binOp .neq 54 (.agg #[.int .i64 r.kind, .int .i64 r.point, .int .i64 r.other, .int .i64 r.off, .int .i64 r.err]) (.agg #[.int .i64 r.kind, .int .i64 r.point, .int .i64 r.other, .int .i64 r.off, .int .i64 r.err])).run Tryz.prog w = .ok (.bool false) w := by
  simp [go_sem]

set_option maxHeartbeats 1000000 in
theorem sameEdges_c {A A' : Nat → Prop} {w : World} {v1 v2 : Value} {x : Edg} (h1 : ClsM A w v1 x.claims) (h2 : ClsM A' w v2 x.claims) :
    Calls Tryz.prog 14 #[.agg #[.int .i64 x.points, .int .i64 x.bend, v1], .agg #[.int .i64 x.points, .int .i64 x.bend, v2]] w fun e w' => e = .returned (.bool true) ∧ Below w.heap.size w w' := by
  obtain ⟨a1, c1, rfl, hc1, hm1⟩ := h1.shape
  obtain ⟨a2, c2, rfl, hc2, hm2⟩ := h2.shape
  have n1 := h1.len
  obtain ⟨w1, hw1⟩ : ∃ w1, w1 = (w.alloc (.cells #[.int .i64 x.points, .int .i64 x.bend, .slice a1 x.claims.length c1] 24)).alloc (.cells #[.int .i64 x.points, .int .i64 x.bend, .slice a2 x.claims.length c2] 24) := ⟨_, rfl⟩
  obtain ⟨b1, hb1⟩ : ∃ b, b = w.heap.size := ⟨_, rfl⟩
  have hX1 : Blk b1 #[.int .i64 x.points, .int .i64 x.bend, .slice a1 x.claims.length c1] 24 w1 := by rw [hw1, hb1]; exact (Blk.new w _ _).alloc _
  have hY1 : Blk (b1 + 1) #[.int .i64 x.points, .int .i64 x.bend, .slice a2 x.claims.length c2] 24 w1 := by rw [hw1, hb1]; exact blk_at (by simp) _ _
  have hB1 : Below w.heap.size w w1 := by rw [hw1]; exact bal2 ((Below.refl _ w).alloc (Nat.le_refl _) _)
  have g1 := h1.call hB1
  have g2 := h2.call hB1
  go_enter Tryz.func14, Tryz.ntmps14
  go_upto_region 1 with fail
  rw [← hw1, ← hb1]
  clear hw1 hb1
  have c0 := hX1.cell 0
  have c1' := hX1.cell 1
  have c2' := hX1.cell 2
  have d0 := hY1.cell 0
  have d1 := hY1.cell 1
  have d2 := hY1.cell 2
  go_wp2_with fail
  go_loopw [5] (fun v wr => ∃ k : Nat, k ≤ x.claims.length ∧ v = .int .i64 k ∧ Qt w1 wr) (fun v _ => x.claims.length - (intOf v).toNat)
  case atStart => exact ⟨0, Nat.zero_le _, rfl, Qt.refl _⟩
  case round =>
    obtain ⟨k, hk, rfl, hQ⟩ := hrel
    clear c0 c1' c2' d0 d1 d2
    have c2' := (hX1.qt hQ).cell 2
    have d2 := (hY1.qt hQ).cell 2
    by_cases hlt : k < x.claims.length
    · obtain ⟨g, o, rfl, -, -⟩ := cls_addr g1 (by omega)
      obtain ⟨g', o', rfl, -, -⟩ := cls_addr g2 (by omega)
      obtain ⟨x0, x1, x2, x3, x4⟩ := cls_at (g1.qt (hQ.drewN 1)) k hlt
      obtain ⟨y0, y1, y2, y3, y4⟩ := cls_at (g2.qt (hQ.drewN 1)) k hlt
      have c3' := (hX1.qt (hQ.drewN 1)).cell 2
      have d3 := (hY1.qt (hQ.drewN 1)).cell 2
      obtain ⟨p0, p1, p2, p3, p4⟩ := cls_at (g1.qt hQ) k hlt
      obtain ⟨q0, q1, q2, q3, q4⟩ := cls_at (g2.qt hQ) k hlt
      have hn := ne26 x.claims[k]
      go_wp2_with fail
      go_quiet (fail)
      have hq8 : Qt wr (wr.drewN nq) := ⟨nq, rfl⟩
      generalize wr.drewN nq = wq at hq8 ⊢
      go_wp2_with fail
      go_roundw
      case rel => exact ⟨k + 1, by omega, by go_num, hQ.trans hq8⟩
      case measure => simp [intOf]; omega
    · obtain rfl : k = x.claims.length := by omega
      go_wp2_with fail
      go_ret
      exact ⟨rfl, bnx hB1 (hQ.below _)⟩

end Go.Proofs.YtbpfhoihfoojfaaGreatDoor
