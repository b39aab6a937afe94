/- Heads too many, sums, and whether a division fits years (mestaref08); conditions: as said. -/
import Derived.Test.YthchpoabncdicaaRF1
namespace Go.Proofs.Ythchpoabncdicaa
open Go.RowKit

/-- By how many heads a herd is greater than what a mountain bears. -/
def overV (c : Com) (v : Nat) (m : Int) : Int := max 0 (her c.villages v - c.mountains.getD m.toNat 0)

set_option maxRecDepth 100000 in
set_option maxHeartbeats 2000000 in
theorem rover_c {A : Nat → Prop} {w : World} {vm vv : Value} {c : Com} (h : Cm A w vm vv c) (hok : c.Ok 4) (v m : Nat) (hv : v < c.villages.length) (hm : m < c.mountains.length) :
    Calls Try.prog 120 #[.agg #[vm, vv], .int .i64 v, .int .i64 m] w fun e w' => e = .returned (.int .i64 (overV c v m)) ∧ Below w.heap.size w w' := by
  obtain ⟨am, cpm, rfl, _, _⟩ := h.1.shape
  obtain ⟨av, cpv, rfl, _, _⟩ := h.2.shape
  have hB0 : Below w.heap.size w (w.alloc (.cells #[.slice am c.mountains.length cpm, .slice av c.villages.length cpv] 25)) := (Below.refl _ w).alloc (Nat.le_refl _) _
  have hx : Blk w.heap.size #[.slice am c.mountains.length cpm, .slice av c.villages.length cpv] 25 (w.alloc (.cells #[.slice am c.mountains.length cpm, .slice av c.villages.length cpv] 25)) := Blk.new w _ _
  have h0 := h.call hB0
  obtain ⟨b1, o1, rfl, -, -⟩ := h0.2.addr (by omega)
  obtain ⟨b2, o2, rfl, -, -, hc2⟩ := h0.1.addr (by omega)
  obtain ⟨p1, d1, _, g2, _, _⟩ := h0.2.at v hv
  have q2 := hc2 m hm
  have hvo := hok.vil _ (List.getElem_mem hv)
  have hmo := hok.bears _ (List.getElem_mem hm)
  have e1 : overV c v m = max 0 (c.villages[v].herd - c.mountains[m]) := by
    rw [overV, her_at hv, Int.toNat_natCast]; simp [hm]
  obtain ⟨x, hx1⟩ : ∃ x, x = c.villages[v].herd := ⟨_, rfl⟩
  obtain ⟨y, hy1⟩ : ∃ y, y = c.mountains[m] := ⟨_, rfl⟩
  rw [← hx1] at g2 hvo e1
  rw [← hy1] at q2 hmo e1
  have k1 := hvo.2.2.1
  have k2 := hvo.2.2.2.1
  have k3 := hmo.1
  have k4 := hmo.2
  have HE := Lib.hid e1
  clear e1 hx1 hy1 hvo hmo hc2
  go_enter Try.func120, Try.ntmps120
  go_wp2_with fail
  generalize w.alloc (.cells #[.slice (some ⟨b2, o2, none⟩) c.mountains.length cpm, .slice (some ⟨b1, o1, none⟩) c.villages.length cpv] 25) = w0 at *
  have c0 := hx.cell 0
  have c1 := hx.cell 1
  by_cases hxy : 0 < x - y
  · go_quiet (fail)
    go_wp2
    go_ret
    exact ⟨ret_int (by rw [HE.out]; omega), hB0.trans ((show Qt w0 (w0.drewN _) from ⟨_, rfl⟩).below _)⟩
  · go_quiet (fail)
    go_wp2
    go_ret
    exact ⟨ret_int (by rw [HE.out]; omega), hB0.trans ((show Qt w0 (w0.drewN _) from ⟨_, rfl⟩).below _)⟩

end Go.Proofs.Ythchpoabncdicaa
