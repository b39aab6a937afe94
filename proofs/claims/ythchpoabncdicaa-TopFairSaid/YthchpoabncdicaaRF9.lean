/- Fair of mestaref08 for any commons; conditions: none. -/
import Derived.Test.YthchpoabncdicaaRF8
namespace Go.Proofs.Ythchpoabncdicaa
open Go.RowKit

def rfairR (c : Com) : List (List Int) := if checkE c = 0 then rfairF c else []
set_option maxRecDepth 100000 in
theorem rfairR_c {A : Nat → Prop} {w : World} {vm vv : Value} {c : Com} (h : Cm A w vm vv c) :
    Calls Try.prog 36 #[.agg #[vm, vv]] w fun e w' => ∃ v', e = .returned (.tuple #[v', .int .i64 (checkE c)]) ∧ Grid (fun _ => True) w' v' (rfairR c) ∧ Below w.heap.size w w' := by
  by_cases he : checkE c = 0
  · rw [rfairR, if_pos he, he]
    exact rfair_good h ((checkE_zero c).1 he)
  · have hb : (checkE c != 0) = true := by simpa using he
    rw [rfairR, if_neg he]
    obtain ⟨am, cpm, rfl, _, _⟩ := h.1.shape
    obtain ⟨av, cpv, rfl, _, _⟩ := h.2.shape
    have hB0 : Below w.heap.size w (w.alloc (.cells #[.slice am c.mountains.length cpm, .slice av c.villages.length cpv] 25)) := (Below.refl _ w).alloc (Nat.le_refl _) _
    have h0 := h.call hB0
    go_enter Try.func36, Try.ntmps36
    go_wp2_with fail
    refine (rcheck_c h0).mono ?_
    rintro e w1 ⟨rfl, hB1⟩
    go_wp2
    go_ret2
    exact ⟨_, rfl, grid_nil _ _, bnx hB0 hB1⟩

end Go.Proofs.Ythchpoabncdicaa
