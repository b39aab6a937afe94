/- Contracts of between, of the claims that hold, of a claim made, of what is checked of claims and edges (edge); conditions: as said. -/
import Derived.Test.YtgdifckmjdjcpaaEdgBlk
import Derived.Test.YtgdifckmjdjcpaaEdgD
import Derived.Test.YtgdifckmjdjcpaaEdgT9
namespace Go.Proofs.Ytgdifckmjdjcpaa
open Go.RowKit

theorem between_c (n lo hi : Int) (w : World) :
    Calls Try.prog 80 #[.int .i64 n, .int .i64 lo, .int .i64 hi] w fun e w' => e = .returned (.bool (btwB n lo hi)) ∧ w = w' := by
  by_cases h : lo ≤ n
  · go_enter Try.func80, Try.ntmps80
    go_wp2
    go_ret
    exact ⟨ret_bool (by simp [btwB, h]), rfl⟩
  · go_enter Try.func80, Try.ntmps80
    go_wp2
    go_ret
    exact ⟨ret_bool (by simp [btwB]; omega), rfl⟩

/-- A claim as the value that an interface holds. -/
def clV (c : Cl) : Value :=
  if c.kind = 1 then .iface 133 (.agg #[.int .i64 c.point, .int .i64 c.off])
  else if c.kind = 2 then .iface 135 (.agg #[.int .i64 c.point, .int .i64 c.off, .int .i64 c.err])
  else if c.kind = 3 then .iface 136 (.agg #[.int .i64 c.point, .int .i64 c.off])
  else if c.kind = 4 then .iface 137 (.agg #[.int .i64 c.point, .int .i64 c.off])
  else .iface 139 (.agg #[.int .i64 c.point, .int .i64 c.other, .int .i64 c.off])

theorem ofCl_c (c : Cl) (w : World) : Calls Try.prog 99 #[.agg #[.int .i64 c.kind, .int .i64 c.point, .int .i64 c.other, .int .i64 c.off, .int .i64 c.err]] w fun e w' => e = .returned (clV c) ∧ Below w.heap.size w w' := by
  have hB := (Below.refl w.heap.size w).alloc (Nat.le_refl _) (.cells #[.int .i64 c.kind, .int .i64 c.point, .int .i64 c.other, .int .i64 c.off, .int .i64 c.err] 26)
  by_cases h1 : c.kind = 1
  · have b1 : (c.kind == 1) = true := by simpa using h1
    have H := Lib.hid h1
    clear h1
    go_enter Try.func99, Try.ntmps99
    go_wp2
    go_ret
    exact ⟨by rw [clV, if_pos H.out]; rfl, hB⟩
  · have b1 : (c.kind == 1) = false := by simpa using h1
    by_cases h2 : c.kind = 2
    · have b2 : (c.kind == 2) = true := by simpa using h2
      have H := Lib.hid h2
      have H1 := Lib.hid h1
      clear h1 h2
      go_enter Try.func99, Try.ntmps99
      go_wp2
      go_ret
      exact ⟨by rw [clV, if_neg H1.out, if_pos H.out]; rfl, hB⟩
    · have b2 : (c.kind == 2) = false := by simpa using h2
      by_cases h3 : c.kind = 3
      · have b3 : (c.kind == 3) = true := by simpa using h3
        have H := Lib.hid h3
        have H1 := Lib.hid h1
        have H2 := Lib.hid h2
        clear h1 h2 h3
        go_enter Try.func99, Try.ntmps99
        go_wp2
        go_ret
        exact ⟨by rw [clV, if_neg H1.out, if_neg H2.out, if_pos H.out]; rfl, hB⟩
      · have b3 : (c.kind == 3) = false := by simpa using h3
        by_cases h4 : c.kind = 4
        · have b4 : (c.kind == 4) = true := by simpa using h4
          have H := Lib.hid h4
          have H1 := Lib.hid h1
          have H2 := Lib.hid h2
          have H3 := Lib.hid h3
          clear h1 h2 h3 h4
          go_enter Try.func99, Try.ntmps99
          go_wp2
          go_ret
          exact ⟨by rw [clV, if_neg H1.out, if_neg H2.out, if_neg H3.out, if_pos H.out]; rfl, hB⟩
        · have b4 : (c.kind == 4) = false := by simpa using h4
          have H1 := Lib.hid h1
          have H2 := Lib.hid h2
          have H3 := Lib.hid h3
          have H4 := Lib.hid h4
          clear h1 h2 h3 h4
          go_enter Try.func99, Try.ntmps99
          go_wp2
          go_ret
          exact ⟨by rw [clV, if_neg H1.out, if_neg H2.out, if_neg H3.out, if_neg H4.out]; rfl, hB⟩

/-- Offsets as the truth that the program keeps: four places, what is not used is 0. -/
def tvA (t : List Int) : Array Value := #[.int .i64 (atL t 0), .int .i64 (atL t 1), .int .i64 (atL t 2), .int .i64 (atL t 3)]

theorem below_drew {B : Nat} {a w : World} (h : Below B a w) : Below B a w.drew := ⟨h.os, h.tape, h.output, h.size, h.block⟩

set_option maxHeartbeats 1000000 in
theorem stone_c {p : Nat} (hp : p < 4) (a : Int) (t : List Int) (w : World) : Calls Try.prog 155 #[.agg #[.int .i64 p, .int .i64 a], .agg (tvA t)] w fun e w' => e = .returned (.bool (atL t p == a)) ∧ Below w.heap.size w w' := by
  have hB := ((Below.refl w.heap.size w).alloc (Nat.le_refl _) (.cells #[.int .i64 (p : Int), .int .i64 a] 133)).alloc (by simp) (.cells (tvA t) 126)
  unfold tvA at *
  rcases p with _ | _ | _ | _ | p
  all_goals first
    | omega
    | (go_enter Try.func155, Try.ntmps155
       go_wp2
       go_quiet (fail)
       go_wp2
       go_ret
       exact ⟨rfl, below_drewN hB _⟩)

set_option maxHeartbeats 1000000 in
theorem within_c {p : Nat} (hp : p < 4) (a : Int) (t : List Int) (w : World) : Calls Try.prog 157 #[.agg #[.int .i64 p, .int .i64 a], .agg (tvA t)] w fun e w' => e = .returned (.bool (decide (atL t p ≤ a))) ∧ Below w.heap.size w w' := by
  have hB := ((Below.refl w.heap.size w).alloc (Nat.le_refl _) (.cells #[.int .i64 (p : Int), .int .i64 a] 136)).alloc (by simp) (.cells (tvA t) 126)
  unfold tvA at *
  rcases p with _ | _ | _ | _ | p
  all_goals first
    | omega
    | (go_enter Try.func157, Try.ntmps157
       go_wp2
       go_quiet (fail)
       go_wp2
       go_ret
       exact ⟨rfl, below_drewN hB _⟩)

set_option maxHeartbeats 1000000 in
theorem beyond_c {p : Nat} (hp : p < 4) (a : Int) (t : List Int) (w : World) : Calls Try.prog 158 #[.agg #[.int .i64 p, .int .i64 a], .agg (tvA t)] w fun e w' => e = .returned (.bool (decide (a ≤ atL t p))) ∧ Below w.heap.size w w' := by
  have hB := ((Below.refl w.heap.size w).alloc (Nat.le_refl _) (.cells #[.int .i64 (p : Int), .int .i64 a] 137)).alloc (by simp) (.cells (tvA t) 126)
  unfold tvA at *
  rcases p with _ | _ | _ | _ | p
  all_goals first
    | omega
    | (go_enter Try.func158, Try.ntmps158
       go_wp2
       go_quiet (fail)
       go_wp2
       go_ret
       exact ⟨rfl, below_drewN hB _⟩)

theorem between_q (n lo hi : Int) (w : World) : Calls Try.prog 80 #[.int .i64 n, .int .i64 lo, .int .i64 hi] w fun e w' => e = .returned (.bool (btwB n lo hi)) ∧ Qt w w' := (between_c n lo hi w).mono fun _ _ ⟨h1, h2⟩ => ⟨h1, h2 ▸ Qt.refl w⟩

set_option maxHeartbeats 1000000 in
theorem measure_c {p : Nat} (hp : p < 4) {a b : Int} (ha : 0 ≤ a ∧ a ≤ 9) (hb : 0 ≤ b ∧ b ≤ 9) (t : List Int) (w : World) : Calls Try.prog 156 #[.agg #[.int .i64 p, .int .i64 a, .int .i64 b], .agg (tvA t)] w fun e w' => e = .returned (.bool (btwB (atL t p) (a - b) (a + b))) ∧ Below w.heap.size w w' := by
  have hB := ((Below.refl w.heap.size w).alloc (Nat.le_refl _) (.cells #[.int .i64 (p : Int), .int .i64 a, .int .i64 b] 135)).alloc (by simp) (.cells (tvA t) 126)
  unfold tvA at *
  have bw1 : IntKind.i64.wrap (a - b) = a - b := IntWalk.i64_in _ (by omega)
  have bw2 : IntKind.i64.wrap (a + b) = a + b := IntWalk.i64_in _ (by omega)
  rcases p with _ | _ | _ | _ | p
  all_goals first
    | omega
    | (go_enter Try.func156, Try.ntmps156
       go_wp2
       go_quiet ((go_at_call 80; refine qt_of (between_q _ _ _ _)))
       go_wp2
       go_ret
       exact ⟨rfl, below_drewN hB _⟩)

end Go.Proofs.Ytgdifckmjdjcpaa
