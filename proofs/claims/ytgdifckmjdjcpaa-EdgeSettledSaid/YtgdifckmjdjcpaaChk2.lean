/- Contracts of abreast's holds, claimError and Check (edge); conditions: as said. -/
import Derived.Test.YtgdifckmjdjcpaaChk
namespace Go.Proofs.Ytgdifckmjdjcpaa
open Go.RowKit

set_option maxHeartbeats 1000000 in
theorem abreast_c {p q : Nat} (hp : p < 4) (hq : q < 4) {a : Int} (ha : -9 ≤ a ∧ a ≤ 9) {t : List Int} (ht : ∀ i < 4, 0 ≤ atL t i ∧ atL t i ≤ 9) (w : World) : Calls Try.prog 159 #[.agg #[.int .i64 p, .int .i64 q, .int .i64 a], .agg (tvA t)] w fun e w' => e = .returned (.bool (decide (atL t p ≤ atL t q + a))) ∧ Below w.heap.size w w' := by
  have hB := ((Below.refl w.heap.size w).alloc (Nat.le_refl _) (.cells #[.int .i64 (p : Int), .int .i64 (q : Int), .int .i64 a] 139)).alloc (by simp) (.cells (tvA t) 126)
  have bw1 : IntKind.i64.wrap (atL t q + a) = atL t q + a := IntWalk.i64_in _ (by have := ht q hq; omega)
  unfold tvA at *
  clear ht
  rcases p with _ | _ | _ | _ | p
  all_goals first
    | omega
    | (rcases q with _ | _ | _ | _ | q
       all_goals first
         | omega
         | (go_enter Try.func159, Try.ntmps159
            go_wp2
            go_quiet (fail)
            go_wp2
            go_ret
            exact ⟨rfl, below_drewN hB _⟩))

set_option maxHeartbeats 2000000 in
theorem claimErr_c {P : Int} (hP : 1 ≤ P ∧ P ≤ 4) (B : Int) (v : Value) (c : Cl) (w : World) : Calls Try.prog 81 #[.agg #[.int .i64 P, .int .i64 B, v], .agg #[.int .i64 c.kind, .int .i64 c.point, .int .i64 c.other, .int .i64 c.off, .int .i64 c.err]] w fun e w' => e = .returned (.int .i64 (claimE P c)) ∧ Below w.heap.size w w' := by
  have hB := ((Below.refl w.heap.size w).alloc (Nat.le_refl _) (.cells #[.int .i64 P, .int .i64 B, v] 24)).alloc (by simp) (.cells #[.int .i64 c.kind, .int .i64 c.point, .int .i64 c.other, .int .i64 c.off, .int .i64 c.err] 26)
  have bw1 : IntKind.i64.wrap (P - 1) = P - 1 := IntWalk.i64_in _ (by omega)
  have HP := Lib.hid hP
  clear hP
  go_enter Try.func81, Try.ntmps81
  go_wp2_with (go_at_call 80; refine (between_c _ _ _ _).mono ?_; rintro e w' ⟨rfl, rfl⟩)
  all_goals go_ret
  all_goals refine ⟨ret_int ?_, hB⟩
  all_goals
    clear hB bw1
    simp [btwB] at *
    unfold claimE
    (repeat' split) <;> omega

end Go.Proofs.Ytgdifckmjdjcpaa
