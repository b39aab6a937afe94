/- Trade and Swaps of mestaref08 and Wrap, for any input; conditions: as said. -/
import Derived.Test.YthchpoabncdicaaRT2
import Derived.Test.YthchpoabncdicaaRS2
namespace Go.Proofs.Ythchpoabncdicaa
open Go.RowKit

set_option maxRecDepth 100000 in
theorem rtradeR_c {A A' : Nat → Prop} {w : World} {vm vv vd : Value} {c : Com} {l : List Int} (h : Cm A w vm vv c) (hd : Ints A' w vd l) :
    Calls Try.prog 29 #[.agg #[vm, vv], vd] w fun e w' => ∃ v', e = .returned (.tuple #[v', .int .i64 (divE c l)]) ∧ Ints (fun b => w.heap.size ≤ b) w' v' (tradeR c l) ∧ Below w.heap.size w w' := by
  by_cases he : divE c l = 0
  · rw [tradeR, if_pos he, he]
    exact rtrade_good h hd he
  · have hb : (divE c l != 0) = true := by simpa using he
    rw [tradeR, if_neg he]
    obtain ⟨am, cpm, rfl, _, _⟩ := h.1.shape
    obtain ⟨av, cpv, rfl, _, _⟩ := h.2.shape
    have hB0 : Below w.heap.size w (w.alloc (.cells #[.slice am c.mountains.length cpm, .slice av c.villages.length cpv] 25)) := (Below.refl _ w).alloc (Nat.le_refl _) _
    have h0 := h.call hB0
    have hd0 := hd.call hB0
    go_enter Try.func29, Try.ntmps29
    go_wp2_with fail
    refine (asked_c h0 hd0).mono ?_
    rintro e w1 ⟨rfl, hB1⟩
    go_wp2
    go_ret2
    exact ⟨_, rfl, ints_nil _ _, bnx hB0 hB1⟩

set_option maxRecDepth 100000 in
theorem rswapsR_c {A A' : Nat → Prop} {w : World} {vm vv vd : Value} {c : Com} {l : List Int} (h : Cm A w vm vv c) (hd : Ints A' w vd l) :
    Calls Try.prog 31 #[.agg #[vm, vv], vd] w fun e w' => ∃ v1 v2, e = .returned (.tuple #[v1, v2, .int .i64 (divE c l)]) ∧ Grid (fun b => w.heap.size ≤ b) w' v1 (swapsR c l).1 ∧ Ints (fun b => w.heap.size ≤ b) w' v2 (swapsR c l).2 ∧ Below w.heap.size w w' := by
  by_cases he : divE c l = 0
  · rw [swapsR, if_pos he, he]
    exact rswaps_good h hd he
  · have hb : (divE c l != 0) = true := by simpa using he
    rw [swapsR, if_neg he]
    obtain ⟨am, cpm, rfl, _, _⟩ := h.1.shape
    obtain ⟨av, cpv, rfl, _, _⟩ := h.2.shape
    have hB0 : Below w.heap.size w (w.alloc (.cells #[.slice am c.mountains.length cpm, .slice av c.villages.length cpv] 25)) := (Below.refl _ w).alloc (Nat.le_refl _) _
    have h0 := h.call hB0
    have hd0 := hd.call hB0
    go_enter Try.func31, Try.ntmps31
    go_wp2_with fail
    refine (asked_c h0 hd0).mono ?_
    rintro e w1 ⟨rfl, hB1⟩
    go_wp2
    go_ret3
    exact ⟨_, _, rfl, ⟨[], rfl, ⟨none, 0, rfl, Nat.zero_le _, ⟨by unfold maxLen; omega, fun _ => rfl⟩, .inl rfl⟩, fun i a => by simp at a⟩, ints_nil _ _, bnx hB0 hB1⟩

set_option maxRecDepth 100000 in
/-- A number from 0 to n - 1 for any number. -/
theorem wrap_c (x : Int) (hx : -9223372036854775808 ≤ x ∧ x ≤ 9223372036854775807) (n : Nat) (hn : 1 ≤ n) (hn2 : n ≤ 1000) (w : World) :
    Calls Try.prog 26 #[.int .i64 x, .int .i64 n] w fun e w' => (∃ k : Nat, k < n ∧ e = .returned (.int .i64 k)) ∧ w' = w := by
  have b1 : decide ((n : Int) < 1) = false := decide_eq_false (by omega)
  have h1 := Int.tmod_lt_of_pos x (show (0 : Int) < n by omega)
  have h2 := Int.lt_tmod_of_pos x (show (0 : Int) < n by omega)
  have hx1 := hx.1
  have hx2 := hx.2
  have hn0 : ¬ n = 0 := by omega
  by_cases h0 : Int.tmod x n < 0
  · go_enter Try.func26, Try.ntmps26
    go_wp2_with fail
    go_ret
    exact ⟨⟨(Int.tmod x n + n).toNat, by omega, ret_int (by omega)⟩, rfl⟩
  · go_enter Try.func26, Try.ntmps26
    go_wp2_with fail
    go_ret
    exact ⟨⟨(Int.tmod x n).toNat, by omega, ret_int (by omega)⟩, rfl⟩

end Go.Proofs.Ythchpoabncdicaa
