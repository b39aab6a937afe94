/- Groups of claims as bits, in plain words: all but a group, one claim less, what comes before the fewest, idle claims; conditions: at most seven claims. -/
import Derived.Test.YtgdifckmjdjcpaaEdgT6
namespace Go.Proofs.Ytgdifckmjdjcpaa

theorem but_bits : ∀ n : Fin 8, ∀ g : Fin 128, g.1 < 2 ^ n.1 → (2 ^ n.1 - 1) &&& (65535 - g.1) < 2 ^ n.1 ∧ ∀ i : Fin 7, i.1 < n.1 → ((2 ^ n.1 - 1) &&& (65535 - g.1)).testBit i.1 = !g.1.testBit i.1 := by decide +kernel
theorem less_bits : ∀ g : Fin 128, ∀ k : Fin 7, g.1.testBit k.1 = true → sizeG (g.1 - 2 ^ k.1) < sizeG g.1 ∧ ∀ i : Fin 7, (g.1 - 2 ^ k.1).testBit i.1 = (g.1.testBit i.1 && decide (i.1 ≠ k.1)) := by decide +kernel
theorem has_bit (g i : Nat) : (decide ((g >>> i) &&& 1 = 1)) = g.testBit i := by
  rw [Nat.testBit, Nat.and_comm]
  have h : 1 &&& g >>> i < 2 := Nat.lt_of_le_of_lt Nat.and_le_left (by omega)
  generalize 1 &&& g >>> i = m at h
  match m, h with
  | 0, _ => rfl
  | 1, _ => rfl
theorem pow_le_128 {n : Nat} (hn : n ≤ 7) : 2 ^ n ≤ 128 := Nat.pow_le_pow_right (by decide) hn (n := 2)
/-- All claims but a group. -/
theorem part_but {x : Edg} (hx : x.Ok) {g : Nat} (hg : g < 2 ^ x.claims.length) : partF x (fun i => ((2 ^ x.claims.length - 1) &&& (65535 - g)).testBit i) = partF x fun i => !g.testBit i := by
  have hm := hx.m
  have hp := pow_le_128 hm
  have h := (but_bits ⟨x.claims.length, by omega⟩ ⟨g, by omega⟩ hg).2
  unfold partF
  rw [keepL_congr fun i hi => ?_]
  rw [Nat.zero_add]
  exact h ⟨i, by omega⟩ hi
theorem pow_bit (i j : Nat) : (2 ^ i).testBit j = decide (i = j) := by
  rw [Nat.testBit_two_pow]
/-- All claims but one. -/
theorem part_less {x : Edg} (hx : x.Ok) {i : Nat} (hi : i < x.claims.length) : partF x (fun j => ((2 ^ x.claims.length - 1) &&& (65535 - 2 ^ i)).testBit j) = partF x fun j => decide (j ≠ i) := by
  rw [part_but hx (Nat.pow_lt_pow_right (by decide) hi)]
  congr 1
  funext j
  rw [pow_bit]
  by_cases h : i = j <;> simp [h, eq_comm]
/-- Idle claims. -/
def idleF (x : Edg) : List Nat := (List.range x.claims.length).filter fun i => (truthsF (partF x fun j => decide (j ≠ i))).length == (truthsF x).length
theorem idle_le (x : Edg) (i : Nat) : (truthsF x).length ≤ (truthsF (partF x fun j => decide (j ≠ i))).length := by
  have h := part_le (x := x) (keep := fun j => decide (j ≠ i)) (keep' := fun _ => true) fun _ _ _ => rfl
  rwa [part_all] at h
/-- What comes before the first that passes, passes not. -/
theorem few_before {n g h : Nat} {test : Nat → Bool} (hn : n ≤ 7) (hf : fewF n test = some g) (hh : h < 2 ^ n) (hc : cmpG h g = -1) : test h = false := by
  unfold fewF at hf
  obtain ⟨ht, a, b, e, ha⟩ := List.find?_eq_some_iff_append.1 hf
  have hm := mem_masks hn hh
  have hs := masks_sorted hn
  rw [e] at hm hs
  rcases List.mem_append.1 hm with h1 | h1
  · simpa using ha h h1
  · rcases List.mem_cons.1 h1 with h2 | h2
    · rw [h2, cmpG_self] at hc; exact absurd hc (by decide)
    · have := (List.pairwise_cons.1 (List.pairwise_append.1 hs).2.1).1 h h2
      rw [this.2] at hc; exact absurd hc (by decide)
theorem cmp_size {a b : Nat} (h : sizeG a < sizeG b) : cmpG a b = -1 := by
  unfold cmpG cmpN
  rw [if_pos h, if_pos (by decide)]
/-- Without any one claim of a smallest clash there is a truth. -/
theorem clash_less {x : Edg} (hx : x.Ok) {g k : Nat} (hg : clashF x = some g) (hk : g.testBit k = true) : hasT (partF x fun i => g.testBit i && decide (i ≠ k)) = true := by
  have hm := hx.m
  have hp := pow_le_128 hm
  obtain ⟨hlt, -⟩ := few_test hm hg
  have hk7 : k < x.claims.length := by
    rcases Nat.lt_or_ge k x.claims.length with h | h
    · exact h
    · rw [Nat.testBit_lt_two_pow (Nat.lt_of_lt_of_le hlt (Nat.pow_le_pow_right (by decide) h))] at hk
      exact absurd hk (by decide)
  obtain ⟨h1, h2⟩ := less_bits ⟨g, by omega⟩ ⟨k, by omega⟩ hk
  have h3 := few_before hm hg (h := g - 2 ^ k) (Nat.lt_of_le_of_lt (Nat.sub_le _ _) hlt) (cmp_size h1)
  have h4 : hasT (partF x fun i => (g - 2 ^ k).testBit i) = true := by simpa using h3
  have e : partF x (fun i => (g - 2 ^ k).testBit i) = partF x fun i => g.testBit i && decide (i ≠ k) := by
    unfold partF
    rw [keepL_congr fun i hi => ?_]
    rw [Nat.zero_add]
    exact h2 ⟨i, by omega⟩
  rwa [e] at h4

end Go.Proofs.Ytgdifckmjdjcpaa
