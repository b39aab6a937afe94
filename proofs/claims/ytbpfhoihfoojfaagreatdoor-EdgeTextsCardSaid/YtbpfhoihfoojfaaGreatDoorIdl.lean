/- Contract of Idle (edge); conditions: the claims read as a list. -/
import Derived.Test.YtbpfhoihfoojfaaGreatDoorTq
import Derived.Test.YtbpfhoihfoojfaaGreatDoorCw
namespace Go.Proofs.YtbpfhoihfoojfaaGreatDoor
open Go.RowKit

/-- An edge in its block. -/
def XR (b : Nat) (P B : Int) (v : Value) (w : World) : Prop := Blk b #[.int .i64 P, .int .i64 B, v] 24 w
theorem XR.c0 {b : Nat} {P B : Int} {v : Value} {w : World} (h : XR b P B v w) : w.cell? ⟨b, 0, none⟩ = some (.int .i64 P) := Blk.cell h 0
theorem XR.c1 {b : Nat} {P B : Int} {v : Value} {w : World} (h : XR b P B v w) : w.cell? ⟨b, 1, none⟩ = some (.int .i64 B) := Blk.cell h 1
theorem XR.c2 {b : Nat} {P B : Int} {v : Value} {w : World} (h : XR b P B v w) : w.cell? ⟨b, 2, none⟩ = some v := Blk.cell h 2

/-- Idle claims among the first. -/
def idleB (x : Edg) (i : Nat) : Bool := (truthsF (partF x fun j => decide (j ≠ i))).length == (truthsF x).length
def idleK (x : Edg) (k : Nat) : List Nat := (List.range k).filter (idleB x)
theorem idleK_succ (x : Edg) (k : Nat) : idleK x (k + 1) = idleK x k ++ if idleB x k = true then [k] else [] := by
  unfold idleK
  rw [List.range_succ, List.filter_append]
  congr 1
  by_cases h : idleB x k = true
  · rw [if_pos h, List.filter_cons_of_pos h]; rfl
  · rw [if_neg h, List.filter_cons_of_neg h]; rfl
theorem idleK_len (x : Edg) (k : Nat) : (idleK x k).length ≤ k := by
  unfold idleK
  have := List.length_filter_le (idleB x) (List.range k)
  rwa [List.length_range] at this
theorem castN_snoc (l : List Nat) (k : Nat) : castN (l ++ [k]) = castN l ++ [(k : Int)] := by unfold castN; rw [List.map_append]; rfl
theorem castN_len (l : List Nat) : (castN l).length = l.length := by unfold castN; rw [List.length_map]
/-- All claims but one, as the code asks for them. -/
theorem but_mask {x : Edg} (hx : x.Ok) {k : Nat} (hk : k < x.claims.length) : ∃ M : Nat, M < 128 ∧ bits BinOp.andNot IntKind.u16 ((2 ^ x.claims.length - 1 : Nat) : Int) ((2 ^ k : Nat) : Int) = (M : Int) ∧ partF x (fun j => M.testBit j) = partF x fun j => decide (j ≠ k) := by
  have hm := hx.m
  have hp := pow_le_128 hm
  have hg : 2 ^ k < 2 ^ x.claims.length := Nat.pow_lt_pow_right (by decide) hk
  refine ⟨(2 ^ x.claims.length - 1) &&& (65535 - 2 ^ k), ?_, andNot_fact ⟨x.claims.length, by omega⟩ ⟨2 ^ k, by omega⟩, part_less hx hk⟩
  have := (but_bits ⟨x.claims.length, by omega⟩ ⟨2 ^ k, by omega⟩ hg).1
  simp only at this
  omega

end Go.Proofs.YtbpfhoihfoojfaaGreatDoor
