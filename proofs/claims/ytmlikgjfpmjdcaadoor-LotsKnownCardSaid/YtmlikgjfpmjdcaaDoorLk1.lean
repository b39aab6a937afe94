/- The text of the examples' commons; conditions: none. -/
import Derived.Test.YtmlikgjfpmjdcaaDoorLk0
namespace Go.Proofs.YtmlikgjfpmjdcaaDoor
open Go.RowKit

/-- A number below 100, written. -/
def numK (i : Int) : List UInt8 := if 0 ≤ i ∧ i < 100 then Lib.decDigits i.toNat else []
theorem numK_len (i : Int) : (numK i).length ≤ 20 := by
  unfold numK
  split
  · rename_i h
    obtain ⟨k, hk⟩ : ∃ k : Nat, k = i.toNat := ⟨_, rfl⟩
    have : k < 100 := by omega
    rw [← hk]
    exact (show ∀ k < 100, (Lib.decDigits k).length ≤ 20 by decide +kernel) k this
  · simp
theorem itoa_k (i : Int) (h : 0 ≤ i ∧ i < 100) (w : World) : Calls Tryd.prog 42 #[.int .i64 i] w fun e u => e = .returned (.string (str (numK i))) ∧ u = w := by
  have h1 := Tryd.strconv_Itoa_small i.toNat (by omega) w
  rw [show ((i.toNat : Nat) : Int) = i by omega] at h1
  unfold numK str
  rw [if_pos h]
  exact h1
def txK : List UInt8 := [109, 111, 117, 110, 116, 97, 105, 110, 115, 32, 51, 48, 32, 50, 48, 32, 49, 50, 10, 118, 105, 108, 108, 97, 103, 101, 32, 56, 32, 104, 101, 97, 114, 116, 104, 115, 32, 50, 53, 32, 104, 101, 97, 100, 115, 32, 108, 105, 107, 101, 115, 32, 50, 32, 48, 32, 49, 10, 118, 105, 108, 108, 97, 103, 101, 32, 53, 32, 104, 101, 97, 114, 116, 104, 115, 32, 49, 48, 32, 104, 101, 97, 100, 115, 32, 108, 105, 107, 101, 115, 32, 48, 32, 50, 32, 49, 10, 118, 105, 108, 108, 97, 103, 101, 32, 51, 32, 104, 101, 97, 114, 116, 104, 115, 32, 49, 52, 32, 104, 101, 97, 100, 115, 32, 108, 105, 107, 101, 115, 32, 48, 32, 49, 32, 50, 10, 115, 104, 97, 114, 101, 100, 10]
theorem txK_eq : cmT numK hillsC = txK := by decide +kernel
theorem known_pn : (∀ i ∈ hillsC.mountains, 0 ≤ i ∧ i < 100) ∧ ∀ v ∈ hillsC.villages, (0 ≤ v.hearths ∧ v.hearths < 100) ∧ (0 ≤ v.herd ∧ v.herd < 100) ∧ ∀ i ∈ v.likes, 0 ≤ i ∧ i < 100 := by decide +kernel
theorem kWrite {A : Nat → Prop} {w : World} {vm vv : Value} (h : Cm A w vm vv hillsC) : Calls Tryd.prog 21 #[.agg #[vm, vv]] w fun e w' => e = .returned (.tuple #[.string (str txK), .int .i64 0]) ∧ Below w.heap.size w w' := by
  have := cwrite_c h (num := numK) (Pn := fun i => 0 ≤ i ∧ i < 100) (fun i hi w' _ => itoa_k i hi w') numK_len (fun _ => known_pn)
  rw [kc1, if_pos rfl, txK_eq] at this
  exact this

end Go.Proofs.YtmlikgjfpmjdcaaDoor
