/- The chapter's examples (edge); conditions: numbers below 100 are written as said. -/
import Derived.Test.YtgljiabmfcobiaaDoorKn0
import Derived.Test.YtgljiabmfcobiaaDoorWri
import Derived.Test.YtgljiabmfcobiaaDoorShelf
namespace Go.Proofs.YtgljiabmfcobiaaDoor
open Go.RowKit

/-- A number below 100, written. -/
def numK (i : Int) : List UInt8 := if 0 ≤ i ∧ i < 100 then Lib.decDigits i.toNat else []
theorem numK_len (i : Int) : (numK i).length ≤ 20 := by
  unfold numK
  split
  · rename_i h
    obtain ⟨k, hk⟩ : ∃ k : Nat, k = i.toNat := ⟨_, rfl⟩
    have : k < 100 := by omega
    rw [← hk]
    exact (show ∀ k < 100, (Lib.decDigits k).length ≤ 20 by decide +kernel) k this
  · simp
theorem itoa_k (i : Int) (h : 0 ≤ i ∧ i < 100) (w : World) : Calls Tryd.prog 39 #[.int .i64 i] w fun e u => e = .returned (.string (str (numK i))) ∧ u = w := by
  have h1 := Tryd.strconv_Itoa_small i.toNat (by omega) w
  rw [show ((i.toNat : Nat) : Int) = i by omega] at h1
  unfold numK str
  rw [if_pos h]
  exact h1
/-- The text of the examples' edge. -/
def txK : List UInt8 := [101, 100, 103, 101, 32, 51, 32, 112, 111, 105, 110, 116, 115, 32, 98, 101, 110, 100, 32, 50, 10, 115, 116, 111, 110, 101, 32, 97, 116, 32, 48, 32, 105, 115, 32, 52, 10, 109, 101, 97, 115, 117, 114, 101, 32, 97, 116, 32, 50, 32, 105, 115, 32, 55, 32, 101, 114, 114, 32, 49, 10, 119, 105, 116, 104, 105, 110, 32, 97, 116, 32, 49, 32, 105, 115, 32, 53, 10, 102, 117, 114, 114, 111, 119, 32, 97, 116, 32, 49, 32, 121, 101, 97, 114, 32, 51, 32, 105, 115, 32, 53, 10, 102, 117, 114, 114, 111, 119, 32, 97, 116, 32, 49, 32, 121, 101, 97, 114, 32, 56, 32, 105, 115, 32, 51, 10, 102, 117, 114, 114, 111, 119, 32, 97, 116, 32, 50, 32, 121, 101, 97, 114, 32, 53, 32, 105, 115, 32, 54, 10, 101, 100, 103, 101, 100, 10]
theorem txK_eq : edT numK (bankE []) ploughF = txK := by decide +kernel
theorem known_both : bothX (bankE []) ploughF = 0 := by decide +kernel
theorem known_pn : (0 ≤ (bankE []).points ∧ (bankE []).points < 100) ∧ (0 ≤ (bankE []).bend ∧ (bankE []).bend < 100) ∧ (∀ c ∈ (bankE []).claims, (0 ≤ c.point ∧ c.point < 100) ∧ (0 ≤ c.other ∧ c.other < 100) ∧ (0 ≤ c.off ∧ c.off < 100) ∧ (0 ≤ c.err ∧ c.err < 100)) ∧ ∀ f ∈ ploughF, (0 ≤ f.point ∧ f.point < 100) ∧ (0 ≤ f.year ∧ f.year < 100) ∧ (0 ≤ f.off ∧ f.off < 100) := by decide +kernel
theorem kWrite {A A' : Nat → Prop} {w : World} {v vl : Value} (h : ClsM A w v (bankE []).claims) (hl : FusM A' w vl ploughF) : Calls Tryd.prog 22 #[.agg #[.int .i64 3, .int .i64 2, v], vl] w fun e w' => e = .returned (.tuple #[.string (str txK), .int .i64 0]) ∧ Below w.heap.size w w' := by
  have := write_c (x := bankE []) h hl (num := numK) (Pn := fun i => 0 ≤ i ∧ i < 100) (fun i hi w' _ => itoa_k i hi w') numK_len (fun _ => known_pn)
  rw [known_both, if_pos rfl, txK_eq] at this
  exact this

end Go.Proofs.YtgljiabmfcobiaaDoor
