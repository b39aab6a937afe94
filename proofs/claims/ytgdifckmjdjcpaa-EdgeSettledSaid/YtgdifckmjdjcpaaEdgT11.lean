/- The chapter's examples, in plain words; conditions: none. -/
import Derived.Test.YtgdifckmjdjcpaaEdgT10
namespace Go.Proofs.Ytgdifckmjdjcpaa

def bankE (more : List Cl) : Edg := ⟨3, 2, [⟨1, 0, 0, 4, 0⟩, ⟨2, 2, 0, 7, 1⟩, ⟨3, 1, 0, 5, 0⟩] ++ more⟩
def ploughF : List Fu := [⟨1, 3, 5⟩, ⟨1, 8, 3⟩, ⟨2, 5, 6⟩]
theorem known_count : countX (bankE []) = (3, 0) := by decide +kernel
theorem known_bounds : boundsX (bankE []) = ([(4, 4), (4, 5), (6, 7)], 0) := by decide +kernel
theorem known_clash : clashX (bankE [⟨1, 1, 0, 7, 0⟩]) = ([0, 3], 0) := by decide +kernel
theorem known_encr : encrX (bankE []) ploughF 8 = ([2, 1, 3], 0) := by decide +kernel
theorem known_fine : fineX (bankE []) ploughF 2 7 8 = ((2, 8), 0) := by decide +kernel
theorem known_apart : apartX (bankE []) 2 1 = ((1, 2), 0) ∧ apartX (bankE []) 0 2 = ((-3, -2), 0) ∧ (apartX (bankE []) 0 3).2 = 3 := by decide +kernel
theorem known_follows : followsX (bankE []) ⟨4, 1, 0, 4, 0⟩ = (1, 0) ∧ followsX (bankE []) ⟨4, 1, 0, 5, 0⟩ = (3, 0) ∧ followsX (bankE []) ⟨1, 2, 0, 8, 0⟩ = (2, 0) ∧ followsX (bankE []) ⟨5, 2, 1, 2, 0⟩ = (1, 0) := by decide +kernel
theorem known_add : (addX (bankE []) ⟨1, 2, 0, 8, 0⟩).2 = 12 ∧ (addX (bankE []) ⟨1, 1, 0, 5, 0⟩).2 = 0 ∧ countX (bankE [⟨1, 1, 0, 5, 0⟩]) = (2, 0) := by decide +kernel
theorem known_wrong : wrongX (bankE []) = ([], 0) ∧ wrongX (bankE [⟨1, 1, 0, 7, 0⟩]) = ([3], 0) ∧ idleX (bankE []) = ([], 0) ∧ idleX (bankE [⟨3, 2, 0, 9, 0⟩]) = ([3], 0) := by decide +kernel
theorem known_taken : takenX (bankE []) ploughF 2 = ([(0, 0), (0, 0), (0, 0)], 0) ∧ takenX (bankE []) ploughF 3 = ([(0, 0), (0, 0), (0, 0)], 0) ∧ takenX (bankE []) ploughF 8 = ([(0, 0), (1, 2), (0, 1)], 0) := by decide +kernel
theorem known_encr4 : encrX (bankE []) ploughF 4 = ([2, 2, 2], 0) := by decide +kernel
theorem known_since : sinceX (bankE []) ploughF 0 = ((-1, -1), 0) ∧ sinceX (bankE []) ploughF 1 = ((8, 8), 0) ∧ sinceX (bankE []) ploughF 2 = ((5, -1), 0) := by decide +kernel
theorem known_fine2 : fineX (bankE []) ploughF 2 4 4 = ((0, 0), 0) ∧ (fineX (bankE []) ploughF 2 8 7).2 = 5 := by decide +kernel

end Go.Proofs.Ytgdifckmjdjcpaa
