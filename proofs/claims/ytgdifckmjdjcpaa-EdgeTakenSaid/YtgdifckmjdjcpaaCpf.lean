/- CopyFurrows of mestakit (edge): the copy is its own row; conditions: the furrows read as a list. -/
import Derived.Test.YtgdifckmjdjcpaaFq
namespace Go.Proofs.Ytgdifckmjdjcpaa
open Go.RowKit

theorem copyFurrows_c {A : Nat → Prop} {w : World} {v : Value} {l : List Fu} (h : FusM A w v l) (hl : l.length ≤ 1000) :
    Calls Try.prog 37 #[v] w fun e w' => ∃ v', e = .returned v' ∧ Own w.heap.size w' 76 3 v' l.length (l.flatMap fcells) ∧ Below w.heap.size w w' := by
  have n1 := h.len
  have hh := h.call ((Below.refl w.heap.size w).alloc (Nat.le_refl _) (.cells #[] 76))
  have ho := own_lit w 76 3 #[] 0 rfl (by omega)
  obtain ⟨a1, c1, rfl, hc1, hm1⟩ := h.shape
  go_enter Try.func37, Try.ntmps37
  go_wp2_with (at_builtin; refine wpList_append_arr rfl _ _ 44 rfl 76 _ 3 24 Try.underlying44 Try.info76 rfl (by decide) (by decide) (by simp) ho rfl hh rfl (flat_len fcells_len l) (flat_one fcells_one l) (by omega) ?_; intro v' w' hown hT)
  go_ret
  rw [Nat.zero_add, List.nil_append] at hown
  exact ⟨_, rfl, hown, hT.below ho ((Below.refl w.heap.size w).alloc (Nat.le_refl _) _) (by simp)⟩

end Go.Proofs.Ytgdifckmjdjcpaa
