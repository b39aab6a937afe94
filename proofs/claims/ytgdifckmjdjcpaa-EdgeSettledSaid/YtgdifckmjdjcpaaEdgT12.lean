/- Furrows sorted by their years, step by step: what the sort keeps, and what lies behind it; conditions: as said. -/
import Derived.Test.YtgdifckmjdjcpaaEdgT4
namespace Go.Proofs.Ytgdifckmjdjcpaa

/-- While the furrow at j sinks down among the first i + 1. -/
structure Ins (l0 cur : List Fu) (i j : Nat) : Prop where
  perm : cur.Perm l0
  ord : ∀ a b (_ : a < b) (_ : b ≤ i) (hl : b < cur.length), b ≠ j → (cur[a]'(by omega)).year ≤ cur[b].year
theorem Ins.len {l0 cur : List Fu} {i j : Nat} (h : Ins l0 cur i j) : cur.length = l0.length := h.perm.length_eq
/-- The first i are sorted. -/
structure Srt (l0 cur : List Fu) (i : Nat) : Prop where
  perm : cur.Perm l0
  ord : ∀ a b (_ : a < b) (_ : b < i) (hl : b < cur.length), (cur[a]'(by omega)).year ≤ cur[b].year
theorem Srt.start (l0 : List Fu) : Srt l0 l0 1 := ⟨.refl _, fun a b h1 h2 _ => by omega⟩
theorem Srt.begin {l0 cur : List Fu} {i : Nat} (h : Srt l0 cur i) : Ins l0 cur i i := ⟨h.perm, fun a b h1 h2 hl hne => h.ord a b h1 (by omega) hl⟩
def swapL (l : List Fu) (j : Nat) : List Fu := match l[j]?, l[j - 1]? with
  | some x, some y => (l.set j y).set (j - 1) x
  | _, _ => l
theorem swapL_eq {l : List Fu} {j : Nat} (h : j < l.length) : swapL l j = (l.set j (l[j - 1]'(by omega))).set (j - 1) l[j] := by
  unfold swapL
  rw [List.getElem?_eq_getElem h, List.getElem?_eq_getElem (show j - 1 < l.length by omega)]
theorem swapL_at {l : List Fu} {j : Nat} (h : j < l.length) (h0 : 0 < j) (a : Nat) (ha : a < (swapL l j).length) : (swapL l j)[a] = if a = j then l[j - 1]'(by omega) else if a = j - 1 then l[j] else l[a]'(by rw [swapL_eq h] at ha; simpa using ha) := by
  simp only [swapL_eq h, List.getElem_set]
  by_cases e1 : a = j
  · subst e1
    rw [if_neg (by omega), if_pos rfl, if_pos rfl]
  · by_cases e2 : a = j - 1
    · subst e2
      rw [if_pos rfl, if_neg (by omega), if_pos rfl]
    · rw [if_neg (by omega), if_neg (by omega), if_neg e1, if_neg e2]
theorem swapL_perm {l : List Fu} {j : Nat} (h : j < l.length) : (swapL l j).Perm l := by
  rw [swapL_eq h]
  by_cases h0 : 0 < j
  · have e : l = l.take (j - 1) ++ (l[j - 1]'(by omega) :: l[j] :: l.drop (j + 1)) := by
      have e1 : l.drop (j - 1) = l[j - 1]'(by omega) :: l.drop j := by
        have := List.drop_eq_getElem_cons (show j - 1 < l.length by omega)
        rwa [show j - 1 + 1 = j by omega] at this
      rw [← List.drop_eq_getElem_cons h, ← e1, List.take_append_drop]
    have hl : (l.take (j - 1)).length = j - 1 := by rw [List.length_take]; omega
    generalize hx : l[j - 1]'(by omega) = x at e ⊢
    generalize hy : l[j] = y at e ⊢
    generalize l.take (j - 1) = p at e hl
    generalize l.drop (j + 1) = s at e
    subst e
    rw [List.set_append_right _ _ (by omega), List.set_append_right _ _ (by omega), hl, Nat.sub_self, show j - (j - 1) = 1 by omega]
    simp only [List.set_cons_succ, List.set_cons_zero]
    exact List.Perm.append_left _ (List.Perm.swap ..)
  · obtain rfl : j = 0 := by omega
    simp
theorem Ins.sink {l0 cur : List Fu} {i j : Nat} (h : Ins l0 cur i j) (h0 : 0 < j) (hi : j ≤ i) (hl : j < cur.length) (hlt : cur[j].year < (cur[j - 1]'(by omega)).year) : Ins l0 (swapL cur j) i (j - 1) := by
  have hlen : (swapL cur j).length = cur.length := (swapL_perm hl).length_eq
  refine ⟨(swapL_perm hl).trans h.perm, fun a b h1 h2 hb hne => ?_⟩
  rw [swapL_at hl h0 a (by omega), swapL_at hl h0 b hb]
  by_cases e1 : b = j
  · subst e1
    rw [if_pos rfl, if_neg (by omega)]
    by_cases e2 : a = b - 1
    · rw [if_pos e2]; omega
    · rw [if_neg e2]
      exact h.ord a (b - 1) (by omega) (by omega) (by omega) (by omega)
  · rw [if_neg e1, if_neg (show ¬ b = j - 1 from hne)]
    by_cases e2 : a = j
    · rw [if_pos e2]
      exact h.ord (j - 1) b (by omega) h2 (by omega) e1
    · rw [if_neg e2]
      by_cases e3 : a = j - 1
      · rw [if_pos e3]
        subst e3
        have := h.ord j b (by omega) h2 (by omega) e1
        exact this
      · rw [if_neg e3]
        exact h.ord a b h1 h2 (by omega) e1
theorem Ins.stop {l0 cur : List Fu} {i j : Nat} (h : Ins l0 cur i j) (hi : j ≤ i) (hl : i < cur.length) (hs : j = 0 ∨ ∃ h0 : 0 < j, (cur[j - 1]'(by omega)).year ≤ (cur[j]'(by omega)).year) : Srt l0 cur (i + 1) := by
  refine ⟨h.perm, fun a b h1 h2 hb => ?_⟩
  by_cases e : b = j
  · subst e
    rcases hs with rfl | ⟨h0, hs⟩
    · omega
    · by_cases e2 : a = b - 1
      · subst e2; exact hs
      · exact Int.le_trans (h.ord a (b - 1) (by omega) (by omega) (by omega) (by omega)) hs
  · exact h.ord a b h1 (by omega) hb e
theorem Srt.done {l0 cur : List Fu} {i : Nat} (h : Srt l0 cur i) (hi : cur.length ≤ i) : l0.Perm cur ∧ cur.Pairwise fun f g => f.year ≤ g.year := by
  refine ⟨h.perm.symm, List.pairwise_iff_getElem.2 fun a b ha hb hab => h.ord a b hab (by omega) hb⟩

end Go.Proofs.Ytgdifckmjdjcpaa
