/- The fewest of a group, in plain words: the first of all groups in order is what the keeper keeps; conditions: at most four villages. -/
import Derived.Test.YtmlikgjfpmjdcaaDoorC3
namespace Go.Proofs.YtmlikgjfpmjdcaaDoor
open Go.RowKit

/-- All groups, the smaller ones first, in lexicographic order; the first that is so. -/
def allP (n : Nat) : List (List Int) := (List.range n).flatMap fun m => picksL n (m + 1) 0
def grpF (P : List Int → Bool) (n : Nat) : Option (List Int) := (allP n).find? P
/-- The group of a set, and its beginning. -/
def gSet (s j : Nat) : List Int := ((List.range j).filter (hasB s)).map fun (i : Nat) => (i : Int)
theorem gSet_succ (s j : Nat) : gSet s (j + 1) = if hasB s j = true then gSet s j ++ [(j : Int)] else gSet s j := by
  unfold gSet
  rw [List.range_succ, List.filter_append]
  by_cases h : hasB s j = true
  · simp [h]
  · simp [h]
theorem gSet_len (s j : Nat) : (gSet s j).length ≤ j := by
  unfold gSet
  rw [List.length_map]
  exact Nat.le_trans (List.length_filter_le _ _) (by simp)
def gKey (g : List Int) : List Int := (g.length : Int) :: g
/-- The keeper after one more group. -/
def gpStep (P : List Int → Bool) (ks : Option (List Int × List Int)) (g : List Int) : Option (List Int × List Int) := if P g = true then (match ks with
  | none => some (g, gKey g)
  | some (b, k) => if cmpL (gKey g) k < 0 then some (g, gKey g) else some (b, k)) else ks
def setsL (n k : Nat) : List (List Int) := (List.range k).map fun s => gSet (s + 1) n
def grpK (P : List Int → Bool) (n k : Nat) : Option (List Int × List Int) := (setsL n k).foldl (gpStep P) none
theorem grpK_succ (P : List Int → Bool) (n k : Nat) : grpK P n (k + 1) = gpStep P (grpK P n k) (gSet (k + 1) n) := by
  simp [grpK, setsL, List.range_succ]

set_option maxRecDepth 100000 in
theorem key_idx : ∀ n < 5, ∀ a ∈ allP n, ∀ b ∈ allP n, cmpL (gKey a) (gKey b) < 0 ↔ (allP n).idxOf a < (allP n).idxOf b := by decide +kernel
set_option maxRecDepth 100000 in
theorem sets_all : ∀ n < 5, (∀ g ∈ setsL n (allB n), g ∈ allP n) ∧ ∀ g ∈ allP n, g ∈ setsL n (allB n) := by decide +kernel

theorem fold_idx {P : List Int → Bool} {n : Nat} (hn : n < 5) : ∀ (L : List (List Int)) (ks : Option (List Int × List Int)) (D : List (List Int)), (∀ g ∈ L, g ∈ allP n) →
    ((ks = none ∧ ∀ g ∈ D, P g = false) ∨ ∃ b, ks = some (b, gKey b) ∧ b ∈ allP n ∧ P b = true ∧ ∀ g ∈ D, P g = true → (allP n).idxOf b ≤ (allP n).idxOf g) →
    ((L.foldl (gpStep P) ks = none ∧ ∀ g ∈ D ++ L, P g = false) ∨ ∃ b, L.foldl (gpStep P) ks = some (b, gKey b) ∧ b ∈ allP n ∧ P b = true ∧ ∀ g ∈ D ++ L, P g = true → (allP n).idxOf b ≤ (allP n).idxOf g)
  | [], ks, D, _, h => by simpa using h
  | x :: t, ks, D, hL, h => by
    rw [List.foldl_cons, show D ++ x :: t = (D ++ [x]) ++ t by simp]
    refine fold_idx hn t _ (D ++ [x]) (fun g hg => hL g (by simp [hg])) ?_
    have hx := hL x (by simp)
    cases hp : P x with
    | false =>
      have e : gpStep P ks x = ks := by simp [gpStep, hp]
      rw [e]
      rcases h with ⟨h1, h2⟩ | ⟨b, h1, h2, h3, h4⟩
      · exact .inl ⟨h1, fun g hg => by rcases List.mem_append.1 hg with hg | hg; exact h2 g hg; rw [List.mem_singleton] at hg; rw [hg]; exact hp⟩
      · exact .inr ⟨b, h1, h2, h3, fun g hg hpg => by rcases List.mem_append.1 hg with hg | hg; exact h4 g hg hpg; rw [List.mem_singleton] at hg; rw [hg, hp] at hpg; cases hpg⟩
    | true =>
      right
      rcases h with ⟨h1, h2⟩ | ⟨b, h1, h2, h3, h4⟩
      · refine ⟨x, by simp [gpStep, hp, h1], hx, hp, fun g hg hpg => ?_⟩
        rcases List.mem_append.1 hg with hg | hg
        · rw [h2 g hg] at hpg; cases hpg
        · rw [List.mem_singleton] at hg; rw [hg]; exact Nat.le_refl _
      · have hk := key_idx n hn x hx b h2
        by_cases hc : cmpL (gKey x) (gKey b) < 0
        · have hi := hk.1 hc
          refine ⟨x, by simp [gpStep, hp, h1, hc], hx, hp, fun g hg hpg => ?_⟩
          rcases List.mem_append.1 hg with hg | hg
          · have := h4 g hg hpg; omega
          · rw [List.mem_singleton] at hg; rw [hg]; exact Nat.le_refl _
        · have hi : ¬ (allP n).idxOf x < (allP n).idxOf b := fun h => hc (hk.2 h)
          refine ⟨b, by simp [gpStep, hp, h1, hc], h2, h3, fun g hg hpg => ?_⟩
          rcases List.mem_append.1 hg with hg | hg
          · exact h4 g hg hpg
          · rw [List.mem_singleton] at hg; rw [hg]; omega

theorem idxOf_at_le : ∀ (l : List (List Int)) (j : Nat) (h : j < l.length), l.idxOf l[j] ≤ j
  | a :: t, 0, _ => by simp
  | a :: t, j + 1, h => by
    have := idxOf_at_le t j (by simpa using h)
    simp only [List.getElem_cons_succ, List.idxOf_cons]
    cases (a == t[j]'(by simpa using h)) <;> simp <;> omega
theorem grp_law {P : List Int → Bool} {n : Nat} (hn : n ≤ 4) : grpK P n (allB n) = (grpF P n).map fun g => (g, gKey g) := by
  obtain ⟨s1, s2⟩ := sets_all n (by omega)
  rcases fold_idx (P := P) (n := n) (by omega) (setsL n (allB n)) none [] s1 (.inl ⟨rfl, fun g hg => by simp at hg⟩) with ⟨h1, h2⟩ | ⟨b, h1, h2, h3, h4⟩
  · have : grpF P n = none := by
      rw [grpF, List.find?_eq_none]
      intro g hg
      rw [h2 g (by simp [s2 g hg])]; simp
    rw [this, grpK, h1]; rfl
  · have : grpF P n = some b := by
      rw [grpF, List.find?_eq_some_iff_getElem]
      refine ⟨h3, (allP n).idxOf b, List.idxOf_lt_length_of_mem h2, List.getElem_idxOf _, fun j hj => ?_⟩
      have hjl : j < (allP n).length := Nat.lt_trans hj (List.idxOf_lt_length_of_mem h2)
      cases hp : P (allP n)[j] with
      | false => rfl
      | true =>
        exfalso
        have hm := List.getElem_mem hjl
        have := h4 _ (by simp [s2 _ hm]) hp
        have h5 := idxOf_at_le (allP n) j hjl
        omega
    rw [this, grpK, h1]; rfl

/-- The search, group by group. -/
theorem find_flat {P : List Int → Bool} {n m : Nat} (hm : m < n) {g : List Int} {A B : List (List Int)} (hs : picksL n (m + 1) 0 = A ++ g :: B) (h1 : ∀ m', m' < m → ∀ x ∈ picksL n (m' + 1) 0, P x = false) (h2 : ∀ x ∈ A, P x = false) (hg : P g = true) : grpF P n = some g := by
  have e : List.range n = List.range m ++ m :: (List.range (n - m - 1)).map (fun i => m + 1 + i) := by
    have h : List.range (m + 1 + (n - m - 1)) = List.range m ++ m :: (List.range (n - m - 1)).map (fun i => m + 1 + i) := by
      rw [List.range_add, List.range_succ, List.append_assoc]; rfl
    rw [← h, show m + 1 + (n - m - 1) = n by omega]
  rw [grpF, allP, e, List.flatMap_append, List.flatMap_cons, hs, List.find?_append, List.append_assoc, List.find?_append]
  have f1 : ((List.range m).flatMap fun m => picksL n (m + 1) 0).find? P = none := by
    rw [List.find?_eq_none]
    intro x hx
    obtain ⟨m', hm', hx'⟩ := List.mem_flatMap.1 hx
    rw [h1 m' (by simpa using hm') x hx']; simp
  have f2 : A.find? P = none := by
    rw [List.find?_eq_none]
    intro x hx
    rw [h2 x hx]; simp
  rw [f1, f2]
  simp [hg]
theorem find_none {P : List Int → Bool} {n : Nat} (h1 : ∀ m', m' < n → ∀ x ∈ picksL n (m' + 1) 0, P x = false) : grpF P n = none := by
  rw [grpF, List.find?_eq_none]
  intro x hx
  obtain ⟨m', hm', hx'⟩ := List.mem_flatMap.1 hx
  rw [h1 m' (by simpa using hm') x hx']; simp

end Go.Proofs.YtmlikgjfpmjdcaaDoor
