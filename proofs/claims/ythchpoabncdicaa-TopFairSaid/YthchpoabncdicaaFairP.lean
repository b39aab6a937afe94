/- Fair of lots and Fair of mestaref08 answer the same, in plain words; conditions: none. -/
import Derived.Test.YthchpoabncdicaaFairQ
namespace Go.Proofs.Ythchpoabncdicaa
open Go.RowKit

theorem cmpI_zero {x y : Int} (h : x = y) : cmpI x y = 0 := by subst h; unfold cmpI; simp
theorem cmpI_less {x y : Int} (h : x < y) : cmpI x y < 0 := by unfold cmpI; split <;> omega
theorem cmpI_more {x y : Int} (h : y < x) : 0 < cmpI x y := by unfold cmpI; rw [if_neg (by omega), if_pos h]; omega
theorem cmpI_lt {x y : Int} : cmpI x y < 0 ↔ x < y := by
  rcases Int.lt_trichotomy x y with h | h | h
  · exact ⟨fun _ => h, fun _ => cmpI_less h⟩
  · rw [cmpI_zero h]; omega
  · have := cmpI_more h; omega
theorem cmpI_eq {x y : Int} : cmpI x y = 0 ↔ x = y := by
  rcases Int.lt_trichotomy x y with h | h | h
  · have := cmpI_less h; omega
  · exact ⟨fun _ => h, fun _ => cmpI_zero h⟩
  · have := cmpI_more h; omega
theorem cmpL_cons (x y : Int) (s t : List Int) : cmpL (x :: s) (y :: t) = if x = y then cmpL s t else cmpI x y := by
  rw [cmpL]
  by_cases h : x = y
  · rw [cmpI_zero h, if_pos h]; simp
  · have : cmpI x y ≠ 0 := fun e => h (cmpI_eq.1 e)
    simp [h, this]
theorem cmpL_pre : ∀ (p s t : List Int), cmpL (p ++ s) (p ++ t) = cmpL s t
  | [], _, _ => rfl
  | x :: p, s, t => by rw [List.cons_append, List.cons_append, cmpL_cons, if_pos rfl, cmpL_pre p s t]
theorem cmpL_app : ∀ (a b s t : List Int), a.length = b.length → cmpL (a ++ s) (b ++ t) = if a = b then cmpL s t else cmpL a b
  | [], [], s, t, _ => by simp
  | [], _ :: _, _, _, h => by simp at h
  | _ :: _, [], _, _, h => by simp at h
  | x :: a, y :: b, s, t, h => by
    rw [List.cons_append, List.cons_append, cmpL_cons, cmpL_cons, cmpL_app a b s t (by simpa using h)]
    by_cases e : x = y
    · subst e
      by_cases e2 : a = b <;> simp [e2]
    · simp [e]

/-- The lists of numbers ascend. -/
theorem cycI_pre {all : List (List Int)} : ∀ r ys s, s ∈ cycI all r ys → s.length = ys.length + r ∧ (∃ t, s = ys ++ t) ∧ ∀ y ∈ s, y ∈ ys ∨ (0 ≤ y ∧ y < (all.length : Int))
  | 0, ys, s, h => by
    rw [cycI, List.mem_singleton] at h
    subst h
    exact ⟨rfl, ⟨[], by simp⟩, fun y hy => .inl hy⟩
  | r + 1, ys, s, h => by
    rw [cycI, List.mem_flatMap] at h
    obtain ⟨i, hi, h⟩ := h
    split at h
    · obtain ⟨h1, ⟨t, ht⟩, h3⟩ := cycI_pre r _ s h
      refine ⟨by rw [h1, List.length_append, List.length_singleton]; omega, ⟨(i : Int) :: t, by rw [ht]; simp⟩, fun y hy => ?_⟩
      rcases h3 y hy with h4 | h4
      · rcases List.mem_append.1 h4 with h4 | h4
        · exact .inl h4
        · rw [List.mem_singleton] at h4; subst h4
          have hi : i < all.length := by simpa using hi
          exact .inr ⟨by omega, by omega⟩
      · exact .inr h4
    · simp at h
theorem cycI_asc {all : List (List Int)} : ∀ r ys, (cycI all r ys).Pairwise fun a b => ¬ cmpL b a < 0
  | 0, ys => by simp [cycI]
  | r + 1, ys => by
    rw [cycI, List.pairwise_flatMap]
    refine ⟨fun i _ => ?_, ?_⟩
    · split
      · exact cycI_asc r _
      · exact List.Pairwise.nil
    · refine List.Pairwise.imp ?_ (List.pairwise_lt_range (n := all.length))
      intro i j hij x hx y hy
      split at hx
      · split at hy
        · obtain ⟨_, ⟨t, ht⟩, _⟩ := cycI_pre r _ x hx
          obtain ⟨_, ⟨u, hu⟩, _⟩ := cycI_pre r _ y hy
          rw [ht, hu, List.append_assoc, List.append_assoc, cmpL_pre, List.singleton_append, List.singleton_append, cmpL_cons, if_neg (by omega)]
          have := cmpI_more (show ((i : Nat) : Int) < ((j : Nat) : Int) by omega)
          omega
        · simp at hy
      · simp at hx

theorem calm_cmp {vs : List Vil} : ∀ (s t : List (List Int)), s.length = t.length → (calmF vs s t = true ↔ cmpL (s.map fun a => rkS vs a vs.length) (t.map fun a => rkS vs a vs.length) < 0)
  | [], [], _ => by simp [calmF, cmpL]
  | [], _ :: _, h => by simp at h
  | _ :: _, [], h => by simp at h
  | a :: s, b :: t, h => by
    rw [calmF, List.map_cons, List.map_cons, cmpL_cons]
    by_cases e : rkS vs a vs.length = rkS vs b vs.length
    · rw [if_pos e, if_pos e]
      exact calm_cmp s t (by simpa using h)
    · rw [if_neg e, if_neg e, decide_eq_true_eq, cmpI_lt]

/-- The sums of a list of numbers are the ranks of its divisions. -/
theorem sum_toDiv {vs : List Vil} {D : List (List Int)} (hD : ∀ d ∈ D, envySum vs d = rkS vs d vs.length) {ys : List Int} (hys : ∀ y ∈ ys, 0 ≤ y ∧ y < (D.length : Int)) : ys.map (sumAt (D.map (envySum vs))) = (toDiv D ys).map fun a => rkS vs a vs.length := by
  rw [toDiv, List.map_map]
  refine List.map_congr_left fun y hy => ?_
  have h := hys y hy
  have hy2 : y.toNat < D.length := by omega
  simp only [Function.comp, sumAt, List.getD_eq_getElem?_getD, List.getElem?_map, List.getElem?_eq_getElem hy2, Option.map_some, Option.getD_some]
  exact hD _ (List.getElem_mem hy2)
theorem key_calm {vs : List Vil} {D : List (List Int)} (hD : ∀ d ∈ D, envySum vs d = rkS vs d vs.length) {a b : List Int} (hl : b.length = a.length) (ha : ∀ y ∈ a, 0 ≤ y ∧ y < (D.length : Int)) (hb : ∀ y ∈ b, 0 ≤ y ∧ y < (D.length : Int)) (hab : ¬ cmpL b a < 0) :
    cmpL (keyF (D.map (envySum vs)) b) (keyF (D.map (envySum vs)) a) < 0 ↔ calmF vs (toDiv D b) (toDiv D a) = true := by
  rw [keyF, keyF, cmpL_app _ _ _ _ (by simp [hl]), sum_toDiv hD ha, sum_toDiv hD hb, calm_cmp _ _ (by simp [toDiv, hl])]
  split
  · rename_i e
    rw [e]
    have h0 : ∀ l : List Int, cmpL l l = 0 := fun l => by
      induction l with
      | nil => rfl
      | cons x l ih => rw [cmpL_cons, if_pos rfl, ih]
    rw [h0]
    exact ⟨fun h => absurd h hab, fun h => absurd h (by omega)⟩
  · exact Iff.rfl
theorem fold_best {vs : List Vil} {D : List (List Int)} (hD : ∀ d ∈ D, envySum vs d = rkS vs d vs.length) {r : Nat} : ∀ k, k < (cycI D r []).length → ∃ j, ∃ hj : j < (cycI D r []).length, j ≤ k ∧
    ((cycI D r []).take (k + 1)).foldl (offerF (D.map (envySum vs))) none = some ((cycI D r [])[j], keyF (D.map (envySum vs)) (cycI D r [])[j]) ∧ bestC vs ((cycI D r []).map (toDiv D)) k = toDiv D (cycI D r [])[j]
  | 0, h => ⟨0, h, Nat.le_refl _, by rw [List.take_succ_eq_append_getElem h]; rfl, by rw [bestC]; simp [h]⟩
  | k + 1, h => by
    obtain ⟨j, hj, hjk, h1, h2⟩ := fold_best hD (r := r) k (by omega)
    have hok : ∀ i (hi : i < (cycI D r []).length), (cycI D r [])[i].length = r ∧ ∀ y ∈ (cycI D r [])[i], 0 ≤ y ∧ y < (D.length : Int) := fun i hi => by
      obtain ⟨a1, _, a3⟩ := cycI_pre r [] _ (List.getElem_mem hi)
      exact ⟨by simpa using a1, fun y hy => (a3 y hy).resolve_left (by simp)⟩
    have hasc := List.pairwise_iff_getElem.1 (cycI_asc (all := D) r []) j (k + 1) hj h (by omega)
    have hkey := key_calm hD (by rw [(hok _ h).1, (hok _ hj).1]) (hok _ hj).2 (hok _ h).2 hasc
    have hg : ((cycI D r []).map (toDiv D)).getD (k + 1) [] = toDiv D (cycI D r [])[k + 1] := by simp [h]
    rw [List.take_succ_eq_append_getElem h, List.foldl_append, h1, bestC, h2, hg]
    simp only [List.foldl_cons, List.foldl_nil, offerF]
    by_cases hc : calmF vs (toDiv D (cycI D r [])[k + 1]) (toDiv D (cycI D r [])[j]) = true
    · exact ⟨k + 1, h, Nat.le_refl _, by rw [if_pos (hkey.2 hc)], by rw [if_pos hc]⟩
    · exact ⟨j, hj, by omega, by rw [if_neg (fun x => hc (hkey.1 x))], by rw [if_neg hc]⟩

theorem fairF_same {c : Com} (h : c.Ok 4) : fairF c = rfairF c := by
  have hn : c.villages.length ≤ 4 := by have := h.vl; have := h.n2; omega
  have hp := exts_perm hn
  have hlen := (exts_all hn).2
  have hD : ∀ d ∈ exts c.villages.length c.villages.length [], envySum c.villages d = rkS c.villages d c.villages.length := fun d hd => by
    have hl := hlen d hd
    have := envySum_rk (vs := c.villages) (d := d) hl.symm (fun v hv => by rw [hl, h.vl]; exact (h.vil v hv).2.2.2.2) (by rw [hl]; exact hp d hd)
    rw [this, hl]
  have hmap := cyc_map (n := c.villages.length) hlen c.villages.length [] (by simp)
  have hne := cycL_some hn
  rw [show toDiv (exts c.villages.length c.villages.length []) [] = [] from rfl] at hmap
  rw [hmap, List.length_map] at hne
  obtain ⟨j, hj, _, h1, h2⟩ := fold_best hD (r := c.villages.length) ((cycI (exts c.villages.length c.villages.length []) c.villages.length []).length - 1) (by omega)
  rw [rfairF, hmap, List.length_map, h2, fairF, yearsF, growF_fold, sumsF, divs]
  rw [show (cycI (exts c.villages.length c.villages.length []) c.villages.length []).length - 1 + 1 = (cycI (exts c.villages.length c.villages.length []) c.villages.length []).length by omega, List.take_length] at h1
  rw [h1, bestOf, toDiv]
theorem fair_same (c : Com) : fairR c = rfairR c := by
  rw [fairR, rfairR]
  split
  · rename_i e
    exact fairF_same ((checkE_zero c).1 e)
  · rfl

end Go.Proofs.Ythchpoabncdicaa
