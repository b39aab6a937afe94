/- Two villages that become one, in plain words: they get no fewer places; conditions: as said. -/
import Derived.Test.YthchpoabncdicaaLastP
namespace Go.Proofs.Ythchpoabncdicaa
open Go.RowKit

/-- Two neighbours that become one get at least what both got: x is c with bounds of 30 for the two, y is where they are one. -/
theorem merged_law {xs ys : List Vil} {i : Nat} (hx : VOk xs) (hy : VOk ys) (hi : i + 1 < xs.length) (hl : ys.length + 1 = xs.length) (p : Nat) (_ : p ≤ 30)
    (h1 : her xs i = 30) (h2 : her xs (i + 1) = 30) (h3 : her ys i = 60) (h4 : hea ys i = hea xs i + hea xs (i + 1))
    (ho : ∀ k, k < ys.length → k ≠ i → hea ys k = hea xs (if k < i then k else k + 1) ∧ her ys k = her xs (if k < i then k else k + 1))
    (hs : sumI (herds ys) = sumI (herds xs)) (hsplit : ∀ a b : List Int, a.length = xs.length → b.length = ys.length → sumI a = sumI b → b.getD i 0 < a.getD i 0 + a.getD (i + 1) 0 → ∃ k, k < ys.length ∧ k ≠ i ∧ a.getD (if k < i then k else k + 1) 0 < b.getD k 0) :
    (allotN xs p).getD i 0 + (allotN xs p).getD (i + 1) 0 ≤ (allotN ys p).getD i 0 := by
  have hla := allotN_len xs p
  have hlb := allotN_len ys p
  have ha := allotN_her hx p
  have hb := allotN_her hy p
  have pa := fun i => allotN_pos (vs := xs) p i
  have pb := fun i => allotN_pos (vs := ys) p i
  have ja := allotN_just hx p
  have jb := allotN_just hy p
  have sa := allotN_sum hx p
  have sb := allotN_sum hy p
  generalize allotN xs p = a at *
  generalize allotN ys p = b at *
  by_cases hc : a.getD i 0 + a.getD (i + 1) 0 ≤ b.getD i 0
  · exact hc
  · exfalso
    obtain ⟨k, hk, hki, hkl⟩ := hsplit a b hla hlb (by rw [sa, sb, hs]) (by omega)
    obtain ⟨o1, o2⟩ := ho k hk hki
    obtain ⟨q, hq⟩ : ∃ q, q = (if k < i then k else k + 1) := ⟨_, rfl⟩
    rw [← hq] at o1 o2 hkl
    have hql : q < xs.length := by rw [hq]; split <;> omega
    have hqi : q ≠ i := by rw [hq]; split <;> omega
    have hqj : q ≠ i + 1 := by rw [hq]; split <;> omega
    have hqk : q < i ↔ k < i := by rw [hq]; split <;> omega
    have hbk := hb k hk
    rw [o2] at hbk
    have hab := hea xs i
    have B := jb i k (by omega) hk (Ne.symm hki) (by
      rw [h3]
      have t1 := ha i (by omega)
      have t2 := ha (i + 1) hi
      omega) (by have := pa q; omega)
    rw [h4, o1] at B
    have c1 : (hea xs i + hea xs (i + 1)) * (a.getD q 0 + 1) ≤ (hea xs i + hea xs (i + 1)) * b.getD k 0 := Int.mul_le_mul_of_nonneg_left (by omega) (by have := vok_hea hx i (by omega); have := vok_hea hx (i + 1) hi; omega)
    have c2 : hea xs q * (b.getD i 0 + 1) ≤ hea xs q * (a.getD i 0 + a.getD (i + 1) 0) := Int.mul_le_mul_of_nonneg_left (by omega) (by have := vok_hea hx q hql; omega)
    have A1 : hea xs q * a.getD i 0 ≤ hea xs i * (a.getD q 0 + 1) := by
      by_cases h : 0 < a.getD i 0
      · exact (ja q i hql (by omega) hqi (by omega) h).1
      · have e0 : a.getD i 0 = 0 := by have := pa i; omega
        rw [e0, Int.mul_zero]
        exact Int.mul_nonneg (by have := vok_hea hx i (by omega); omega) (by have := pa q; omega)
    have A2 : hea xs q * a.getD (i + 1) 0 ≤ hea xs (i + 1) * (a.getD q 0 + 1) := by
      by_cases h : 0 < a.getD (i + 1) 0
      · exact (ja q (i + 1) hql (by omega) hqj (by omega) h).1
      · have e0 : a.getD (i + 1) 0 = 0 := by have := pa (i + 1); omega
        rw [e0, Int.mul_zero]
        exact Int.mul_nonneg (by have := vok_hea hx (i + 1) (by omega); omega) (by have := pa q; omega)
    have f1 : (hea xs i + hea xs (i + 1)) * (a.getD q 0 + 1) = hea xs i * (a.getD q 0 + 1) + hea xs (i + 1) * (a.getD q 0 + 1) := Int.add_mul _ _ _
    have f2 : hea xs q * (a.getD i 0 + a.getD (i + 1) 0) = hea xs q * a.getD i 0 + hea xs q * a.getD (i + 1) 0 := Int.mul_add _ _ _
    have d := B.2 (by omega)
    by_cases h : 0 < a.getD i 0
    · have := (ja q i hql (by omega) hqi (by omega) h).2 (by omega)
      omega
    · have h' : 0 < a.getD (i + 1) 0 := by have := pb i; omega
      have := (ja q (i + 1) hql (by omega) hqj (by omega) h').2 (by omega)
      omega
/-- The two that become one, of the first k villages. -/
def mgV (vs : List Vil) (L : List Int) (i : Nat) : Nat → List Vil
  | 0 => []
  | k + 1 => if k = i + 1 then mgV vs L i k else mgV vs L i k ++ [if k = i then ⟨hea vs i + hea vs (i + 1), 60, L⟩ else ⟨hea vs k, her vs k, L⟩]
theorem mgV_len (vs : List Vil) (L : List Int) (i : Nat) : ∀ k, (mgV vs L i k).length = if k ≤ i + 1 then k else k - 1
  | 0 => by simp [mgV]
  | k + 1 => by
    have ih := mgV_len vs L i k
    rw [mgV]
    split
    · rename_i h; subst h; rw [ih]; simp
    · rw [List.length_append, ih, List.length_singleton]
      split <;> split <;> omega
/-- The village k of those that are merged. -/
theorem mgV_at (vs : List Vil) (L : List Int) (i : Nat) : ∀ n k, k < (mgV vs L i n).length →
    (mgV vs L i n)[k]? = some (if k = i then ⟨hea vs i + hea vs (i + 1), 60, L⟩ else ⟨hea vs (if k < i then k else k + 1), her vs (if k < i then k else k + 1), L⟩)
  | 0, k, h => by simp [mgV] at h
  | n + 1, k, h => by
    have ih := mgV_at vs L i n k
    have hl := mgV_len vs L i n
    rw [mgV] at h ⊢
    split
    · rename_i e; rw [if_pos e] at h; exact ih h
    · rename_i e
      rw [if_neg e, List.length_append, List.length_singleton] at h
      by_cases hk : k < (mgV vs L i n).length
      · rw [List.getElem?_append_left hk]; exact ih hk
      · have hk : k = (mgV vs L i n).length := by omega
        rw [hk, List.getElem?_append_right (Nat.le_refl _), Nat.sub_self, List.getElem?_cons_zero, ← hk]
        by_cases hi : n = i
        · have hki : k = i := by rw [hk, hl, if_pos (by omega)]; exact hi
          rw [if_pos hi, if_pos hki]
        · by_cases hlt : n ≤ i + 1
          · have hki : k = n := by rw [hk, hl, if_pos hlt]
            rw [if_neg hi, if_neg (by omega), if_pos (by omega), hki]
          · have hki : k = n - 1 := by rw [hk, hl, if_neg hlt]
            rw [if_neg hi, if_neg (by omega), if_neg (by omega), hki]
            have : n - 1 + 1 = n := by omega
            rw [this]
theorem mgV_lik (vs : List Vil) (L : List Int) (i n : Nat) : ∀ v ∈ mgV vs L i n, v.likes = L := by
  intro v hv
  obtain ⟨k, hk, rfl⟩ := List.getElem_of_mem hv
  have h := mgV_at vs L i n k hk
  rw [List.getElem?_eq_getElem hk] at h
  injection h with h
  rw [h]
  split <;> rfl

theorem sumI_three (l : List Int) (i : Nat) : sumI l = sumI (l.take i) + sumI (l.drop i) := by
  conv => lhs; rw [← List.take_append_drop i l]
  exact sumI_append _ _
theorem sumI_drop (l : List Int) (i : Nat) (hl : i < l.length) : sumI (l.drop i) = l.getD i 0 + sumI (l.drop (i + 1)) := by
  rw [List.drop_eq_getElem_cons hl]
  simp [sumI, hl]
theorem merged_split {xs ys : Nat} {i : Nat} (hi : i + 1 < xs) (hl : ys + 1 = xs) (a b : List Int) (ha : a.length = xs) (hb : b.length = ys) (hs : sumI a = sumI b)
    (h : b.getD i 0 < a.getD i 0 + a.getD (i + 1) 0) : ∃ k, k < ys ∧ k ≠ i ∧ a.getD (if k < i then k else k + 1) 0 < b.getD k 0 := by
  by_cases hc : ∃ k, k < ys ∧ k ≠ i ∧ a.getD (if k < i then k else k + 1) 0 < b.getD k 0
  · exact hc
  · exfalso
    have hle : ∀ k, k < ys → k ≠ i → b.getD k 0 ≤ a.getD (if k < i then k else k + 1) 0 := fun k h1 h2 => by
      by_cases h3 : a.getD (if k < i then k else k + 1) 0 < b.getD k 0
      · exact absurd ⟨k, h1, h2, h3⟩ hc
      · omega
    have s1 := sumI_three a i
    have s2 := sumI_three b i
    have d1 := sumI_drop a i (by omega)
    have d2 := sumI_drop a (i + 1) (by omega)
    have d3 := sumI_drop b i (by omega)
    have p1 := (sumI_le (l := b.take i) (m := a.take i) (by simp; omega) (fun k hk => by
      have hk : k < i := by simp at hk; omega
      have := hle k (by omega) (by omega)
      rw [if_pos hk] at this
      simp only [List.getD_eq_getElem?_getD, List.getElem?_take, hk, if_true] at this ⊢
      exact this)).1
    have p2 := (sumI_le (l := b.drop (i + 1)) (m := a.drop (i + 1 + 1)) (by simp; omega) (fun k hk => by
      have hk : k < ys - (i + 1) := by simp at hk; omega
      have := hle (i + 1 + k) (by omega) (by omega)
      rw [if_neg (by omega)] at this
      simp only [List.getD_eq_getElem?_getD, List.getElem?_drop] at this ⊢
      rw [show i + 1 + 1 + k = i + 1 + k + 1 by omega]
      exact this)).1
    omega
theorem merged_sum (vs : List Vil) (L : List Int) (i : Nat) (h1 : her vs i = 30) (h2 : her vs (i + 1) = 30) : ∀ k, k ≤ vs.length → sumI (herds (mgV vs L i k)) = sumI ((herds vs).take k) + (if k = i + 1 then 30 else 0)
  | 0, _ => by simp [mgV, herds, sumI]
  | k + 1, hk => by
    have ih := merged_sum vs L i h1 h2 k (by omega)
    have ht : sumI ((herds vs).take (k + 1)) = sumI ((herds vs).take k) + her vs k := by
      have hk' : k < (herds vs).length := by simp [herds]; omega
      rw [List.take_succ_eq_append_getElem hk', sumI_append]
      have := herds_at vs k (by omega)
      simp [sumI, herds, her, show k < vs.length by omega]
    rw [mgV, ht]
    by_cases e1 : k = i + 1
    · subst e1
      rw [if_pos rfl, ih, h2]
      simp
    · rw [if_neg e1]
      simp only [herds, List.map_append, List.map_cons, List.map_nil, sumI_append, sumI] at ih ⊢
      rw [ih]
      by_cases e2 : k = i
      · subst e2
        rw [if_pos rfl, if_neg (by omega), if_pos rfl, h1]
        simp; omega
      · rw [if_neg e2, if_neg e1, if_neg (by omega)]
        simp
/-- The law of two villages that become one. -/
theorem mer_law {vs : List Vil} {L : List Int} {i : Nat} (hv : VOk vs) (hi : i + 1 < vs.length) (p : Nat) (hp : p ≤ 30) (h1 : her vs i = 30) (h2 : her vs (i + 1) = 30) (hh : hea vs i + hea vs (i + 1) ≤ 50) :
    VOk (mgV vs L i vs.length) ∧ (mgV vs L i vs.length).length = vs.length - 1 ∧ (allotN vs p).getD i 0 + (allotN vs p).getD (i + 1) 0 ≤ (allotN (mgV vs L i vs.length) p).getD i 0 := by
  have hlen : (mgV vs L i vs.length).length = vs.length - 1 := by rw [mgV_len, if_neg (by omega)]
  have hok : VOk (mgV vs L i vs.length) := by
    intro v hv'
    obtain ⟨k, hk, rfl⟩ := List.getElem_of_mem hv'
    have h := mgV_at vs L i vs.length k hk
    rw [List.getElem?_eq_getElem hk] at h
    injection h with h
    rw [h]
    split
    · have a1 := vok_hea hv i (by omega)
      have a2 := vok_hea hv (i + 1) hi
      exact ⟨by dsimp only; omega, hh, by simp, by simp⟩
    · have hq : (if k < i then k else k + 1) < vs.length := by split <;> omega
      have := hv _ (List.getElem_mem hq)
      dsimp only
      rw [hea_at hq, her_at hq]
      exact this
  refine ⟨hok, hlen, ?_⟩
  have hat := mgV_at vs L i vs.length
  refine merged_law hv hok hi (by omega) p hp h1 h2 ?_ ?_ ?_ ?_ ?_
  · simp only [her, List.getD_eq_getElem?_getD, hat i (by omega), Option.getD_some, if_true]
  · have e : hea (mgV vs L i vs.length) i = (((mgV vs L i vs.length)[i]?).getD ⟨0, 0, []⟩).hearths := by simp only [hea, List.getD_eq_getElem?_getD]
    rw [e, hat i (by omega), if_pos rfl]; rfl
  · intro k hk hne
    have e : ∀ k, hea (mgV vs L i vs.length) k = (((mgV vs L i vs.length)[k]?).getD ⟨0, 0, []⟩).hearths := fun k => by simp only [hea, List.getD_eq_getElem?_getD]
    have e' : ∀ k, her (mgV vs L i vs.length) k = (((mgV vs L i vs.length)[k]?).getD ⟨0, 0, []⟩).herd := fun k => by simp only [her, List.getD_eq_getElem?_getD]
    rw [e, e', hat k hk, if_neg hne]
    exact ⟨rfl, rfl⟩
  · rw [merged_sum vs L i h1 h2 vs.length (Nat.le_refl _), if_neg (by omega), List.take_of_length_le (by simp [herds])]; omega
  · intro a b ha hb hs h
    exact merged_split hi (by omega) a b (by omega) (by omega) hs h

end Go.Proofs.Ythchpoabncdicaa
