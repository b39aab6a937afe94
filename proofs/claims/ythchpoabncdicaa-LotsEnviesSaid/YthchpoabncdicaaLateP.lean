/- A late village, in plain words: nobody else gains by it; conditions: as said. -/
import Derived.Test.YthchpoabncdicaaLastP
namespace Go.Proofs.Ythchpoabncdicaa
open Go.RowKit

theorem sumI_take_nonneg : ∀ {t : List Int}, (∀ i, i < t.length → 0 ≤ t.getD i 0) → 0 ≤ sumI t
  | [], _ => Int.le_refl _
  | x :: u, h => by
    have h0 := h 0 (by simp)
    have h1 := sumI_take_nonneg (t := u) (fun i hi => by have := h (i + 1) (by simp; omega); simpa using this)
    simp at h0
    simp only [sumI]; omega
theorem sumI_lt_ex : ∀ {l m : List Int}, l.length = m.length → sumI l ≤ sumI m → (∃ i, i < l.length ∧ m.getD i 0 < l.getD i 0) → ∃ k, k < l.length ∧ l.getD k 0 < m.getD k 0 := by
  intro l m hl hs ⟨i, hi, h⟩
  by_cases hk : ∃ k, k < l.length ∧ l.getD k 0 < m.getD k 0
  · exact hk
  · exfalso
    obtain ⟨h1, h2⟩ := sumI_le (l := m) (m := l) hl.symm (fun j hj => by
      by_cases h : l.getD j 0 < m.getD j 0
      · exact absurd ⟨j, by omega, h⟩ hk
      · omega)
    have := h2 (by omega)
    rw [this] at h
    omega

/-- A late village: nobody else gains, and all others together give up no more than it gets. -/
theorem late_law {vs : List Vil} {x : Vil} (hv : VOk vs) (hx : VOk (vs ++ [x])) (p : Nat) :
    (∀ i, i < vs.length → 0 ≤ (allotN vs p).getD i 0 ∧ 0 ≤ (allotN (vs ++ [x]) p).getD i 0 ∧ (allotN (vs ++ [x]) p).getD i 0 ≤ (allotN vs p).getD i 0)
    ∧ 0 ≤ (allotN (vs ++ [x]) p).getD vs.length 0 ∧ (allotN (vs ++ [x]) p).getD vs.length 0 ≤ x.herd
    ∧ ∃ g : Int, g = sumI (allotN vs p) - sumI ((allotN (vs ++ [x]) p).take vs.length) ∧ g ≤ (allotN (vs ++ [x]) p).getD vs.length 0 ∧ ((p : Int) ≤ sumI (allotN vs p) → g = (allotN (vs ++ [x]) p).getD vs.length 0) := by
  have e1 : ∀ i, i < vs.length → hea (vs ++ [x]) i = hea vs i := fun i hi => by simp [hea, List.getElem?_append_left hi]
  have e2 : ∀ i, i < vs.length → her (vs ++ [x]) i = her vs i := fun i hi => by simp [her, List.getElem?_append_left hi]
  have e3 : her (vs ++ [x]) vs.length = x.herd := by simp [her]
  have hla := allotN_len (vs ++ [x]) p
  have hlb := allotN_len vs p
  have ha := allotN_her hx p
  have hb := allotN_her hv p
  have pa := fun i => allotN_pos (vs := vs ++ [x]) p i
  have pb := fun i => allotN_pos (vs := vs) p i
  have ja := allotN_just hx p
  have jb := allotN_just hv p
  have sa := allotN_sum hx p
  have sb := allotN_sum hv p
  have hh : sumI (herds (vs ++ [x])) = sumI (herds vs) + x.herd := by simp [herds, sumI_append, sumI]
  generalize allotN (vs ++ [x]) p = a at *
  generalize allotN vs p = b at *
  simp only [List.length_append, List.length_cons, List.length_nil] at hla ha
  have ht : sumI a = sumI (a.take vs.length) + a.getD vs.length 0 := by
    have h1 : a = a.take vs.length ++ [a.getD vs.length 0] := by
      have h2 : vs.length < a.length := by omega
      have h3 := List.take_succ_eq_append_getElem h2
      rw [List.take_of_length_le (by omega)] at h3
      have h5 : a.getD vs.length 0 = a[vs.length] := by simp [h2]
      rw [h5]; exact h3
    have h4 := congrArg sumI h1
    rw [sumI_append] at h4
    simpa [sumI] using h4
  have gt : ∀ i, i < vs.length → (a.take vs.length).getD i 0 = a.getD i 0 := fun i hi => by
    simp [List.getD_eq_getElem?_getD, hi]
  have hmon : ∀ i, i < vs.length → a.getD i 0 ≤ b.getD i 0 := by
    intro i hi
    by_cases hc : a.getD i 0 ≤ b.getD i 0
    · exact hc
    · exfalso
      have hai := ha i (by omega)
      rw [e2 i hi] at hai
      have hsle : sumI (a.take vs.length) ≤ sumI b := by
        have h0 := pa vs.length
        by_cases hfull : sumI b = sumI (herds vs)
        · have h1 := (sumI_le (l := a.take vs.length) (m := herds vs) (by simp [herds]; omega) (fun j hj => by
            have hj : j < vs.length := by simp at hj; omega
            rw [gt j hj, herds_at vs j hj, ← e2 j hj]; exact ha j (by omega))).1
          omega
        · omega
      obtain ⟨k, hk, hkl⟩ := sumI_lt_ex (l := a.take vs.length) (m := b) (by simp; omega) hsle ⟨i, by simp; omega, by rw [gt i hi]; omega⟩
      have hk : k < vs.length := by simp at hk; omega
      rw [gt k hk] at hkl
      have hne : i ≠ k := fun e => by subst e; omega
      have A1 := ja k i (by simp; omega) (by simp; omega) (Ne.symm hne) (by rw [e2 k hk]; have := hb k hk; omega) (by have := pb i; omega)
      have B1 := jb i k hi hk hne (by omega) (by have := pa k; omega)
      rw [e1 k hk, e1 i hi] at A1
      have c1 : hea vs i * (a.getD k 0 + 1) ≤ hea vs i * b.getD k 0 := Int.mul_le_mul_of_nonneg_left (by omega) (by have := vok_hea hv i hi; omega)
      have c2 : hea vs k * (b.getD i 0 + 1) ≤ hea vs k * a.getD i 0 := Int.mul_le_mul_of_nonneg_left (by omega) (by have := vok_hea hv k hk; omega)
      have d1 := A1.2 (by omega)
      have d2 := B1.2 (by omega)
      omega
  have h60 := vok_her hx vs.length (by simp)
  rw [e3] at h60
  refine ⟨fun i hi => ⟨pb i, pa i, hmon i hi⟩, pa _, by rw [← e3]; exact ha _ (by omega), _, rfl, by omega, fun hp => by omega⟩

end Go.Proofs.Ythchpoabncdicaa
