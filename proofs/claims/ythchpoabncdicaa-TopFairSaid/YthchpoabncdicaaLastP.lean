/- Places allotted to the last head, in plain words: what is allotted is the only list that is just; conditions: as said. -/
import Derived.Test.YthchpoabncdicaaLNext
namespace Go.Proofs.Ythchpoabncdicaa
open Go.RowKit

def sumI : List Int → Int
  | [] => 0
  | x :: t => x + sumI t
theorem sumI_append (a b : List Int) : sumI (a ++ b) = sumI a + sumI b := by
  induction a with
  | nil => simp [sumI]
  | cons x t ih => simp only [List.cons_append, sumI, ih]; omega
theorem sumI_le : ∀ {l m : List Int}, l.length = m.length → (∀ i, i < l.length → l.getD i 0 ≤ m.getD i 0) → sumI l ≤ sumI m ∧ (sumI l = sumI m → l = m)
  | [], [], _, _ => ⟨Int.le_refl _, fun _ => rfl⟩
  | [], _ :: _, h, _ => by simp at h
  | _ :: _, [], h, _ => by simp at h
  | x :: t, y :: u, h, hi => by
    have h0 := hi 0 (by simp)
    simp at h0
    obtain ⟨h1, h2⟩ := sumI_le (l := t) (m := u) (by simpa using h) (fun i hl => by have := hi (i + 1) (by simp; omega); simpa using this)
    refine ⟨by simp only [sumI]; omega, fun he => ?_⟩
    simp only [sumI] at he
    have e1 : x = y := by omega
    rw [e1, h2 (by omega)]
theorem sumI_set : ∀ {l : List Int} {b : Nat} (x : Int), b < l.length → sumI (l.set b (l.getD b 0 + x)) = sumI l + x
  | [], _, _, h => by simp at h
  | y :: t, 0, x, _ => by simp [sumI]; omega
  | y :: t, b + 1, x, h => by
    have := sumI_set (l := t) (b := b) x (by simpa using h)
    simp only [List.set_cons_succ, List.getD_cons_succ, sumI, this]
    omega

/-- Nobody could better claim a place that another has. -/
def JustP (vs : List Vil) (l : List Int) : Prop := ∀ i k, i < vs.length → k < vs.length → i ≠ k → l.getD i 0 < her vs i → 0 < l.getD k 0 →
  hea vs i * l.getD k 0 ≤ hea vs k * (l.getD i 0 + 1) ∧ (hea vs i * l.getD k 0 = hea vs k * (l.getD i 0 + 1) → k < i)

theorem just_one {vs : List Vil} (hh : ∀ i, i < vs.length → 1 ≤ hea vs i) {l m : List Int} (hl : l.length = vs.length) (hm : m.length = vs.length)
    (bl : ∀ i, i < vs.length → 0 ≤ l.getD i 0 ∧ l.getD i 0 ≤ her vs i) (bm : ∀ i, i < vs.length → 0 ≤ m.getD i 0 ∧ m.getD i 0 ≤ her vs i) (hs : sumI l = sumI m) (jl : JustP vs l) (jm : JustP vs m) : l = m := by
  by_cases h1 : ∃ k, k < vs.length ∧ m.getD k 0 < l.getD k 0
  · by_cases h2 : ∃ i, i < vs.length ∧ l.getD i 0 < m.getD i 0
    · exfalso
      obtain ⟨k, hk, hkl⟩ := h1
      obtain ⟨i, hi, hil⟩ := h2
      have hne : i ≠ k := fun e => by subst e; omega
      have a := jl i k hi hk hne (by have := bm i hi; omega) (by have := bm k hk; omega)
      have b := jm k i hk hi (Ne.symm hne) (by have := bl k hk; omega) (by have := bl i hi; omega)
      have c1 : hea vs k * (l.getD i 0 + 1) ≤ hea vs k * m.getD i 0 := Int.mul_le_mul_of_nonneg_left (by omega) (by have := hh k hk; omega)
      have c2 : hea vs i * (m.getD k 0 + 1) ≤ hea vs i * l.getD k 0 := Int.mul_le_mul_of_nonneg_left (by omega) (by have := hh i hi; omega)
      have d1 := a.2 (by omega)
      have d2 := b.2 (by omega)
      omega
    · refine ((sumI_le (l := m) (m := l) (by omega) (fun i hi => ?_)).2 hs.symm).symm
      by_cases h : l.getD i 0 < m.getD i 0
      · exact absurd ⟨i, by omega, h⟩ h2
      · omega
  · refine (sumI_le (l := l) (m := m) (by omega) (fun i hi => ?_)).2 hs
    by_cases h : m.getD i 0 < l.getD i 0
    · exact absurd ⟨i, by omega, h⟩ h1
    · omega

theorem frac_lt {x y z a b c : Int} (hb : 0 < b) (hc : 0 < c) (ha : 0 < a) (h1 : x * b ≤ y * a) (h2 : y * c < z * b) : x * c < z * a := by
  have e1 : x * b * c ≤ y * a * c := Int.mul_le_mul_of_nonneg_right h1 (by omega)
  have e2 : y * c * a < z * b * a := Int.mul_lt_mul_of_pos_right h2 ha
  have e3 : (x * c) * b < (z * a) * b := by
    have f1 : x * c * b = x * b * c := by rw [Int.mul_assoc, Int.mul_comm c b, ← Int.mul_assoc]
    have f2 : z * a * b = z * b * a := by rw [Int.mul_assoc, Int.mul_comm a b, ← Int.mul_assoc]
    have f3 : y * a * c = y * c * a := by rw [Int.mul_assoc, Int.mul_comm a c, ← Int.mul_assoc]
    omega
  exact Int.lt_of_mul_lt_mul_right e3 (by omega)

/-- Whoever gets the next place has the best claim, and the first of the best. -/
theorem nextO_best {vs : List Vil} {has : List Int} (hh : ∀ i, i < vs.length → 1 ≤ hea vs i) (hp : ∀ i, i < vs.length → 0 ≤ has.getD i 0) : ∀ k b, k ≤ vs.length → nextO vs has k = some b →
    b < k ∧ has.getD b 0 < her vs b ∧ ∀ i, i < k → has.getD i 0 < her vs i → hea vs i * (has.getD b 0 + 1) ≤ hea vs b * (has.getD i 0 + 1) ∧ (hea vs i * (has.getD b 0 + 1) = hea vs b * (has.getD i 0 + 1) → b ≤ i)
  | 0, b, _, h => by simp [nextO] at h
  | k + 1, b, hk, h => by
    simp only [nextO] at h
    split at h
    · rename_i h0
      have hn := nextO_none vs has k h0
      split at h
      · rename_i h1
        injection h with h; subst h
        refine ⟨by omega, h1, fun i hi hl => ?_⟩
        by_cases e : i = k
        · subst e; exact ⟨Int.le_refl _, fun _ => Nat.le_refl _⟩
        · have := hn i (by omega); omega
      · cases h
    · rename_i b' hb'
      obtain ⟨i1, i2, i3⟩ := nextO_best hh hp k b' (by omega) hb'
      split at h
      · rename_i h1
        injection h with h; subst h
        refine ⟨by omega, h1.1, fun i hi hl => ?_⟩
        by_cases e : i = k
        · subst e; exact ⟨Int.le_refl _, fun _ => Nat.le_refl _⟩
        · have h3 := (i3 i (by omega) hl).1
          have h4 := frac_lt (x := hea vs i) (y := hea vs b') (z := hea vs k) (a := has.getD i 0 + 1) (b := has.getD b' 0 + 1) (c := has.getD k 0 + 1) (by have := hp b' (by omega); omega) (by have := hp k (by omega); omega) (by have := hp i (by omega); omega) h3 h1.2
          exact ⟨by omega, fun e => by omega⟩
      · rename_i h1
        injection h with h; subst h
        refine ⟨by omega, i2, fun i hi hl => ?_⟩
        by_cases e : i = k
        · subst e
          have : ¬ hea vs b' * (has.getD i 0 + 1) < hea vs i * (has.getD b' 0 + 1) := fun h => h1 ⟨hl, h⟩
          exact ⟨by omega, fun _ => by omega⟩
        · exact i3 i (by omega) hl

def herds (vs : List Vil) : List Int := vs.map (·.herd)
theorem herds_at (vs : List Vil) (i : Nat) (hi : i < vs.length) : (herds vs).getD i 0 = her vs i := by
  rw [her_at hi]; simp [herds, hi]
theorem vok_hea {vs : List Vil} (hv : VOk vs) : ∀ i, i < vs.length → 1 ≤ hea vs i := fun i hi => by
  rw [hea_at hi]; exact (hv _ (List.getElem_mem hi)).1
theorem vok_her {vs : List Vil} (hv : VOk vs) : ∀ i, i < vs.length → 0 ≤ her vs i := fun i hi => by
  rw [her_at hi]; exact (hv _ (List.getElem_mem hi)).2.2.1
theorem allotN_pos {vs : List Vil} : ∀ p i, 0 ≤ (allotN vs p).getD i 0
  | 0, i => by
    simp only [allotN, List.getD_eq_getElem?_getD, List.getElem?_replicate]
    split <;> simp
  | p + 1, i => by
    have ih := allotN_pos (vs := vs) p
    rw [allotN, allotStep]
    split
    · exact ih i
    · rename_i b hb
      by_cases e : b = i
      · subst e
        have : b < (allotN vs p).length := by rw [allotN_len]; exact nextO_lt vs _ _ _ hb
        rw [List.getD_eq_getElem?_getD, List.getElem?_set_self this]
        have := ih b
        simp only [Option.getD_some]; omega
      · simp only [List.getD_eq_getElem?_getD, List.getElem?_set_ne e]
        simpa using ih i
/-- What is allotted is just. -/
theorem allotN_just {vs : List Vil} (hv : VOk vs) : ∀ p, JustP vs (allotN vs p)
  | 0 => fun i k hi hk _ _ h => by
    simp only [allotN, List.getD_eq_getElem?_getD, List.getElem?_replicate] at h
    simp [hk] at h
  | p + 1 => by
    have ih := allotN_just hv p
    rw [allotN, allotStep]
    split
    · exact ih
    · rename_i b hb
      obtain ⟨hbl, hbh, hbest⟩ := nextO_best (vok_hea hv) (fun i _ => allotN_pos p i) _ _ (Nat.le_refl _) hb
      have hbll : b < (allotN vs p).length := by rw [allotN_len]; exact hbl
      have sb : ((allotN vs p).set b ((allotN vs p).getD b 0 + 1)).getD b 0 = (allotN vs p).getD b 0 + 1 := by
        rw [List.getD_eq_getElem?_getD, List.getElem?_set_self hbll]; rfl
      have so : ∀ i, i ≠ b → ((allotN vs p).set b ((allotN vs p).getD b 0 + 1)).getD i 0 = (allotN vs p).getD i 0 := fun i e => by
        simp only [List.getD_eq_getElem?_getD, List.getElem?_set_ne (Ne.symm e)]
      intro i k hi hk hne hlt hpos
      by_cases e1 : i = b
      · subst e1
        rw [sb] at hlt ⊢
        rw [so k (Ne.symm hne)] at hpos ⊢
        have h1 := (ih i k hi hk hne (by omega) hpos).1
        have h2 : hea vs k * ((allotN vs p).getD i 0 + 1) < hea vs k * ((allotN vs p).getD i 0 + 1 + 1) := Int.mul_lt_mul_of_pos_left (by omega) (by have := vok_hea hv k hk; omega)
        exact ⟨by omega, fun e => by omega⟩
      · rw [so i e1] at hlt ⊢
        by_cases e2 : k = b
        · subst e2
          rw [sb]
          have h1 := hbest i hi hlt
          exact ⟨h1.1, fun e => by have := h1.2 e; omega⟩
        · rw [so k e2] at hpos ⊢
          exact ih i k hi hk hne hlt hpos
theorem allotN_sum {vs : List Vil} (hv : VOk vs) : ∀ p : Nat, sumI (allotN vs p) = min (p : Int) (sumI (herds vs))
  | 0 => by
    have h0 : ∀ n, sumI (List.replicate n 0) = 0 := fun n => by
      induction n with
      | zero => rfl
      | succ n ih => simp [List.replicate_succ, sumI, ih]
    have h1 := (sumI_le (l := List.replicate vs.length 0) (m := herds vs) (by simp [herds]) (fun i hi => by
      have hi : i < vs.length := by simpa using hi
      rw [herds_at vs i hi]
      have := vok_her hv i hi
      simp [hi]; exact this)).1
    rw [h0] at h1
    rw [allotN, h0]; simp; omega
  | p + 1 => by
    have ih := allotN_sum hv p
    have hle : ∀ i, i < (allotN vs p).length → (allotN vs p).getD i 0 ≤ (herds vs).getD i 0 := fun i hi => by
      rw [allotN_len] at hi
      rw [herds_at vs i hi]; exact allotN_her hv p i hi
    have hl : (allotN vs p).length = (herds vs).length := by rw [allotN_len]; simp [herds]
    obtain ⟨s1, s2⟩ := sumI_le hl hle
    rw [allotN, allotStep]
    split
    · rename_i hn
      have hf : allotN vs p = herds vs := by
        have h3 : ∀ i, i < (herds vs).length → (herds vs).getD i 0 ≤ (allotN vs p).getD i 0 := fun i hi => by
          have hi : i < vs.length := by simpa [herds] using hi
          rw [herds_at vs i hi, allotN_full hv hn i hi]; exact Int.le_refl _
        have h4 := (sumI_le hl.symm h3).1
        exact s2 (by omega)
      rw [hf] at ih ⊢
      omega
    · rename_i b hb
      have hbl := nextO_lt vs _ _ _ hb
      have hbh := nextO_her vs _ _ _ hb
      rw [sumI_set 1 (by rw [allotN_len]; exact hbl)]
      by_cases he : sumI (allotN vs p) = sumI (herds vs)
      · have := s2 he
        rw [this, herds_at vs b hbl] at hbh
        omega
      · omega

end Go.Proofs.Ythchpoabncdicaa
