/- All lists of places, in plain words: which lists they are, none twice; conditions: as said. -/
import Derived.Test.YthchpoabncdicaaLastS
namespace Go.Proofs.Ythchpoabncdicaa
open Go.RowKit

theorem shared_pre {vs : List Vil} : ∀ m begun P l, l ∈ sharedL vs m begun P → ∃ t, l = begun ++ t
  | 0, begun, P, l, h => by
    rw [sharedL] at h
    split at h
    · exact ⟨[], by simpa using h⟩
    · simp at h
  | m + 1, begun, P, l, h => by
    simp only [sharedL, List.mem_flatMap] at h
    obtain ⟨n, _, h⟩ := h
    obtain ⟨t, e⟩ := shared_pre m _ _ l h
    exact ⟨(n : Int) :: t, by rw [e]; simp⟩
theorem flat_nodup {f : Nat → List (List Int)} {q : List Int → Int} (h1 : ∀ n, (f n).Nodup) (h2 : ∀ n l, l ∈ f n → q l = (n : Int)) : ∀ k, ((List.range k).flatMap f).Nodup
  | 0 => by simp
  | k + 1 => by
    have e : List.flatMap f [k] = f k := by simp
    rw [List.range_succ, List.flatMap_append, e, List.nodup_append]
    refine ⟨flat_nodup h1 h2 k, h1 k, fun a ha b hb he => ?_⟩
    simp only [List.mem_flatMap, List.mem_range] at ha
    obtain ⟨n, hn, ha⟩ := ha
    have a1 := h2 n a ha
    have a2 := h2 k b hb
    rw [he] at a1
    omega
theorem shared_nodup {vs : List Vil} : ∀ m begun P, (sharedL vs m begun P).Nodup
  | 0, begun, P => by
    rw [sharedL]; split <;> simp
  | m + 1, begun, P => by
    rw [sharedL]
    refine flat_nodup (q := fun l => l.getD begun.length 0) (fun n => shared_nodup m _ _) (fun n l hl => ?_) _
    obtain ⟨t, e⟩ := shared_pre m _ _ l hl
    rw [e]
    simp
theorem sumI_nonneg : ∀ {t : List Int}, (∀ i, i < t.length → 0 ≤ t.getD i 0) → 0 ≤ sumI t
  | [], _ => Int.le_refl _
  | x :: u, h => by
    have h0 := h 0 (by simp)
    have h1 := sumI_nonneg (t := u) (fun i hi => by have := h (i + 1) (by simp; omega); simpa using this)
    simp at h0
    simp only [sumI]; omega
theorem mem_shared {vs : List Vil} (hh : ∀ i, i < vs.length → 0 ≤ her vs i) : ∀ m begun (P : Nat) l, begun.length + m = vs.length → (l ∈ sharedL vs m begun P ↔ ∃ t, l = begun ++ t ∧ t.length = m ∧ (∀ i, i < m → 0 ≤ t.getD i 0 ∧ t.getD i 0 ≤ her vs (begun.length + i)) ∧ sumI t = P)
  | 0, begun, P, l, _ => by
    rw [sharedL]
    constructor
    · intro h
      split at h
      · rename_i h0
        exact ⟨[], by simpa using h, rfl, fun i hi => by omega, by rw [h0]; rfl⟩
      · simp at h
    · rintro ⟨t, rfl, ht, _, hs⟩
      have : t = [] := List.length_eq_zero_iff.1 ht
      subst this
      have h0 : P = 0 := by simp only [sumI] at hs; omega
      rw [if_pos h0]; simp
  | m + 1, begun, P, l, hl => by
    have hb := hh begun.length (by omega)
    simp only [sharedL, List.mem_flatMap, List.mem_range]
    constructor
    · rintro ⟨n, hn, h⟩
      obtain ⟨t, e, ht, hbd, hs⟩ := (mem_shared hh m _ _ l (by simp; omega)).1 h
      refine ⟨(n : Int) :: t, by rw [e]; simp, by simp [ht], fun i hi => ?_, by simp only [sumI, hs]; omega⟩
      cases i with
      | zero => simp; omega
      | succ i =>
        have := hbd i (by omega)
        have e2 : begun.length + (i + 1) = (begun ++ [(n : Int)]).length + i := by simp; omega
        rw [e2]
        simpa using this
    · rintro ⟨t, rfl, ht, hbd, hs⟩
      cases t with
      | nil => simp at ht
      | cons x u =>
        have h0 := hbd 0 (by omega)
        simp at h0
        have hu : 0 ≤ sumI u := sumI_nonneg (fun i hi => by have := hbd (i + 1) (by simp at ht; omega); simpa using this.1)
        simp only [sumI] at hs
        obtain ⟨n, rfl⟩ : ∃ n : Nat, x = (n : Int) := ⟨x.toNat, by omega⟩
        refine ⟨n, by omega, (mem_shared hh m _ _ _ (by simp; omega)).2 ⟨u, by simp, by simpa using ht, fun i hi => ?_, by omega⟩⟩
        have := hbd (i + 1) (by omega)
        have e2 : begun.length + (i + 1) = (begun ++ [(n : Int)]).length + i := by simp; omega
        rw [e2] at this
        simpa using this

/-- The law: of all lists, just one is just, and it is what is allotted. -/
theorem last_law {vs : List Vil} (hv : VOk vs) (p : Nat) {P : Nat} (hP : (P : Int) = min (p : Int) (sumI (herds vs))) :
    allotN vs p ∈ sharedL vs vs.length [] P ∧ ∀ l ∈ sharedL vs vs.length [] P, l.length = vs.length ∧ (∀ i, i < vs.length → 0 ≤ l.getD i 0 ∧ l.getD i 0 ≤ her vs i) ∧ (JustP vs l → l = allotN vs p) := by
  have hm := mem_shared (vok_her hv) vs.length [] P
  constructor
  · refine (hm _ (by simp)).2 ⟨allotN vs p, by simp, allotN_len vs p, fun i hi => ⟨allotN_pos p i, ?_⟩, by rw [allotN_sum hv p, hP]⟩
    simpa using allotN_her hv p i hi
  · intro l hl
    obtain ⟨t, e, ht, hb, hs⟩ := (hm l (by simp)).1 hl
    have e : l = t := by simpa using e
    subst e
    have hb' : ∀ i, i < vs.length → 0 ≤ l.getD i 0 ∧ l.getD i 0 ≤ her vs i := fun i hi => by simpa using hb i hi
    exact ⟨ht, hb', fun hj => just_one (vok_hea hv) ht (allotN_len vs p) hb' (fun i hi => ⟨allotN_pos p i, allotN_her hv p i hi⟩) (by rw [hs, allotN_sum hv p, hP]) hj (allotN_just hv p)⟩

end Go.Proofs.Ythchpoabncdicaa
