/- Mountains that bear what their pastures feed, in plain words: the cycle's heads too many, and the division with the fewest; conditions: valid commons of at most three mountains. -/
import Derived.Test.YthchpoabncdicaaCycP
import Derived.Test.YthchpoabncdicaaLst2
import Derived.Test.YthchpoabncdicaaGr16
namespace Go.Proofs.Ythchpoabncdicaa
open Go.RowKit

def sumN : Nat → (Nat → Int) → Int
  | 0, _ => 0
  | k + 1, f => sumN k f + f k
theorem sumN_congr {f g : Nat → Int} : ∀ {k : Nat}, (∀ i < k, f i = g i) → sumN k f = sumN k g
  | 0, _ => rfl
  | k + 1, h => by rw [sumN, sumN, sumN_congr fun i hi => h i (by omega), h k (by omega)]
theorem sumN_add (f g : Nat → Int) : ∀ k, sumN k (fun i => f i + g i) = sumN k f + sumN k g
  | 0 => rfl
  | k + 1 => by rw [sumN, sumN, sumN, sumN_add f g k]; omega
theorem sumN_zero : ∀ k, sumN k (fun _ => 0) = 0
  | 0 => rfl
  | k + 1 => by rw [sumN, sumN_zero k]; rfl
theorem sumN_comm (f : Nat → Nat → Int) (m : Nat) : ∀ n, sumN n (fun a => sumN m fun b => f a b) = sumN m fun b => sumN n fun a => f a b
  | 0 => by simp only [sumN]; exact (sumN_zero m).symm
  | n + 1 => by simp only [sumN]; rw [sumN_comm f m n, ← sumN_add]
theorem sumL_range (f : Nat → Int) : ∀ k, sumL ((List.range k).map f) = sumN k f
  | 0 => rfl
  | k + 1 => by rw [List.range_succ, List.map_append, List.map_singleton, sumL_snoc, sumL_range f k, sumN]
theorem sumN_nonneg {f : Nat → Int} : ∀ {k : Nat}, (∀ i < k, 0 ≤ f i) → 0 ≤ sumN k f
  | 0, _ => Int.le_refl 0
  | k + 1, h => by
    have := sumN_nonneg (k := k) fun i hi => h i (by omega)
    have := h k (by omega)
    rw [sumN]; omega
theorem sumN_le {f : Nat → Int} {b : Int} : ∀ {k : Nat}, (∀ i < k, f i ≤ b) → sumN k f ≤ b * k
  | 0, _ => by simp [sumN]
  | k + 1, h => by
    have := sumN_le (k := k) fun i hi => h i (by omega)
    have := h k (by omega)
    rw [sumN, show b * ((k + 1 : Nat) : Int) = b * (k : Int) + b by rw [Int.natCast_succ, Int.mul_add, Int.mul_one]]
    omega
theorem sumN_zero_iff {f : Nat → Int} : ∀ {k : Nat}, (∀ i < k, 0 ≤ f i) → (sumN k f = 0 ↔ ∀ i < k, f i = 0)
  | 0, _ => by simp [sumN]
  | k + 1, h => by
    have ih := sumN_zero_iff (k := k) fun i hi => h i (by omega)
    have h1 := sumN_nonneg (k := k) fun i hi => h i (by omega)
    have h2 := h k (by omega)
    rw [sumN]
    constructor
    · intro e i hi
      by_cases e' : i = k
      · rw [e']; omega
      · exact ih.1 (by omega) i (by omega)
    · intro e
      rw [ih.2 fun i hi => e i (by omega), e k (by omega)]
      rfl

theorem perm_sum1 (g : Int → Int) : ∀ {n : Nat}, n < 4 → ∀ {l : List Int}, l.length = n → l.Nodup → (∀ x ∈ l, 0 ≤ x ∧ x < (n : Int)) → sumN n (fun y => g (l.getD y 0)) = sumN n fun m => g (m : Int)
  | 0, _, _, _, _, _ => rfl
  | 1, _, [a], _, _, hr => by
    have h0 := hr a (by simp)
    obtain rfl : a = 0 := by omega
    rfl
  | 2, _, [a, b], _, hnd, hr => by
    have h0 := hr a (by simp)
    have h1 := hr b (by simp)
    have hne : a ≠ b := by simpa using hnd
    have : (a = 0 ∧ b = 1) ∨ (a = 1 ∧ b = 0) := by omega
    rcases this with ⟨rfl, rfl⟩ | ⟨rfl, rfl⟩ <;> simp [sumN] <;> omega
  | 3, _, [a, b, c], _, hnd, hr => by
    have h0 := hr a (by simp)
    have h1 := hr b (by simp)
    have h2 := hr c (by simp)
    have hne : (a ≠ b ∧ a ≠ c) ∧ b ≠ c := by simpa using hnd
    have : (a = 0 ∧ b = 1 ∧ c = 2) ∨ (a = 0 ∧ b = 2 ∧ c = 1) ∨ (a = 1 ∧ b = 0 ∧ c = 2) ∨ (a = 1 ∧ b = 2 ∧ c = 0) ∨ (a = 2 ∧ b = 0 ∧ c = 1) ∨ (a = 2 ∧ b = 1 ∧ c = 0) := by omega
    rcases this with ⟨rfl, rfl, rfl⟩ | ⟨rfl, rfl, rfl⟩ | ⟨rfl, rfl, rfl⟩ | ⟨rfl, rfl, rfl⟩ | ⟨rfl, rfl, rfl⟩ | ⟨rfl, rfl, rfl⟩ <;> simp [sumN] <;> omega
  | n + 4, h, _, _, _, _ => by omega
theorem perm_sum {n : Nat} (hn : n < 4) {l : List Int} (h : PermOf n l) (g : Int → Int) : sumN n (fun y => g (l.getD y 0)) = sumN n fun m => g (m : Int) :=
  perm_sum1 g hn h.len h.nodup fun x hx => (h.mem x).1 hx

theorem srch_fine (vs : List Vil) (D W : List (List Int)) (n : Nat) : ∀ k b, srch vs D W n k = some b → fineT D (W.getD b []) n n = true
  | 0, b, h => by simp [srch] at h
  | k + 1, b, h => by
    rw [srch] at h
    split at h
    · rename_i hc
      injection h with h
      subst h
      exact (Bool.and_eq_true _ _ ▸ hc).1
    · exact srch_fine vs D W n k b h
set_option maxRecDepth 100000 in
theorem cyc_perm : ∀ n < 4, ∀ w ∈ cycI (exts n n []) n [], (∀ v < n, (hadL (exts n n []) w v n).isPerm (iota n) = true) ∧ w.length = n ∧ ∀ y < n, (dv (exts n n []) w y).isPerm (iota n) = true := by decide +kernel

theorem fair_years {c : Com} (h : c.Ok 3) : (fairF c).length = c.villages.length ∧ (∀ y < c.villages.length, PermOf c.villages.length ((fairF c).getD y [])) ∧
    ∀ v < c.villages.length, PermOf c.villages.length ((List.range c.villages.length).map fun y => ((fairF c).getD y []).getD v 0) := by
  have hn : c.villages.length < 4 := by have := h.vl; have := h.n2; omega
  obtain ⟨e1, e2, -, -⟩ := cyc_all _ hn
  obtain ⟨b, hb, h1, h2⟩ := cycle_law h
  simp only [e1] at hb h1 h2
  have hf := srch_fine _ _ _ _ _ _ h1
  have hg : (wordsL (exts c.villages.length c.villages.length []).length c.villages.length).getD b [] = (wordsL (exts c.villages.length c.villages.length []).length c.villages.length)[b] := by
    rw [List.getD_eq_getElem?_getD, List.getElem?_eq_getElem hb]; rfl
  rw [hg] at hf
  have hmem : (wordsL (exts c.villages.length c.villages.length []).length c.villages.length)[b] ∈ cycI (exts c.villages.length c.villages.length []) c.villages.length [] := by
    rw [← e2]
    exact List.mem_filter.2 ⟨List.getElem_mem hb, hf⟩
  obtain ⟨p1, p2, p3⟩ := cyc_perm _ hn _ hmem
  generalize (wordsL (exts c.villages.length c.villages.length []).length c.villages.length)[b] = w at *
  generalize exts c.villages.length c.villages.length [] = D at *
  have hy : ∀ y < c.villages.length, (fairF c).getD y [] = dv D w y := fun y hy => by
    rw [h2, toDiv, List.getD_eq_getElem?_getD, List.getElem?_map, List.getElem?_eq_getElem (by omega), dv, List.getD_eq_getElem?_getD (l := w), List.getElem?_eq_getElem (by omega)]
    rfl
  refine ⟨by rw [h2, toDiv, List.length_map]; exact p2, fun y hyn => by rw [hy y hyn]; exact List.isPerm_iff.1 (p3 y hyn), fun v hv => ?_⟩
  have e : ((List.range c.villages.length).map fun y => ((fairF c).getD y []).getD v 0) = hadL D w v c.villages.length := by
    unfold hadL
    refine List.map_congr_left fun y hyn => ?_
    rw [hy y (List.mem_range.1 hyn)]
  rw [e]
  exact List.isPerm_iff.1 (p1 v hv)

theorem overSum_sumN (c : Com) (d : List Int) : overSum c d = sumN d.length fun v => overV c v (d.getD v 0) := sumL_range _ _
/-- All heads too many of the cycle. -/
theorem cycle_heads {c : Com} (h : c.Ok 3) : sumN c.villages.length (fun y => overSum c ((fairF c).getD y [])) = sumN c.villages.length fun v => sumN c.villages.length fun m => overV c v (m : Int) := by
  have hn : c.villages.length < 4 := by have := h.vl; have := h.n2; omega
  obtain ⟨h1, h2, h3⟩ := fair_years h
  have e1 : sumN c.villages.length (fun y => overSum c ((fairF c).getD y [])) = sumN c.villages.length fun y => sumN c.villages.length fun v => overV c v (((fairF c).getD y []).getD v 0) :=
    sumN_congr fun y hy => by rw [overSum_sumN, (h2 y hy).len]
  rw [e1, sumN_comm]
  refine sumN_congr fun v hv => ?_
  rw [← perm_sum hn (h3 v hv) (fun m => overV c v m)]
  refine sumN_congr fun y hy => ?_
  congr 1
  rw [List.getD_eq_getElem?_getD (l := List.map _ _), List.getElem?_map, List.getElem?_range hy]
  rfl

theorem ls_min (f : List Int → Int) : ∀ (pre : List (List Int)) (b0 b : List Int), pre.foldl (lsStep f) (some (b0, [f b0])) = some (b, [f b]) → f b ≤ f b0 ∧ ∀ x ∈ pre, f b ≤ f x
  | [], b0, b, h => by
    injection h with h
    injection h with h1 h2
    subst h1
    exact ⟨Int.le_refl _, by simp⟩
  | x :: t, b0, b, h => by
    rw [List.foldl_cons] at h
    have hcmp : cmpL [f x] [f b0] < 0 ↔ f x < f b0 := by
      by_cases h1 : f x < f b0
      · have : cmpL [f x] [f b0] < 0 := by simp [cmpL, cmpI, h1]; try omega
        exact ⟨fun _ => h1, fun _ => this⟩
      · have : ¬ cmpL [f x] [f b0] < 0 := by simp [cmpL, cmpI, h1]; try (split <;> omega)
        exact ⟨fun h => absurd h this, fun h => absurd h h1⟩
    by_cases hc : cmpL [f x] [f b0] < 0
    · have e : lsStep f (some (b0, [f b0])) x = some (x, [f x]) := by simp only [lsStep, if_pos hc]
      rw [e] at h
      obtain ⟨h1, h2⟩ := ls_min f t x b h
      have := hcmp.1 hc
      exact ⟨by omega, fun y hy => by rcases List.mem_cons.1 hy with rfl | hy; exact h1; exact h2 y hy⟩
    · have e : lsStep f (some (b0, [f b0])) x = some (b0, [f b0]) := by simp only [lsStep, if_neg hc]
      rw [e] at h
      obtain ⟨h1, h2⟩ := ls_min f t b0 b h
      have : ¬ f x < f b0 := fun h => hc (hcmp.2 h)
      exact ⟨h1, fun y hy => by rcases List.mem_cons.1 hy with rfl | hy; omega; exact h2 y hy⟩
/-- The division with the fewest heads too many. -/
theorem room_least {c : Com} (h : c.Ok 4) (he : checkE c = 0) : leastB (overSum c) c ∈ divs c.villages.length ∧ ∀ d ∈ divs c.villages.length, overSum c (leastB (overSum c) c) ≤ overSum c d := by
  have hn : c.villages.length ≤ 4 := by have := h.vl; have := h.n2; omega
  have hp := divs_pos _ hn
  rcases lsK_form (overSum c) (divs c.villages.length) with ⟨h1, _⟩ | ⟨b, h1, h2⟩
  · rw [h1] at hp; exact absurd hp (by decide)
  · have e : leastB (overSum c) c = b := by rw [leastB, if_pos he, h2]
    rw [e]
    refine ⟨h1, ?_⟩
    generalize divs c.villages.length = D at h1 h2 ⊢
    cases D with
    | nil => exact absurd h1 (by simp)
    | cons x t =>
      have h3 : t.foldl (lsStep (overSum c)) (some (x, [overSum c x])) = some (b, [overSum c b]) := h2
      obtain ⟨h4, h5⟩ := ls_min _ t x b h3
      exact fun d hd => by rcases List.mem_cons.1 hd with rfl | hd; exact h4; exact h5 d hd

end Go.Proofs.Ythchpoabncdicaa
