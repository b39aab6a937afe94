/- The first of all lists of years with the least envy, searched word by word, is Fair's; conditions: valid commons of at most three mountains. -/
import Derived.Test.YthchpoabncdicaaFairP
import Derived.Test.YthchpoabncdicaaWd6
namespace Go.Proofs.Ythchpoabncdicaa
open Go.RowKit

/-- The division of a year of a word. -/
def dv (D : List (List Int)) (w : List Int) (y : Nat) : List Int := D.getD (w.getD y 0).toNat []
def hadL (D : List (List Int)) (w : List Int) (v j : Nat) : List Int := (List.range j).map fun y => (dv D w y).getD v 0
def fineT (D : List (List Int)) (w : List Int) (n j : Nat) : Bool := (List.range j).all fun v => wholeB (hadL D w v n) n
def envyT (vs : List Vil) (D : List (List Int)) (w : List Int) (n v : Nat) : List Int := (List.range n).map fun y => rkS vs (dv D w y) v
def aheadO (vs : List Vil) (D W : List (List Int)) (n k : Nat) : Option Nat → Bool
  | none => true
  | some b => decide (cmpL (envyT vs D (W.getD k []) n n) (envyT vs D (W.getD b []) n n) < 0)
def srch (vs : List Vil) (D W : List (List Int)) (n : Nat) : Nat → Option Nat
  | 0 => none
  | k + 1 => if fineT D (W.getD k []) n n && aheadO vs D W n k (srch vs D W n k) then some k else srch vs D W n k

theorem fineT_succ (D : List (List Int)) (w : List Int) (n j : Nat) : fineT D w n (j + 1) = (fineT D w n j && wholeB (hadL D w j n) n) := by simp [fineT, List.range_succ]
theorem hadL_succ (D : List (List Int)) (w : List Int) (v j : Nat) : hadL D w v (j + 1) = hadL D w v j ++ [(dv D w j).getD v 0] := by simp [hadL, List.range_succ]
theorem hadL_len (D : List (List Int)) (w : List Int) (v j : Nat) : (hadL D w v j).length = j := by simp [hadL]
theorem envyT_len (vs : List Vil) (D : List (List Int)) (w : List Int) (n v : Nat) : (envyT vs D w n v).length = n := by simp [envyT]

theorem srch_lt (vs : List Vil) (D W : List (List Int)) (n : Nat) : ∀ k b, srch vs D W n k = some b → b < k
  | 0, b, h => by simp [srch] at h
  | k + 1, b, h => by
    rw [srch] at h
    split at h
    · injection h with h; omega
    · have := srch_lt vs D W n k b h; omega

set_option maxRecDepth 100000 in
theorem cyc_all : ∀ n < 4, ordersL n = exts n n [] ∧ (wordsL (exts n n []).length n).filter (fun w => fineT (exts n n []) w n n) = cycI (exts n n []) n [] ∧ (exts n n []).length ≤ 6 ∧ 0 < (cycI (exts n n []) n []).length := by decide +kernel

theorem envyT_all {vs : List Vil} {D : List (List Int)} {w : List Int} {n : Nat} (h : w.length = n) : envyT vs D w n n = (toDiv D w).map fun a => rkS vs a n := by
  apply List.ext_getElem
  · simp [envyT, toDiv, h]
  · intro i h1 h2
    have hi : i < w.length := by simpa [envyT, h] using h1
    simp [envyT, toDiv, dv, hi]

theorem srch_fold {vs : List Vil} {D W : List (List Int)} {r : Nat} (hr : r = vs.length) (hD : ∀ d ∈ D, envySum vs d = rkS vs d vs.length) (hW : W.filter (fun w => fineT D w r r) = cycI D r []) : ∀ k, k ≤ W.length →
    (srch vs D W r k = none ∧ (W.take k).filter (fun w => fineT D w r r) = []) ∨ ∃ b, ∃ hb : b < W.length, b < k ∧ srch vs D W r k = some b ∧ W[b] ∈ (W.take k).filter (fun w => fineT D w r r) ∧
      ((W.take k).filter (fun w => fineT D w r r)).foldl (offerF (D.map (envySum vs))) none = some (W[b], keyF (D.map (envySum vs)) W[b])
  | 0, _ => .inl ⟨rfl, rfl⟩
  | k + 1, h => by
    have ih := srch_fold hr hD hW k (by omega)
    have hk : k < W.length := by omega
    have hg : ∀ b (hb : b < W.length), W.getD b [] = W[b] := fun b hb => by simp [hb]
    have hft := filter_take (fun w => fineT D w r r) W k hk
    have hsub : ((W.take (k + 1)).filter (fun w => fineT D w r r)).Sublist (cycI D r []) := by
      rw [← hW]
      exact (List.take_sublist _ _).filter _
    have hpw := (cycI_asc (all := D) r []).sublist hsub
    have hmem : ∀ x ∈ (W.take (k + 1)).filter (fun w => fineT D w r r), x.length = r ∧ ∀ y ∈ x, 0 ≤ y ∧ y < (D.length : Int) := fun x hx => by
      obtain ⟨a1, _, a3⟩ := cycI_pre r [] _ (hsub.subset hx)
      exact ⟨by simpa using a1, fun y hy => (a3 y hy).resolve_left (by simp)⟩
    rw [srch, hg k hk]
    by_cases hf : fineT D W[k] r r = true
    · rw [if_pos hf] at hft
      rw [hft] at hpw hmem ⊢
      rcases ih with ⟨h1, h2⟩ | ⟨b, hb, hbk, h1, h2, h3⟩
      · rw [h1, hf, h2]
        exact .inr ⟨k, hk, Nat.lt_succ_self k, rfl, by simp, rfl⟩
      · have hnl : ¬ cmpL W[k] W[b] < 0 := (List.pairwise_append.1 hpw).2.2 _ h2 _ (by simp)
        have hlb := hmem _ (List.mem_append_left _ h2)
        have hlk := hmem W[k] (by simp)
        have hkey := key_calm hD (by rw [hlk.1, hlb.1]) hlb.2 hlk.2 hnl
        rw [calm_cmp _ _ (by simp [toDiv, hlk.1, hlb.1])] at hkey
        have he : aheadO vs D W r k (some b) = decide (cmpL (keyF (D.map (envySum vs)) W[k]) (keyF (D.map (envySum vs)) W[b]) < 0) := by
          rw [aheadO, hg k hk, hg b hb, envyT_all hlk.1, envyT_all hlb.1, decide_eq_decide, hkey, hr]
        rw [h1, hf, Bool.true_and, he, List.foldl_append, h3]
        simp only [List.foldl_cons, List.foldl_nil, offerF]
        by_cases hc : cmpL (keyF (D.map (envySum vs)) W[k]) (keyF (D.map (envySum vs)) W[b]) < 0
        · exact .inr ⟨k, hk, Nat.lt_succ_self k, by rw [if_pos (decide_eq_true hc)], by simp, by rw [if_pos hc]⟩
        · exact .inr ⟨b, hb, by omega, by rw [decide_eq_false hc]; rfl, List.mem_append_left _ h2, by rw [if_neg hc]⟩
    · have hf : fineT D W[k] r r = false := by simpa using hf
      rw [hf] at hft
      rw [hf, Bool.false_and, hft]
      simp only [Bool.false_eq_true, if_false, List.append_nil]
      rcases ih with ⟨h1, h2⟩ | ⟨b, hb, hbk, h1, h2, h3⟩
      · exact .inl ⟨h1, h2⟩
      · exact .inr ⟨b, hb, by omega, h1, h2, h3⟩

theorem cycle_law {c : Com} (h : c.Ok 3) : ∃ b, ∃ hb : b < (wordsL (ordersL c.villages.length).length c.villages.length).length,
    srch c.villages (ordersL c.villages.length) (wordsL (ordersL c.villages.length).length c.villages.length) c.villages.length (wordsL (ordersL c.villages.length).length c.villages.length).length = some b ∧
    fairF c = toDiv (ordersL c.villages.length) (wordsL (ordersL c.villages.length).length c.villages.length)[b] := by
  have hn : c.villages.length < 4 := by have := h.vl; have := h.n2; omega
  obtain ⟨e1, e2, _, e4⟩ := cyc_all _ hn
  simp only [e1]
  have hp := exts_perm (n := c.villages.length) (by omega)
  have hlen := (exts_all (n := c.villages.length) (by omega)).2
  have hD : ∀ d ∈ exts c.villages.length c.villages.length [], envySum c.villages d = rkS c.villages d c.villages.length := fun d hd => by
    have hl := hlen d hd
    have := envySum_rk (vs := c.villages) (d := d) hl.symm (fun v hv => by rw [hl, h.vl]; exact (h.vil v hv).2.2.2.2) (by rw [hl]; exact hp d hd)
    rw [this, hl]
  have hf := srch_fold rfl hD e2 _ (Nat.le_refl _)
  rw [List.take_length, e2] at hf
  rcases hf with ⟨_, h2⟩ | ⟨b, hb, _, h1, _, h3⟩
  · rw [h2] at e4; simp at e4
  · refine ⟨b, hb, h1, ?_⟩
    rw [fairF, yearsF, growF_fold, sumsF, divs, h3, bestOf, toDiv]

end Go.Proofs.Ythchpoabncdicaa
