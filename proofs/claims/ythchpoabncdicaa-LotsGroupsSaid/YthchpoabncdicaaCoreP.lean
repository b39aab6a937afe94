/- Trading is what no group can better, and no other division is so, in plain words; conditions: up to four villages. -/
import Derived.Test.YthchpoabncdicaaBlk1
import Derived.Test.YthchpoabncdicaaTtcQ
namespace Go.Proofs.Ythchpoabncdicaa
open Go.RowKit

theorem Ttc.noblockK {n : Nat} {rkF : Nat → Nat → Nat} {p r : Nat → Nat} (h : Ttc n rkF p r) (hj : RkInj n rkF) {m : Nat} {g q : Nat → Nat} (hg : ∀ k, k < m → g k < n) (hq : ∀ k, k < m → q k < m) (hi : ∀ k j, k < m → j < m → q k = q j → k = j)
    (hb : ∀ k, k < m → rkF (g k) (g (q k)) ≤ rkF (g k) (p (g k))) : ∀ k, k < m → rkF (g k) (g (q k)) = rkF (g k) (p (g k)) := by
  have h1 : ∀ k, k < m → r (g (q k)) ≤ r (g k) := fun k hk => by
    have hx := hg k hk
    have hs := hg _ (hq k hk)
    by_cases e : rkF (g k) (g (q k)) = rkF (g k) (p (g k))
    · rw [hj (g k) _ _ hx hs (h.lt _ hx) e, h.lev _ hx]; exact Nat.le_refl _
    · have := h.best (g k) (g (q k)) hx hs (by have := hb k hk; omega)
      omega
  intro k hk
  have h2 := round_eq (l := List.range m) (p := q) (f := fun k => r (g k)) List.nodup_range (fun x hx => by simpa using hq x (by simpa using hx)) (fun x hx y hy e => hi x y (by simpa using hx) (by simpa using hy) e) (fun x hx => h1 x (by simpa using hx)) k (by simpa using hk)
  by_cases e : rkF (g k) (g (q k)) = rkF (g k) (p (g k))
  · exact e
  · have := h.best (g k) (g (q k)) (hg k hk) (hg _ (hq k hk)) (by have := hb k hk; omega)
    have h3 : r (g (q k)) = r (g k) := h2
    omega

theorem mem_picks {n : Nat} : ∀ m f (l : List Nat), l.length = m → l.Pairwise (· < ·) → (∀ x ∈ l, f ≤ x ∧ x < n) → l.map (fun (x : Nat) => (x : Int)) ∈ picksL n m f
  | 0, f, l, hl, _, _ => by
    have : l = [] := List.length_eq_zero_iff.1 hl
    subst this
    simp [picksL]
  | m + 1, f, l, hl, hp, hb => by
    cases l with
    | nil => simp at hl
    | cons x t =>
      have hx := hb x (by simp)
      have hpt := List.pairwise_cons.1 hp
      have ih := mem_picks m (f + (x - f) + 1) t (by simpa using hl) hpt.2 (fun y hy => ⟨by have := hpt.1 y hy; omega, (hb y (by simp [hy])).2⟩)
      simp only [picksL, List.mem_flatMap, List.mem_range, List.mem_map]
      refine ⟨x - f, by omega, _, ih, ?_⟩
      simp only [List.map_cons]
      congr 1
      omega
theorem mem_words {n : Nat} : ∀ m (l : List Int), l.length = m → (∀ x ∈ l, 0 ≤ x ∧ x < n) → l ∈ wordsL n m
  | 0, l, hl, _ => by
    have : l = [] := List.length_eq_zero_iff.1 hl
    subst this
    simp [wordsL]
  | m + 1, l, hl, hb => by
    cases l with
    | nil => simp at hl
    | cons x t =>
      have hx := hb x (by simp)
      simp only [wordsL, List.mem_flatMap, List.mem_range, List.mem_map]
      exact ⟨x.toNat, by omega, t, mem_words m t (by simpa using hl) (fun y hy => hb y (by simp [hy])), by congr 1; omega⟩
theorem mem_orders {n : Nat} {l : List Int} (h : PermOf n l) : l ∈ ordersL n := by
  rw [ordersL, List.mem_filter]
  refine ⟨mem_words n l h.len (fun x hx => (h.mem x).1 hx), ?_⟩
  rw [allN, List.all_eq_true]
  intro k hk
  exact decide_eq_true (wholeL h k (by simpa using hk))

section
variable {vs : List Vil} {fst : List Int} (h4 : fst.length ≤ 4) (hv : vs.length = fst.length) (hp : PermOf fst.length fst) (hlk : ∀ v ∈ vs, PermOf fst.length v.likes)
include hv hp hlk

theorem rk_nn {v u : Nat} (hvl : v < fst.length) (hu : u < fst.length) : 0 ≤ rk vs v (fst.getD u 0) := by
  have hwl : v < vs.length := by omega
  rw [rk_at hwl, placeOf_nonneg, (hlk _ (List.getElem_mem hwl)).mem, ← hp.mem, List.getD_eq_getElem?_getD, List.getElem?_eq_getElem hu]
  exact List.getElem_mem hu

include h4
/-- After trading no village has less than it had. -/
theorem core_ir {i : Nat} (hi : i < fst.length) : rk vs i ((tradeF vs fst).getD i 0) ≤ rk vs i (fst.getD i 0) := by
  obtain ⟨p, r, ht, _, hg⟩ := trade_ttc h4 hv hp hlk
  rw [hg i hi]
  have h := ht.ir hi
  have a1 := rk_nn hv hp hlk hi (ht.lt i hi)
  have a2 := rk_nn hv hp hlk hi hi
  simp only [rkF] at h
  omega

theorem core_free : ¬ Blocks vs fst (tradeF vs fst) fst.length := by
  rintro ⟨m, hm1, hm2, S, hS, q, hq, hb⟩
  obtain ⟨p, r, ht, hl, hg⟩ := trade_ttc h4 hv hp hlk
  obtain ⟨s1, s2, s3⟩ := picksL_ok (n := fst.length) h4 (m := m) (by omega) S hS
  have hqp := orders_perm (n := m) (by omega) q hq
  have hql := hqp.len
  have gb : ∀ k, k < m → gAt S k < fst.length := fun k hk => by
    have := s3 _ (List.getElem_mem (show k < S.length by omega))
    have e : S.getD k 0 = S[k]'(by omega) := by simp [show k < S.length by omega]
    rw [gAt, e]; omega
  have qb : ∀ k, k < m → (q.getD k 0).toNat < m := fun k hk => by
    have := (hqp.mem _).1 (List.getElem_mem (show k < q.length by omega))
    have e : q.getD k 0 = q[k]'(by omega) := by simp [show k < q.length by omega]
    rw [e]; omega
  have qi : ∀ k j, k < m → j < m → (q.getD k 0).toNat = (q.getD j 0).toNat → k = j := fun k j hk hj e => by
    have t1 := (hqp.mem _).1 (List.getElem_mem (show k < q.length by omega))
    have t2 := (hqp.mem _).1 (List.getElem_mem (show j < q.length by omega))
    have e1 : q.getD k 0 = q[k]'(by omega) := by simp [show k < q.length by omega]
    have e2 : q.getD j 0 = q[j]'(by omega) := by simp [show j < q.length by omega]
    rw [e1, e2] at e
    exact (List.getElem_inj hqp.nodup).1 (show q[k]'(by omega) = q[j]'(by omega) by omega)
  simp only [blkB, Bool.and_eq_true, Bool.not_eq_true', betB, worB, List.any_eq_true, List.any_eq_false, List.mem_range, decide_eq_true_eq] at hb
  obtain ⟨⟨k, hk, hlt⟩, hno⟩ := hb
  have key := ht.noblockK (rkF_inj hv hp hlk) (m := m) (g := gAt S) (q := fun k => (q.getD k 0).toNat) gb qb qi (fun k hk => by
    have h1 := hno k hk
    rw [hg _ (gb k hk)] at h1
    have a1 := rk_nn hv hp hlk (gb k hk) (ht.lt _ (gb k hk))
    have a2 := rk_nn hv hp hlk (gb k hk) (gb _ (qb k hk))
    have e : gTo S q k = gAt S (q.getD k 0).toNat := rfl
    rw [e] at h1
    simp only [rkF]
    omega) k hk
  rw [hg _ (gb k hk)] at hlt
  have a1 := rk_nn hv hp hlk (gb k hk) (ht.lt _ (gb k hk))
  have a2 := rk_nn hv hp hlk (gb k hk) (gb _ (qb k hk))
  have e : gTo S q k = gAt S (q.getD k 0).toNat := rfl
  rw [e] at hlt
  simp only [rkF] at key
  omega

theorem core_only {d : List Int} (hd : PermOf fst.length d) (hne : d ≠ tradeF vs fst) : Blocks vs fst d fst.length := by
  obtain ⟨p, r, ht, hl, hg⟩ := trade_ttc h4 hv hp hlk
  have hdl := hd.len
  have dmem : ∀ v, v < fst.length → d.getD v 0 ∈ fst := fun v hvl => by
    rw [hp.mem, ← hd.mem, List.getD_eq_getElem?_getD, List.getElem?_eq_getElem (by omega)]
    exact List.getElem_mem _
  have hD : ∀ v, v < fst.length → fst.getD (placeOf fst (d.getD v 0)).toNat 0 = d.getD v 0 := fun v hvl => getD_placeOf hp.nodup (dmem v hvl)
  have hDl : ∀ v, v < fst.length → (placeOf fst (d.getD v 0)).toNat < fst.length := fun v hvl => by
    have := placeOf_bd (dmem v hvl); omega
  obtain ⟨t, h1, u, hu, h2⟩ := ht.unique (rkF_inj hv hp hlk) (d := fun v => (placeOf fst (d.getD v 0)).toNat) hDl (fun v w hvl hwl e => by
    have e : (placeOf fst (d.getD v 0)).toNat = (placeOf fst (d.getD w 0)).toNat := e
    have := congrArg (fun k => fst.getD k 0) e
    rw [hD v hvl, hD w hwl] at this
    exact perm_inj hd hvl hwl this) (by
    by_cases hc : ∃ v, v < fst.length ∧ (placeOf fst (d.getD v 0)).toNat ≠ p v
    · exact hc
    · exfalso
      apply hne
      refine List.ext_getElem (by omega) fun v a b => ?_
      have hvl : v < fst.length := by omega
      have e : (placeOf fst (d.getD v 0)).toNat = p v := by
        by_cases e : (placeOf fst (d.getD v 0)).toNat = p v
        · exact e
        · exact absurd ⟨v, hvl, e⟩ hc
      have e1 := hD v hvl
      rw [e, ← hg v hvl] at e1
      have e2 : d.getD v 0 = d[v] := by simp [a]
      have e3 : (tradeF vs fst).getD v 0 = (tradeF vs fst)[v] := by simp [b]
      rw [← e2, ← e3, e1])
  obtain ⟨S0, hS0⟩ : ∃ S0, S0 = rnd fst.length r t := ⟨_, rfl⟩
  rw [← hS0] at h1 hu
  have hnd : S0.Nodup := by rw [hS0]; exact rnd_nodup _ _ _
  have hlt : ∀ x ∈ S0, x < fst.length := fun x hx => by rw [hS0] at hx; exact (mem_rnd.1 hx).1
  have hasc : S0.Pairwise (· < ·) := by rw [hS0, rnd]; exact List.Pairwise.filter _ List.pairwise_lt_range
  have hSl : S0.length ≤ fst.length := by
    have := len_of_sub hnd (m := List.range fst.length) (fun x hx => by simpa using hlt x hx)
    simpa using this
  have hS1 : 1 ≤ S0.length := List.length_pos_of_mem hu
  have ix : ∀ k (a : k < S0.length), S0.idxOf (p S0[k]) < S0.length ∧ S0.getD (S0.idxOf (p S0[k])) 0 = p S0[k] := fun k a => by
    have hm := (h1 _ (List.getElem_mem a)).1
    have hi := List.idxOf_lt_length_of_mem hm
    refine ⟨hi, ?_⟩
    rw [List.getD_eq_getElem?_getD, List.getElem?_eq_getElem hi]
    simp
  obtain ⟨q, hq⟩ : ∃ q : List Int, q = (List.range S0.length).map (fun k => ((S0.idxOf (p (S0.getD k 0)) : Nat) : Int)) := ⟨_, rfl⟩
  have hql : q.length = S0.length := by rw [hq]; simp
  have sg : ∀ k (a : k < S0.length), S0.getD k 0 = S0[k] := fun k a => by simp [a]
  have hqe : ∀ k (a : k < q.length), q[k] = ((S0.idxOf (p (S0[k]'(by omega))) : Nat) : Int) := fun k a => by
    simp only [hq, List.getElem_map, List.getElem_range]
    rw [sg k (by omega)]
  have hqp : PermOf S0.length q := by
    rw [permOf_iff]
    refine ⟨hql, fun x hx => ?_, ?_⟩
    · obtain ⟨k, hk, rfl⟩ := List.getElem_of_mem hx
      rw [hqe k hk]
      have := (ix k (by omega)).1
      omega
    · rw [List.nodup_iff_pairwise_ne, List.pairwise_iff_getElem]
      intro i j hi hj hij e
      rw [hqe i hi, hqe j hj] at e
      have e : S0.idxOf (p (S0[i]'(by omega))) = S0.idxOf (p (S0[j]'(by omega))) := by omega
      have e2 := (ix i (by omega)).2
      rw [e, (ix j (by omega)).2] at e2
      have e3 := ht.inj _ _ (hlt _ (List.getElem_mem _)) (hlt _ (List.getElem_mem _)) e2
      have := (List.getElem_inj hnd).1 e3
      omega
  have gA : ∀ k (a : k < S0.length), gAt (S0.map (fun (x : Nat) => (x : Int))) k = S0[k] := fun k a => by
    simp [gAt, a]
  have gT : ∀ k (a : k < S0.length), gTo (S0.map (fun (x : Nat) => (x : Int))) q k = p S0[k] := fun k a => by
    have e1 : (q.getD k 0).toNat = S0.idxOf (p S0[k]) := by
      have : q.getD k 0 = q[k]'(by omega) := by simp [show k < q.length by omega]
      rw [this, hqe k (by omega)]; simp
    have hi := (ix k a).1
    have h3 := (ix k a).2
    rw [gTo, e1]
    generalize S0.idxOf (p S0[k]) = i at hi h3 ⊢
    rw [← h3]
    simp [hi]
  refine ⟨S0.length, hS1, hSl, _, mem_picks _ 0 S0 rfl hasc (fun x hx => ⟨Nat.zero_le _, hlt x hx⟩), q, mem_orders hqp, ?_⟩
  simp only [blkB, Bool.and_eq_true, Bool.not_eq_true', betB, worB, List.any_eq_true, List.any_eq_false, List.mem_range, decide_eq_true_eq]
  constructor
  · obtain ⟨k, hk, rfl⟩ := List.getElem_of_mem hu
    refine ⟨k, hk, ?_⟩
    rw [gA k hk, gT k hk]
    have hw := hlt _ (List.getElem_mem hk)
    simp only [rkF, hD _ hw] at h2
    omega
  · intro k hk
    rw [gA k hk, gT k hk]
    have hw := hlt _ (List.getElem_mem hk)
    have h3 := (h1 _ (List.getElem_mem hk)).2
    have a1 := rk_nn hv hp hlk hw (ht.lt _ hw)
    have a2 := rk_nn hv hp hlk hw (hDl _ hw)
    rw [hD _ hw] at a2
    simp only [rkF, hD _ hw] at h3
    omega
end

end Go.Proofs.Ythchpoabncdicaa
