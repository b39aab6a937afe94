/- After trading no group can better, in plain words; conditions: up to four villages. -/
import Derived.Test.YthchpoabncdicaaCoreP
import Derived.Test.YthchpoabncdicaaGrp1
import Derived.Test.YthchpoabncdicaaGrpP
namespace Go.Proofs.Ythchpoabncdicaa
open Go.RowKit

theorem Ttc.nogroupK {n : Nat} {rkF : Nat → Nat → Nat} {p r : Nat → Nat} (h : Ttc n rkF p r) {m : Nat} {g q : Nat → Nat} (hm : 0 < m) (hg : ∀ k, k < m → g k < n) (hq : ∀ k, k < m → q k < m) (hi : ∀ k j, k < m → j < m → q k = q j → k = j)
    (hb : ∀ k, k < m → rkF (g k) (p (g (q k))) < rkF (g k) (p (g k))) : False := by
  have h1 : ∀ k, k < m → r (g (q k)) < r (g k) := fun k hk => by
    have hs := hg _ (hq k hk)
    have := h.best (g k) (p (g (q k))) (hg k hk) (h.lt _ hs) (hb k hk)
    rw [h.lev _ hs] at this
    exact this
  have h2 := round_eq (l := List.range m) (p := q) (f := fun k => r (g k)) List.nodup_range (fun x hx => by simpa using hq x (by simpa using hx)) (fun x hx y hy e => hi x y (by simpa using hx) (by simpa using hy) e) (fun x hx => Nat.le_of_lt (h1 x (by simpa using hx))) 0 (by simpa using hm)
  have h3 : r (g (q 0)) = r (g 0) := h2
  have := h1 0 hm
  omega

section
variable {vs : List Vil} {fst : List Int} (h4 : fst.length ≤ 4) (hv : vs.length = fst.length) (hp : PermOf fst.length fst) (hlk : ∀ v ∈ vs, PermOf fst.length v.likes)
include hv hp hlk h4
theorem trade_nogroup {m : Nat} (hm1 : 1 ≤ m) (hm2 : m ≤ fst.length) {S : List Int} (hS : S ∈ picksL fst.length m 0) : betterB vs (tradeF vs fst) S = false := by
  cases hb : betterB vs (tradeF vs fst) S with
  | false => rfl
  | true =>
    exfalso
    obtain ⟨p, r, ht, hl, hg⟩ := trade_ttc h4 hv hp hlk
    obtain ⟨s1, s2, s3⟩ := picksL_ok (n := fst.length) h4 (m := m) (by omega) S hS
    obtain ⟨q, hq, hf⟩ := List.any_eq_true.1 hb
    rw [s1] at hq hf
    have hqp := orders_perm (n := m) (by omega) q hq
    have hql := hqp.len
    have gb : ∀ k, k < m → gAt S k < fst.length := fun k hk => by
      have := s3 _ (List.getElem_mem (show k < S.length by omega))
      have e : S.getD k 0 = S[k]'(by omega) := by simp [show k < S.length by omega]
      rw [gAt, e]; omega
    have qb : ∀ k, k < m → (q.getD k 0).toNat < m := fun k hk => by
      have := (hqp.mem _).1 (List.getElem_mem (show k < q.length by omega))
      have e : q.getD k 0 = q[k]'(by omega) := by simp [show k < q.length by omega]
      rw [e]; omega
    have qi : ∀ k j, k < m → j < m → (q.getD k 0).toNat = (q.getD j 0).toNat → k = j := fun k j hk hj e => by
      have t1 := (hqp.mem _).1 (List.getElem_mem (show k < q.length by omega))
      have t2 := (hqp.mem _).1 (List.getElem_mem (show j < q.length by omega))
      have e1 : q.getD k 0 = q[k]'(by omega) := by simp [show k < q.length by omega]
      have e2 : q.getD j 0 = q[j]'(by omega) := by simp [show j < q.length by omega]
      rw [e1, e2] at e
      exact (List.getElem_inj hqp.nodup).1 (show q[k]'(by omega) = q[j]'(by omega) by omega)
    simp only [fineB, List.all_eq_true, List.mem_range, decide_eq_true_eq] at hf
    refine ht.nogroupK (m := m) (g := gAt S) (q := fun k => (q.getD k 0).toNat) (by omega) gb qb qi (fun k hk => ?_)
    have h1 := hf k hk
    have e : gTo S q k = gAt S (q.getD k 0).toNat := rfl
    rw [e, hg _ (gb k hk), hg _ (gb _ (qb k hk))] at h1
    have a1 := rk_nn hv hp hlk (gb k hk) (ht.lt _ (gb k hk))
    have a2 := rk_nn hv hp hlk (gb k hk) (ht.lt _ (gb _ (qb k hk)))
    simp only [rkF]
    omega
theorem trade_none : grpF (betterB vs (tradeF vs fst)) fst.length = none := find_none fun m' hm' x hx => trade_nogroup h4 hv hp hlk (m := m' + 1) (by omega) (by omega) hx
end
end Go.Proofs.Ythchpoabncdicaa
