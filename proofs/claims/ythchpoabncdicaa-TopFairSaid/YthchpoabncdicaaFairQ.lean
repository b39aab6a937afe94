/- What Fair of lots goes through, in plain words: lists of indices; envy is rank; conditions: as said. -/
import Derived.Test.YthchpoabncdicaaRF9
namespace Go.Proofs.Ythchpoabncdicaa
open Go.RowKit

/-- The lists of years, by the numbers of the divisions. -/
def cycI (all : List (List Int)) : Nat → List Int → List (List Int)
  | 0, ys => [ys]
  | r + 1, ys => (List.range all.length).flatMap fun i => if fitsY all ys i then cycI all r (ys ++ [(i : Int)]) else []
theorem growF_fold (all : List (List Int)) (sums : List Int) : ∀ r ys ks, growF all sums r ys ks = (cycI all r ys).foldl (offerF sums) ks
  | 0, ys, ks => rfl
  | r + 1, ys, ks => by
    rw [growF, cycI, List.foldl_flatMap]
    congr 1
    funext ks i
    split
    · exact growF_fold all sums r _ ks
    · rfl
/-- The divisions that a list of numbers stands for. -/
def toDiv (all : List (List Int)) (ys : List Int) : List (List Int) := ys.map fun y => all.getD y.toNat []
theorem toDiv_snoc (all : List (List Int)) (ys : List Int) (i : Nat) : toDiv all (ys ++ [(i : Int)]) = toDiv all ys ++ [all.getD i []] := by simp [toDiv]

/-- As many are liked more as the rank says. -/
theorem rank_count {l : List Int} (hn : l.Nodup) (k : Nat) : ∀ j, j ≤ l.length → ((l.take j).filter fun m => decide (placeOf l m < (k : Int))).length = min j k
  | 0, _ => by simp
  | j + 1, hj => by
    have ih := rank_count hn k j (by omega)
    have hj' : j < l.length := by omega
    rw [List.take_succ_eq_append_getElem hj', List.filter_append, List.length_append, ih, List.filter_cons, List.filter_nil, placeOf_at hn hj']
    by_cases h : j < k
    · rw [decide_eq_true (by omega : (j : Int) < (k : Int))]
      simp; omega
    · rw [decide_eq_false (by omega : ¬ (j : Int) < (k : Int))]
      simp; omega
theorem rank_all {l d : List Int} (hn : l.Nodup) (hp : d.Perm l) {k : Nat} (hk : k ≤ l.length) : (d.filter fun m => decide (placeOf l m < (k : Int))).length = k := by
  have h := rank_count hn k l.length (Nat.le_refl _)
  rw [List.take_length] at h
  rw [(hp.filter _).length_eq, h]
  omega

theorem envy_rk {vs : List Vil} {d : List Int} {v : Nat} (hv : v < vs.length) (hl : PermOf d.length vs[v].likes) (hp : PermOf d.length d) (hvd : v < d.length) : (envyAt vs d v : Int) = rk vs v (d.getD v 0) := by
  have hg : d.getD v 0 = d[v] := by simp [hvd]
  have hm : d[v] ∈ vs[v].likes := (hl.mem _).2 ((hp.mem _).1 (List.getElem_mem hvd))
  have hb := placeOf_bd hm
  have hr : ∀ m, rk vs v m = placeOf vs[v].likes m := fun m => rk_at hv m
  obtain ⟨k, hk⟩ : ∃ k : Nat, placeOf vs[v].likes d[v] = (k : Int) := ⟨(placeOf vs[v].likes d[v]).toNat, by omega⟩
  have hpl : d.Perm vs[v].likes := List.Perm.trans hp (List.Perm.symm hl)
  have h := rank_all (l := vs[v].likes) (d := d) hl.nodup hpl (k := k) (by omega)
  rw [envyAt, hg]
  simp only [hr, hk]
  rw [h]
theorem sum_rk {vs : List Vil} {d : List Int} (hv : vs.length = d.length) (hl : ∀ v ∈ vs, PermOf d.length v.likes) (hp : PermOf d.length d) : ∀ k, k ≤ d.length → sumL ((List.range k).map fun v => (envyAt vs d v : Int)) = rkS vs d k
  | 0, _ => by simp [sumL, rkS]
  | k + 1, hk => by
    have ih := sum_rk hv hl hp k (by omega)
    rw [List.range_succ, List.map_append, List.map_cons, List.map_nil, sumL_snoc, ih, rkS, envy_rk (by omega) (hl _ (List.getElem_mem (by omega))) hp (by omega)]
theorem envySum_rk {vs : List Vil} {d : List Int} (hv : vs.length = d.length) (hl : ∀ v ∈ vs, PermOf d.length v.likes) (hp : PermOf d.length d) : envySum vs d = rkS vs d d.length := by
  rw [envySum, envyL]
  exact sum_rk hv hl hp _ (Nat.le_refl _)

theorem apart_clash {a d : List Int} (h : a.length = d.length) : apartTo a d d.length = !clashB a d := by
  rw [apartTo, clashB, h, List.not_any_eq_all_not]
  congr 1
  funext i
  rw [Bool.beq_comm]
theorem fits_same {n : Nat} {all : List (List Int)} (hall : ∀ l ∈ all, l.length = n) {ys : List Int} (hys : ∀ y ∈ ys, 0 ≤ y ∧ y < (all.length : Int)) {i : Nat} (hi : i < all.length) : fitsTo (toDiv all ys) (all.getD i []) (toDiv all ys).length = fitsY all ys i := by
  have hrow : ∀ j, j < all.length → (all.getD j []).length = n := fun j hj => by
    rw [List.getD_eq_getElem?_getD, List.getElem?_eq_getElem hj]; exact hall _ (List.getElem_mem hj)
  rw [fitsTo, List.take_length, toDiv, List.all_map, fitsY, List.not_any_eq_all_not]
  refine Bool.eq_iff_iff.2 ?_
  simp only [List.all_eq_true, Function.comp]
  have key : ∀ y ∈ ys, apartTo (all.getD y.toNat []) (all.getD i []) (all.getD i []).length = !clashY all (all.getD i []) y := fun y hy => by
    have := hys y hy
    rw [clashY, apart_clash (by rw [hrow _ (by omega), hrow i hi])]
  exact ⟨fun h y hy => by rw [← key y hy]; exact h y hy, fun h y hy => by rw [key y hy]; exact h y hy⟩
theorem flat_range {all : List (List Int)} {f : List Int → List (List (List Int))} : all.flatMap f = (List.range all.length).flatMap fun i => f (all.getD i []) := by
  have h : all = (List.range all.length).map fun i => all.getD i [] := by
    apply List.ext_getElem
    · simp
    · intro i h1 h2; simp [h1]
  conv => lhs; rw [h]
  rw [List.flatMap_map]
theorem cyc_map {n : Nat} (hall : ∀ l ∈ exts n n [], l.length = n) : ∀ r ys, (∀ y ∈ ys, 0 ≤ y ∧ y < ((exts n n []).length : Int)) → cycL n r (toDiv (exts n n []) ys) = (cycI (exts n n []) r ys).map (toDiv (exts n n []))
  | 0, ys, _ => rfl
  | r + 1, ys, hys => by
    rw [cycL, cycI, flat_range, List.map_flatMap, List.flatMap_def, List.flatMap_def]
    congr 1
    refine List.map_congr_left fun i hi => ?_
    have hi : i < (exts n n []).length := by simpa using hi
    rw [fits_same hall hys hi]
    split
    · rw [← toDiv_snoc, cyc_map hall r _ (fun y hy => ?_)]
      rcases List.mem_append.1 hy with h | h
      · exact hys y h
      · rw [List.mem_singleton] at h; subst h; omega
    · rfl

end Go.Proofs.Ythchpoabncdicaa
