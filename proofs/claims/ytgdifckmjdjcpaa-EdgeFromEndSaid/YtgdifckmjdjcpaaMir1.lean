/- Claims in a row of the call's own, a field of one changed; the plain law of the edge turned about; conditions: the edge is valid. -/
import Derived.Test.YtgdifckmjdjcpaaCpe
import Derived.Test.YtgdifckmjdjcpaaSo
namespace Go.Proofs.Ytgdifckmjdjcpaa
open Go.RowKit

theorem flat_set1 {α : Type} {f : α → List Value} {m : Nat} (hf : ∀ a, (f a).length = m) : ∀ (l : List α) (k : Nat) (hk : k < l.length) (j : Nat), j < m → ∀ (v : Value) (c' : α), f c' = (f l[k]).set j v → (l.flatMap f).set (k * m + j) v = (l.set k c').flatMap f
  | [], k, hk, _, _, _, _, _ => by simp at hk
  | a :: l, 0, _, j, hj, v, c', h => by
    have h : f c' = (f a).set j v := h
    simp only [List.flatMap_cons, List.set_cons_zero, Nat.zero_mul, Nat.zero_add]
    rw [List.set_append_left _ _ (by rw [hf]; exact hj), h]
  | a :: l, k + 1, hk, j, hj, v, c', h => by
    have hk' : k < l.length := by simpa using hk
    have ih := flat_set1 hf l k hk' j hj v c' (by simpa using h)
    simp only [List.flatMap_cons, List.set_cons_succ]
    rw [List.set_append_right _ _ (by rw [hf, Nat.succ_mul]; omega), hf, show (k + 1) * m + j - m = k * m + j by rw [Nat.succ_mul]; omega, ih]

/-- Claims in a row of the call's own. -/
def CO (N g n cap : Nat) (l : List Cl) (w : World) : Prop := Own N w 26 5 (.slice (some ⟨g, 0, none⟩) n cap) n (l.flatMap ccells)
theorem CO.len {N g n cap : Nat} {l : List Cl} {w : World} (h : CO N g n cap l w) : l.length = n := by
  have := (show World.ownsRow _ _ _ _ _ _ _ from h).1
  rw [flat_len ccells_len] at this
  omega
theorem CO.at {N g n cap : Nat} {l : List Cl} {w : World} (h : CO N g n cap l w) {k : Nat} (hk : k < l.length) :
    w.cell? ⟨g, k * 5, none⟩ = some (.int .i64 l[k].kind) ∧ w.cell? ⟨g, k * 5 + 1, none⟩ = some (.int .i64 l[k].point) ∧ w.cell? ⟨g, k * 5 + 2, none⟩ = some (.int .i64 l[k].other) ∧ w.cell? ⟨g, k * 5 + 3, none⟩ = some (.int .i64 l[k].off) ∧ w.cell? ⟨g, k * 5 + 4, none⟩ = some (.int .i64 l[k].err) := by
  have hl := h.len
  have h0 := flat_at ccells_len l k hk 0 (by decide)
  have h1 := flat_at ccells_len l k hk 1 (by decide)
  have h2 := flat_at ccells_len l k hk 2 (by decide)
  have h3 := flat_at ccells_len l k hk 3 (by decide)
  have h4 := flat_at ccells_len l k hk 4 (by decide)
  rw [Nat.add_zero] at h0
  refine ⟨?_, ?_, ?_, ?_, ?_⟩
  · rw [World.ownsRow.cellAt h _ (by omega)]; exact h0
  · rw [World.ownsRow.cellAt h _ (by omega)]; exact h1
  · rw [World.ownsRow.cellAt h _ (by omega)]; exact h2
  · rw [World.ownsRow.cellAt h _ (by omega)]; exact h3
  · rw [World.ownsRow.cellAt h _ (by omega)]; exact h4
theorem CO.free {N g n cap : Nat} {l : List Cl} {w : World} (h : CO N g n cap l w) (j : Nat) : w.frozen? ⟨g, j, none⟩ = false := own_free h j
theorem CO.call {N g n cap : Nat} {l : List Cl} {w w' : World} (h : CO N g n cap l w) (hB : Below w.heap.size w w') : CO N g n cap l w' := Own.call h hB
theorem CO.blk {N g n cap : Nat} {l : List Cl} {w : World} (h : CO N g n cap l w) : N ≤ g ∧ g < w.heap.size := World.ownsRow.lt h g rfl
theorem CO.set {N g n cap : Nat} {l : List Cl} {w : World} (h : CO N g n cap l w) {k : Nat} (hk : k < l.length) (j : Nat) (hj : j < 5) (v : Value) (c' : Cl) (hc : ccells c' = (ccells l[k]).set j v) : CO N g n cap (l.set k c') (w.setCell ⟨g, k * 5 + j, none⟩ v) := by
  have h1 := (World.ownsRow.stored h (k * 5 + j) v).1
  rw [flat_set1 ccells_len l k hk j hj v c' hc] at h1
  exact h1

/-- The claims turned so far. -/
def mirK (l : List Cl) (k : Nat) : List Cl := (l.take k).map mirC ++ l.drop k
theorem mirK_len (l : List Cl) (k : Nat) : (mirK l k).length = l.length := by
  unfold mirK
  rw [List.length_append, List.length_map, List.length_take, List.length_drop]
  omega
theorem mirK_zero (l : List Cl) : mirK l 0 = l := rfl
theorem mirK_all (l : List Cl) : mirK l l.length = l.map mirC := by
  unfold mirK
  rw [List.take_length, List.drop_length, List.append_nil]
theorem mirK_at {l : List Cl} {k : Nat} (hk : k < l.length) : (mirK l k)[k]'(by rw [mirK_len]; exact hk) = l[k] := by
  unfold mirK
  rw [List.getElem_append_right (by simp; omega)]
  simp only [List.length_map, List.length_take, List.getElem_drop]
  congr 1
  omega
theorem mirK_succ {l : List Cl} {k : Nat} (hk : k < l.length) : (mirK l k).set k (mirC l[k]) = mirK l (k + 1) := by
  unfold mirK
  rw [List.set_append_right _ _ (by simp; omega), List.drop_eq_getElem_cons hk, List.take_succ_eq_append_getElem hk, List.map_append, List.append_assoc]
  congr 1
  rw [show k - (List.map mirC (List.take k l)).length = 0 by simp; omega]
  rfl

/-- The law of the edge turned about. -/
theorem mirror_law {x : Edg} (hx : x.Ok) : (countX x).2 = 0 ∧ countX (mirX x) = countX x ∧ wrongX (mirX x) = wrongX x ∧ (wrongX x).2 = 0 ∧
    ((boundsX x = ([], 12) ∧ boundsX (mirX x) = ([], 12) ∧ (countX x).1 = 0) ∨ ∃ s, s.length = x.n ∧ boundsX x = (s, 0) ∧ boundsX (mirX x) = (s.map fun b => (9 - b.2, 9 - b.1), 0) ∧ ∀ p < s.length, 0 ≤ gl s p ∧ gh s p ≤ 9 ∧ gl s p ≤ 9 ∧ 0 ≤ gh s p) := by
  have hy := mirX_ok hx
  have hck : ¬ checkX x ≠ 0 := not_not_intro (checkX_zero.2 hx)
  have hcy : ¬ checkX (mirX x) ≠ 0 := not_not_intro (checkX_zero.2 hy)
  refine ⟨?_, ?_, ?_, ?_, ?_⟩
  · unfold countX; rw [if_neg hck]
  · unfold countX; rw [if_neg hck, if_neg hcy, mir_count hx]
  · unfold wrongX; rw [if_neg hck, if_neg hcy, mir_wrong hx]
  · unfold wrongX; rw [if_neg hck]
  · rcases bnd_cases hx with ⟨ht, hb, -⟩ | ⟨s, hs, hb, -⟩
    · have ht' : truthsF (mirX x) = [] := by
        have := mir_count hx
        rw [ht] at this
        exact List.length_eq_zero_iff.1 this.symm
      refine .inl ⟨?_, ?_, ?_⟩
      · unfold boundsX; rw [if_neg hck, hb]
      · unfold boundsX; rw [if_neg hcy, bndF_none.2 ht']
      · unfold countX; rw [if_neg hck, ht]; rfl
    · have hm := mir_bnd hx hs
      refine .inr ⟨s, hs.len, ?_, ?_, fun p hp => ?_⟩
      · unfold boundsX; rw [if_neg hck, hb]
      · unfold boundsX; rw [if_neg hcy, hm.eq]
      · have hsl := hs.len
        have h1 := hs.lo.reach p (by omega)
        have h2 := hs.hi.reach p (by omega)
        rw [atL_fst] at h1
        rw [atL_snd] at h2
        omega

end Go.Proofs.Ytgdifckmjdjcpaa
