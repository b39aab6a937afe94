/- What the outright statements ask, in plain words: bounds from the other end and turned about, the field that is seen last, a span from its widest; conditions: as said. -/
import Derived.Test.YtgdifckmjdjcpaaEdgT9
namespace Go.Proofs.Ytgdifckmjdjcpaa

theorem gl_rev {s : Bs} {p : Nat} (hp : p < s.length) : gl s.reverse p = gl s (s.length - 1 - p) := by
  rw [← atL_fst, ← atL_fst, List.map_reverse, atL_rev (by rw [List.length_map]; exact hp), List.length_map]
theorem gh_rev {s : Bs} {p : Nat} (hp : p < s.length) : gh s.reverse p = gh s (s.length - 1 - p) := by
  rw [← atL_snd, ← atL_snd, List.map_reverse, atL_rev (by rw [List.length_map]; exact hp), List.length_map]
theorem end_tkE {x : Edg} (hx : x.Ok) {s : Bs} (h : IsBnd x s) (l : List Fu) {p : Nat} (hp : p < x.n) (y : Int) : tkE (l.map (endFu x.points)) s.reverse (x.n - 1 - p) y = tkE l s p y := by
  have hl := h.len
  have hn : (x.n : Int) = x.points := by have := hx.p; unfold Edg.n; omega
  have e : ((x.n - 1 - p : Nat) : Int) = x.points - 1 - (p : Int) := by omega
  unfold tkE
  rw [e, newG_end, tkF_end, tkF_end, gl_rev (by omega), gh_rev (by omega), show s.length - 1 - (x.n - 1 - p) = p by omega]
theorem gl_mir {s : Bs} {p : Nat} (hp : p < s.length) : gl (s.map fun b => (9 - b.2, 9 - b.1)) p = 9 - gh s p := by
  unfold gl gh
  rw [List.getD_eq_getElem?_getD, List.getD_eq_getElem?_getD, List.getElem?_map, List.getElem?_eq_getElem hp]
  rfl
theorem gh_mir {s : Bs} {p : Nat} (hp : p < s.length) : gh (s.map fun b => (9 - b.2, 9 - b.1)) p = 9 - gl s p := by
  unfold gl gh
  rw [List.getD_eq_getElem?_getD, List.getD_eq_getElem?_getD, List.getElem?_map, List.getElem?_eq_getElem hp]
  rfl

/-- The field that is seen last, by its year. -/
def seenB (p y : Int) (r : Int × Int) (f : Fu) : Bool := decide (f.point = p) && (decide (r.2 < f.year) && decide (f.year ≤ y))
def seenS (a : Int) (p y : Int) (l : List Fu) : Int × Int := l.foldl (fun r f => if seenB p y r f = true then (f.off, f.year) else r) (a, -1)
def seenO (a : Int) : Option Fu → Int × Int
  | none => (a, -1)
  | some f => (f.off, f.year)
theorem seenS_snoc (a p y : Int) (l : List Fu) (f : Fu) : seenS a p y (l ++ [f]) = if seenB p y (seenS a p y l) f = true then (f.off, f.year) else seenS a p y l := by
  unfold seenS; rw [List.foldl_append]; rfl
theorem seen_new {a p y : Int} {l : List Fu} (h : ∀ f ∈ l, 0 ≤ f.year) : seenS a p y l = seenO a (newG p y l) := by
  have key : ∀ r : List Fu, (∀ f ∈ r.reverse, 0 ≤ f.year) → seenS a p y r.reverse = seenO a (newG p y r.reverse) := by
    intro r
    induction r with
    | nil => intro _; rfl
    | cons f r ih =>
      intro hr
      rw [List.reverse_cons] at hr ⊢
      have hf := hr f (by simp)
      rw [seenS_snoc, newG_snoc, ih fun g hg => hr g (List.mem_append_left _ hg)]
      have e : seenB p y (seenO a (newG p y r.reverse)) f = newB p y (newG p y r.reverse) f := by
        cases newG p y r.reverse with
        | none =>
          have h1 : (decide ((-1 : Int) < f.year)) = true := decide_eq_true (by omega)
          show (decide (f.point = p) && (decide ((-1 : Int) < f.year) && decide (f.year ≤ y))) = ((decide (f.point = p) && decide (f.year ≤ y)) && true)
          rw [h1, Bool.true_and, Bool.and_true]
        | some g =>
          show (decide (f.point = p) && (decide (g.year < f.year) && decide (f.year ≤ y))) = ((decide (f.point = p) && decide (f.year ≤ y)) && decide (g.year < f.year))
          rw [Bool.and_assoc, Bool.and_comm (decide (g.year < f.year))]
      rw [e]
      split <;> rfl
  have := key l.reverse
  rw [List.reverse_reverse] at this
  exact this h
theorem seen_is {a : Int} {o : Option Fu} (h : ∀ f, o = some f → 0 ≤ f.year) : 0 ≤ (seenO a o).2 ↔ o ≠ none := by
  cases o with
  | none => simp [seenO]
  | some f => simp [seenO]; exact h f rfl
/-- A span that begins at its widest. -/
theorem span_from {l : List Int} (hl : l ≠ []) (h : ∀ n ∈ l, 0 ≤ n ∧ n ≤ 18) : l.foldl (fun r n => (min r.1 n, max r.2 n)) ((18 : Int), (0 : Int)) = spanF l := by
  cases l with
  | nil => exact absurd rfl hl
  | cons a l =>
    have := h a (by simp)
    rw [List.foldl_cons, show (min (18 : Int) a, max (0 : Int) a) = (a, a) by rw [Int.min_eq_right this.2, Int.max_eq_right this.1]]
    rfl

end Go.Proofs.Ytgdifckmjdjcpaa
