/- Furrows, verdicts and fines in plain words: the field in a year, what is taken between the ends of all truths; conditions: as said. -/
import Derived.Test.YtgdifckmjdjcpaaEdgT2
namespace Go.Proofs.Ytgdifckmjdjcpaa

structure Fu where
  point : Int
  year : Int
  off : Int
def mtch (p y : Int) (f : Fu) : Bool := decide (f.point = p) && decide (f.year ≤ y)
/-- What field in a year means. -/
def IsField (l : List Fu) (p y : Int) : Option Fu → Prop
  | none => ∀ f ∈ l, mtch p y f = false
  | some f => f ∈ l ∧ mtch p y f = true ∧ ∀ g ∈ l, mtch p y g = true → g.year ≤ f.year
/-- No two furrows at a point in one year. -/
def OneEach (l : List Fu) : Prop := l.Pairwise fun f g => ¬ (f.point = g.point ∧ f.year = g.year)
theorem one_eq {l : List Fu} (h : OneEach l) {f g : Fu} (hf : f ∈ l) (hg : g ∈ l) (h1 : f.point = g.point) (h2 : f.year = g.year) : f = g := by
  obtain ⟨i, hi, rfl⟩ := List.getElem_of_mem hf
  obtain ⟨j, hj, rfl⟩ := List.getElem_of_mem hg
  rcases Nat.lt_trichotomy i j with e | rfl | e
  · exact absurd ⟨h1, h2⟩ (List.pairwise_iff_getElem.1 h i j hi hj e)
  · rfl
  · exact absurd ⟨h1.symm, h2.symm⟩ (List.pairwise_iff_getElem.1 h j i hj hi e)
theorem field_one {l : List Fu} (h : OneEach l) {p y : Int} : ∀ {o o' : Option Fu}, IsField l p y o → IsField l p y o' → o = o'
  | none, none, _, _ => rfl
  | none, some f, h1, h2 => by have := h1 f h2.1; rw [h2.2.1] at this; exact absurd this (by decide)
  | some f, none, h1, h2 => by have := h2 f h1.1; rw [h1.2.1] at this; exact absurd this (by decide)
  | some f, some g, h1, h2 => by
    have a1 := h1.2.2 g h2.1 h2.2.1
    have a2 := h2.2.2 f h1.1 h1.2.1
    have b1 := h1.2.1
    have b2 := h2.2.1
    unfold mtch at b1 b2
    rw [Bool.and_eq_true, decide_eq_true_eq, decide_eq_true_eq] at b1 b2
    rw [one_eq h h1.1 h2.1 (by omega) (by omega)]
theorem field_perm {l l' : List Fu} (h : l.Perm l') {p y : Int} {o : Option Fu} (ho : IsField l' p y o) : IsField l p y o := by
  cases o with
  | none => exact fun f hf => ho f (h.mem_iff.1 hf)
  | some f => exact ⟨h.mem_iff.2 ho.1, ho.2.1, fun g hg => ho.2.2 g (h.mem_iff.1 hg)⟩

/-- The last one in the order of years (the program's). -/
def lastF (p y : Int) (l : List Fu) : Option Fu := l.foldl (fun o f => if mtch p y f = true then some f else o) none
theorem lastF_snoc (p y : Int) (l : List Fu) (f : Fu) : lastF p y (l ++ [f]) = if mtch p y f = true then some f else lastF p y l := by
  unfold lastF; rw [List.foldl_append]; rfl
theorem last_field {p y : Int} : ∀ {l : List Fu}, l.Pairwise (fun f g => f.year ≤ g.year) → IsField l p y (lastF p y l) := by
  intro l
  have key : ∀ r : List Fu, r.reverse.Pairwise (fun f g => f.year ≤ g.year) → IsField r.reverse p y (lastF p y r.reverse) := by
    intro r
    induction r with
    | nil => intro _ f hf; simp at hf
    | cons a r ih =>
      intro h
      rw [List.reverse_cons] at h ⊢
      obtain ⟨h1, -, h3⟩ := List.pairwise_append.1 h
      have ih := ih h1
      rw [lastF_snoc]
      by_cases hm : mtch p y a = true
      · rw [if_pos hm]
        refine ⟨by simp, hm, fun g hg _ => ?_⟩
        rcases List.mem_append.1 hg with hg | hg
        · exact h3 g hg a (by simp)
        · rw [List.mem_singleton] at hg; subst hg; omega
      · rw [if_neg hm]
        have hm' : mtch p y a = false := by simpa using hm
        revert ih
        cases lastF p y r.reverse with
        | none =>
          intro ih f hf
          rcases List.mem_append.1 hf with hf | hf
          · exact ih f hf
          · rw [List.mem_singleton] at hf; subst hf; exact hm'
        | some f =>
          intro ih
          refine ⟨List.mem_append_left _ ih.1, ih.2.1, fun g hg hgm => ?_⟩
          rcases List.mem_append.1 hg with hg | hg
          · exact ih.2.2 g hg hgm
          · rw [List.mem_singleton] at hg; subst hg; rw [hm'] at hgm; exact absurd hgm (by decide)
  intro h
  have := key l.reverse (by rw [List.reverse_reverse]; exact h)
  rwa [List.reverse_reverse] at this

/-- The one of the latest year (the reference's). -/
def newF (p y : Int) (l : List Fu) : Option Fu := l.foldl (fun o f => if mtch p y f = true ∧ (∀ g, o = some g → g.year < f.year) then some f else o) none
def newB (p y : Int) (o : Option Fu) (f : Fu) : Bool := mtch p y f && (match o with | none => true | some g => decide (g.year < f.year))
def newG (p y : Int) (l : List Fu) : Option Fu := l.foldl (fun o f => if newB p y o f = true then some f else o) none
theorem newG_snoc (p y : Int) (l : List Fu) (f : Fu) : newG p y (l ++ [f]) = if newB p y (newG p y l) f = true then some f else newG p y l := by
  unfold newG; rw [List.foldl_append]; rfl
theorem new_field {p y : Int} (l : List Fu) : IsField l p y (newG p y l) := by
  have key : ∀ r : List Fu, IsField r.reverse p y (newG p y r.reverse) := by
    intro r
    induction r with
    | nil => intro f hf; simp at hf
    | cons a r ih =>
      rw [List.reverse_cons, newG_snoc]
      revert ih
      generalize newG p y r.reverse = o
      intro ih
      by_cases hm : mtch p y a = true
      · cases o with
        | none =>
          rw [if_pos (by unfold newB; rw [hm]; rfl)]
          refine ⟨by simp, hm, fun g hg hgm => ?_⟩
          rcases List.mem_append.1 hg with hg | hg
          · rw [ih g hg] at hgm; exact absurd hgm (by decide)
          · rw [List.mem_singleton] at hg; subst hg; omega
        | some f =>
          by_cases hy : f.year < a.year
          · rw [if_pos (by unfold newB; rw [hm]; simpa using hy)]
            refine ⟨by simp, hm, fun g hg hgm => ?_⟩
            rcases List.mem_append.1 hg with hg | hg
            · have := ih.2.2 g hg hgm; omega
            · rw [List.mem_singleton] at hg; subst hg; omega
          · rw [if_neg (by unfold newB; rw [hm]; simpa using hy)]
            refine ⟨List.mem_append_left _ ih.1, ih.2.1, fun g hg hgm => ?_⟩
            rcases List.mem_append.1 hg with hg | hg
            · exact ih.2.2 g hg hgm
            · rw [List.mem_singleton] at hg; subst hg; omega
      · have hm' : mtch p y a = false := by simpa using hm
        rw [if_neg (by unfold newB; rw [hm']; simp)]
        cases o with
        | none =>
          intro f hf
          rcases List.mem_append.1 hf with hf | hf
          · exact ih f hf
          · rw [List.mem_singleton] at hf; subst hf; exact hm'
        | some f =>
          refine ⟨List.mem_append_left _ ih.1, ih.2.1, fun g hg hgm => ?_⟩
          rcases List.mem_append.1 hg with hg | hg
          · exact ih.2.2 g hg hgm
          · rw [List.mem_singleton] at hg; subst hg; rw [hm'] at hgm; exact absurd hgm (by decide)
  have := key l.reverse
  rwa [List.reverse_reverse] at this
theorem last_new {l l' : List Fu} (h : OneEach l) (hp : l.Perm l') (hs : l'.Pairwise fun f g => f.year ≤ g.year) (p y : Int) : lastF p y l' = newG p y l :=
  field_one h (field_perm hp (last_field hs)) (new_field l)

/-- How many furrows are taken at an offset. -/
def tkF : Option Fu → Int → Int
  | none, _ => 0
  | some f, n => max 0 (n - f.off)
theorem tkF_nonneg (o : Option Fu) (n : Int) : 0 ≤ tkF o n := by cases o <;> simp only [tkF] <;> omega
theorem tkF_mono (o : Option Fu) {a b : Int} (h : a ≤ b) : tkF o a ≤ tkF o b := by cases o <;> simp only [tkF] <;> omega
theorem span_map {l : List Int} (hl : l ≠ []) {f : Int → Int} (hf : ∀ a b, a ≤ b → f a ≤ f b) : spanF (l.map f) = (f (spanF l).1, f (spanF l).2) := by
  obtain ⟨h1, h2, h3⟩ := spanF_spec hl
  refine spanF_of (List.mem_map.2 ⟨_, h2, rfl⟩) (List.mem_map.2 ⟨_, h3, rfl⟩) fun n hn => ?_
  obtain ⟨m, hm, rfl⟩ := List.mem_map.1 hn
  exact ⟨hf _ _ (h1 m hm).1, hf _ _ (h1 m hm).2⟩
/-- The least and the greatest of something that grows with all offsets: at the ends of all truths. -/
theorem span_truths {x : Edg} {s : Bs} (h : IsBnd x s) {f : (Nat → Int) → Int} (hf : ∀ a b : Nat → Int, (∀ p < x.n, a p ≤ b p) → f a ≤ f b) :
    spanF ((truthsF x).map fun t => f (atL t)) = (f (gl s), f (gh s)) := by
  refine spanF_of (List.mem_map.2 ⟨_, mem_truthsF.2 h.lo, ?_⟩) (List.mem_map.2 ⟨_, mem_truthsF.2 h.hi, ?_⟩) fun n hn => ?_
  · rw [show atL (s.map Prod.fst) = gl s from funext (atL_fst s)]
  · rw [show atL (s.map Prod.snd) = gh s from funext (atL_snd s)]
  · obtain ⟨t, ht, rfl⟩ := List.mem_map.1 hn
    have hw := h.all t (mem_truthsF.1 ht)
    rw [Within, h.len] at hw
    exact ⟨hf _ _ fun p hp => (hw p hp).1, hf _ _ fun p hp => (hw p hp).2⟩

/-- A verdict on how many of all. -/
def verdF (some all : Nat) : Int := if some = all then 1 else if some = 0 then 2 else 3
def verdE (n : Int × Int) : Int := if n.1 > 0 then 1 else if n.2 = 0 then 2 else 3
theorem verd_ends {α : Type} {l : List α} {f : α → Int} (hl : l ≠ []) (h0 : ∀ a ∈ l, 0 ≤ f a) : verdF (l.filter fun a => decide (f a > 0)).length l.length = verdE (spanF (l.map f)) := by
  obtain ⟨h1, h2, h3⟩ := spanF_spec (l := l.map f) (by simpa using hl)
  obtain ⟨a, ha, ea⟩ := List.mem_map.1 h2
  obtain ⟨b, hb, eb⟩ := List.mem_map.1 h3
  unfold verdF verdE
  by_cases hp : (spanF (l.map f)).1 > 0
  · rw [if_pos hp, if_pos]
    rw [List.filter_eq_self.2]
    intro c hc
    have := h1 _ (List.mem_map.2 ⟨c, hc, rfl⟩)
    exact decide_eq_true (by omega)
  · rw [if_neg hp, if_neg]
    · by_cases hz : (spanF (l.map f)).2 = 0
      · rw [if_pos hz, if_pos]
        rw [List.length_eq_zero_iff, List.filter_eq_nil_iff]
        intro c hc
        have := h1 _ (List.mem_map.2 ⟨c, hc, rfl⟩)
        rw [decide_eq_true_eq]
        omega
      · rw [if_neg hz, if_neg]
        rw [List.length_eq_zero_iff, List.filter_eq_nil_iff]
        intro hn
        have := hn b hb
        rw [decide_eq_true_eq, eb] at this
        have := h0 b hb
        omega
    · intro e
      have := List.length_filter_eq_length_iff.1 e a ha
      rw [decide_eq_true_eq, ea] at this
      omega

end Go.Proofs.Ytgdifckmjdjcpaa
