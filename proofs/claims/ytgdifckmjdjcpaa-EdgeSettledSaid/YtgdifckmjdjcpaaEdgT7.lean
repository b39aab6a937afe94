/- What is asked of edges, in plain words: stones at all points, a claim more, year by year, fines of spans of years, furrows from the other end, errors of furrows, all lists of offsets; conditions: as said. -/
import Derived.Test.YtgdifckmjdjcpaaEdgT6
import Derived.Test.YtgdifckmjdjcpaaEdgT4
namespace Go.Proofs.Ytgdifckmjdjcpaa

/-- Stones at all points. -/
def pinC (p : Nat) (n : Int) : Cl := ⟨1, p, 0, n, 0⟩
def pins (s : Bs) (k : Nat) : List Cl := (List.range k).map fun p => pinC p (gl s p)
theorem pins_succ (s : Bs) (k : Nat) : pins s (k + 1) = pins s k ++ [pinC k (gl s k)] := by
  unfold pins; rw [List.range_succ, List.map_append]; rfl
theorem pinC_holds {p : Nat} {n : Int} {t : Nat → Int} : (pinC p n).holds t = true ↔ t p = n := by
  unfold pinC Cl.holds
  simp
theorem only_one {α : Type} {l : List α} {a : α} (h : l.Nodup) (hm : ∀ b, b ∈ l ↔ b = a) : l = [a] := by
  cases l with
  | nil => exact absurd ((hm a).2 rfl) (by simp)
  | cons b l =>
    have hb := (hm b).1 (by simp)
    subst hb
    cases l with
    | nil => rfl
    | cons c l =>
      have hc := (hm c).1 (by simp)
      subst hc
      simp at h
theorem atL_ext {t u : List Int} (hl : t.length = u.length) (h : ∀ p < t.length, atL t p = atL u p) : t = u := by
  refine List.ext_getElem hl fun p h1 h2 => ?_
  have := h p h1
  rwa [atL_at h1, atL_at h2] at this
theorem pins_truths {x : Edg} {s : Bs} (h : IsBnd x s) : truthsF { x with claims := x.claims ++ pins s x.n } = [s.map Prod.fst] := by
  refine only_one (truthsF_nodup _) fun t => ?_
  rw [mem_truthsF]
  have hl := h.lo
  constructor
  · intro ht
    have hlen : t.length = x.n := ht.len
    refine atL_ext (hlen.trans hl.len.symm) fun p hp => ?_
    have := ht.claims (pinC p (gl s p)) (List.mem_append_right _ (List.mem_map.2 ⟨p, by rw [List.mem_range]; omega, rfl⟩))
    rw [pinC_holds] at this
    rw [this, atL_fst]
  · rintro rfl
    refine ⟨hl.len, hl.reach, hl.bend, fun c hc => ?_⟩
    rcases List.mem_append.1 hc with hc | hc
    · exact hl.claims c hc
    · obtain ⟨p, -, rfl⟩ := List.mem_map.1 hc
      rw [pinC_holds, atL_fst]
theorem pins_ok {x : Edg} (hx : x.Ok) (hm : x.claims.length ≤ 3) {s : Bs} (h : IsBnd x s) : Edg.Ok { x with claims := x.claims ++ pins s x.n } := by
  have hp := hx.p
  have hn : (x.n : Int) = x.points := by unfold Edg.n; omega
  refine ⟨hx.p, hx.b, ?_, fun c hc => ?_⟩
  · show (x.claims ++ pins s x.n).length ≤ 7
    rw [List.length_append, pins, List.length_map, List.length_range]; omega
  · rcases List.mem_append.1 hc with hc | hc
    · exact hx.c c hc
    · obtain ⟨p, hp', rfl⟩ := List.mem_map.1 hc
      rw [List.mem_range] at hp'
      have := h.lo.reach p hp'
      rw [atL_fst] at this
      exact ⟨by simp [pinC], by simp only [pinC]; omega, by simp [pinC], by simpa [pinC] using this, by simp [pinC]⟩

/-- A claim more. -/
theorem more_bounds {x : Edg} {c : Cl} {s s' : Bs} (h : IsBnd x s) (h' : IsBnd (x.add c) s') {p : Nat} (hp : p < x.n) : gl s p ≤ gl s' p ∧ gh s' p ≤ gh s p := by
  have key : ∀ t, IsT (x.add c) t → IsT x t := fun t ht => isT_iff.1 (isT_claims (x := x.add c) (y := x) rfl rfl (fun c' hc => List.mem_append_left _ hc) (isT_iff.2 ht))
  have hl := h.len
  have h1 := h.all _ (key _ h'.lo) p (by omega)
  have h2 := h.all _ (key _ h'.hi) p (by omega)
  rw [atL_fst] at h1
  rw [atL_snd] at h2
  omega
theorem more_count (x : Edg) (c : Cl) : (truthsF (x.add c)).length ≤ (truthsF x).length := by
  rw [truths_add]; exact List.length_filter_le _ _
theorem verdF_self (n : Nat) : verdF n n = 1 := by unfold verdF; rw [if_pos rfl]
theorem more_own (x : Edg) (c : Cl) : verdF ((truthsF (x.add c)).filter fun t => c.holds (atL t)).length (truthsF (x.add c)).length = 1 := by
  rw [truths_add, List.filter_filter]
  simp only [Bool.and_self]
  exact verdF_self _
theorem more_verd {α : Type} {l l' : List α} (hs : ∀ a ∈ l', a ∈ l) {q : α → Bool} (hl : l' ≠ []) (hv : verdF (l.filter q).length l.length ≠ 3) : verdF (l'.filter q).length l'.length = verdF (l.filter q).length l.length := by
  have h0 : 0 < l'.length := by cases l' with | nil => exact absurd rfl hl | cons => simp
  by_cases h1 : (l.filter q).length = l.length
  · have hq : ∀ a ∈ l, q a = true := by
      have e := List.filter_eq_self (l := l) (p := q)
      exact e.1 (List.filter_sublist.eq_of_length h1)
    have : l'.filter q = l' := List.filter_eq_self.2 fun a ha => hq a (hs a ha)
    rw [this, verdF_self, h1, verdF_self]
  · by_cases h2 : (l.filter q).length = 0
    · have hq : ∀ a ∈ l, ¬ q a = true := List.filter_eq_nil_iff.1 (List.length_eq_zero_iff.1 h2)
      have : l'.filter q = [] := List.filter_eq_nil_iff.2 fun a ha => hq a (hs a ha)
      rw [this]
      unfold verdF
      rw [if_neg h1, if_pos h2, if_neg (by simp; omega), if_pos List.length_nil]
    · exact absurd (by unfold verdF; rw [if_neg h1, if_neg h2]) hv
theorem more_ends {a b a' b' : Int} (h : a ≤ a') (h' : b' ≤ b) (h0 : 0 ≤ a) (hab : a' ≤ b') (hv : verdE (a, b) ≠ 3) : verdE (a', b') = verdE (a, b) := by
  unfold verdE at hv ⊢
  simp only at hv ⊢
  by_cases h1 : a > 0
  · rw [if_pos h1, if_pos (by omega)]
  · by_cases h2 : b = 0
    · rw [if_neg h1, if_pos h2, if_neg (by omega), if_pos (by omega)]
    · rw [if_neg h1, if_neg h2] at hv; exact absurd rfl hv

/-- Year by year: upwards the first year, downwards the last one that is seen. -/
def upY (q : Nat → Bool) : Nat → Int
  | 0 => -1
  | k + 1 => if upY q k < 0 ∧ q k = true then k else upY q k
def downY (q : Nat → Bool) (n : Nat) : Nat → Int
  | 0 => -1
  | k + 1 => if q (n - 1 - k) = true then ((n - 1 - k : Nat) : Int) else downY q n k
/-- The first year in which something is so; -1 where there is none. -/
def IsY (q : Nat → Bool) (a b : Nat) (y : Int) : Prop := (y = -1 ∧ ∀ i, a ≤ i → i < b → q i = false) ∨ (∃ k : Nat, y = k ∧ a ≤ k ∧ k < b ∧ q k = true ∧ ∀ i, a ≤ i → i < k → q i = false)
theorem IsY.eq {q : Nat → Bool} {a b : Nat} {y z : Int} (h : IsY q a b y) (g : IsY q a b z) : y = z := by
  rcases h with ⟨h1, h2⟩ | ⟨k, rfl, h1, h2, h3, h4⟩ <;> rcases g with ⟨g1, g2⟩ | ⟨j, rfl, g1, g2, g3, g4⟩
  · rw [h1, g1]
  · rw [h2 j g1 g2] at g3; exact absurd g3 (by decide)
  · rw [g2 k h1 h2] at h3; exact absurd h3 (by decide)
  · rcases Nat.lt_trichotomy k j with h | h | h
    · rw [g4 k h1 h] at h3; exact absurd h3 (by decide)
    · rw [h]
    · rw [h4 j g1 h] at g3; exact absurd g3 (by decide)
theorem upY_is (q : Nat → Bool) : ∀ k, IsY q 0 k (upY q k)
  | 0 => .inl ⟨rfl, fun i _ h => absurd h (by omega)⟩
  | k + 1 => by
    unfold upY
    rcases upY_is q k with ⟨h1, h2⟩ | ⟨j, h1, h2, h3, h4, h5⟩
    · by_cases hq : q k = true
      · rw [if_pos ⟨by omega, hq⟩]
        exact .inr ⟨k, rfl, by omega, by omega, hq, h2⟩
      · rw [if_neg fun h => hq h.2]
        refine .inl ⟨h1, fun i _ hi => ?_⟩
        by_cases e : i = k
        · rw [e]; simpa using hq
        · exact h2 i (by omega) (by omega)
    · rw [if_neg fun h => by omega]
      exact .inr ⟨j, h1, h2, by omega, h4, h5⟩
theorem downY_is (q : Nat → Bool) (n : Nat) : ∀ k ≤ n, IsY q (n - k) n (downY q n k)
  | 0, _ => .inl ⟨rfl, fun i h h' => absurd h (by omega)⟩
  | k + 1, hk => by
    unfold downY
    by_cases hq : q (n - 1 - k) = true
    · rw [if_pos hq]
      exact .inr ⟨n - 1 - k, rfl, by omega, by omega, hq, fun i h h' => absurd h (by omega)⟩
    · rw [if_neg hq]
      have hq' : q (n - 1 - k) = false := by simpa using hq
      rcases downY_is q n k (by omega) with ⟨h1, h2⟩ | ⟨j, h1, h2, h3, h4, h5⟩
      · refine .inl ⟨h1, fun i hi hi' => ?_⟩
        by_cases e : i = n - 1 - k
        · rw [e]; exact hq'
        · exact h2 i (by omega) hi'
      · refine .inr ⟨j, h1, by omega, h3, h4, fun i hi hi' => ?_⟩
        by_cases e : i = n - 1 - k
        · rw [e]; exact hq'
        · exact h5 i (by omega) hi'
theorem years_meet (q : Nat → Bool) (n : Nat) : downY q n n = upY q n := by
  have h := downY_is q n n (Nat.le_refl _)
  rw [Nat.sub_self] at h
  exact h.eq (upY_is q n)

/-- Fines of years. -/
def fineY (rate : Int) (n : Nat) (g : Int → Nat → Int) (y : Int) : Int := ((List.range n).map fun p => rate * g y p).sum
def fineF (rate : Int) (n : Nat) (g : Int → Nat → Int) (lo hi : Int) : Int := ((rng lo hi).map (fineY rate n g)).sum
theorem rng_cut {lo cut hi : Int} (h1 : lo ≤ cut + 1) (h2 : cut ≤ hi) : rng lo hi = rng lo cut ++ rng (cut + 1) hi := by
  unfold rng
  have e : (hi + 1 - lo).toNat = (cut + 1 - lo).toNat + (hi + 1 - (cut + 1)).toNat := by omega
  rw [e, List.range_add, List.map_append, List.map_map]
  congr 1
  refine List.map_congr_left fun i _ => ?_
  simp only [Function.comp]
  omega
theorem rng_one (a : Int) : rng a a = [a] := by
  unfold rng
  rw [show (a + 1 - a).toNat = 1 by omega]
  simp
theorem rng_none {lo hi : Int} (h : hi < lo) : rng lo hi = [] := by
  unfold rng
  rw [show (hi + 1 - lo).toNat = 0 by omega]; rfl
theorem rng_snoc {lo hi : Int} (h : lo ≤ hi + 1) : rng lo (hi + 1) = rng lo hi ++ [hi + 1] := by
  rw [rng_cut (cut := hi) h (by omega), rng_one]
theorem fine_cut {rate : Int} {n : Nat} {g : Int → Nat → Int} {lo cut hi : Int} (h1 : lo ≤ cut + 1) (h2 : cut ≤ hi) : fineF rate n g lo hi = fineF rate n g lo cut + fineF rate n g (cut + 1) hi := by
  unfold fineF
  rw [rng_cut h1 h2, List.map_append, List.sum_append]
theorem fine_one (rate : Int) (n : Nat) (g : Int → Nat → Int) (a : Int) : fineF rate n g a a = fineY rate n g a := by
  unfold fineF
  rw [rng_one]; simp
theorem sum_mono {α : Type} {f g : α → Int} : ∀ {l : List α}, (∀ a ∈ l, f a ≤ g a) → (l.map f).sum ≤ (l.map g).sum
  | [], _ => Int.le_refl _
  | a :: l, h => by
    have h1 := h a (by simp)
    have h2 := sum_mono (f := f) (g := g) (l := l) fun b hb => h b (by simp [hb])
    simp only [List.map_cons, List.sum_cons]
    omega
theorem fine_mono {rate : Int} (hr : 0 ≤ rate) {n : Nat} {g k : Int → Nat → Int} {lo hi : Int} (h : ∀ y, ∀ p < n, g y p ≤ k y p) : fineF rate n g lo hi ≤ fineF rate n k lo hi :=
  sum_mono fun y _ => sum_mono fun p hp => Int.mul_le_mul_of_nonneg_left (h y p (List.mem_range.1 hp)) hr
/-- The least and the greatest fine over all truths: those of the bounds. -/
theorem fine_truths {x : Edg} {s : Bs} (h : IsBnd x s) {rate : Int} (hr : 0 ≤ rate) {fu : Int → Nat → Option Fu} {lo hi : Int} :
    spanF ((truthsF x).map fun t => fineF rate x.n (fun y p => tkF (fu y p) (atL t p)) lo hi) = (fineF rate x.n (fun y p => tkF (fu y p) (gl s p)) lo hi, fineF rate x.n (fun y p => tkF (fu y p) (gh s p)) lo hi) :=
  span_truths h (f := fun t => fineF rate x.n (fun y p => tkF (fu y p) (t p)) lo hi) fun _ _ hab => fine_mono hr fun _ p hp => tkF_mono _ (hab p hp)

/-- Furrows from the other end. -/
def endFu (P : Int) (f : Fu) : Fu := { f with point := P - 1 - f.point }
theorem mtch_end (P p y : Int) (f : Fu) : mtch (P - 1 - p) y (endFu P f) = mtch p y f := by
  unfold mtch endFu
  simp only
  congr 1
  rw [Bool.eq_iff_iff, decide_eq_true_iff, decide_eq_true_iff]
  omega
theorem newB_end (P p y : Int) (o : Option Fu) (f : Fu) : newB (P - 1 - p) y (o.map (endFu P)) (endFu P f) = newB p y o f := by
  unfold newB
  rw [mtch_end]
  cases o <;> rfl
theorem newG_end (P p y : Int) (l : List Fu) : newG (P - 1 - p) y (l.map (endFu P)) = (newG p y l).map (endFu P) := by
  have key : ∀ r : List Fu, newG (P - 1 - p) y (r.reverse.map (endFu P)) = (newG p y r.reverse).map (endFu P) := by
    intro r
    induction r with
    | nil => rfl
    | cons f r ih =>
      rw [List.reverse_cons, List.map_append, List.map_cons, List.map_nil, newG_snoc, newG_snoc, ih, newB_end]
      split <;> rfl
  have := key l.reverse
  rwa [List.reverse_reverse] at this
theorem tkF_end (P : Int) (o : Option Fu) (n : Int) : tkF (o.map (endFu P)) n = tkF o n := by cases o <;> rfl

/-- The error of furrows. -/
def furE (P : Int) (pre : List Fu) : List Fu → Int
  | [] => 0
  | f :: r => if ¬ (0 ≤ f.point ∧ f.point ≤ P - 1) then 3 else if ¬ ((0 ≤ f.year ∧ f.year ≤ 30) ∧ (0 ≤ f.off ∧ f.off ≤ 9)) then 1 else if (pre.any fun g => decide (g.point = f.point) && decide (g.year = f.year)) = true then 4 else furE P (pre ++ [f]) r
def furX (P : Int) (l : List Fu) : Int := if 8 < l.length then 6 else furE P [] l
def Fu.Ok (P : Int) (f : Fu) : Prop := (0 ≤ f.point ∧ f.point ≤ P - 1) ∧ (0 ≤ f.year ∧ f.year ≤ 30) ∧ (0 ≤ f.off ∧ f.off ≤ 9)
theorem one_snoc {l : List Fu} {f : Fu} : OneEach (l ++ [f]) ↔ OneEach l ∧ ∀ g ∈ l, ¬ (g.point = f.point ∧ g.year = f.year) := by
  unfold OneEach
  rw [List.pairwise_append]
  constructor
  · exact fun h => ⟨h.1, fun g hg => h.2.2 g hg f (by simp)⟩
  · exact fun h => ⟨h.1, by simp, fun g hg f' hf' => by rw [List.mem_singleton] at hf'; rw [hf']; exact h.2 g hg⟩
theorem furE_zero {P : Int} : ∀ {l pre : List Fu}, OneEach pre → (furE P pre l = 0 ↔ (∀ f ∈ l, f.Ok P) ∧ OneEach (pre ++ l))
  | [], pre, h => by simp [furE, h]
  | f :: r, pre, h => by
    unfold furE
    by_cases h1 : 0 ≤ f.point ∧ f.point ≤ P - 1
    · rw [if_neg fun hh => hh h1]
      by_cases h2 : (0 ≤ f.year ∧ f.year ≤ 30) ∧ (0 ≤ f.off ∧ f.off ≤ 9)
      · rw [if_neg fun hh => hh h2]
        by_cases h3 : (pre.any fun g => decide (g.point = f.point) && decide (g.year = f.year)) = true
        · rw [if_pos h3]
          constructor
          · intro hh; exact absurd hh (by decide)
          · rintro ⟨-, ho⟩
            obtain ⟨g, hg, he⟩ := List.any_eq_true.1 h3
            rw [Bool.and_eq_true, decide_eq_true_iff, decide_eq_true_iff] at he
            exact absurd he ((List.pairwise_append.1 ho).2.2 g hg f (by simp))
        · rw [if_neg h3]
          have h4 : OneEach (pre ++ [f]) := one_snoc.2 ⟨h, fun g hg he => h3 (List.any_eq_true.2 ⟨g, hg, by rw [Bool.and_eq_true, decide_eq_true_iff, decide_eq_true_iff]; exact he⟩)⟩
          rw [furE_zero h4, List.append_assoc, List.singleton_append]
          constructor
          · exact fun hh => ⟨fun g hg => by rcases List.mem_cons.1 hg with rfl | hg'; exact ⟨h1, h2⟩; exact hh.1 g hg', hh.2⟩
          · exact fun hh => ⟨fun g hg => hh.1 g (by simp [hg]), hh.2⟩
      · rw [if_pos h2]
        constructor
        · intro hh; exact absurd hh (by decide)
        · exact fun hh => absurd (hh.1 f (by simp)).2 h2
    · rw [if_pos h1]
      constructor
      · intro hh; exact absurd hh (by decide)
      · exact fun hh => absurd (hh.1 f (by simp)).1 h1
theorem furX_zero {P : Int} {l : List Fu} : furX P l = 0 ↔ l.length ≤ 8 ∧ (∀ f ∈ l, f.Ok P) ∧ OneEach l := by
  unfold furX
  by_cases h : 8 < l.length
  · rw [if_pos h]
    constructor
    · intro hh; exact absurd hh (by decide)
    · intro hh; omega
  · rw [if_neg h, furE_zero List.Pairwise.nil, List.nil_append]
    exact ⟨fun hh => ⟨by omega, hh⟩, fun hh => hh.2⟩
theorem endFu_ok {P : Int} {l : List Fu} (h : furX P l = 0) : furX P (l.map (endFu P)) = 0 := by
  rw [furX_zero] at h ⊢
  refine ⟨by rw [List.length_map]; exact h.1, fun f hf => ?_, ?_⟩
  · obtain ⟨g, hg, rfl⟩ := List.mem_map.1 hf
    have := h.2.1 g hg
    unfold Fu.Ok at this ⊢
    simp only [endFu]
    omega
  · refine List.Pairwise.map _ (fun a b hab => ?_) h.2.2
    rintro ⟨h1, h2⟩
    simp only [endFu] at h1 h2
    exact hab ⟨by omega, h2⟩

/-- All lists of offsets. -/
def wordsF : Nat → List (List Int)
  | 0 => [[]]
  | k + 1 => (rng 0 9).flatMap fun i => (wordsF k).map (i :: ·)
theorem gen_words : ∀ (k : Nat) (t : List Int), gen (fun _ => rng 0 9) (fun _ => true) k t = (wordsF k).map (t ++ ·)
  | 0, t => by simp [gen, wordsF]
  | k + 1, t => by
    unfold gen wordsF
    rw [List.map_flatMap]
    congr 1
    funext i
    rw [gen_words k, List.map_map]
    refine List.map_congr_left fun u _ => ?_
    simp
theorem words_truths (x : Edg) : (wordsF x.n).filter (isT x) = truthsF x := by
  have h := gen_filter (cand := fun _ => rng 0 9) (keep := fun _ => true) (keep' := isT x) (k := x.n) (t := [])
  rw [gen_words] at h
  unfold truthsF
  have e : (wordsF x.n).map ([] ++ ·) = wordsF x.n := by simp
  rw [e] at h
  rw [h]
  congr 1

end Go.Proofs.Ytgdifckmjdjcpaa
