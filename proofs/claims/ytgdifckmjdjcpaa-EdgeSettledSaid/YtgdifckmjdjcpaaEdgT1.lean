/- Edges in plain words: claims, truths in their order, bounds as the ends of all truths, and a pass that brings the ends together; conditions: as said. -/
namespace Go.Proofs.Ytgdifckmjdjcpaa

structure Cl where
  kind : Int
  point : Int
  other : Int
  off : Int
  err : Int

structure Edg where
  points : Int
  bend : Int
  claims : List Cl

def atL (t : List Int) (p : Nat) : Int := t.getD p 0
def Edg.n (x : Edg) : Nat := x.points.toNat

def btwB (n lo hi : Int) : Bool := decide (lo ≤ n) && decide (n ≤ hi)
theorem btwB_iff {n lo hi : Int} : btwB n lo hi = true ↔ lo ≤ n ∧ n ≤ hi := by simp [btwB]

def Cl.holds (c : Cl) (t : Nat → Int) : Bool :=
  if c.kind = 1 then decide (t c.point.toNat = c.off)
  else if c.kind = 2 then btwB (t c.point.toNat) (c.off - c.err) (c.off + c.err)
  else if c.kind = 3 then decide (t c.point.toNat ≤ c.off)
  else if c.kind = 4 then decide (c.off ≤ t c.point.toNat)
  else decide (t c.point.toNat ≤ t c.other.toNat + c.off)

def bendB (B : Int) (t : Nat → Int) (p : Nat) : Bool := btwB (t (p + 1) - t p) (-B) B

/-- The error of a claim. -/
def claimE (P : Int) (c : Cl) : Int :=
  if ¬ (1 ≤ c.kind ∧ c.kind ≤ 5) then 8
  else if ¬ (0 ≤ c.point ∧ c.point ≤ P - 1) then 3
  else if c.kind = 5 then
    if ¬ (0 ≤ c.other ∧ c.other ≤ P - 1) then 3
    else if c.other = c.point then 4
    else if ¬ ((-9 ≤ c.off ∧ c.off ≤ 9) ∧ c.err = 0) then 1 else 0
  else if c.other ≠ 0 then 1
  else if c.kind = 2 then if ¬ ((0 ≤ c.off ∧ c.off ≤ 9) ∧ (0 ≤ c.err ∧ c.err ≤ 9)) then 1 else 0
  else if ¬ ((0 ≤ c.off ∧ c.off ≤ 9) ∧ c.err = 0) then 1 else 0
/-- The first error of claims. -/
def claimsE (P : Int) : List Cl → Int
  | [] => 0
  | c :: l => if claimE P c ≠ 0 then claimE P c else claimsE P l
def checkX (x : Edg) : Int :=
  if ¬ ((1 ≤ x.points ∧ x.points ≤ 4) ∧ (0 ≤ x.bend ∧ x.bend ≤ 9)) then 1
  else if 7 < x.claims.length then 6
  else claimsE x.points x.claims

structure Cl.Ok (P : Int) (c : Cl) : Prop where
  k : 1 ≤ c.kind ∧ c.kind ≤ 5
  p : 0 ≤ c.point ∧ c.point ≤ P - 1
  o : if c.kind = 5 then (0 ≤ c.other ∧ c.other ≤ P - 1) ∧ c.other ≠ c.point else c.other = 0
  a : if c.kind = 5 then -9 ≤ c.off ∧ c.off ≤ 9 else 0 ≤ c.off ∧ c.off ≤ 9
  e : if c.kind = 2 then 0 ≤ c.err ∧ c.err ≤ 9 else c.err = 0
structure Edg.Ok (x : Edg) : Prop where
  p : 1 ≤ x.points ∧ x.points ≤ 4
  b : 0 ≤ x.bend ∧ x.bend ≤ 9
  m : x.claims.length ≤ 7
  c : ∀ c ∈ x.claims, c.Ok x.points

theorem claimE_zero {P : Int} {c : Cl} : claimE P c = 0 ↔ c.Ok P := by
  constructor
  · intro h
    unfold claimE at h
    by_cases h1 : 1 ≤ c.kind ∧ c.kind ≤ 5
    · rw [if_neg (not_not_intro h1)] at h
      by_cases h2 : 0 ≤ c.point ∧ c.point ≤ P - 1
      · rw [if_neg (not_not_intro h2)] at h
        by_cases h5 : c.kind = 5
        · rw [if_pos h5] at h
          by_cases h3 : 0 ≤ c.other ∧ c.other ≤ P - 1
          · rw [if_neg (not_not_intro h3)] at h
            by_cases h4 : c.other = c.point
            · rw [if_pos h4] at h; omega
            · rw [if_neg h4] at h
              by_cases h6 : (-9 ≤ c.off ∧ c.off ≤ 9) ∧ c.err = 0
              · exact ⟨h1, h2, by rw [if_pos h5]; exact ⟨h3, h4⟩, by rw [if_pos h5]; exact h6.1, by rw [if_neg (by omega)]; exact h6.2⟩
              · rw [if_pos h6] at h; omega
          · rw [if_pos h3] at h; omega
        · rw [if_neg h5] at h
          by_cases h3 : c.other = 0
          · rw [if_neg (not_not_intro h3)] at h
            by_cases h4 : c.kind = 2
            · rw [if_pos h4] at h
              by_cases h6 : (0 ≤ c.off ∧ c.off ≤ 9) ∧ (0 ≤ c.err ∧ c.err ≤ 9)
              · exact ⟨h1, h2, by rw [if_neg h5]; exact h3, by rw [if_neg h5]; exact h6.1, by rw [if_pos h4]; exact h6.2⟩
              · rw [if_pos h6] at h; omega
            · rw [if_neg h4] at h
              by_cases h6 : (0 ≤ c.off ∧ c.off ≤ 9) ∧ c.err = 0
              · exact ⟨h1, h2, by rw [if_neg h5]; exact h3, by rw [if_neg h5]; exact h6.1, by rw [if_neg h4]; exact h6.2⟩
              · rw [if_pos h6] at h; omega
          · rw [if_pos h3] at h; omega
      · rw [if_pos h2] at h; omega
    · rw [if_pos h1] at h; omega
  · intro h
    obtain ⟨h1, h2, h3, h4, h5⟩ := h
    unfold claimE
    rw [if_neg (not_not_intro h1), if_neg (not_not_intro h2)]
    by_cases k5 : c.kind = 5
    · rw [if_pos k5] at h3 h4 ⊢
      rw [if_neg (by omega)] at h5
      rw [if_neg (not_not_intro h3.1), if_neg h3.2, if_neg (not_not_intro ⟨h4, h5⟩)]
    · rw [if_neg k5] at h3 h4 ⊢
      rw [if_neg (not_not_intro h3)]
      by_cases k2 : c.kind = 2
      · rw [if_pos k2] at h5 ⊢
        rw [if_neg (not_not_intro ⟨h4, h5⟩)]
      · rw [if_neg k2] at h5 ⊢
        rw [if_neg (not_not_intro ⟨h4, h5⟩)]

theorem claimsE_zero {P : Int} : ∀ {l : List Cl}, claimsE P l = 0 ↔ ∀ c ∈ l, c.Ok P
  | [] => by simp [claimsE]
  | c :: l => by
    have ih := claimsE_zero (P := P) (l := l)
    unfold claimsE
    by_cases h : claimE P c = 0
    · rw [if_neg (not_not_intro h), ih]
      have := claimE_zero.1 h
      simp [this]
    · rw [if_pos h]
      constructor
      · intro h'; exact absurd h' h
      · intro h'; exact absurd (claimE_zero.2 (h' c (List.mem_cons_self ..))) h

theorem checkX_zero {x : Edg} : checkX x = 0 ↔ x.Ok := by
  unfold checkX
  by_cases h1 : (1 ≤ x.points ∧ x.points ≤ 4) ∧ (0 ≤ x.bend ∧ x.bend ≤ 9)
  · rw [if_neg (not_not_intro h1)]
    by_cases h2 : 7 < x.claims.length
    · rw [if_pos h2]
      exact ⟨fun h => by omega, fun h => by have := h.m; omega⟩
    · rw [if_neg h2, claimsE_zero]
      exact ⟨fun h => ⟨h1.1, h1.2, by omega, h⟩, fun h => h.c⟩
  · rw [if_pos h1]
    exact ⟨fun h => by omega, fun h => absurd ⟨h.p, h.b⟩ h1⟩

/-! Truths, in their order. -/
def rng (lo hi : Int) : List Int := (List.range (hi + 1 - lo).toNat).map fun i : Nat => lo + (i : Int)
theorem mem_rng {lo hi n : Int} : n ∈ rng lo hi ↔ lo ≤ n ∧ n ≤ hi := by
  simp only [rng, List.mem_map, List.mem_range]
  constructor
  · rintro ⟨i, h, rfl⟩; omega
  · rintro ⟨h1, h2⟩; exact ⟨(n - lo).toNat, by omega, by omega⟩

def gen (cand : List Int → List Int) (keep : List Int → Bool) : Nat → List Int → List (List Int)
  | 0, t => if keep t = true then [t] else []
  | k + 1, t => (cand t).flatMap fun n => gen cand keep k (t ++ [n])

theorem mem_gen {cand : List Int → List Int} {keep : List Int → Bool} : ∀ {k : Nat} {t s : List Int}, s ∈ gen cand keep k t → keep s = true ∧ t <+: s ∧ s.length = t.length + k
  | 0, t, s, h => by
    unfold gen at h
    split at h
    · rw [List.mem_singleton] at h; subst h; exact ⟨by assumption, List.prefix_refl _, rfl⟩
    · simp at h
  | k + 1, t, s, h => by
    unfold gen at h
    obtain ⟨n, hn, h⟩ := List.mem_flatMap.1 h
    obtain ⟨h1, h2, h3⟩ := mem_gen h
    refine ⟨h1, (List.prefix_append t [n]).trans h2, ?_⟩
    rw [List.length_append, List.length_singleton] at h3
    omega

theorem mem_gen_of {cand : List Int → List Int} {keep : List Int → Bool} : ∀ {k : Nat} {t s : List Int}, keep s = true → t <+: s → s.length = t.length + k → (∀ u n, t <+: u → (u ++ [n]) <+: s → n ∈ cand u) → s ∈ gen cand keep k t
  | 0, t, s, h1, h2, h3, h4 => by
    have : t = s := h2.eq_of_length (by omega)
    subst this
    unfold gen
    rw [if_pos h1]
    exact List.mem_singleton.2 rfl
  | k + 1, t, s, h1, h2, h3, h4 => by
    obtain ⟨r, rfl⟩ := h2
    cases r with
    | nil => rw [List.append_nil] at h3; omega
    | cons n r =>
      unfold gen
      have hp : (t ++ [n]) <+: (t ++ n :: r) := ⟨r, by simp⟩
      refine List.mem_flatMap.2 ⟨n, h4 t n (List.prefix_refl _) hp, mem_gen_of h1 hp ?_ ?_⟩
      · rw [h3, List.length_append, List.length_singleton]; omega
      · intro u m hu hm
        exact h4 u m ((List.prefix_append t [n]).trans hu) hm

theorem flatMap_filter_nil {α β : Type} {g : α → Bool} {F : α → List β} : ∀ {l : List α}, (∀ n ∈ l, g n = false → F n = []) → (l.filter g).flatMap F = l.flatMap F
  | [], _ => rfl
  | a :: l, h => by
    have ih := flatMap_filter_nil (l := l) fun n hn => h n (List.mem_cons_of_mem _ hn)
    by_cases ha : g a = true
    · rw [List.filter_cons_of_pos ha, List.flatMap_cons, List.flatMap_cons, ih]
    · rw [List.filter_cons_of_neg ha, List.flatMap_cons, h a (List.mem_cons_self ..) (by simpa using ha), ih]
      rfl

theorem gen_prune {cand : List Int → List Int} {keep : List Int → Bool} {g : List Int → Int → Bool} : ∀ {k : Nat} {t : List Int}, (∀ u n s, t <+: u → keep s = true → (u ++ [n]) <+: s → s.length = t.length + k → g u n = true) → gen (fun t => (cand t).filter (g t)) keep k t = gen cand keep k t
  | 0, _, _ => rfl
  | k + 1, t, h => by
    unfold gen
    have e : ∀ n, gen (fun t => (cand t).filter (g t)) keep k (t ++ [n]) = gen cand keep k (t ++ [n]) := fun n =>
      gen_prune fun u m s hu h1 h2 h3 => h u m s ((List.prefix_append t [n]).trans hu) h1 h2 (by rw [h3, List.length_append, List.length_singleton]; omega)
    simp only [e]
    refine flatMap_filter_nil fun n _ hn => ?_
    apply List.eq_nil_iff_forall_not_mem.2
    intro s hs
    obtain ⟨h1, h2, h3⟩ := mem_gen hs
    rw [h t n s (List.prefix_refl _) h1 h2 (by rw [h3, List.length_append, List.length_singleton]; omega)] at hn
    exact absurd hn (by decide)

theorem gen_nodup {cand : List Int → List Int} {keep : List Int → Bool} (hc : ∀ t, (cand t).Nodup) : ∀ {k : Nat} {t : List Int}, (gen cand keep k t).Nodup
  | 0, t => by unfold gen; split <;> simp
  | k + 1, t => by
    unfold gen
    have h1 : ∀ n, (gen cand keep k (t ++ [n])).Nodup := fun n => gen_nodup hc
    have h2 : ∀ l : List Int, l.Nodup → (l.flatMap fun n => gen cand keep k (t ++ [n])).Nodup := by
      intro l
      induction l with
      | nil => intro _; simp
      | cons a l ih =>
        intro hl
        obtain ⟨ha, hl⟩ := List.nodup_cons.1 hl
        rw [List.flatMap_cons]
        refine List.nodup_append.2 ⟨h1 a, ih hl, ?_⟩
        intro s hs s' hs' e
        subst e
        obtain ⟨b, hb, hs'⟩ := List.mem_flatMap.1 hs'
        have p1 := (mem_gen hs).2.1
        have p2 := (mem_gen hs').2.1
        have p3 := List.prefix_of_prefix_length_le p1 p2 (by simp)
        have p4 := p3.eq_of_length (by simp)
        have p5 := List.append_cancel_left p4
        injection p5 with p5
        exact ha (p5 ▸ hb)
    exact h2 _ (hc t)

/-- A truth of an edge. -/
def isT (x : Edg) (t : List Int) : Bool :=
  t.length == x.n && t.all (fun a => btwB a 0 9) && (List.range (x.n - 1)).all (fun p => bendB x.bend (atL t) p) && x.claims.all (fun c => c.holds (atL t))
structure IsT (x : Edg) (t : List Int) : Prop where
  len : t.length = x.n
  reach : ∀ p < x.n, 0 ≤ atL t p ∧ atL t p ≤ 9
  bend : ∀ p, p + 1 < x.n → -x.bend ≤ atL t (p + 1) - atL t p ∧ atL t (p + 1) - atL t p ≤ x.bend
  claims : ∀ c ∈ x.claims, c.holds (atL t) = true
theorem atL_at {t : List Int} {p : Nat} (h : p < t.length) : atL t p = t[p] := by
  unfold atL; rw [List.getD_eq_getElem?_getD, List.getElem?_eq_getElem h]; rfl
theorem isT_iff {x : Edg} {t : List Int} : isT x t = true ↔ IsT x t := by
  unfold isT
  simp only [Bool.and_eq_true, beq_iff_eq, List.all_eq_true, List.mem_range, btwB_iff, bendB]
  constructor
  · rintro ⟨⟨⟨h1, h2⟩, h3⟩, h4⟩
    exact ⟨h1, fun p hp => by rw [atL_at (by omega)]; exact h2 _ (List.getElem_mem _), fun p hp => h3 p (by omega), h4⟩
  · rintro ⟨h1, h2, h3, h4⟩
    refine ⟨⟨⟨h1, fun a ha => ?_⟩, fun p hp => h3 p (by omega)⟩, h4⟩
    obtain ⟨p, hp, rfl⟩ := List.getElem_of_mem ha
    have := h2 p (by omega)
    rwa [atL_at hp] at this

def truthsF (x : Edg) : List (List Int) := gen (fun _ => rng 0 9) (isT x) x.n []
theorem mem_truthsF {x : Edg} {t : List Int} : t ∈ truthsF x ↔ IsT x t := by
  rw [← isT_iff]
  constructor
  · exact fun h => (mem_gen h).1
  · intro h
    have h' := isT_iff.1 h
    refine mem_gen_of h (List.nil_prefix ..) (by simpa using h'.len) ?_
    rintro u n - ⟨r, rfl⟩
    have hl := h'.len
    have : u.length < x.n := by rw [← hl]; simp
    have h2 := h'.reach u.length this
    rw [atL_at (by simp)] at h2
    simp at h2
    exact mem_rng.2 h2
theorem rng_nodup (lo hi : Int) : (rng lo hi).Nodup := by
  unfold rng
  refine List.Pairwise.map _ (R := fun a b => a ≠ b) ?_ List.nodup_range
  intro a b h e
  apply h
  omega
theorem truthsF_nodup (x : Edg) : (truthsF x).Nodup := gen_nodup fun _ => rng_nodup 0 9

/-! The least and the greatest of numbers. -/
def spanF : List Int → Int × Int
  | [] => (0, 0)
  | a :: l => l.foldl (fun r n => (min r.1 n, max r.2 n)) (a, a)
theorem spanF_fold : ∀ (l : List Int) (r : Int × Int), (l.foldl (fun r n => (min r.1 n, max r.2 n)) r).1 ≤ r.1 ∧ r.2 ≤ (l.foldl (fun r n => (min r.1 n, max r.2 n)) r).2 ∧ (∀ n ∈ l, (l.foldl (fun r n => (min r.1 n, max r.2 n)) r).1 ≤ n ∧ n ≤ (l.foldl (fun r n => (min r.1 n, max r.2 n)) r).2) ∧ ((l.foldl (fun r n => (min r.1 n, max r.2 n)) r).1 = r.1 ∨ (l.foldl (fun r n => (min r.1 n, max r.2 n)) r).1 ∈ l) ∧ ((l.foldl (fun r n => (min r.1 n, max r.2 n)) r).2 = r.2 ∨ (l.foldl (fun r n => (min r.1 n, max r.2 n)) r).2 ∈ l)
  | [], r => by simp
  | a :: l, r => by
    obtain ⟨h1, h2, h3, h4, h5⟩ := spanF_fold l (min r.1 a, max r.2 a)
    rw [List.foldl_cons]
    generalize l.foldl (fun r n => (min r.1 n, max r.2 n)) (min r.1 a, max r.2 a) = z at *
    simp only at h1 h2 h4 h5
    refine ⟨by omega, by omega, ?_, ?_, ?_⟩
    · intro n hn
      rcases List.mem_cons.1 hn with rfl | hn
      · omega
      · exact h3 n hn
    · rcases h4 with h4 | h4
      · by_cases h : r.1 ≤ a
        · left; omega
        · right; rw [show z.1 = a by omega]; exact List.mem_cons_self ..
      · right; exact List.mem_cons_of_mem _ h4
    · rcases h5 with h5 | h5
      · by_cases h : a ≤ r.2
        · left; omega
        · right; rw [show z.2 = a by omega]; exact List.mem_cons_self ..
      · right; exact List.mem_cons_of_mem _ h5
theorem spanF_spec {l : List Int} (h : l ≠ []) : (∀ n ∈ l, (spanF l).1 ≤ n ∧ n ≤ (spanF l).2) ∧ (spanF l).1 ∈ l ∧ (spanF l).2 ∈ l := by
  cases l with
  | nil => exact absurd rfl h
  | cons a l =>
    obtain ⟨h1, h2, h3, h4, h5⟩ := spanF_fold l (a, a)
    unfold spanF
    simp only
    generalize l.foldl (fun r n => (min r.1 n, max r.2 n)) (a, a) = z at *
    simp only at h1 h2 h4 h5
    refine ⟨?_, ?_, ?_⟩
    · intro n hn
      rcases List.mem_cons.1 hn with rfl | hn
      · omega
      · exact h3 n hn
    · rcases h4 with h4 | h4
      · rw [h4]; exact List.mem_cons_self ..
      · exact List.mem_cons_of_mem _ h4
    · rcases h5 with h5 | h5
      · rw [h5]; exact List.mem_cons_self ..
      · exact List.mem_cons_of_mem _ h5
theorem spanF_of {l : List Int} {a b : Int} (ha : a ∈ l) (hb : b ∈ l) (h : ∀ n ∈ l, a ≤ n ∧ n ≤ b) : spanF l = (a, b) := by
  obtain ⟨h1, h2, h3⟩ := spanF_spec (List.ne_nil_of_mem ha)
  have h4 := h1 a ha
  have h5 := h1 b hb
  have h6 := h _ h2
  have h7 := h _ h3
  ext <;> simp only <;> omega
theorem spanF_snoc {l : List Int} {n : Int} (h : l ≠ []) : spanF (l ++ [n]) = (min (spanF l).1 n, max (spanF l).2 n) := by
  cases l with
  | nil => exact absurd rfl h
  | cons a l => simp [spanF, List.foldl_append]

def bndF (x : Edg) : Option (List (Int × Int)) :=
  if truthsF x = [] then none else some ((List.range x.n).map fun p => spanF ((truthsF x).map fun t => atL t p))

/-! A pass. -/
inductive Op
  | lowc (p : Nat) (k : Int)
  | highc (p : Nat) (k : Int)
  | lowv (p q : Nat) (k : Int)
  | highv (p q : Nat) (k : Int)

abbrev Bs := List (Int × Int)
def gl (s : Bs) (p : Nat) : Int := (s.getD p (0, 0)).1
def gh (s : Bs) (p : Nat) : Int := (s.getD p (0, 0)).2
def lowS (s : Bs × Bool) (p : Nat) (n : Int) : Bs × Bool := if gl s.1 p < n then (s.1.set p (n, gh s.1 p), true) else s
def highS (s : Bs × Bool) (p : Nat) (n : Int) : Bs × Bool := if n < gh s.1 p then (s.1.set p (gl s.1 p, n), true) else s
def Op.run (s : Bs × Bool) : Op → Bs × Bool
  | .lowc p k => lowS s p k
  | .highc p k => highS s p k
  | .lowv p q k => lowS s p (gl s.1 q - k)
  | .highv p q k => highS s p (gh s.1 q + k)
def Op.sat (t : Nat → Int) : Op → Prop
  | .lowc p k => k ≤ t p
  | .highc p k => t p ≤ k
  | .lowv p q k => t q - k ≤ t p
  | .highv p q k => t p ≤ t q + k
def Op.fits (n : Nat) : Op → Prop
  | .lowc p _ => p < n
  | .highc p _ => p < n
  | .lowv p q _ => p < n ∧ q < n
  | .highv p q _ => p < n ∧ q < n
def opsC (c : Cl) : List Op :=
  if c.kind = 1 then [.lowc c.point.toNat c.off, .highc c.point.toNat c.off]
  else if c.kind = 2 then [.lowc c.point.toNat (c.off - c.err), .highc c.point.toNat (c.off + c.err)]
  else if c.kind = 3 then [.highc c.point.toNat c.off]
  else if c.kind = 4 then [.lowc c.point.toNat c.off]
  else [.highv c.point.toNat c.other.toNat c.off, .lowv c.other.toNat c.point.toNat c.off]
def opsB (B : Int) (p : Nat) : List Op := [.lowv p (p + 1) B, .lowv (p + 1) p B, .highv p (p + 1) B, .highv (p + 1) p B]
def opsX (x : Edg) : List Op := (List.range (x.n - 1)).flatMap (opsB x.bend) ++ x.claims.flatMap opsC

theorem gl_set {s : Bs} {p q : Nat} {a : Int × Int} (hp : p < s.length) : gl (s.set p a) q = if q = p then a.1 else gl s q := by
  unfold gl
  rw [List.getD_eq_getElem?_getD, List.getD_eq_getElem?_getD, List.getElem?_set]
  by_cases h : q = p
  · subst h; rw [if_pos rfl, if_pos hp, if_pos rfl]; rfl
  · rw [if_neg (fun e => h e.symm), if_neg h]
theorem gh_set {s : Bs} {p q : Nat} {a : Int × Int} (hp : p < s.length) : gh (s.set p a) q = if q = p then a.2 else gh s q := by
  unfold gh
  rw [List.getD_eq_getElem?_getD, List.getD_eq_getElem?_getD, List.getElem?_set]
  by_cases h : q = p
  · subst h; rw [if_pos rfl, if_pos hp, if_pos rfl]; rfl
  · rw [if_neg (fun e => h e.symm), if_neg h]

def Within (s : Bs) (t : Nat → Int) : Prop := ∀ p < s.length, gl s p ≤ t p ∧ t p ≤ gh s p
/-- How far apart the ends are, all together. -/
def mu (s : Bs) : Int := (s.map fun b => b.2 - b.1).sum
theorem mu_set : ∀ {s : Bs} {p : Nat} {a : Int × Int}, p < s.length → mu (s.set p a) = mu s - (gh s p - gl s p) + (a.2 - a.1)
  | [], p, a, h => by simp at h
  | b :: s, 0, a, _ => by simp [mu, gh, gl]; omega
  | b :: s, p + 1, a, h => by
    have ih := mu_set (s := s) (p := p) (a := a) (by simpa using h)
    simp [mu, gh, gl] at ih ⊢
    omega

theorem lowS_len {s : Bs × Bool} {p : Nat} {n : Int} : (lowS s p n).1.length = s.1.length := by unfold lowS; split <;> simp
theorem highS_len {s : Bs × Bool} {p : Nat} {n : Int} : (highS s p n).1.length = s.1.length := by unfold highS; split <;> simp
theorem Op.run_len {s : Bs × Bool} {o : Op} : (o.run s).1.length = s.1.length := by
  cases o <;> first | exact lowS_len | exact highS_len

structure Step (s s' : Bs × Bool) : Prop where
  len : s'.1.length = s.1.length
  lo : ∀ p < s.1.length, gl s.1 p ≤ gl s'.1 p
  hi : ∀ p < s.1.length, gh s'.1 p ≤ gh s.1 p
  ch : s' = s ∨ s'.2 = true ∧ mu s'.1 < mu s.1
theorem lowS_step {s : Bs × Bool} {p : Nat} {n : Int} (hp : p < s.1.length) : Step s (lowS s p n) := by
  refine ⟨lowS_len, fun q hq => ?_, fun q hq => ?_, ?_⟩ <;> unfold lowS <;> split
  · rw [gl_set hp]; split
    · subst_vars; simp; omega
    · omega
  · omega
  · rw [gh_set hp]; split
    · subst_vars; simp
    · omega
  · omega
  · right; exact ⟨rfl, by rw [mu_set hp]; simp; omega⟩
  · left; rfl
theorem highS_step {s : Bs × Bool} {p : Nat} {n : Int} (hp : p < s.1.length) : Step s (highS s p n) := by
  refine ⟨highS_len, fun q hq => ?_, fun q hq => ?_, ?_⟩ <;> unfold highS <;> split
  · rw [gl_set hp]; split
    · subst_vars; simp
    · omega
  · omega
  · rw [gh_set hp]; split
    · subst_vars; simp; omega
    · omega
  · omega
  · right; exact ⟨rfl, by rw [mu_set hp]; simp; omega⟩
  · left; rfl
theorem Op.run_step {s : Bs × Bool} {o : Op} (h : o.fits s.1.length) : Step s (o.run s) := by
  cases o with
  | lowc p k => exact lowS_step h
  | highc p k => exact highS_step h
  | lowv p q k => exact lowS_step h.1
  | highv p q k => exact highS_step h.1
theorem Step.refl (s : Bs × Bool) : Step s s := ⟨rfl, fun _ _ => Int.le_refl _, fun _ _ => Int.le_refl _, .inl rfl⟩
theorem Step.trans {a b c : Bs × Bool} (h : Step a b) (g : Step b c) : Step a c := by
  refine ⟨by rw [g.len, h.len], fun p hp => Int.le_trans (h.lo p hp) (g.lo p (by rw [h.len]; exact hp)), fun p hp => Int.le_trans (g.hi p (by rw [h.len]; exact hp)) (h.hi p hp), ?_⟩
  rcases g.ch with e | ⟨e1, e2⟩
  · rw [e]; exact h.ch
  · rcases h.ch with f | ⟨f1, f2⟩
    · subst f; exact .inr ⟨e1, e2⟩
    · exact .inr ⟨e1, by omega⟩

theorem Op.run_sound {s : Bs × Bool} {o : Op} {t : Nat → Int} (h : o.fits s.1.length) (hs : o.sat t) (hw : Within s.1 t) : Within (o.run s).1 t := by
  intro r hr
  rw [Op.run_len] at hr
  have h0 := hw r hr
  cases o with
  | lowc p k =>
    simp only [Op.run, lowS, Op.sat, Op.fits] at *
    split
    · rw [gl_set h, gh_set h]; by_cases e : r = p
      · subst e; simp; omega
      · rw [if_neg e, if_neg e]; exact h0
    · exact h0
  | highc p k =>
    simp only [Op.run, highS, Op.sat, Op.fits] at *
    split
    · rw [gl_set h, gh_set h]; by_cases e : r = p
      · subst e; simp; omega
      · rw [if_neg e, if_neg e]; exact h0
    · exact h0
  | lowv p q k =>
    simp only [Op.run, lowS, Op.sat, Op.fits] at *
    have h1 := hw q h.2
    split
    · rw [gl_set h.1, gh_set h.1]; by_cases e : r = p
      · subst e; simp; omega
      · rw [if_neg e, if_neg e]; exact h0
    · exact h0
  | highv p q k =>
    simp only [Op.run, highS, Op.sat, Op.fits] at *
    have h1 := hw q h.2
    split
    · rw [gl_set h.1, gh_set h.1]; by_cases e : r = p
      · subst e; simp; omega
      · rw [if_neg e, if_neg e]; exact h0
    · exact h0

/-- What an act asks of the least, or of the greatest numbers. -/
def Op.still (s : Bs) : Op → Prop
  | .lowc p k => k ≤ gl s p
  | .highc p k => gh s p ≤ k
  | .lowv p q k => gl s q - k ≤ gl s p
  | .highv p q k => gh s p ≤ gh s q + k
theorem Op.run_still {s : Bs × Bool} {o : Op} (h : (o.run s).2 = false) : o.run s = s ∧ o.still s.1 := by
  cases o <;> simp only [Op.run, lowS, highS] at h ⊢ <;> split at h <;> first | (cases h; done) | (rename_i g; rw [if_neg g]; exact ⟨rfl, by simp only [Op.still]; omega⟩)

theorem fold_step : ∀ {l : List Op} {s : Bs × Bool}, (∀ o ∈ l, o.fits s.1.length) → Step s (l.foldl Op.run s)
  | [], s, _ => Step.refl s
  | o :: l, s, h => by
    rw [List.foldl_cons]
    have h1 := Op.run_step (h o (List.mem_cons_self ..))
    exact h1.trans (fold_step fun o' ho' => by rw [h1.len]; exact h o' (List.mem_cons_of_mem _ ho'))
theorem fold_sound {t : Nat → Int} : ∀ {l : List Op} {s : Bs × Bool}, (∀ o ∈ l, o.fits s.1.length) → (∀ o ∈ l, o.sat t) → Within s.1 t → Within (l.foldl Op.run s).1 t
  | [], s, _, _, hw => hw
  | o :: l, s, h, hs, hw => by
    rw [List.foldl_cons]
    exact fold_sound (fun o' ho' => by rw [Op.run_len]; exact h o' (List.mem_cons_of_mem _ ho')) (fun o' ho' => hs o' (List.mem_cons_of_mem _ ho')) (Op.run_sound (h o (List.mem_cons_self ..)) (hs o (List.mem_cons_self ..)) hw)
theorem fold_true : ∀ {l : List Op} {s : Bs × Bool}, s.2 = true → (l.foldl Op.run s).2 = true
  | [], s, h => h
  | o :: l, s, h => by
    rw [List.foldl_cons]
    refine fold_true ?_
    cases o <;> simp only [Op.run, lowS, highS] <;> split <;> first | rfl | exact h
theorem fold_still : ∀ {l : List Op} {s : Bs × Bool}, (l.foldl Op.run s).2 = false → l.foldl Op.run s = s ∧ ∀ o ∈ l, o.still s.1
  | [], s, _ => ⟨rfl, by simp⟩
  | o :: l, s, h => by
    rw [List.foldl_cons] at h ⊢
    have h1 : (o.run s).2 = false := by
      cases e : (o.run s).2 with
      | false => rfl
      | true => rw [fold_true e] at h; exact absurd h (by decide)
    obtain ⟨e1, e2⟩ := Op.run_still h1
    rw [e1] at h ⊢
    obtain ⟨e3, e4⟩ := fold_still h
    refine ⟨e3, fun o' ho' => ?_⟩
    rcases List.mem_cons.1 ho' with rfl | ho'
    · exact e2
    · exact e4 o' ho'

end Go.Proofs.Ytgdifckmjdjcpaa
