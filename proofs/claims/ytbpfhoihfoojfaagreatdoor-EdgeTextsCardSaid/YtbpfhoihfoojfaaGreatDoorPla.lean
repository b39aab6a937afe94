/- Edges in plain words, all of it; conditions: as said. -/
namespace Go.Proofs.YtbpfhoihfoojfaaGreatDoor

structure Cl where
  kind : Int
  point : Int
  other : Int
  off : Int
  err : Int

structure Edg where
  points : Int
  bend : Int
  claims : List Cl

def atL (t : List Int) (p : Nat) : Int := t.getD p 0
def Edg.n (x : Edg) : Nat := x.points.toNat

def btwB (n lo hi : Int) : Bool := decide (lo ≤ n) && decide (n ≤ hi)
theorem btwB_iff {n lo hi : Int} : btwB n lo hi = true ↔ lo ≤ n ∧ n ≤ hi := by simp [btwB]

def Cl.holds (c : Cl) (t : Nat → Int) : Bool :=
  if c.kind = 1 then decide (t c.point.toNat = c.off)
  else if c.kind = 2 then btwB (t c.point.toNat) (c.off - c.err) (c.off + c.err)
  else if c.kind = 3 then decide (t c.point.toNat ≤ c.off)
  else if c.kind = 4 then decide (c.off ≤ t c.point.toNat)
  else decide (t c.point.toNat ≤ t c.other.toNat + c.off)

def bendB (B : Int) (t : Nat → Int) (p : Nat) : Bool := btwB (t (p + 1) - t p) (-B) B

/-- The error of a claim. -/
def claimE (P : Int) (c : Cl) : Int :=
  if ¬ (1 ≤ c.kind ∧ c.kind ≤ 5) then 8
  else if ¬ (0 ≤ c.point ∧ c.point ≤ P - 1) then 3
  else if c.kind = 5 then
    if ¬ (0 ≤ c.other ∧ c.other ≤ P - 1) then 3
    else if c.other = c.point then 4
    else if ¬ ((-9 ≤ c.off ∧ c.off ≤ 9) ∧ c.err = 0) then 1 else 0
  else if c.other ≠ 0 then 1
  else if c.kind = 2 then if ¬ ((0 ≤ c.off ∧ c.off ≤ 9) ∧ (0 ≤ c.err ∧ c.err ≤ 9)) then 1 else 0
  else if ¬ ((0 ≤ c.off ∧ c.off ≤ 9) ∧ c.err = 0) then 1 else 0
/-- The first error of claims. -/
def claimsE (P : Int) : List Cl → Int
  | [] => 0
  | c :: l => if claimE P c ≠ 0 then claimE P c else claimsE P l
def checkX (x : Edg) : Int :=
  if ¬ ((1 ≤ x.points ∧ x.points ≤ 4) ∧ (0 ≤ x.bend ∧ x.bend ≤ 9)) then 1
  else if 7 < x.claims.length then 6
  else claimsE x.points x.claims

structure Cl.Ok (P : Int) (c : Cl) : Prop where
  k : 1 ≤ c.kind ∧ c.kind ≤ 5
  p : 0 ≤ c.point ∧ c.point ≤ P - 1
  o : if c.kind = 5 then (0 ≤ c.other ∧ c.other ≤ P - 1) ∧ c.other ≠ c.point else c.other = 0
  a : if c.kind = 5 then -9 ≤ c.off ∧ c.off ≤ 9 else 0 ≤ c.off ∧ c.off ≤ 9
  e : if c.kind = 2 then 0 ≤ c.err ∧ c.err ≤ 9 else c.err = 0
structure Edg.Ok (x : Edg) : Prop where
  p : 1 ≤ x.points ∧ x.points ≤ 4
  b : 0 ≤ x.bend ∧ x.bend ≤ 9
  m : x.claims.length ≤ 7
  c : ∀ c ∈ x.claims, c.Ok x.points

theorem claimE_zero {P : Int} {c : Cl} : claimE P c = 0 ↔ c.Ok P := by
  constructor
  · intro h
    unfold claimE at h
    by_cases h1 : 1 ≤ c.kind ∧ c.kind ≤ 5
    · rw [if_neg (not_not_intro h1)] at h
      by_cases h2 : 0 ≤ c.point ∧ c.point ≤ P - 1
      · rw [if_neg (not_not_intro h2)] at h
        by_cases h5 : c.kind = 5
        · rw [if_pos h5] at h
          by_cases h3 : 0 ≤ c.other ∧ c.other ≤ P - 1
          · rw [if_neg (not_not_intro h3)] at h
            by_cases h4 : c.other = c.point
            · rw [if_pos h4] at h; omega
            · rw [if_neg h4] at h
              by_cases h6 : (-9 ≤ c.off ∧ c.off ≤ 9) ∧ c.err = 0
              · exact ⟨h1, h2, by rw [if_pos h5]; exact ⟨h3, h4⟩, by rw [if_pos h5]; exact h6.1, by rw [if_neg (by omega)]; exact h6.2⟩
              · rw [if_pos h6] at h; omega
          · rw [if_pos h3] at h; omega
        · rw [if_neg h5] at h
          by_cases h3 : c.other = 0
          · rw [if_neg (not_not_intro h3)] at h
            by_cases h4 : c.kind = 2
            · rw [if_pos h4] at h
              by_cases h6 : (0 ≤ c.off ∧ c.off ≤ 9) ∧ (0 ≤ c.err ∧ c.err ≤ 9)
              · exact ⟨h1, h2, by rw [if_neg h5]; exact h3, by rw [if_neg h5]; exact h6.1, by rw [if_pos h4]; exact h6.2⟩
              · rw [if_pos h6] at h; omega
            · rw [if_neg h4] at h
              by_cases h6 : (0 ≤ c.off ∧ c.off ≤ 9) ∧ c.err = 0
              · exact ⟨h1, h2, by rw [if_neg h5]; exact h3, by rw [if_neg h5]; exact h6.1, by rw [if_neg h4]; exact h6.2⟩
              · rw [if_pos h6] at h; omega
          · rw [if_pos h3] at h; omega
      · rw [if_pos h2] at h; omega
    · rw [if_pos h1] at h; omega
  · intro h
    obtain ⟨h1, h2, h3, h4, h5⟩ := h
    unfold claimE
    rw [if_neg (not_not_intro h1), if_neg (not_not_intro h2)]
    by_cases k5 : c.kind = 5
    · rw [if_pos k5] at h3 h4 ⊢
      rw [if_neg (by omega)] at h5
      rw [if_neg (not_not_intro h3.1), if_neg h3.2, if_neg (not_not_intro ⟨h4, h5⟩)]
    · rw [if_neg k5] at h3 h4 ⊢
      rw [if_neg (not_not_intro h3)]
      by_cases k2 : c.kind = 2
      · rw [if_pos k2] at h5 ⊢
        rw [if_neg (not_not_intro ⟨h4, h5⟩)]
      · rw [if_neg k2] at h5 ⊢
        rw [if_neg (not_not_intro ⟨h4, h5⟩)]

theorem claimsE_zero {P : Int} : ∀ {l : List Cl}, claimsE P l = 0 ↔ ∀ c ∈ l, c.Ok P
  | [] => by simp [claimsE]
  | c :: l => by
    have ih := claimsE_zero (P := P) (l := l)
    unfold claimsE
    by_cases h : claimE P c = 0
    · rw [if_neg (not_not_intro h), ih]
      have := claimE_zero.1 h
      simp [this]
    · rw [if_pos h]
      constructor
      · intro h'; exact absurd h' h
      · intro h'; exact absurd (claimE_zero.2 (h' c (List.mem_cons_self ..))) h

theorem checkX_zero {x : Edg} : checkX x = 0 ↔ x.Ok := by
  unfold checkX
  by_cases h1 : (1 ≤ x.points ∧ x.points ≤ 4) ∧ (0 ≤ x.bend ∧ x.bend ≤ 9)
  · rw [if_neg (not_not_intro h1)]
    by_cases h2 : 7 < x.claims.length
    · rw [if_pos h2]
      exact ⟨fun h => by omega, fun h => by have := h.m; omega⟩
    · rw [if_neg h2, claimsE_zero]
      exact ⟨fun h => ⟨h1.1, h1.2, by omega, h⟩, fun h => h.c⟩
  · rw [if_pos h1]
    exact ⟨fun h => by omega, fun h => absurd ⟨h.p, h.b⟩ h1⟩

/-! Truths, in their order. -/
def rng (lo hi : Int) : List Int := (List.range (hi + 1 - lo).toNat).map fun i : Nat => lo + (i : Int)
theorem mem_rng {lo hi n : Int} : n ∈ rng lo hi ↔ lo ≤ n ∧ n ≤ hi := by
  simp only [rng, List.mem_map, List.mem_range]
  constructor
  · rintro ⟨i, h, rfl⟩; omega
  · rintro ⟨h1, h2⟩; exact ⟨(n - lo).toNat, by omega, by omega⟩

def gen (cand : List Int → List Int) (keep : List Int → Bool) : Nat → List Int → List (List Int)
  | 0, t => if keep t = true then [t] else []
  | k + 1, t => (cand t).flatMap fun n => gen cand keep k (t ++ [n])

theorem mem_gen {cand : List Int → List Int} {keep : List Int → Bool} : ∀ {k : Nat} {t s : List Int}, s ∈ gen cand keep k t → keep s = true ∧ t <+: s ∧ s.length = t.length + k
  | 0, t, s, h => by
    unfold gen at h
    split at h
    · rw [List.mem_singleton] at h; subst h; exact ⟨by assumption, List.prefix_refl _, rfl⟩
    · simp at h
  | k + 1, t, s, h => by
    unfold gen at h
    obtain ⟨n, hn, h⟩ := List.mem_flatMap.1 h
    obtain ⟨h1, h2, h3⟩ := mem_gen h
    refine ⟨h1, (List.prefix_append t [n]).trans h2, ?_⟩
    rw [List.length_append, List.length_singleton] at h3
    omega

theorem mem_gen_of {cand : List Int → List Int} {keep : List Int → Bool} : ∀ {k : Nat} {t s : List Int}, keep s = true → t <+: s → s.length = t.length + k → (∀ u n, t <+: u → (u ++ [n]) <+: s → n ∈ cand u) → s ∈ gen cand keep k t
  | 0, t, s, h1, h2, h3, h4 => by
    have : t = s := h2.eq_of_length (by omega)
    subst this
    unfold gen
    rw [if_pos h1]
    exact List.mem_singleton.2 rfl
  | k + 1, t, s, h1, h2, h3, h4 => by
    obtain ⟨r, rfl⟩ := h2
    cases r with
    | nil => rw [List.append_nil] at h3; omega
    | cons n r =>
      unfold gen
      have hp : (t ++ [n]) <+: (t ++ n :: r) := ⟨r, by simp⟩
      refine List.mem_flatMap.2 ⟨n, h4 t n (List.prefix_refl _) hp, mem_gen_of h1 hp ?_ ?_⟩
      · rw [h3, List.length_append, List.length_singleton]; omega
      · intro u m hu hm
        exact h4 u m ((List.prefix_append t [n]).trans hu) hm

theorem flatMap_filter_nil {α β : Type} {g : α → Bool} {F : α → List β} : ∀ {l : List α}, (∀ n ∈ l, g n = false → F n = []) → (l.filter g).flatMap F = l.flatMap F
  | [], _ => rfl
  | a :: l, h => by
    have ih := flatMap_filter_nil (l := l) fun n hn => h n (List.mem_cons_of_mem _ hn)
    by_cases ha : g a = true
    · rw [List.filter_cons_of_pos ha, List.flatMap_cons, List.flatMap_cons, ih]
    · rw [List.filter_cons_of_neg ha, List.flatMap_cons, h a (List.mem_cons_self ..) (by simpa using ha), ih]
      rfl

theorem gen_prune {cand : List Int → List Int} {keep : List Int → Bool} {g : List Int → Int → Bool} : ∀ {k : Nat} {t : List Int}, (∀ u n s, t <+: u → keep s = true → (u ++ [n]) <+: s → s.length = t.length + k → g u n = true) → gen (fun t => (cand t).filter (g t)) keep k t = gen cand keep k t
  | 0, _, _ => rfl
  | k + 1, t, h => by
    unfold gen
    have e : ∀ n, gen (fun t => (cand t).filter (g t)) keep k (t ++ [n]) = gen cand keep k (t ++ [n]) := fun n =>
      gen_prune fun u m s hu h1 h2 h3 => h u m s ((List.prefix_append t [n]).trans hu) h1 h2 (by rw [h3, List.length_append, List.length_singleton]; omega)
    simp only [e]
    refine flatMap_filter_nil fun n _ hn => ?_
    apply List.eq_nil_iff_forall_not_mem.2
    intro s hs
    obtain ⟨h1, h2, h3⟩ := mem_gen hs
    rw [h t n s (List.prefix_refl _) h1 h2 (by rw [h3, List.length_append, List.length_singleton]; omega)] at hn
    exact absurd hn (by decide)

theorem gen_nodup {cand : List Int → List Int} {keep : List Int → Bool} (hc : ∀ t, (cand t).Nodup) : ∀ {k : Nat} {t : List Int}, (gen cand keep k t).Nodup
  | 0, t => by unfold gen; split <;> simp
  | k + 1, t => by
    unfold gen
    have h1 : ∀ n, (gen cand keep k (t ++ [n])).Nodup := fun n => gen_nodup hc
    have h2 : ∀ l : List Int, l.Nodup → (l.flatMap fun n => gen cand keep k (t ++ [n])).Nodup := by
      intro l
      induction l with
      | nil => intro _; simp
      | cons a l ih =>
        intro hl
        obtain ⟨ha, hl⟩ := List.nodup_cons.1 hl
        rw [List.flatMap_cons]
        refine List.nodup_append.2 ⟨h1 a, ih hl, ?_⟩
        intro s hs s' hs' e
        subst e
        obtain ⟨b, hb, hs'⟩ := List.mem_flatMap.1 hs'
        have p1 := (mem_gen hs).2.1
        have p2 := (mem_gen hs').2.1
        have p3 := List.prefix_of_prefix_length_le p1 p2 (by simp)
        have p4 := p3.eq_of_length (by simp)
        have p5 := List.append_cancel_left p4
        injection p5 with p5
        exact ha (p5 ▸ hb)
    exact h2 _ (hc t)

/-- A truth of an edge. -/
def isT (x : Edg) (t : List Int) : Bool :=
  t.length == x.n && t.all (fun a => btwB a 0 9) && (List.range (x.n - 1)).all (fun p => bendB x.bend (atL t) p) && x.claims.all (fun c => c.holds (atL t))
structure IsT (x : Edg) (t : List Int) : Prop where
  len : t.length = x.n
  reach : ∀ p < x.n, 0 ≤ atL t p ∧ atL t p ≤ 9
  bend : ∀ p, p + 1 < x.n → -x.bend ≤ atL t (p + 1) - atL t p ∧ atL t (p + 1) - atL t p ≤ x.bend
  claims : ∀ c ∈ x.claims, c.holds (atL t) = true
theorem atL_at {t : List Int} {p : Nat} (h : p < t.length) : atL t p = t[p] := by
  unfold atL; rw [List.getD_eq_getElem?_getD, List.getElem?_eq_getElem h]; rfl
theorem isT_iff {x : Edg} {t : List Int} : isT x t = true ↔ IsT x t := by
  unfold isT
  simp only [Bool.and_eq_true, beq_iff_eq, List.all_eq_true, List.mem_range, btwB_iff, bendB]
  constructor
  · rintro ⟨⟨⟨h1, h2⟩, h3⟩, h4⟩
    exact ⟨h1, fun p hp => by rw [atL_at (by omega)]; exact h2 _ (List.getElem_mem _), fun p hp => h3 p (by omega), h4⟩
  · rintro ⟨h1, h2, h3, h4⟩
    refine ⟨⟨⟨h1, fun a ha => ?_⟩, fun p hp => h3 p (by omega)⟩, h4⟩
    obtain ⟨p, hp, rfl⟩ := List.getElem_of_mem ha
    have := h2 p (by omega)
    rwa [atL_at hp] at this

def truthsF (x : Edg) : List (List Int) := gen (fun _ => rng 0 9) (isT x) x.n []
theorem mem_truthsF {x : Edg} {t : List Int} : t ∈ truthsF x ↔ IsT x t := by
  rw [← isT_iff]
  constructor
  · exact fun h => (mem_gen h).1
  · intro h
    have h' := isT_iff.1 h
    refine mem_gen_of h (List.nil_prefix ..) (by simpa using h'.len) ?_
    rintro u n - ⟨r, rfl⟩
    have hl := h'.len
    have : u.length < x.n := by rw [← hl]; simp
    have h2 := h'.reach u.length this
    rw [atL_at (by simp)] at h2
    simp at h2
    exact mem_rng.2 h2
theorem rng_nodup (lo hi : Int) : (rng lo hi).Nodup := by
  unfold rng
  refine List.Pairwise.map _ (R := fun a b => a ≠ b) ?_ List.nodup_range
  intro a b h e
  apply h
  omega
theorem truthsF_nodup (x : Edg) : (truthsF x).Nodup := gen_nodup fun _ => rng_nodup 0 9

/-! The least and the greatest of numbers. -/
def spanF : List Int → Int × Int
  | [] => (0, 0)
  | a :: l => l.foldl (fun r n => (min r.1 n, max r.2 n)) (a, a)
theorem spanF_fold : ∀ (l : List Int) (r : Int × Int), (l.foldl (fun r n => (min r.1 n, max r.2 n)) r).1 ≤ r.1 ∧ r.2 ≤ (l.foldl (fun r n => (min r.1 n, max r.2 n)) r).2 ∧ (∀ n ∈ l, (l.foldl (fun r n => (min r.1 n, max r.2 n)) r).1 ≤ n ∧ n ≤ (l.foldl (fun r n => (min r.1 n, max r.2 n)) r).2) ∧ ((l.foldl (fun r n => (min r.1 n, max r.2 n)) r).1 = r.1 ∨ (l.foldl (fun r n => (min r.1 n, max r.2 n)) r).1 ∈ l) ∧ ((l.foldl (fun r n => (min r.1 n, max r.2 n)) r).2 = r.2 ∨ (l.foldl (fun r n => (min r.1 n, max r.2 n)) r).2 ∈ l)
  | [], r => by simp
  | a :: l, r => by
    obtain ⟨h1, h2, h3, h4, h5⟩ := spanF_fold l (min r.1 a, max r.2 a)
    rw [List.foldl_cons]
    generalize l.foldl (fun r n => (min r.1 n, max r.2 n)) (min r.1 a, max r.2 a) = z at *
    simp only at h1 h2 h4 h5
    refine ⟨by omega, by omega, ?_, ?_, ?_⟩
    · intro n hn
      rcases List.mem_cons.1 hn with rfl | hn
      · omega
      · exact h3 n hn
    · rcases h4 with h4 | h4
      · by_cases h : r.1 ≤ a
        · left; omega
        · right; rw [show z.1 = a by omega]; exact List.mem_cons_self ..
      · right; exact List.mem_cons_of_mem _ h4
    · rcases h5 with h5 | h5
      · by_cases h : a ≤ r.2
        · left; omega
        · right; rw [show z.2 = a by omega]; exact List.mem_cons_self ..
      · right; exact List.mem_cons_of_mem _ h5
theorem spanF_spec {l : List Int} (h : l ≠ []) : (∀ n ∈ l, (spanF l).1 ≤ n ∧ n ≤ (spanF l).2) ∧ (spanF l).1 ∈ l ∧ (spanF l).2 ∈ l := by
  cases l with
  | nil => exact absurd rfl h
  | cons a l =>
    obtain ⟨h1, h2, h3, h4, h5⟩ := spanF_fold l (a, a)
    unfold spanF
    simp only
    generalize l.foldl (fun r n => (min r.1 n, max r.2 n)) (a, a) = z at *
    simp only at h1 h2 h4 h5
    refine ⟨?_, ?_, ?_⟩
    · intro n hn
      rcases List.mem_cons.1 hn with rfl | hn
      · omega
      · exact h3 n hn
    · rcases h4 with h4 | h4
      · rw [h4]; exact List.mem_cons_self ..
      · exact List.mem_cons_of_mem _ h4
    · rcases h5 with h5 | h5
      · rw [h5]; exact List.mem_cons_self ..
      · exact List.mem_cons_of_mem _ h5
theorem spanF_of {l : List Int} {a b : Int} (ha : a ∈ l) (hb : b ∈ l) (h : ∀ n ∈ l, a ≤ n ∧ n ≤ b) : spanF l = (a, b) := by
  obtain ⟨h1, h2, h3⟩ := spanF_spec (List.ne_nil_of_mem ha)
  have h4 := h1 a ha
  have h5 := h1 b hb
  have h6 := h _ h2
  have h7 := h _ h3
  ext <;> simp only <;> omega
theorem spanF_snoc {l : List Int} {n : Int} (h : l ≠ []) : spanF (l ++ [n]) = (min (spanF l).1 n, max (spanF l).2 n) := by
  cases l with
  | nil => exact absurd rfl h
  | cons a l => simp [spanF, List.foldl_append]

def bndF (x : Edg) : Option (List (Int × Int)) :=
  if truthsF x = [] then none else some ((List.range x.n).map fun p => spanF ((truthsF x).map fun t => atL t p))

/-! A pass. -/
inductive Op
  | lowc (p : Nat) (k : Int)
  | highc (p : Nat) (k : Int)
  | lowv (p q : Nat) (k : Int)
  | highv (p q : Nat) (k : Int)

abbrev Bs := List (Int × Int)
def gl (s : Bs) (p : Nat) : Int := (s.getD p (0, 0)).1
def gh (s : Bs) (p : Nat) : Int := (s.getD p (0, 0)).2
def lowS (s : Bs × Bool) (p : Nat) (n : Int) : Bs × Bool := if gl s.1 p < n then (s.1.set p (n, gh s.1 p), true) else s
def highS (s : Bs × Bool) (p : Nat) (n : Int) : Bs × Bool := if n < gh s.1 p then (s.1.set p (gl s.1 p, n), true) else s
def Op.run (s : Bs × Bool) : Op → Bs × Bool
  | .lowc p k => lowS s p k
  | .highc p k => highS s p k
  | .lowv p q k => lowS s p (gl s.1 q - k)
  | .highv p q k => highS s p (gh s.1 q + k)
def Op.sat (t : Nat → Int) : Op → Prop
  | .lowc p k => k ≤ t p
  | .highc p k => t p ≤ k
  | .lowv p q k => t q - k ≤ t p
  | .highv p q k => t p ≤ t q + k
def Op.fits (n : Nat) : Op → Prop
  | .lowc p _ => p < n
  | .highc p _ => p < n
  | .lowv p q _ => p < n ∧ q < n
  | .highv p q _ => p < n ∧ q < n
def opsC (c : Cl) : List Op :=
  if c.kind = 1 then [.lowc c.point.toNat c.off, .highc c.point.toNat c.off]
  else if c.kind = 2 then [.lowc c.point.toNat (c.off - c.err), .highc c.point.toNat (c.off + c.err)]
  else if c.kind = 3 then [.highc c.point.toNat c.off]
  else if c.kind = 4 then [.lowc c.point.toNat c.off]
  else [.highv c.point.toNat c.other.toNat c.off, .lowv c.other.toNat c.point.toNat c.off]
def opsB (B : Int) (p : Nat) : List Op := [.lowv p (p + 1) B, .lowv (p + 1) p B, .highv p (p + 1) B, .highv (p + 1) p B]
def opsX (x : Edg) : List Op := (List.range (x.n - 1)).flatMap (opsB x.bend) ++ x.claims.flatMap opsC

theorem gl_set {s : Bs} {p q : Nat} {a : Int × Int} (hp : p < s.length) : gl (s.set p a) q = if q = p then a.1 else gl s q := by
  unfold gl
  rw [List.getD_eq_getElem?_getD, List.getD_eq_getElem?_getD, List.getElem?_set]
  by_cases h : q = p
  · subst h; rw [if_pos rfl, if_pos hp, if_pos rfl]; rfl
  · rw [if_neg (fun e => h e.symm), if_neg h]
theorem gh_set {s : Bs} {p q : Nat} {a : Int × Int} (hp : p < s.length) : gh (s.set p a) q = if q = p then a.2 else gh s q := by
  unfold gh
  rw [List.getD_eq_getElem?_getD, List.getD_eq_getElem?_getD, List.getElem?_set]
  by_cases h : q = p
  · subst h; rw [if_pos rfl, if_pos hp, if_pos rfl]; rfl
  · rw [if_neg (fun e => h e.symm), if_neg h]

def Within (s : Bs) (t : Nat → Int) : Prop := ∀ p < s.length, gl s p ≤ t p ∧ t p ≤ gh s p
/-- How far apart the ends are, all together. -/
def mu (s : Bs) : Int := (s.map fun b => b.2 - b.1).sum
theorem mu_set : ∀ {s : Bs} {p : Nat} {a : Int × Int}, p < s.length → mu (s.set p a) = mu s - (gh s p - gl s p) + (a.2 - a.1)
  | [], p, a, h => by simp at h
  | b :: s, 0, a, _ => by simp [mu, gh, gl]; omega
  | b :: s, p + 1, a, h => by
    have ih := mu_set (s := s) (p := p) (a := a) (by simpa using h)
    simp [mu, gh, gl] at ih ⊢
    omega

theorem lowS_len {s : Bs × Bool} {p : Nat} {n : Int} : (lowS s p n).1.length = s.1.length := by unfold lowS; split <;> simp
theorem highS_len {s : Bs × Bool} {p : Nat} {n : Int} : (highS s p n).1.length = s.1.length := by unfold highS; split <;> simp
theorem Op.run_len {s : Bs × Bool} {o : Op} : (o.run s).1.length = s.1.length := by
  cases o <;> first | exact lowS_len | exact highS_len

structure Step (s s' : Bs × Bool) : Prop where
  len : s'.1.length = s.1.length
  lo : ∀ p < s.1.length, gl s.1 p ≤ gl s'.1 p
  hi : ∀ p < s.1.length, gh s'.1 p ≤ gh s.1 p
  ch : s' = s ∨ s'.2 = true ∧ mu s'.1 < mu s.1
theorem lowS_step {s : Bs × Bool} {p : Nat} {n : Int} (hp : p < s.1.length) : Step s (lowS s p n) := by
  refine ⟨lowS_len, fun q hq => ?_, fun q hq => ?_, ?_⟩ <;> unfold lowS <;> split
  · rw [gl_set hp]; split
    · subst_vars; simp; omega
    · omega
  · omega
  · rw [gh_set hp]; split
    · subst_vars; simp
    · omega
  · omega
  · right; exact ⟨rfl, by rw [mu_set hp]; simp; omega⟩
  · left; rfl
theorem highS_step {s : Bs × Bool} {p : Nat} {n : Int} (hp : p < s.1.length) : Step s (highS s p n) := by
  refine ⟨highS_len, fun q hq => ?_, fun q hq => ?_, ?_⟩ <;> unfold highS <;> split
  · rw [gl_set hp]; split
    · subst_vars; simp
    · omega
  · omega
  · rw [gh_set hp]; split
    · subst_vars; simp; omega
    · omega
  · omega
  · right; exact ⟨rfl, by rw [mu_set hp]; simp; omega⟩
  · left; rfl
theorem Op.run_step {s : Bs × Bool} {o : Op} (h : o.fits s.1.length) : Step s (o.run s) := by
  cases o with
  | lowc p k => exact lowS_step h
  | highc p k => exact highS_step h
  | lowv p q k => exact lowS_step h.1
  | highv p q k => exact highS_step h.1
theorem Step.refl (s : Bs × Bool) : Step s s := ⟨rfl, fun _ _ => Int.le_refl _, fun _ _ => Int.le_refl _, .inl rfl⟩
theorem Step.trans {a b c : Bs × Bool} (h : Step a b) (g : Step b c) : Step a c := by
  refine ⟨by rw [g.len, h.len], fun p hp => Int.le_trans (h.lo p hp) (g.lo p (by rw [h.len]; exact hp)), fun p hp => Int.le_trans (g.hi p (by rw [h.len]; exact hp)) (h.hi p hp), ?_⟩
  rcases g.ch with e | ⟨e1, e2⟩
  · rw [e]; exact h.ch
  · rcases h.ch with f | ⟨f1, f2⟩
    · subst f; exact .inr ⟨e1, e2⟩
    · exact .inr ⟨e1, by omega⟩

theorem Op.run_sound {s : Bs × Bool} {o : Op} {t : Nat → Int} (h : o.fits s.1.length) (hs : o.sat t) (hw : Within s.1 t) : Within (o.run s).1 t := by
  intro r hr
  rw [Op.run_len] at hr
  have h0 := hw r hr
  cases o with
  | lowc p k =>
    simp only [Op.run, lowS, Op.sat, Op.fits] at *
    split
    · rw [gl_set h, gh_set h]; by_cases e : r = p
      · subst e; simp; omega
      · rw [if_neg e, if_neg e]; exact h0
    · exact h0
  | highc p k =>
    simp only [Op.run, highS, Op.sat, Op.fits] at *
    split
    · rw [gl_set h, gh_set h]; by_cases e : r = p
      · subst e; simp; omega
      · rw [if_neg e, if_neg e]; exact h0
    · exact h0
  | lowv p q k =>
    simp only [Op.run, lowS, Op.sat, Op.fits] at *
    have h1 := hw q h.2
    split
    · rw [gl_set h.1, gh_set h.1]; by_cases e : r = p
      · subst e; simp; omega
      · rw [if_neg e, if_neg e]; exact h0
    · exact h0
  | highv p q k =>
    simp only [Op.run, highS, Op.sat, Op.fits] at *
    have h1 := hw q h.2
    split
    · rw [gl_set h.1, gh_set h.1]; by_cases e : r = p
      · subst e; simp; omega
      · rw [if_neg e, if_neg e]; exact h0
    · exact h0

/-- What an act asks of the least, or of the greatest numbers. -/
def Op.still (s : Bs) : Op → Prop
  | .lowc p k => k ≤ gl s p
  | .highc p k => gh s p ≤ k
  | .lowv p q k => gl s q - k ≤ gl s p
  | .highv p q k => gh s p ≤ gh s q + k
theorem Op.run_still {s : Bs × Bool} {o : Op} (h : (o.run s).2 = false) : o.run s = s ∧ o.still s.1 := by
  cases o <;> simp only [Op.run, lowS, highS] at h ⊢ <;> split at h <;> first | (cases h; done) | (rename_i g; rw [if_neg g]; exact ⟨rfl, by simp only [Op.still]; omega⟩)

theorem fold_step : ∀ {l : List Op} {s : Bs × Bool}, (∀ o ∈ l, o.fits s.1.length) → Step s (l.foldl Op.run s)
  | [], s, _ => Step.refl s
  | o :: l, s, h => by
    rw [List.foldl_cons]
    have h1 := Op.run_step (h o (List.mem_cons_self ..))
    exact h1.trans (fold_step fun o' ho' => by rw [h1.len]; exact h o' (List.mem_cons_of_mem _ ho'))
theorem fold_sound {t : Nat → Int} : ∀ {l : List Op} {s : Bs × Bool}, (∀ o ∈ l, o.fits s.1.length) → (∀ o ∈ l, o.sat t) → Within s.1 t → Within (l.foldl Op.run s).1 t
  | [], s, _, _, hw => hw
  | o :: l, s, h, hs, hw => by
    rw [List.foldl_cons]
    exact fold_sound (fun o' ho' => by rw [Op.run_len]; exact h o' (List.mem_cons_of_mem _ ho')) (fun o' ho' => hs o' (List.mem_cons_of_mem _ ho')) (Op.run_sound (h o (List.mem_cons_self ..)) (hs o (List.mem_cons_self ..)) hw)
theorem fold_true : ∀ {l : List Op} {s : Bs × Bool}, s.2 = true → (l.foldl Op.run s).2 = true
  | [], s, h => h
  | o :: l, s, h => by
    rw [List.foldl_cons]
    refine fold_true ?_
    cases o <;> simp only [Op.run, lowS, highS] <;> split <;> first | rfl | exact h
theorem fold_still : ∀ {l : List Op} {s : Bs × Bool}, (l.foldl Op.run s).2 = false → l.foldl Op.run s = s ∧ ∀ o ∈ l, o.still s.1
  | [], s, _ => ⟨rfl, by simp⟩
  | o :: l, s, h => by
    rw [List.foldl_cons] at h ⊢
    have h1 : (o.run s).2 = false := by
      cases e : (o.run s).2 with
      | false => rfl
      | true => rw [fold_true e] at h; exact absurd h (by decide)
    obtain ⟨e1, e2⟩ := Op.run_still h1
    rw [e1] at h ⊢
    obtain ⟨e3, e4⟩ := fold_still h
    refine ⟨e3, fun o' ho' => ?_⟩
    rcases List.mem_cons.1 ho' with rfl | ho'
    · exact e2
    · exact e4 o' ho'

end Go.Proofs.YtbpfhoihfoojfaaGreatDoor

namespace Go.Proofs.YtbpfhoihfoojfaaGreatDoor

theorem atL_fst (s : Bs) (p : Nat) : atL (s.map Prod.fst) p = gl s p := by
  unfold atL gl
  rw [List.getD_eq_getElem?_getD, List.getD_eq_getElem?_getD, List.getElem?_map]
  cases s[p]? <;> rfl
theorem atL_snd (s : Bs) (p : Nat) : atL (s.map Prod.snd) p = gh s p := by
  unfold atL gh
  rw [List.getD_eq_getElem?_getD, List.getD_eq_getElem?_getD, List.getElem?_map]
  cases s[p]? <;> rfl

structure IsBnd (x : Edg) (s : Bs) : Prop where
  len : s.length = x.n
  lo : IsT x (s.map Prod.fst)
  hi : IsT x (s.map Prod.snd)
  all : ∀ t, IsT x t → Within s (atL t)

theorem opsX_fits {x : Edg} (h : x.Ok) : ∀ o ∈ opsX x, o.fits x.n := by
  have hp := h.p
  have hn : (x.n : Int) = x.points := by unfold Edg.n; omega
  intro o ho
  unfold opsX at ho
  rcases List.mem_append.1 ho with ho | ho
  · obtain ⟨p, hp', ho⟩ := List.mem_flatMap.1 ho
    have hp' := List.mem_range.1 hp'
    simp only [opsB, List.mem_cons, List.not_mem_nil, or_false] at ho
    rcases ho with rfl | rfl | rfl | rfl <;> simp only [Op.fits] <;> omega
  · obtain ⟨c, hc, ho⟩ := List.mem_flatMap.1 ho
    obtain ⟨h1, h2, h3, -, -⟩ := h.c c hc
    unfold opsC at ho
    split at ho
    · simp only [List.mem_cons, List.not_mem_nil, or_false] at ho
      rcases ho with rfl | rfl <;> simp only [Op.fits] <;> omega
    · split at ho
      · simp only [List.mem_cons, List.not_mem_nil, or_false] at ho
        rcases ho with rfl | rfl <;> simp only [Op.fits] <;> omega
      · split at ho
        · simp only [List.mem_cons, List.not_mem_nil, or_false] at ho
          subst ho; simp only [Op.fits]; omega
        · split at ho
          · simp only [List.mem_cons, List.not_mem_nil, or_false] at ho
            subst ho; simp only [Op.fits]; omega
          · rw [if_pos (by omega)] at h3
            simp only [List.mem_cons, List.not_mem_nil, or_false] at ho
            rcases ho with rfl | rfl <;> simp only [Op.fits] <;> omega

theorem opsC_sat {c : Cl} {t : Nat → Int} (h : c.holds t = true) : ∀ o ∈ opsC c, o.sat t := by
  intro o ho
  unfold opsC at ho
  unfold Cl.holds at h
  split at ho
  · rename_i k
    rw [if_pos k] at h
    have h := of_decide_eq_true h
    simp only [List.mem_cons, List.not_mem_nil, or_false] at ho
    rcases ho with rfl | rfl <;> simp only [Op.sat] <;> omega
  · rename_i k1
    rw [if_neg k1] at h
    split at ho
    · rename_i k
      rw [if_pos k, btwB_iff] at h
      simp only [List.mem_cons, List.not_mem_nil, or_false] at ho
      rcases ho with rfl | rfl <;> simp only [Op.sat] <;> omega
    · rename_i k2
      rw [if_neg k2] at h
      split at ho
      · rename_i k
        rw [if_pos k] at h
        have h := of_decide_eq_true h
        simp only [List.mem_cons, List.not_mem_nil, or_false] at ho
        subst ho; simp only [Op.sat]; omega
      · rename_i k3
        rw [if_neg k3] at h
        split at ho
        · rename_i k
          rw [if_pos k] at h
          have h := of_decide_eq_true h
          simp only [List.mem_cons, List.not_mem_nil, or_false] at ho
          subst ho; simp only [Op.sat]; omega
        · rename_i k4
          rw [if_neg k4] at h
          have h := of_decide_eq_true h
          simp only [List.mem_cons, List.not_mem_nil, or_false] at ho
          rcases ho with rfl | rfl <;> simp only [Op.sat] <;> omega

theorem opsX_sat {x : Edg} {t : List Int} (h : IsT x t) : ∀ o ∈ opsX x, o.sat (atL t) := by
  intro o ho
  unfold opsX at ho
  rcases List.mem_append.1 ho with ho | ho
  · obtain ⟨p, hp', ho⟩ := List.mem_flatMap.1 ho
    have hp' := List.mem_range.1 hp'
    have hb := h.bend p (by omega)
    simp only [opsB, List.mem_cons, List.not_mem_nil, or_false] at ho
    rcases ho with rfl | rfl | rfl | rfl <;> simp only [Op.sat] <;> omega
  · obtain ⟨c, hc, ho⟩ := List.mem_flatMap.1 ho
    exact opsC_sat (h.claims c hc) o ho

/-- Where nothing changes any more, both ends are truths. -/
theorem still_truth {x : Edg} (hx : x.Ok) {s : Bs} (hl : s.length = x.n) (hs : ∀ o ∈ opsX x, o.still s) (hb : ∀ p < x.n, 0 ≤ gl s p ∧ gl s p ≤ gh s p ∧ gh s p ≤ 9) : IsT x (s.map Prod.fst) ∧ IsT x (s.map Prod.snd) := by
  have hp := hx.p
  have hn : (x.n : Int) = x.points := by unfold Edg.n; omega
  have B : ∀ p, p + 1 < x.n → ∀ o ∈ opsB x.bend p, o.still s := fun p hp o ho =>
    hs o (by unfold opsX; exact List.mem_append_left _ (List.mem_flatMap.2 ⟨p, List.mem_range.2 (by omega), ho⟩))
  have C : ∀ c ∈ x.claims, ∀ o ∈ opsC c, o.still s := fun c hc o ho =>
    hs o (by unfold opsX; exact List.mem_append_right _ (List.mem_flatMap.2 ⟨c, hc, ho⟩))
  have D : ∀ c ∈ x.claims, c.holds (gl s) = true ∧ c.holds (gh s) = true := by
    intro c hc
    have h0 := C c hc
    have hok := hx.c c hc
    obtain ⟨h1, h2, h3, h4, h5⟩ := hok
    have hbp := hb c.point.toNat (by omega)
    unfold opsC at h0
    unfold Cl.holds
    by_cases k1 : c.kind = 1
    · rw [if_pos k1] at h0
      have a1 := h0 _ (List.mem_cons_self ..)
      have a2 := h0 _ (List.mem_cons_of_mem _ (List.mem_cons_self ..))
      simp only [Op.still] at a1 a2
      rw [if_pos k1, if_pos k1]
      exact ⟨decide_eq_true (by omega), decide_eq_true (by omega)⟩
    · rw [if_neg k1] at h0
      rw [if_neg k1, if_neg k1]
      by_cases k2 : c.kind = 2
      · rw [if_pos k2] at h0
        have a1 := h0 _ (List.mem_cons_self ..)
        have a2 := h0 _ (List.mem_cons_of_mem _ (List.mem_cons_self ..))
        simp only [Op.still] at a1 a2
        rw [if_pos k2, if_pos k2]
        exact ⟨btwB_iff.2 (by omega), btwB_iff.2 (by omega)⟩
      · rw [if_neg k2] at h0
        rw [if_neg k2, if_neg k2]
        by_cases k3 : c.kind = 3
        · rw [if_pos k3] at h0
          have a1 := h0 _ (List.mem_cons_self ..)
          simp only [Op.still] at a1
          rw [if_pos k3, if_pos k3]
          exact ⟨decide_eq_true (by omega), decide_eq_true (by omega)⟩
        · rw [if_neg k3] at h0
          rw [if_neg k3, if_neg k3]
          by_cases k4 : c.kind = 4
          · rw [if_pos k4] at h0
            have a1 := h0 _ (List.mem_cons_self ..)
            simp only [Op.still] at a1
            rw [if_pos k4, if_pos k4]
            exact ⟨decide_eq_true (by omega), decide_eq_true (by omega)⟩
          · rw [if_neg k4] at h0
            have a1 := h0 _ (List.mem_cons_self ..)
            have a2 := h0 _ (List.mem_cons_of_mem _ (List.mem_cons_self ..))
            simp only [Op.still] at a1 a2
            rw [if_neg k4, if_neg k4]
            exact ⟨decide_eq_true (by omega), decide_eq_true (by omega)⟩
  constructor
  · refine ⟨by rw [List.length_map, hl], fun p hp => ?_, fun p hp => ?_, fun c hc => ?_⟩
    · rw [atL_fst]; have := hb p hp; omega
    · rw [atL_fst, atL_fst]
      have a1 := B p hp (.lowv p (p + 1) x.bend) (by simp [opsB])
      have a2 := B p hp (.lowv (p + 1) p x.bend) (by simp [opsB])
      simp only [Op.still] at a1 a2
      omega
    · rw [show atL (s.map Prod.fst) = gl s from funext (atL_fst s)]; exact (D c hc).1
  · refine ⟨by rw [List.length_map, hl], fun p hp => ?_, fun p hp => ?_, fun c hc => ?_⟩
    · rw [atL_snd]; have := hb p hp; omega
    · rw [atL_snd, atL_snd]
      have a1 := B p hp (.highv p (p + 1) x.bend) (by simp [opsB])
      have a2 := B p hp (.highv (p + 1) p x.bend) (by simp [opsB])
      simp only [Op.still] at a1 a2
      omega
    · rw [show atL (s.map Prod.snd) = gh s from funext (atL_snd s)]; exact (D c hc).2

/-- A pass over an edge. -/
def passF (x : Edg) (s : Bs) : Bs × Bool := (opsX x).foldl Op.run (s, false)
structure Pass (x : Edg) (s : Bs) : Prop where
  len : s.length = x.n
  reach : ∀ p < x.n, 0 ≤ gl s p ∧ gh s p ≤ 9
  all : ∀ t, IsT x t → Within s (atL t)
theorem Pass.start {x : Edg} : Pass x (List.replicate x.n (0, 9)) := by
  have h1 : ∀ p < x.n, gl (List.replicate x.n ((0 : Int), (9 : Int))) p = 0 ∧ gh (List.replicate x.n ((0 : Int), (9 : Int))) p = 9 := by
    intro p hp
    unfold gl gh
    rw [List.getD_eq_getElem?_getD, List.getElem?_replicate, if_pos hp]
    exact ⟨rfl, rfl⟩
  refine ⟨List.length_replicate, fun p hp => ?_, fun t ht p hp => ?_⟩
  · obtain ⟨a, b⟩ := h1 p hp; omega
  · rw [List.length_replicate] at hp
    obtain ⟨a, b⟩ := h1 p hp
    have := ht.reach p hp
    omega
theorem Pass.next {x : Edg} (hx : x.Ok) {s : Bs} (h : Pass x s) : Pass x (passF x s).1 := by
  have hf : ∀ o ∈ opsX x, o.fits (s, false).1.length := fun o ho => by rw [h.len]; exact opsX_fits hx o ho
  have h1 := fold_step hf
  refine ⟨h1.len.trans h.len, fun p hp => ?_, fun t ht => fold_sound hf (opsX_sat ht) (h.all t ht)⟩
  have h2 := h1.lo p (by rw [h.len]; exact hp)
  have h3 := h1.hi p (by rw [h.len]; exact hp)
  have h4 := h.reach p hp
  unfold passF
  simp only at h2 h3
  omega
theorem Pass.none {x : Edg} {s : Bs} (h : Pass x s) {p : Nat} (hp : p < x.n) (hb : gh s p < gl s p) : truthsF x = [] := by
  apply List.eq_nil_iff_forall_not_mem.2
  intro t ht
  have := h.all t (mem_truthsF.1 ht) p (by rw [h.len]; exact hp)
  omega
theorem Pass.done {x : Edg} (hx : x.Ok) {s : Bs} (h : Pass x s) (hc : (passF x s).2 = false) (hb : ∀ p < x.n, gl (passF x s).1 p ≤ gh (passF x s).1 p) : (passF x s).1 = s ∧ IsBnd x s := by
  obtain ⟨h1, h2⟩ := fold_still hc
  have e : passF x s = (s, false) := h1
  rw [e] at hb ⊢
  have h3 := still_truth hx h.len h2 fun p hp => by have := h.reach p hp; have := hb p hp; simp only at this; omega
  exact ⟨rfl, h.len, h3.1, h3.2, h.all⟩
theorem Pass.less {x : Edg} (hx : x.Ok) {s : Bs} (h : Pass x s) (hc : (passF x s).2 = true) : mu (passF x s).1 < mu s := by
  have hf : ∀ o ∈ opsX x, o.fits (s, false).1.length := fun o ho => by rw [h.len]; exact opsX_fits hx o ho
  rcases (fold_step hf).ch with e | ⟨-, e⟩
  · unfold passF at hc; rw [e] at hc; exact absurd hc (by simp)
  · exact e
theorem mu_nonneg : ∀ {s : Bs}, (∀ p < s.length, gl s p ≤ gh s p) → 0 ≤ mu s
  | [], _ => by simp [mu]
  | b :: s, h => by
    have ih := mu_nonneg (s := s) fun p hp => by simpa [gl, gh] using h (p + 1) (by simp; omega)
    have := h 0 (by simp)
    simp [mu, gl, gh] at this ih ⊢
    omega

theorem IsBnd.eq {x : Edg} {s : Bs} (h : IsBnd x s) : bndF x = some s := by
  have hm := mem_truthsF.2 h.lo
  unfold bndF
  rw [if_neg (List.ne_nil_of_mem hm)]
  congr 1
  apply List.ext_getElem (by simp [h.len])
  intro p h1 h2
  rw [List.getElem_map, List.getElem_range]
  refine (spanF_of (a := gl s p) (b := gh s p) ?_ ?_ ?_).trans ?_
  · exact List.mem_map.2 ⟨_, hm, atL_fst s p⟩
  · exact List.mem_map.2 ⟨_, mem_truthsF.2 h.hi, atL_snd s p⟩
  · intro n hn
    obtain ⟨t, ht, rfl⟩ := List.mem_map.1 hn
    exact h.all t (mem_truthsF.1 ht) p h2
  · unfold gl gh
    rw [List.getD_eq_getElem?_getD, List.getElem?_eq_getElem h2]
    rfl
theorem bndF_none {x : Edg} : bndF x = none ↔ truthsF x = [] := by
  unfold bndF
  split <;> simp [*]
theorem bndF_some {x : Edg} {s : Bs} (h : bndF x = some s) : truthsF x ≠ [] := by
  intro e
  rw [bndF_none.2 e] at h
  exact absurd h (by simp)

/-! The truths between the bounds. -/
theorem gen_keep {cand : List Int → List Int} {keep keep' : List Int → Bool} : ∀ {k : Nat} {t : List Int}, (∀ s, t <+: s → s.length = t.length + k → (∀ u n, t <+: u → (u ++ [n]) <+: s → n ∈ cand u) → keep s = keep' s) → gen cand keep k t = gen cand keep' k t
  | 0, t, h => by
    unfold gen
    rw [h t (List.prefix_refl _) rfl fun u n h1 h2 => ?_]
    have a1 := h1.length_le
    have a2 := h2.length_le
    rw [List.length_append, List.length_singleton] at a2
    omega
  | k + 1, t, h => by
    unfold gen
    have e : ∀ n ∈ cand t, gen cand keep k (t ++ [n]) = gen cand keep' k (t ++ [n]) := fun n hn =>
      gen_keep fun s h1 h2 h3 => h s ((List.prefix_append t [n]).trans h1) (by rw [h2, List.length_append, List.length_singleton]; omega) fun u m h4 h5 => by
        by_cases e : u = t
        · subst e
          have p3 := List.prefix_of_prefix_length_le h5 h1 (by simp)
          have p4 := p3.eq_of_length (by simp)
          have p5 := List.append_cancel_left p4
          injection p5 with p5
          exact p5 ▸ hn
        · have hu : t ++ [n] <+: u := by
            have hlt : t.length < u.length := by
              have := h4.length_le
              rcases Nat.lt_or_ge t.length u.length with h | h
              · exact h
              · exact absurd (h4.eq_of_length (by omega)).symm e
            exact List.prefix_of_prefix_length_le h1 ((List.prefix_append u [m]).trans h5) (by rw [List.length_append, List.length_singleton]; omega)
          exact h3 u m hu h5
    have h2 : ∀ l : List Int, (∀ n ∈ l, n ∈ cand t) → (l.flatMap fun n => gen cand keep k (t ++ [n])) = l.flatMap fun n => gen cand keep' k (t ++ [n]) := by
      intro l
      induction l with
      | nil => intro _; rfl
      | cons a l ih => intro hl; rw [List.flatMap_cons, List.flatMap_cons, e a (hl a (List.mem_cons_self ..)), ih fun n hn => hl n (List.mem_cons_of_mem _ hn)]
    exact h2 _ fun n hn => hn

def stepB (B : Int) (t : List Int) (n : Int) : Bool := decide (t = []) || btwB (n - atL t (t.length - 1)) (-B) B
def candS (x : Edg) (s : Bs) (t : List Int) : List Int := (rng (gl s t.length) (gh s t.length)).filter (stepB x.bend t)
def keepC (x : Edg) (t : List Int) : Bool := x.claims.all fun c => c.holds (atL t)

theorem atL_prefix {u s : List Int} (h : u <+: s) {p : Nat} (hp : p < u.length) : atL u p = atL s p := by
  obtain ⟨r, rfl⟩ := h
  unfold atL
  rw [List.getD_eq_getElem?_getD, List.getD_eq_getElem?_getD, List.getElem?_append_left hp]
theorem atL_last {u s : List Int} {n : Int} (h : (u ++ [n]) <+: s) : atL s u.length = n := by
  rw [← atL_prefix h (by simp)]
  unfold atL
  rw [List.getD_eq_getElem?_getD, List.getElem?_append_right (Nat.le_refl _), Nat.sub_self]
  rfl
theorem stepB_truth {x : Edg} {u s : List Int} {n : Int} (hs : IsT x s) (h : (u ++ [n]) <+: s) : stepB x.bend u n = true := by
  unfold stepB
  by_cases e : u = []
  · simp [e]
  · have hl : 0 < u.length := by
      cases u with
      | nil => exact absurd rfl e
      | cons a l => simp
    have h1 := h.length_le
    rw [List.length_append, List.length_singleton, hs.len] at h1
    have h2 := hs.bend (u.length - 1) (by omega)
    rw [show u.length - 1 + 1 = u.length by omega, atL_last h, ← atL_prefix ((List.prefix_append u [n]).trans h) (by omega)] at h2
    rw [Bool.or_eq_true]
    exact .inr (btwB_iff.2 h2)

theorem gen_cand {cand cand' : List Int → List Int} {keep : List Int → Bool} : ∀ {k : Nat} {t : List Int}, (∀ u, t <+: u → u.length < t.length + k → cand u = cand' u) → gen cand keep k t = gen cand' keep k t
  | 0, _, _ => rfl
  | k + 1, t, h => by
    unfold gen
    rw [h t (List.prefix_refl _) (by omega)]
    congr 1
    funext n
    exact gen_cand fun u h1 h2 => h u ((List.prefix_append t [n]).trans h1) (by rw [List.length_append, List.length_singleton] at h2; omega)

theorem rng_filter {lo hi : Int} (h1 : 0 ≤ lo) (h3 : hi ≤ 9) : rng lo hi = (rng 0 9).filter fun n => btwB n lo hi := by
  by_cases h : lo ≤ hi
  · have key : ∀ a : Fin 10, ∀ b : Fin 10, rng ((a : Nat) : Int) ((b : Nat) : Int) = (rng 0 9).filter fun n => btwB n ((a : Nat) : Int) ((b : Nat) : Int) := by decide +kernel
    have := key ⟨lo.toNat, by omega⟩ ⟨hi.toNat, by omega⟩
    simp only [show ((lo.toNat : Nat) : Int) = lo by omega, show ((hi.toNat : Nat) : Int) = hi by omega] at this
    exact this
  · rw [show rng lo hi = [] by unfold rng; rw [show (hi + 1 - lo).toNat = 0 by omega]; rfl]
    symm
    apply List.filter_eq_nil_iff.2
    intro n _
    rw [btwB_iff]
    omega

theorem gen_bounds {x : Edg} {s : Bs} (h : IsBnd x s) : gen (candS x s) (keepC x) x.n [] = truthsF x := by
  have e1 : truthsF x = gen (fun t => (rng 0 9).filter (fun n => btwB n (gl s t.length) (gh s t.length) && stepB x.bend t n)) (isT x) x.n [] := by
    unfold truthsF
    refine (gen_prune (cand := fun _ => rng 0 9) (g := fun t n => btwB n (gl s t.length) (gh s t.length) && stepB x.bend t n) ?_).symm
    intro u n t _ ht hu _
    have ht := isT_iff.1 ht
    have hlen := hu.length_le
    rw [List.length_append, List.length_singleton, ht.len] at hlen
    have := h.all t ht u.length (by rw [h.len]; omega)
    rw [atL_last hu] at this
    rw [Bool.and_eq_true]
    exact ⟨btwB_iff.2 this, stepB_truth ht hu⟩
  have e2 : gen (fun t => (rng 0 9).filter (fun n => btwB n (gl s t.length) (gh s t.length) && stepB x.bend t n)) (isT x) x.n [] = gen (candS x s) (isT x) x.n [] := by
    refine gen_cand fun u _ hu => ?_
    have h1 := h.lo.reach u.length (by simpa using hu)
    have h2 := h.hi.reach u.length (by simpa using hu)
    rw [atL_fst] at h1
    rw [atL_snd] at h2
    unfold candS
    rw [rng_filter h1.1 h2.2, List.filter_filter]
    congr 1
    funext n
    exact Bool.and_comm _ _
  rw [e1, e2]
  symm
  refine gen_keep fun t _ hl hc => ?_
  simp only [List.length_nil, Nat.zero_add] at hl
  cases hk : keepC x t with
  | false =>
    cases ht : isT x t with
    | false => rfl
    | true =>
      have := (isT_iff.1 ht).claims
      unfold keepC at hk
      rw [List.all_eq_true.2 this] at hk
      exact absurd hk (by decide)
  | true =>
    refine isT_iff.2 ⟨hl, fun p hp => ?_, fun p hp => ?_, fun c hcl => List.all_eq_true.1 hk c hcl⟩
    · have hpre : (t.take p ++ [atL t p]) <+: t := by
        rw [atL_at (by omega), ← List.take_succ_eq_append_getElem (by omega)]
        exact List.take_prefix _ _
      have := hc (t.take p) (atL t p) (List.nil_prefix ..) hpre
      have := (List.mem_filter.1 this).1
      rw [mem_rng, List.length_take, Nat.min_eq_left (by omega)] at this
      have h1 := h.lo.reach p hp
      have h2 := h.hi.reach p hp
      rw [atL_fst] at h1
      rw [atL_snd] at h2
      omega
    · have hpre : (t.take (p + 1) ++ [atL t (p + 1)]) <+: t := by
        rw [atL_at (by omega), ← List.take_succ_eq_append_getElem (by omega)]
        exact List.take_prefix _ _
      have := hc (t.take (p + 1)) (atL t (p + 1)) (List.nil_prefix ..) hpre
      have := (List.mem_filter.1 this).2
      unfold stepB at this
      rw [Bool.or_eq_true] at this
      rcases this with h0 | h0
      · have := of_decide_eq_true h0
        have := congrArg List.length this
        rw [List.length_take, Nat.min_eq_left (by omega)] at this
        simp at this
      · rw [List.length_take, Nat.min_eq_left (by omega), btwB_iff, Nat.add_sub_cancel, atL_prefix (List.take_prefix (p + 1) t) (by rw [List.length_take]; omega)] at h0
        exact h0

/-! Truths that grow point by point. -/
def claimsAt (x : Edg) (t : List Int) : Bool := x.claims.all fun c => decide (max c.point c.other ≠ (t.length : Int) - 1) || c.holds (atL t)
def growF (x : Edg) : Nat → List Int → List (List Int)
  | 0, t => if claimsAt x t = true then [t] else []
  | k + 1, t => if claimsAt x t = true then ((rng 0 9).filter (stepB x.bend t)).flatMap fun n => growF x k (t ++ [n]) else []

theorem holds_congr {c : Cl} {f g : Nat → Int} (h1 : f c.point.toNat = g c.point.toNat) (h2 : f c.other.toNat = g c.other.toNat) : c.holds f = c.holds g := by
  unfold Cl.holds
  rw [h1, h2]
theorem holds_prefix {P : Int} {c : Cl} (hc : c.Ok P) {u s : List Int} (h : u <+: s) (hm : max c.point c.other < (u.length : Int)) : c.holds (atL u) = c.holds (atL s) := by
  have hp := hc.p
  have ho := hc.o
  have h0 : 0 ≤ c.other := by split at ho <;> omega
  exact holds_congr (atL_prefix h (by omega)) (atL_prefix h (by omega))

structure Grown (x : Edg) (t : List Int) : Prop where
  reach : ∀ p < t.length, 0 ≤ atL t p ∧ atL t p ≤ 9
  bend : ∀ p, p + 1 < t.length → -x.bend ≤ atL t (p + 1) - atL t p ∧ atL t (p + 1) - atL t p ≤ x.bend
  claims : ∀ c ∈ x.claims, max c.point c.other < (t.length : Int) - 1 → c.holds (atL t) = true

theorem grow_gen {x : Edg} (hx : x.Ok) : ∀ (k : Nat) (t : List Int), t.length + k = x.n → Grown x t → growF x k t = gen (fun _ => rng 0 9) (isT x) k t
  | 0, t, hl, hg => by
    have hp := hx.p
    have hn : (x.n : Int) = x.points := by unfold Edg.n; omega
    unfold growF gen
    have e : claimsAt x t = isT x t := by
      rw [Bool.eq_iff_iff, isT_iff]
      unfold claimsAt
      rw [List.all_eq_true]
      constructor
      · intro h
        refine ⟨by omega, fun p hp => hg.reach p (by omega), fun p hp => hg.bend p (by omega), fun c hc => ?_⟩
        have := h c hc
        rw [Bool.or_eq_true, decide_eq_true_eq] at this
        rcases this with h0 | h0
        · have hok := hx.c c hc
          have := hok.p
          have ho := hok.o
          refine hg.claims c hc ?_
          split at ho <;> omega
        · exact h0
      · intro h c hc
        rw [Bool.or_eq_true]
        exact .inr (h.claims c hc)
    rw [e]
  | k + 1, t, hl, hg => by
    unfold growF
    by_cases h : claimsAt x t = true
    · rw [if_pos h]
      have hcl : ∀ c ∈ x.claims, max c.point c.other < (t.length : Int) → c.holds (atL t) = true := by
        intro c hc hm
        have := List.all_eq_true.1 h c hc
        rw [Bool.or_eq_true, decide_eq_true_eq] at this
        rcases this with h0 | h0
        · exact hg.claims c hc (by omega)
        · exact h0
      have h2 : ∀ l : List Int, (∀ n ∈ l, n ∈ rng 0 9) → ((l.filter (stepB x.bend t)).flatMap fun n => growF x k (t ++ [n])) = l.flatMap fun n => gen (fun _ => rng 0 9) (isT x) k (t ++ [n]) := by
        intro l
        induction l with
        | nil => intro _; rfl
        | cons a l ih =>
          intro hl'
          have ih := ih fun n hn => hl' n (List.mem_cons_of_mem _ hn)
          by_cases hs : stepB x.bend t a = true
          · rw [List.filter_cons_of_pos hs, List.flatMap_cons, List.flatMap_cons, ih]
            congr 1
            refine grow_gen hx k (t ++ [a]) (by rw [List.length_append, List.length_singleton]; omega) ⟨fun p hp => ?_, fun p hp => ?_, fun c hc hm => ?_⟩
            · rw [List.length_append, List.length_singleton] at hp
              by_cases e : p = t.length
              · subst e
                rw [atL_last (List.prefix_refl _)]
                exact mem_rng.1 (hl' a (List.mem_cons_self ..))
              · rw [← atL_prefix (List.prefix_append t [a]) (by omega)]
                exact hg.reach p (by omega)
            · rw [List.length_append, List.length_singleton] at hp
              by_cases e : p + 1 = t.length
              · rw [e, atL_last (List.prefix_refl _), ← atL_prefix (List.prefix_append t [a]) (by omega)]
                unfold stepB at hs
                rw [Bool.or_eq_true, decide_eq_true_eq] at hs
                rcases hs with h0 | h0
                · subst h0; simp at e
                · rw [btwB_iff, show t.length - 1 = p by omega] at h0
                  exact h0
              · rw [← atL_prefix (List.prefix_append t [a]) (by omega), ← atL_prefix (List.prefix_append t [a]) (by omega)]
                exact hg.bend p (by omega)
            · rw [List.length_append, List.length_singleton] at hm
              rw [← holds_prefix (hx.c c hc) (List.prefix_append t [a]) (by omega)]
              exact hcl c hc (by omega)
          · rw [List.filter_cons_of_neg hs, List.flatMap_cons, ih]
            rw [show gen (fun _ => rng 0 9) (isT x) k (t ++ [a]) = [] from ?_]
            · rfl
            · apply List.eq_nil_iff_forall_not_mem.2
              intro s hs'
              obtain ⟨a1, a2, -⟩ := mem_gen hs'
              exact hs (stepB_truth (isT_iff.1 a1) a2)
      rw [h2 _ fun n hn => hn]
      rfl
    · rw [if_neg h]
      symm
      apply List.eq_nil_iff_forall_not_mem.2
      intro s hs'
      obtain ⟨a1, a2, -⟩ := mem_gen hs'
      apply h
      refine List.all_eq_true.2 fun c hc => ?_
      rw [Bool.or_eq_true, decide_eq_true_eq]
      by_cases hm : max c.point c.other = (t.length : Int) - 1
      · right
        rw [holds_prefix (hx.c c hc) a2 (by omega)]
        exact (isT_iff.1 a1).claims c hc
      · exact .inl hm
theorem grow_truths {x : Edg} (hx : x.Ok) : growF x x.n [] = truthsF x := by
  refine grow_gen hx x.n [] (by simp) ⟨by simp, by simp, fun c hc hm => ?_⟩
  have := (hx.c c hc).p
  simp at hm
  omega

end Go.Proofs.YtbpfhoihfoojfaaGreatDoor

namespace Go.Proofs.YtbpfhoihfoojfaaGreatDoor

/-- The members of a mask, ascending. -/
def maskL (g : Nat) : List Nat := (List.range 16).filter fun i => g.testBit i
def cmpL : List Nat → List Nat → Int
  | [], [] => 0
  | [], _ :: _ => -1
  | _ :: _, [] => 1
  | a :: l, b :: m => if a < b then -1 else if b < a then 1 else cmpL l m
def sizeG (g : Nat) : Nat := (maskL g).length
def cmpN (a b : Nat) : Int := if a < b then -1 else if b < a then 1 else 0
/-- How two groups are compared: by size, then by their lists. -/
def cmpG (a b : Nat) : Int := if cmpN (sizeG a) (sizeG b) ≠ 0 then cmpN (sizeG a) (sizeG b) else cmpL (maskL a) (maskL b)

/-- All ascending lists of so many numbers from first to n - 1. -/
def groupsF (n : Nat) : Nat → Nat → List (List Nat)
  | 0, _ => [[]]
  | many + 1, first => (List.range (n - first)).flatMap fun i => (groupsF n many (first + i + 1)).map fun r => (first + i) :: r
def maskOf (l : List Nat) : Nat := l.foldl (fun g i => g + 2 ^ i) 0
/-- All masks of n, in the order in which they are compared. -/
def masksF (n : Nat) : List Nat := (List.range (n + 1)).flatMap fun many => (groupsF n many 0).map maskOf

def okM (n : Nat) : Bool := (masksF n).length == 2 ^ n && (List.range (2 ^ n)).all (fun g => (masksF n).contains g) && (masksF n).all (fun g => g < 2 ^ n)
def okS (n : Nat) : Bool := go (masksF n)
where go : List Nat → Bool
  | [] => true
  | a :: l => l.all (fun b => cmpG a b == -1 && cmpG b a == 1) && go l
def okG (n : Nat) : Bool := (List.range (n + 1)).all fun many => (groupsF n many 0).all fun l => maskL (maskOf l) == l
theorem masks_facts : ∀ n : Fin 8, okM n = true ∧ okS n = true ∧ okG n = true := by decide +kernel

theorem mem_masks {n g : Nat} (hn : n ≤ 7) (hg : g < 2 ^ n) : g ∈ masksF n := by
  have h := (masks_facts ⟨n, by omega⟩).1
  unfold okM at h
  simp only [Bool.and_eq_true, List.all_eq_true, List.mem_range] at h
  simpa using h.1.2 g hg
theorem masks_lt {n g : Nat} (hn : n ≤ 7) (hg : g ∈ masksF n) : g < 2 ^ n := by
  have h := (masks_facts ⟨n, by omega⟩).1
  unfold okM at h
  simp only [Bool.and_eq_true, List.all_eq_true] at h
  simpa using h.2 g hg
theorem okS_go : ∀ {l : List Nat}, okS.go l = true → l.Pairwise fun a b => cmpG a b = -1 ∧ cmpG b a = 1
  | [], _ => .nil
  | a :: l, h => by
    unfold okS.go at h
    rw [Bool.and_eq_true, List.all_eq_true] at h
    refine .cons (fun b hb => ?_) (okS_go h.2)
    have := h.1 b hb
    rw [Bool.and_eq_true, beq_iff_eq, beq_iff_eq] at this
    exact this
theorem masks_sorted {n : Nat} (hn : n ≤ 7) : (masksF n).Pairwise fun a b => cmpG a b = -1 ∧ cmpG b a = 1 := okS_go (masks_facts ⟨n, by omega⟩).2.1
theorem maskL_maskOf {n many : Nat} {l : List Nat} (hn : n ≤ 7) (hm : many ≤ n) (hl : l ∈ groupsF n many 0) : maskL (maskOf l) = l := by
  have h := (masks_facts ⟨n, by omega⟩).2.2
  unfold okG at h
  simp only [List.all_eq_true, List.mem_range] at h
  have := h many (by show many < n + 1; omega) l hl
  simpa using this

theorem cmpG_self (g : Nat) : cmpG g g = 0 := by
  have h : ∀ l : List Nat, cmpL l l = 0 := by
    intro l
    induction l with
    | nil => rfl
    | cons a l ih => unfold cmpL; rw [if_neg (Nat.lt_irrefl _), if_neg (Nat.lt_irrefl _), ih]
  unfold cmpG
  have : cmpN (sizeG g) (sizeG g) = 0 := by unfold cmpN; rw [if_neg (Nat.lt_irrefl _), if_neg (Nat.lt_irrefl _)]
  rw [if_neg (not_not_intro this), h]

/-- The first group that passes. -/
def fewF (n : Nat) (test : Nat → Bool) : Option Nat := (masksF n).find? test

/-- What fewest holds after the masks below g. -/
structure Best (n : Nat) (test : Nat → Bool) (g : Nat) (b : Nat) (some : Bool) : Prop where
  no : some = false → b = 0 ∧ ∀ h < g, test h = false
  yes : some = true → b < g ∧ test b = true ∧ ∀ h < g, test h = true → h ≠ b → cmpG h b = 1

theorem cmp_total {n a b : Nat} (hn : n ≤ 7) (ha : a < 2 ^ n) (hb : b < 2 ^ n) (h : a ≠ b) : (cmpG a b = -1 ∧ cmpG b a = 1) ∨ (cmpG a b = 1 ∧ cmpG b a = -1) := by
  have h1 := masks_sorted hn
  have ha := mem_masks hn ha
  have hb := mem_masks hn hb
  obtain ⟨i, hi, rfl⟩ := List.getElem_of_mem ha
  obtain ⟨j, hj, rfl⟩ := List.getElem_of_mem hb
  rcases Nat.lt_trichotomy i j with h2 | rfl | h2
  · exact .inl (List.pairwise_iff_getElem.1 h1 i j hi hj h2)
  · exact absurd rfl h
  · have := List.pairwise_iff_getElem.1 h1 j i hj hi h2
    exact .inr ⟨this.2, this.1⟩
theorem cmp_trans {n a b c : Nat} (hn : n ≤ 7) (ha : a < 2 ^ n) (hb : b < 2 ^ n) (hc : c < 2 ^ n) (h : cmpG a b = -1) (g : cmpG b c = -1) : cmpG a c = -1 := by
  have h1 := masks_sorted hn
  have ha := mem_masks hn ha
  have hb := mem_masks hn hb
  have hc := mem_masks hn hc
  obtain ⟨i, hi, rfl⟩ := List.getElem_of_mem ha
  obtain ⟨j, hj, rfl⟩ := List.getElem_of_mem hb
  obtain ⟨k, hk, rfl⟩ := List.getElem_of_mem hc
  have key : ∀ i j (hi : i < (masksF n).length) (hj : j < (masksF n).length), cmpG (masksF n)[i] (masksF n)[j] = -1 → i < j := by
    intro i j hi hj h
    rcases Nat.lt_trichotomy i j with h2 | rfl | h2
    · exact h2
    · rw [cmpG_self] at h; exact absurd h (by decide)
    · have := List.pairwise_iff_getElem.1 h1 j i hj hi h2
      rw [this.2] at h; exact absurd h (by decide)
  have a1 := key i j hi hj h
  have a2 := key j k hj hk g
  exact (List.pairwise_iff_getElem.1 h1 i k hi hk (by omega)).1

theorem Best.start (n : Nat) (test : Nat → Bool) : Best n test 0 0 false := ⟨fun _ => ⟨rfl, fun h hh => by omega⟩, fun h => absurd h (by decide)⟩
theorem Best.skip {n : Nat} {test : Nat → Bool} {g b : Nat} (hn : n ≤ 7) (hg : g < 2 ^ n) (h : Best n test g b true) (hc : 0 ≤ cmpG g b) : Best n test (g + 1) b true := by
  obtain ⟨h1, h2, h3⟩ := h.yes rfl
  refine ⟨fun e => absurd e (by decide), fun _ => ⟨by omega, h2, fun x hx ht hne => ?_⟩⟩
  by_cases e : x = g
  · subst e
    rcases cmp_total hn hg (show b < 2 ^ n by omega) hne with k | k
    · omega
    · exact k.1
  · exact h3 x (by omega) ht hne
theorem Best.fail {n : Nat} {test : Nat → Bool} {g b : Nat} {s : Bool} (h : Best n test g b s) (ht : test g = false) : Best n test (g + 1) b s := by
  refine ⟨fun e => ⟨(h.no e).1, fun x hx => ?_⟩, fun e => ?_⟩
  · by_cases e' : x = g
    · subst e'; exact ht
    · exact (h.no e).2 x (by omega)
  · obtain ⟨h1, h2, h3⟩ := h.yes e
    refine ⟨by omega, h2, fun x hx hxt hne => ?_⟩
    by_cases e' : x = g
    · subst e'; rw [ht] at hxt; exact absurd hxt (by decide)
    · exact h3 x (by omega) hxt hne
theorem Best.take {n : Nat} {test : Nat → Bool} {g b : Nat} {s : Bool} (hn : n ≤ 7) (hg : g < 2 ^ n) (h : Best n test g b s) (ht : test g = true) (hc : s = true → cmpG g b < 0) : Best n test (g + 1) g true := by
  refine ⟨fun e => absurd e (by decide), fun _ => ⟨by omega, ht, fun x hx hxt hne => ?_⟩⟩
  cases s with
  | false =>
    have := (h.no rfl).2 x (by omega)
    rw [this] at hxt; exact absurd hxt (by decide)
  | true =>
    obtain ⟨h1, h2, h3⟩ := h.yes rfl
    have hgb : cmpG g b = -1 := by
      rcases cmp_total hn hg (show b < 2 ^ n by omega) (by omega) with k | k
      · exact k.1
      · have := hc rfl; omega
    by_cases e : x = b
    · subst e
      rcases cmp_total hn hg (show x < 2 ^ n by omega) (fun e => hne e.symm) with k | k
      · exact k.2
      · omega
    · have hxb := h3 x (by omega) hxt e
      have hbx : cmpG b x = -1 := by
        rcases cmp_total hn (show x < 2 ^ n by omega) (show b < 2 ^ n by omega) e with k | k
        · omega
        · exact k.2
      have hgx := cmp_trans hn hg (show b < 2 ^ n by omega) (show x < 2 ^ n by omega) hgb hbx
      rcases cmp_total hn (show x < 2 ^ n by omega) hg hne with k | k
      · omega
      · exact k.1
theorem Best.done {n : Nat} {test : Nat → Bool} {b : Nat} {s : Bool} (hn : n ≤ 7) (h : Best n test (2 ^ n) b s) : fewF n test = if s = true then some b else none := by
  unfold fewF
  cases s with
  | false =>
    rw [if_neg (by decide)]
    refine List.find?_eq_none.2 fun x hx => ?_
    rw [(h.no rfl).2 x (masks_lt hn hx)]
    decide
  | true =>
    obtain ⟨h1, h2, h3⟩ := h.yes rfl
    rw [if_pos rfl]
    obtain ⟨i, hi, e⟩ := List.getElem_of_mem (mem_masks hn h1)
    rw [List.find?_eq_some_iff_getElem]
    refine ⟨h2, i, hi, e, fun j hj => ?_⟩
    cases ht : test (masksF n)[j] with
    | false => rfl
    | true =>
      have hs := List.pairwise_iff_getElem.1 (masks_sorted hn) j i (by omega) hi hj
      rw [e] at hs
      have hne : (masksF n)[j] ≠ b := by
        intro e'
        rw [e', cmpG_self] at hs
        exact absurd hs.1 (by decide)
      have := h3 _ (masks_lt hn (List.getElem_mem _)) ht hne
      omega

/-- The same by lists: for each size, all lists of that size in their order. -/
theorem few_groups {n : Nat} {test : Nat → Bool} {many : Nat} {l : List Nat} (_hn : n ≤ 7) (hm : many ≤ n) {a b : List (List Nat)} (hl : groupsF n many 0 = a ++ l :: b)
    (h0 : ∀ m < many, ∀ x ∈ groupsF n m 0, test (maskOf x) = false) (h1 : ∀ x ∈ a, test (maskOf x) = false) (h2 : test (maskOf l) = true) : fewF n test = some (maskOf l) := by
  have hsplit : masksF n = ((List.range many).flatMap fun m => (groupsF n m 0).map maskOf) ++ ((a.map maskOf ++ maskOf l :: b.map maskOf) ++ ((List.range' (many + 1) (n - many)).flatMap fun m => (groupsF n m 0).map maskOf)) := by
    unfold masksF
    rw [show n + 1 = many + (1 + (n - many)) by omega, List.range_add, List.flatMap_append]
    congr 1
    rw [← List.range'_eq_map_range, ← List.range'_append_1 (s := many) (m := 1) (n := n - many), List.flatMap_append]
    congr 1
    simp [hl]
  unfold fewF
  rw [hsplit, List.find?_append, List.find?_eq_none.2 ?_, Option.none_or, List.find?_append, List.find?_append, List.find?_eq_none.2 ?_, Option.none_or, List.find?_cons_of_pos h2]
  · rfl
  · intro x hx
    obtain ⟨y, hy, rfl⟩ := List.mem_map.1 hx
    rw [h1 y hy]; decide
  · intro x hx
    obtain ⟨m, hm', hx⟩ := List.mem_flatMap.1 hx
    obtain ⟨y, hy, rfl⟩ := List.mem_map.1 hx
    rw [h0 m (List.mem_range.1 hm') y hy]; decide
theorem few_none {n : Nat} {test : Nat → Bool} (h0 : ∀ m ≤ n, ∀ x ∈ groupsF n m 0, test (maskOf x) = false) : fewF n test = none := by
  unfold fewF
  refine List.find?_eq_none.2 fun x hx => ?_
  unfold masksF at hx
  obtain ⟨m, hm', hx⟩ := List.mem_flatMap.1 hx
  obtain ⟨y, hy, rfl⟩ := List.mem_map.1 hx
  rw [h0 m (by have := List.mem_range.1 hm'; omega) y hy]; decide

end Go.Proofs.YtbpfhoihfoojfaaGreatDoor

namespace Go.Proofs.YtbpfhoihfoojfaaGreatDoor

structure Fu where
  point : Int
  year : Int
  off : Int
def mtch (p y : Int) (f : Fu) : Bool := decide (f.point = p) && decide (f.year ≤ y)
/-- What field in a year means. -/
def IsField (l : List Fu) (p y : Int) : Option Fu → Prop
  | none => ∀ f ∈ l, mtch p y f = false
  | some f => f ∈ l ∧ mtch p y f = true ∧ ∀ g ∈ l, mtch p y g = true → g.year ≤ f.year
/-- No two furrows at a point in one year. -/
def OneEach (l : List Fu) : Prop := l.Pairwise fun f g => ¬ (f.point = g.point ∧ f.year = g.year)
theorem one_eq {l : List Fu} (h : OneEach l) {f g : Fu} (hf : f ∈ l) (hg : g ∈ l) (h1 : f.point = g.point) (h2 : f.year = g.year) : f = g := by
  obtain ⟨i, hi, rfl⟩ := List.getElem_of_mem hf
  obtain ⟨j, hj, rfl⟩ := List.getElem_of_mem hg
  rcases Nat.lt_trichotomy i j with e | rfl | e
  · exact absurd ⟨h1, h2⟩ (List.pairwise_iff_getElem.1 h i j hi hj e)
  · rfl
  · exact absurd ⟨h1.symm, h2.symm⟩ (List.pairwise_iff_getElem.1 h j i hj hi e)
theorem field_one {l : List Fu} (h : OneEach l) {p y : Int} : ∀ {o o' : Option Fu}, IsField l p y o → IsField l p y o' → o = o'
  | none, none, _, _ => rfl
  | none, some f, h1, h2 => by have := h1 f h2.1; rw [h2.2.1] at this; exact absurd this (by decide)
  | some f, none, h1, h2 => by have := h2 f h1.1; rw [h1.2.1] at this; exact absurd this (by decide)
  | some f, some g, h1, h2 => by
    have a1 := h1.2.2 g h2.1 h2.2.1
    have a2 := h2.2.2 f h1.1 h1.2.1
    have b1 := h1.2.1
    have b2 := h2.2.1
    unfold mtch at b1 b2
    rw [Bool.and_eq_true, decide_eq_true_eq, decide_eq_true_eq] at b1 b2
    rw [one_eq h h1.1 h2.1 (by omega) (by omega)]
theorem field_perm {l l' : List Fu} (h : l.Perm l') {p y : Int} {o : Option Fu} (ho : IsField l' p y o) : IsField l p y o := by
  cases o with
  | none => exact fun f hf => ho f (h.mem_iff.1 hf)
  | some f => exact ⟨h.mem_iff.2 ho.1, ho.2.1, fun g hg => ho.2.2 g (h.mem_iff.1 hg)⟩

/-- The last one in the order of years (the program's). -/
def lastF (p y : Int) (l : List Fu) : Option Fu := l.foldl (fun o f => if mtch p y f = true then some f else o) none
theorem lastF_snoc (p y : Int) (l : List Fu) (f : Fu) : lastF p y (l ++ [f]) = if mtch p y f = true then some f else lastF p y l := by
  unfold lastF; rw [List.foldl_append]; rfl
theorem last_field {p y : Int} : ∀ {l : List Fu}, l.Pairwise (fun f g => f.year ≤ g.year) → IsField l p y (lastF p y l) := by
  intro l
  have key : ∀ r : List Fu, r.reverse.Pairwise (fun f g => f.year ≤ g.year) → IsField r.reverse p y (lastF p y r.reverse) := by
    intro r
    induction r with
    | nil => intro _ f hf; simp at hf
    | cons a r ih =>
      intro h
      rw [List.reverse_cons] at h ⊢
      obtain ⟨h1, -, h3⟩ := List.pairwise_append.1 h
      have ih := ih h1
      rw [lastF_snoc]
      by_cases hm : mtch p y a = true
      · rw [if_pos hm]
        refine ⟨by simp, hm, fun g hg _ => ?_⟩
        rcases List.mem_append.1 hg with hg | hg
        · exact h3 g hg a (by simp)
        · rw [List.mem_singleton] at hg; subst hg; omega
      · rw [if_neg hm]
        have hm' : mtch p y a = false := by simpa using hm
        revert ih
        cases lastF p y r.reverse with
        | none =>
          intro ih f hf
          rcases List.mem_append.1 hf with hf | hf
          · exact ih f hf
          · rw [List.mem_singleton] at hf; subst hf; exact hm'
        | some f =>
          intro ih
          refine ⟨List.mem_append_left _ ih.1, ih.2.1, fun g hg hgm => ?_⟩
          rcases List.mem_append.1 hg with hg | hg
          · exact ih.2.2 g hg hgm
          · rw [List.mem_singleton] at hg; subst hg; rw [hm'] at hgm; exact absurd hgm (by decide)
  intro h
  have := key l.reverse (by rw [List.reverse_reverse]; exact h)
  rwa [List.reverse_reverse] at this

/-- The one of the latest year (the reference's). -/
def newF (p y : Int) (l : List Fu) : Option Fu := l.foldl (fun o f => if mtch p y f = true ∧ (∀ g, o = some g → g.year < f.year) then some f else o) none
def newB (p y : Int) (o : Option Fu) (f : Fu) : Bool := mtch p y f && (match o with | none => true | some g => decide (g.year < f.year))
def newG (p y : Int) (l : List Fu) : Option Fu := l.foldl (fun o f => if newB p y o f = true then some f else o) none
theorem newG_snoc (p y : Int) (l : List Fu) (f : Fu) : newG p y (l ++ [f]) = if newB p y (newG p y l) f = true then some f else newG p y l := by
  unfold newG; rw [List.foldl_append]; rfl
theorem new_field {p y : Int} (l : List Fu) : IsField l p y (newG p y l) := by
  have key : ∀ r : List Fu, IsField r.reverse p y (newG p y r.reverse) := by
    intro r
    induction r with
    | nil => intro f hf; simp at hf
    | cons a r ih =>
      rw [List.reverse_cons, newG_snoc]
      revert ih
      generalize newG p y r.reverse = o
      intro ih
      by_cases hm : mtch p y a = true
      · cases o with
        | none =>
          rw [if_pos (by unfold newB; rw [hm]; rfl)]
          refine ⟨by simp, hm, fun g hg hgm => ?_⟩
          rcases List.mem_append.1 hg with hg | hg
          · rw [ih g hg] at hgm; exact absurd hgm (by decide)
          · rw [List.mem_singleton] at hg; subst hg; omega
        | some f =>
          by_cases hy : f.year < a.year
          · rw [if_pos (by unfold newB; rw [hm]; simpa using hy)]
            refine ⟨by simp, hm, fun g hg hgm => ?_⟩
            rcases List.mem_append.1 hg with hg | hg
            · have := ih.2.2 g hg hgm; omega
            · rw [List.mem_singleton] at hg; subst hg; omega
          · rw [if_neg (by unfold newB; rw [hm]; simpa using hy)]
            refine ⟨List.mem_append_left _ ih.1, ih.2.1, fun g hg hgm => ?_⟩
            rcases List.mem_append.1 hg with hg | hg
            · exact ih.2.2 g hg hgm
            · rw [List.mem_singleton] at hg; subst hg; omega
      · have hm' : mtch p y a = false := by simpa using hm
        rw [if_neg (by unfold newB; rw [hm']; simp)]
        cases o with
        | none =>
          intro f hf
          rcases List.mem_append.1 hf with hf | hf
          · exact ih f hf
          · rw [List.mem_singleton] at hf; subst hf; exact hm'
        | some f =>
          refine ⟨List.mem_append_left _ ih.1, ih.2.1, fun g hg hgm => ?_⟩
          rcases List.mem_append.1 hg with hg | hg
          · exact ih.2.2 g hg hgm
          · rw [List.mem_singleton] at hg; subst hg; rw [hm'] at hgm; exact absurd hgm (by decide)
  have := key l.reverse
  rwa [List.reverse_reverse] at this
theorem last_new {l l' : List Fu} (h : OneEach l) (hp : l.Perm l') (hs : l'.Pairwise fun f g => f.year ≤ g.year) (p y : Int) : lastF p y l' = newG p y l :=
  field_one h (field_perm hp (last_field hs)) (new_field l)

/-- How many furrows are taken at an offset. -/
def tkF : Option Fu → Int → Int
  | none, _ => 0
  | some f, n => max 0 (n - f.off)
theorem tkF_nonneg (o : Option Fu) (n : Int) : 0 ≤ tkF o n := by cases o <;> simp only [tkF] <;> omega
theorem tkF_mono (o : Option Fu) {a b : Int} (h : a ≤ b) : tkF o a ≤ tkF o b := by cases o <;> simp only [tkF] <;> omega
theorem span_map {l : List Int} (hl : l ≠ []) {f : Int → Int} (hf : ∀ a b, a ≤ b → f a ≤ f b) : spanF (l.map f) = (f (spanF l).1, f (spanF l).2) := by
  obtain ⟨h1, h2, h3⟩ := spanF_spec hl
  refine spanF_of (List.mem_map.2 ⟨_, h2, rfl⟩) (List.mem_map.2 ⟨_, h3, rfl⟩) fun n hn => ?_
  obtain ⟨m, hm, rfl⟩ := List.mem_map.1 hn
  exact ⟨hf _ _ (h1 m hm).1, hf _ _ (h1 m hm).2⟩
/-- The least and the greatest of something that grows with all offsets: at the ends of all truths. -/
theorem span_truths {x : Edg} {s : Bs} (h : IsBnd x s) {f : (Nat → Int) → Int} (hf : ∀ a b : Nat → Int, (∀ p < x.n, a p ≤ b p) → f a ≤ f b) :
    spanF ((truthsF x).map fun t => f (atL t)) = (f (gl s), f (gh s)) := by
  refine spanF_of (List.mem_map.2 ⟨_, mem_truthsF.2 h.lo, ?_⟩) (List.mem_map.2 ⟨_, mem_truthsF.2 h.hi, ?_⟩) fun n hn => ?_
  · rw [show atL (s.map Prod.fst) = gl s from funext (atL_fst s)]
  · rw [show atL (s.map Prod.snd) = gh s from funext (atL_snd s)]
  · obtain ⟨t, ht, rfl⟩ := List.mem_map.1 hn
    have hw := h.all t (mem_truthsF.1 ht)
    rw [Within, h.len] at hw
    exact ⟨hf _ _ fun p hp => (hw p hp).1, hf _ _ fun p hp => (hw p hp).2⟩

/-- A verdict on how many of all. -/
def verdF (some all : Nat) : Int := if some = all then 1 else if some = 0 then 2 else 3
def verdE (n : Int × Int) : Int := if n.1 > 0 then 1 else if n.2 = 0 then 2 else 3
theorem verd_ends {α : Type} {l : List α} {f : α → Int} (hl : l ≠ []) (h0 : ∀ a ∈ l, 0 ≤ f a) : verdF (l.filter fun a => decide (f a > 0)).length l.length = verdE (spanF (l.map f)) := by
  obtain ⟨h1, h2, h3⟩ := spanF_spec (l := l.map f) (by simpa using hl)
  obtain ⟨a, ha, ea⟩ := List.mem_map.1 h2
  obtain ⟨b, hb, eb⟩ := List.mem_map.1 h3
  unfold verdF verdE
  by_cases hp : (spanF (l.map f)).1 > 0
  · rw [if_pos hp, if_pos]
    rw [List.filter_eq_self.2]
    intro c hc
    have := h1 _ (List.mem_map.2 ⟨c, hc, rfl⟩)
    exact decide_eq_true (by omega)
  · rw [if_neg hp, if_neg]
    · by_cases hz : (spanF (l.map f)).2 = 0
      · rw [if_pos hz, if_pos]
        rw [List.length_eq_zero_iff, List.filter_eq_nil_iff]
        intro c hc
        have := h1 _ (List.mem_map.2 ⟨c, hc, rfl⟩)
        rw [decide_eq_true_eq]
        omega
      · rw [if_neg hz, if_neg]
        rw [List.length_eq_zero_iff, List.filter_eq_nil_iff]
        intro hn
        have := hn b hb
        rw [decide_eq_true_eq, eb] at this
        have := h0 b hb
        omega
    · intro e
      have := List.length_filter_eq_length_iff.1 e a ha
      rw [decide_eq_true_eq, ea] at this
      omega

end Go.Proofs.YtbpfhoihfoojfaaGreatDoor

namespace Go.Proofs.YtbpfhoihfoojfaaGreatDoor

theorem gen_filter {cand : List Int → List Int} {keep keep' : List Int → Bool} : ∀ {k : Nat} {t : List Int}, (gen cand keep k t).filter keep' = gen cand (fun s => keep s && keep' s) k t
  | 0, t => by
    unfold gen
    by_cases h : keep t = true
    · rw [if_pos h]
      by_cases h' : keep' t = true
      · rw [if_pos (by rw [h, h']; rfl), List.filter_cons_of_pos h', List.filter_nil]
      · rw [if_neg (by rw [h]; simpa using h'), List.filter_cons_of_neg h', List.filter_nil]
    · rw [if_neg h, if_neg (by simp [h]), List.filter_nil]
  | k + 1, t => by
    unfold gen
    rw [List.filter_flatMap]
    congr 1
    funext n
    exact gen_filter
/-- What has fewer truths. -/
theorem truths_filter {x y : Edg} (hn : x.points = y.points) (h : ∀ t, isT x t = true → isT y t = true) : truthsF x = (truthsF y).filter (isT x) := by
  unfold truthsF
  rw [gen_filter, show y.n = x.n by unfold Edg.n; rw [hn]]
  congr 1
  funext t
  cases h1 : isT x t with
  | false => simp
  | true => rw [h t h1]; rfl
theorem isT_claims {x y : Edg} (hp : x.points = y.points) (hb : x.bend = y.bend) (hc : ∀ c ∈ y.claims, c ∈ x.claims) {t : List Int} (h : isT x t = true) : isT y t = true := by
  rw [isT_iff] at h ⊢
  have hn : x.n = y.n := by unfold Edg.n; rw [hp]
  exact ⟨by rw [← hn]; exact h.len, fun p q => h.reach p (by omega), fun p q => by rw [← hb]; exact h.bend p (by omega), fun c hc' => h.claims c (hc c hc')⟩
/-- With a claim more. -/
def Edg.add (x : Edg) (c : Cl) : Edg := { x with claims := x.claims ++ [c] }
theorem truths_add (x : Edg) (c : Cl) : truthsF (x.add c) = (truthsF x).filter fun t => c.holds (atL t) := by
  rw [truths_filter (x := x.add c) (y := x) rfl fun t ht => isT_claims (x := x.add c) (y := x) rfl rfl (fun c' h => List.mem_append_left _ h) ht]
  refine List.filter_congr fun t ht => ?_
  have hx := mem_truthsF.1 ht
  rw [Bool.eq_iff_iff, isT_iff]
  constructor
  · exact fun h => h.claims c (List.mem_append_right _ (List.mem_singleton.2 rfl))
  · exact fun h => ⟨hx.len, hx.reach, hx.bend, fun c' hc' => by
      rcases List.mem_append.1 hc' with h' | h'
      · exact hx.claims c' h'
      · rw [List.mem_singleton] at h'; rw [h']; exact h⟩

/-- Where truths answer to truths, one to one. -/
theorem truths_map {x y : Edg} {f : List Int → List Int} (hxy : ∀ t, IsT x t → IsT y (f t)) (hyx : ∀ t, IsT y t → IsT x (f t)) (hff : ∀ t, IsT x t → f (f t) = t) (hff' : ∀ t, IsT y t → f (f t) = t) : ((truthsF x).map f).Perm (truthsF y) := by
  refine (List.perm_ext_iff_of_nodup ?_ (truthsF_nodup y)).2 fun t => ?_
  · refine List.Pairwise.map _ (R := fun a b => a ≠ b ∧ IsT x a ∧ IsT x b) ?_ ?_
    · rintro a b ⟨h1, h2, h3⟩ e
      exact h1 (by rw [← hff a h2, ← hff b h3, e])
    · exact (truthsF_nodup x).imp_of_mem fun ha hb h => ⟨h, mem_truthsF.1 ha, mem_truthsF.1 hb⟩
  · rw [List.mem_map, mem_truthsF]
    constructor
    · rintro ⟨s, hs, rfl⟩
      exact hxy s (mem_truthsF.1 hs)
    · exact fun h => ⟨f t, mem_truthsF.2 (hyx t h), hff' t h⟩
theorem truths_count {x y : Edg} {f : List Int → List Int} (hxy : ∀ t, IsT x t → IsT y (f t)) (hyx : ∀ t, IsT y t → IsT x (f t)) (hff : ∀ t, IsT x t → f (f t) = t) (hff' : ∀ t, IsT y t → f (f t) = t) : (truthsF x).length = (truthsF y).length := by
  have := (truths_map hxy hyx hff hff').length_eq
  rwa [List.length_map] at this

/-! Offsets turned about. -/
def mirC (c : Cl) : Cl :=
  if c.kind = 5 then ⟨5, c.other, c.point, c.off, c.err⟩
  else if c.kind = 3 then ⟨4, c.point, c.other, 9 - c.off, c.err⟩
  else if c.kind = 4 then ⟨3, c.point, c.other, 9 - c.off, c.err⟩
  else ⟨c.kind, c.point, c.other, 9 - c.off, c.err⟩
def mirX (x : Edg) : Edg := { x with claims := x.claims.map mirC }
def mirT (t : List Int) : List Int := t.map fun n => 9 - n
theorem atL_mir {t : List Int} {p : Nat} (h : p < t.length) : atL (mirT t) p = 9 - atL t p := by
  rw [atL_at h, atL_at (by unfold mirT; simpa using h)]
  unfold mirT
  rw [List.getElem_map]
theorem mirT_mirT (t : List Int) : mirT (mirT t) = t := by
  unfold mirT
  rw [List.map_map]
  conv => rhs; rw [← List.map_id t]
  refine List.map_congr_left fun n _ => ?_
  simp only [Function.comp, id]
  omega
theorem mirC_holds {P : Int} {c : Cl} (h : c.Ok P) {f g : Nat → Int} (hf : g c.point.toNat = 9 - f c.point.toNat) (hg : c.kind = 5 → g c.other.toNat = 9 - f c.other.toNat) : (mirC c).holds g = c.holds f := by
  have hk := h.k
  rw [Bool.eq_iff_iff]
  unfold mirC
  by_cases k5 : c.kind = 5
  · have hg := hg k5
    rw [if_pos k5]
    simp only [Cl.holds, k5]
    simp only [show ¬ ((5 : Int) = 1) by decide, show ¬ ((5 : Int) = 2) by decide, show ¬ ((5 : Int) = 3) by decide, show ¬ ((5 : Int) = 4) by decide, if_false, decide_eq_true_eq]
    omega
  · rw [if_neg k5]
    by_cases k3 : c.kind = 3
    · rw [if_pos k3]
      simp only [Cl.holds, k3]
      simp only [show ¬ ((4 : Int) = 1) by decide, show ¬ ((4 : Int) = 2) by decide, show ¬ ((4 : Int) = 3) by decide, show ¬ ((3 : Int) = 1) by decide, show ¬ ((3 : Int) = 2) by decide, if_false, if_true, decide_eq_true_eq]
      omega
    · rw [if_neg k3]
      by_cases k4 : c.kind = 4
      · rw [if_pos k4]
        simp only [Cl.holds, k4]
        simp only [show ¬ ((4 : Int) = 1) by decide, show ¬ ((4 : Int) = 2) by decide, show ¬ ((4 : Int) = 3) by decide, show ¬ ((3 : Int) = 1) by decide, show ¬ ((3 : Int) = 2) by decide, if_false, if_true, decide_eq_true_eq]
        omega
      · rw [if_neg k4]
        have k12 : c.kind = 1 ∨ c.kind = 2 := by omega
        rcases k12 with k | k
        · simp only [Cl.holds, k, if_true, decide_eq_true_eq]
          omega
        · simp only [Cl.holds, k, show ¬ ((2 : Int) = 1) by decide, if_false, if_true, btwB_iff]
          omega
theorem mir_truth {x : Edg} (hx : x.Ok) {t : List Int} (h : IsT x t) : IsT (mirX x) (mirT t) := by
  have hp := hx.p
  have hn : (x.n : Int) = x.points := by unfold Edg.n; omega
  have hl := h.len
  refine ⟨by unfold mirT; rw [List.length_map]; exact hl, fun p q => ?_, fun p q => ?_, fun c hc => ?_⟩
  · have q : p < x.n := q
    rw [atL_mir (by omega)]
    have := h.reach p q
    omega
  · have q : p + 1 < x.n := q
    rw [atL_mir (by omega), atL_mir (by omega)]
    have := h.bend p q
    have e : (mirX x).bend = x.bend := rfl
    rw [e]
    omega
  · obtain ⟨c', hc', rfl⟩ := List.mem_map.1 hc
    have hok := hx.c c' hc'
    have hpt := hok.p
    have hot := hok.o
    rw [mirC_holds hok (f := atL t) (atL_mir (by omega)) fun k5 => ?_]
    · exact h.claims c' hc'
    · rw [if_pos k5] at hot
      exact atL_mir (by omega)
theorem mirC_ok {P : Int} {c : Cl} (h : c.Ok P) : (mirC c).Ok P := by
  obtain ⟨h1, h2, h3, h4, h5⟩ := h
  unfold mirC
  by_cases k5 : c.kind = 5
  · rw [if_pos k5] at h3 h4
    rw [if_neg (by omega)] at h5
    rw [if_pos k5]
    exact ⟨by simp, h3.1, by simp; exact ⟨h2, fun e => h3.2 e.symm⟩, by simp; exact h4, by simp; exact h5⟩
  · rw [if_neg k5] at h3 h4
    rw [if_neg k5]
    by_cases k3 : c.kind = 3
    · rw [if_neg (by omega)] at h5
      rw [if_pos k3]
      exact ⟨by simp, h2, by simp; exact h3, by simp; omega, by simp; exact h5⟩
    · rw [if_neg k3]
      by_cases k4 : c.kind = 4
      · rw [if_neg (by omega)] at h5
        rw [if_pos k4]
        exact ⟨by simp, h2, by simp; exact h3, by simp; omega, by simp; exact h5⟩
      · rw [if_neg k4]
        exact ⟨h1, h2, by simp only [if_neg k5]; exact h3, by simp only [if_neg k5]; omega, h5⟩
theorem mirC_mirC {P : Int} {c : Cl} (h : c.Ok P) : mirC (mirC c) = c := by
  have hk := h.k
  obtain ⟨k, p, o, a, e⟩ := c
  simp only at hk
  unfold mirC
  by_cases k5 : k = 5
  · subst k5; rfl
  · by_cases k3 : k = 3
    · subst k3; simp; omega
    · by_cases k4 : k = 4
      · subst k4; simp; omega
      · simp [k5, k3, k4]; omega
theorem mirX_ok {x : Edg} (hx : x.Ok) : (mirX x).Ok := by
  refine ⟨hx.p, hx.b, by unfold mirX; simp only [List.length_map]; exact hx.m, fun c hc => ?_⟩
  obtain ⟨c', hc', rfl⟩ := List.mem_map.1 hc
  exact mirC_ok (hx.c c' hc')
theorem mirX_mirX {x : Edg} (hx : x.Ok) : mirX (mirX x) = x := by
  obtain ⟨p, b, cs⟩ := x
  unfold mirX
  simp only [List.map_map]
  congr 1
  conv => rhs; rw [← List.map_id cs]
  exact List.map_congr_left fun c hc => mirC_mirC (hx.c c hc)
theorem mir_count {x : Edg} (hx : x.Ok) : (truthsF x).length = (truthsF (mirX x)).length :=
  truths_count (f := mirT) (fun t h => mir_truth hx h) (fun t h => by have := mir_truth (mirX_ok hx) h; rwa [mirX_mirX hx] at this) (fun t _ => mirT_mirT t) fun t _ => mirT_mirT t
/-- The bounds turned about. -/
theorem mir_bnd {x : Edg} (hx : x.Ok) {s : Bs} (h : IsBnd x s) : IsBnd (mirX x) (s.map fun b => (9 - b.2, 9 - b.1)) := by
  have hl := h.len
  have e1 : (s.map fun b : Int × Int => (9 - b.2, 9 - b.1)).map Prod.fst = mirT (s.map Prod.snd) := by unfold mirT; rw [List.map_map, List.map_map]; rfl
  have e2 : (s.map fun b : Int × Int => (9 - b.2, 9 - b.1)).map Prod.snd = mirT (s.map Prod.fst) := by unfold mirT; rw [List.map_map, List.map_map]; rfl
  refine ⟨by rw [List.length_map]; exact hl, by rw [e1]; exact mir_truth hx h.hi, by rw [e2]; exact mir_truth hx h.lo, fun t ht p hp => ?_⟩
  rw [List.length_map] at hp
  have h1 := mir_truth (mirX_ok hx) ht
  rw [mirX_mirX hx] at h1
  have h2 := h.all _ h1 p hp
  have htl : t.length = x.n := ht.len
  rw [atL_mir (by omega)] at h2
  rw [← atL_fst, ← atL_snd, e1, e2, atL_mir (by rw [List.length_map]; exact hp), atL_mir (by rw [List.length_map]; exact hp), atL_fst, atL_snd]
  omega

end Go.Proofs.YtbpfhoihfoojfaaGreatDoor

namespace Go.Proofs.YtbpfhoihfoojfaaGreatDoor

/-- Some claims alone. -/
def keepL (keep : Nat → Bool) (l : List Cl) (k : Nat) : List Cl := ((l.zipIdx k).filter fun c => keep c.2).map Prod.fst
def partF (x : Edg) (keep : Nat → Bool) : Edg := { x with claims := keepL keep x.claims 0 }
theorem keepL_nil (keep : Nat → Bool) (k : Nat) : keepL keep [] k = [] := rfl
theorem keepL_cons (keep : Nat → Bool) (c : Cl) (l : List Cl) (k : Nat) : keepL keep (c :: l) k = (if keep k = true then [c] else []) ++ keepL keep l (k + 1) := by
  unfold keepL
  rw [List.zipIdx_cons]
  by_cases h : keep k = true
  · rw [List.filter_cons_of_pos (p := fun c : Cl × Nat => keep c.2) h, if_pos h]; rfl
  · rw [List.filter_cons_of_neg (p := fun c : Cl × Nat => keep c.2) h, if_neg h]; rfl
theorem keepL_snoc (keep : Nat → Bool) (c : Cl) : ∀ (l : List Cl) (k : Nat), keepL keep (l ++ [c]) k = keepL keep l k ++ (if keep (k + l.length) = true then [c] else [])
  | [], k => by rw [List.nil_append, keepL_cons, keepL_nil, List.append_nil]; rfl
  | a :: l, k => by
    rw [List.cons_append, keepL_cons, keepL_cons, keepL_snoc keep c l (k + 1), List.append_assoc, show k + 1 + l.length = k + (a :: l).length by simp; omega]
theorem mem_keepL {keep : Nat → Bool} {c : Cl} : ∀ {l : List Cl} {k : Nat}, c ∈ keepL keep l k ↔ ∃ i, ∃ h : i < l.length, l[i] = c ∧ keep (k + i) = true
  | [], k => by simp [keepL_nil]
  | a :: l, k => by
    rw [keepL_cons, List.mem_append, mem_keepL]
    constructor
    · rintro (h | ⟨i, hi, h1, h2⟩)
      · split at h
        · rw [List.mem_singleton] at h
          exact ⟨0, by simp, h.symm, by assumption⟩
        · simp at h
      · exact ⟨i + 1, by simpa using hi, h1, by rw [← h2]; congr 1; omega⟩
    · rintro ⟨i, hi, h1, h2⟩
      cases i with
      | zero => left; rw [if_pos (show keep k = true from h2), List.mem_singleton]; exact h1.symm
      | succ i => exact .inr ⟨i, by simpa using hi, h1, by rw [← h2]; congr 1; omega⟩
theorem keepL_map {keep : Nat → Bool} (f : Cl → Cl) : ∀ (l : List Cl) (k : Nat), keepL keep (l.map f) k = (keepL keep l k).map f
  | [], _ => rfl
  | c :: l, k => by rw [List.map_cons, keepL_cons, keepL_cons, keepL_map f l (k + 1), List.map_append]; congr 1; split <;> rfl
theorem keepL_congr {keep keep' : Nat → Bool} : ∀ {l : List Cl} {k : Nat}, (∀ i < l.length, keep (k + i) = keep' (k + i)) → keepL keep l k = keepL keep' l k
  | [], _, _ => rfl
  | c :: l, k, h => by
    have h0 := h 0 (by simp)
    rw [keepL_cons, keepL_cons, keepL_congr fun i hi => ?_]
    · rw [show keep k = keep' k from h0]
    · have := h (i + 1) (by simpa using hi)
      rwa [show k + (i + 1) = k + 1 + i by omega] at this
theorem keepL_all : ∀ (l : List Cl) (k : Nat), keepL (fun _ => true) l k = l
  | [], _ => rfl
  | c :: l, k => by rw [keepL_cons, keepL_all l (k + 1)]; rfl
theorem keepL_none : ∀ (l : List Cl) (k : Nat), keepL (fun _ => false) l k = []
  | [], _ => rfl
  | c :: l, k => by rw [keepL_cons, keepL_none l (k + 1)]; rfl
theorem keepL_len {keep : Nat → Bool} : ∀ (l : List Cl) (k : Nat), (keepL keep l k).length ≤ l.length
  | [], _ => Nat.le_refl _
  | c :: l, k => by
    have := keepL_len (keep := keep) l (k + 1)
    rw [keepL_cons, List.length_append, List.length_cons]
    split <;> simp <;> omega
theorem partF_ok {x : Edg} (hx : x.Ok) (keep : Nat → Bool) : (partF x keep).Ok := by
  refine ⟨hx.p, hx.b, Nat.le_trans (keepL_len _ _) hx.m, fun c hc => ?_⟩
  obtain ⟨i, hi, rfl, -⟩ := mem_keepL.1 hc
  exact hx.c _ (List.getElem_mem hi)
/-- With fewer claims there are all truths, and perhaps more. -/
theorem part_sub {x : Edg} {keep keep' : Nat → Bool} (h : ∀ i < x.claims.length, keep i = true → keep' i = true) : truthsF (partF x keep') = (truthsF (partF x keep)).filter (isT (partF x keep')) :=
  truths_filter (x := partF x keep') (y := partF x keep) rfl fun t ht => isT_claims (x := partF x keep') (y := partF x keep) rfl rfl (fun c hc => by
    obtain ⟨i, hi, h1, h2⟩ := mem_keepL.1 hc
    rw [Nat.zero_add] at h2
    exact mem_keepL.2 ⟨i, hi, h1, by rw [Nat.zero_add]; exact h i hi h2⟩) ht
theorem part_le {x : Edg} {keep keep' : Nat → Bool} (h : ∀ i < x.claims.length, keep i = true → keep' i = true) : (truthsF (partF x keep')).length ≤ (truthsF (partF x keep)).length := by
  rw [part_sub h]; exact List.length_filter_le _ _
theorem part_all (x : Edg) : partF x (fun _ => true) = x := by unfold partF; rw [keepL_all]
theorem part_none_truth {x : Edg} (hx : x.Ok) : truthsF (partF x fun _ => false) ≠ [] := by
  have h : IsT (partF x fun _ => false) (List.replicate x.n 0) := by
    have e : ∀ p, atL (List.replicate x.n 0) p = 0 := fun p => by
      unfold atL
      rw [List.getD_eq_getElem?_getD, List.getElem?_replicate]
      split <;> rfl
    have hb := hx.b
    have eb : (partF x fun _ => false).bend = x.bend := rfl
    refine ⟨List.length_replicate, fun p _ => by rw [e]; omega, fun p _ => by rw [e, e, eb]; omega, fun c hc => ?_⟩
    have : c ∈ keepL (fun _ => false) x.claims 0 := hc
    rw [keepL_none] at this
    simp at this
  exact List.ne_nil_of_mem (mem_truthsF.2 h)

def hasT (x : Edg) : Bool := !(truthsF x).isEmpty
theorem hasT_iff {x : Edg} : hasT x = true ↔ truthsF x ≠ [] := by unfold hasT; cases truthsF x <;> simp
theorem hasT_sub {x : Edg} {keep keep' : Nat → Bool} (h : ∀ i < x.claims.length, keep i = true → keep' i = true) (ht : hasT (partF x keep') = true) : hasT (partF x keep) = true := by
  rw [hasT_iff] at ht ⊢
  intro e
  rw [part_sub h, e] at ht
  exact ht rfl
/-- The fewest claims that must be wrong, and the fewest that contradict each other, as masks. -/
def wrongF (x : Edg) : Option Nat := fewF x.claims.length fun g => hasT (partF x fun i => !g.testBit i)
def clashF (x : Edg) : Option Nat := fewF x.claims.length fun g => !hasT (partF x fun i => g.testBit i)
theorem few_test {n g : Nat} {test : Nat → Bool} (hn : n ≤ 7) (h : fewF n test = some g) : g < 2 ^ n ∧ test g = true := by
  unfold fewF at h
  exact ⟨masks_lt hn (List.mem_of_find?_eq_some h), List.find?_some h⟩
theorem few_some {n g : Nat} {test : Nat → Bool} (hn : n ≤ 7) (hg : g < 2 ^ n) (ht : test g = true) : ∃ b, fewF n test = some b := by
  cases h : fewF n test with
  | some b => exact ⟨b, rfl⟩
  | none =>
    unfold fewF at h
    have := List.find?_eq_none.1 h g (mem_masks hn hg)
    exact absurd ht this
theorem full_bit {n i : Nat} (h : i < n) : (2 ^ n - 1).testBit i = true := by rw [Nat.testBit_two_pow_sub_one]; exact decide_eq_true h
theorem wrong_some {x : Edg} (hx : x.Ok) : ∃ g, wrongF x = some g := by
  have hm := hx.m
  have h2 : 0 < 2 ^ x.claims.length := Nat.two_pow_pos _
  refine few_some (g := 2 ^ x.claims.length - 1) hm (by omega) ?_
  rw [hasT_iff]
  have e : partF x (fun i => !(2 ^ x.claims.length - 1).testBit i) = partF x fun _ => false := by
    unfold partF
    rw [keepL_congr fun i hi => ?_]
    rw [Nat.zero_add, full_bit hi]; rfl
  rw [e]
  exact part_none_truth hx
theorem clash_none {x : Edg} (hx : x.Ok) : clashF x = none ↔ hasT x = true := by
  have hm := hx.m
  have h2 : 0 < 2 ^ x.claims.length := Nat.two_pow_pos _
  have ef : partF x (fun i => (2 ^ x.claims.length - 1).testBit i) = x := by
    conv => rhs; rw [← part_all x]
    unfold partF
    rw [keepL_congr fun i hi => ?_]
    rw [Nat.zero_add, full_bit hi]
  constructor
  · intro h
    cases ht : hasT x with
    | true => rfl
    | false =>
      obtain ⟨b, hb⟩ := few_some (n := x.claims.length) (g := 2 ^ x.claims.length - 1) (test := fun g => !hasT (partF x fun i => g.testBit i)) hm (by omega) (by rw [ef, ht]; rfl)
      unfold clashF at h
      rw [hb] at h
      exact absurd h (by simp)
  · intro h
    cases hc : clashF x with
    | none => rfl
    | some g =>
      obtain ⟨h1, h3⟩ := few_test hm hc
      have : hasT (partF x fun i => g.testBit i) = true := hasT_sub (keep' := fun _ => true) (fun _ _ _ => rfl) (by rw [part_all]; exact h)
      rw [this] at h3
      exact absurd h3 (by decide)
theorem masks_zero (n : Nat) : ∃ t, masksF n = 0 :: t := by
  unfold masksF
  rw [List.range_succ_eq_map, List.flatMap_cons]
  exact ⟨_, rfl⟩
theorem wrong_zero {x : Edg} : wrongF x = some 0 ↔ hasT x = true := by
  have e : partF x (fun i => !(0 : Nat).testBit i) = x := by
    conv => rhs; rw [← part_all x]
    unfold partF
    rw [keepL_congr fun i hi => ?_]
    simp
  obtain ⟨t, ht⟩ := masks_zero x.claims.length
  unfold wrongF fewF
  rw [ht, List.find?_cons, e]
  cases h : hasT x with
  | true => simp
  | false =>
    simp only
    constructor
    · intro h'
      have := List.find?_some h'
      rw [e, h] at this
      exact absurd this (by decide)
    · intro h'; exact absurd h' (by decide)
/-- A clash has one of the wrong claims. -/
theorem wrong_meets {x : Edg} (hx : x.Ok) {g k : Nat} (hg : wrongF x = some g) (hk : clashF x = some k) : ∃ i, i < x.claims.length ∧ g.testBit i = true ∧ k.testBit i = true := by
  have hm := hx.m
  obtain ⟨-, h1⟩ := few_test hm hg
  obtain ⟨-, h2⟩ := few_test hm hk
  by_cases h : ∃ i, i < x.claims.length ∧ g.testBit i = true ∧ k.testBit i = true
  · exact h
  · have := hasT_sub (x := x) (keep := fun i => k.testBit i) (keep' := fun i => !g.testBit i) (fun i hi hki => by
      cases hgi : g.testBit i with
      | false => rfl
      | true => exact absurd ⟨i, hi, hgi, hki⟩ h) h1
    rw [this] at h2
    exact absurd h2 (by decide)

/-! The same of the claims turned about. -/
theorem mir_part (x : Edg) (keep : Nat → Bool) : partF (mirX x) keep = mirX (partF x keep) := by
  unfold partF mirX
  simp only [keepL_map]
theorem hasT_len {x y : Edg} (h : (truthsF x).length = (truthsF y).length) : hasT x = hasT y := by
  unfold hasT; cases hx : truthsF x <;> cases hy : truthsF y <;> simp_all
theorem mir_wrong {x : Edg} (hx : x.Ok) : wrongF (mirX x) = wrongF x := by
  unfold wrongF
  have e : (mirX x).claims.length = x.claims.length := by unfold mirX; simp
  rw [e]
  congr 1
  funext g
  rw [mir_part]
  exact (hasT_len (mir_count (partF_ok hx _))).symm

/-! Points from the other end. -/
def endC (P : Int) (c : Cl) : Cl := ⟨c.kind, P - 1 - c.point, if c.kind = 5 then P - 1 - c.other else c.other, c.off, c.err⟩
def endX (x : Edg) : Edg := { x with claims := x.claims.map (endC x.points) }
theorem atL_rev {t : List Int} {p : Nat} (h : p < t.length) : atL t.reverse p = atL t (t.length - 1 - p) := by
  rw [atL_at (by simpa using h), atL_at (by omega), List.getElem_reverse]
theorem endC_holds {P : Int} {c : Cl} (h : c.Ok P) {f g : Nat → Int} (h1 : g (P - 1 - c.point).toNat = f c.point.toNat) (h2 : c.kind = 5 → g (P - 1 - c.other).toNat = f c.other.toNat) : (endC P c).holds g = c.holds f := by
  unfold endC Cl.holds
  simp only
  by_cases k5 : c.kind = 5
  · rw [if_pos k5, h1, h2 k5]
  · have hk := h.k
    rw [if_neg k5, h1]
    by_cases k1 : c.kind = 1
    · rw [if_pos k1, if_pos k1]
    · rw [if_neg k1, if_neg k1]
      by_cases k2 : c.kind = 2
      · rw [if_pos k2, if_pos k2]
      · rw [if_neg k2, if_neg k2]
        by_cases k3 : c.kind = 3
        · rw [if_pos k3, if_pos k3]
        · rw [if_neg k3, if_neg k3, if_pos (by omega), if_pos (by omega)]
theorem end_truth {x : Edg} (hx : x.Ok) {t : List Int} (h : IsT x t) : IsT (endX x) t.reverse := by
  have hp := hx.p
  have hn : (x.n : Int) = x.points := by unfold Edg.n; omega
  have hl := h.len
  refine ⟨by rw [List.length_reverse]; exact hl, fun p q => ?_, fun p q => ?_, fun c hc => ?_⟩
  · have q : p < x.n := q
    rw [atL_rev (by omega)]
    exact h.reach _ (by omega)
  · have q : p + 1 < x.n := q
    rw [atL_rev (by omega), atL_rev (by omega)]
    have := h.bend (t.length - 1 - (p + 1)) (by omega)
    rw [show t.length - 1 - (p + 1) + 1 = t.length - 1 - p by omega] at this
    have e : (endX x).bend = x.bend := rfl
    rw [e]
    omega
  · obtain ⟨c', hc', rfl⟩ := List.mem_map.1 hc
    have hok := hx.c c' hc'
    have hpt := hok.p
    have hot := hok.o
    rw [endC_holds hok (f := atL t) ?_ fun k5 => ?_]
    · exact h.claims c' hc'
    · rw [atL_rev (by omega)]; congr 1; omega
    · rw [if_pos k5] at hot
      rw [atL_rev (by omega)]; congr 1; omega
theorem endC_ok {P : Int} {c : Cl} (h : c.Ok P) : (endC P c).Ok P := by
  obtain ⟨h1, h2, h3, h4, h5⟩ := h
  refine ⟨h1, by unfold endC; simp only; omega, ?_, h4, h5⟩
  unfold endC
  simp only
  by_cases k5 : c.kind = 5
  · rw [if_pos k5] at h3
    rw [if_pos k5, if_pos k5]
    omega
  · rw [if_neg k5] at h3
    rw [if_neg k5, if_neg k5]
    exact h3
theorem endC_endC (P : Int) (c : Cl) : endC P (endC P c) = c := by
  obtain ⟨k, p, o, a, e⟩ := c
  unfold endC
  simp only
  congr 1
  · omega
  · split <;> omega
theorem endX_ok {x : Edg} (hx : x.Ok) : (endX x).Ok := by
  refine ⟨hx.p, hx.b, by unfold endX; simp only [List.length_map]; exact hx.m, fun c hc => ?_⟩
  obtain ⟨c', hc', rfl⟩ := List.mem_map.1 hc
  exact endC_ok (hx.c c' hc')
theorem endX_endX (x : Edg) : endX (endX x) = x := by
  obtain ⟨p, b, cs⟩ := x
  unfold endX
  simp only [List.map_map]
  congr 1
  conv => rhs; rw [← List.map_id cs]
  exact List.map_congr_left fun c _ => endC_endC p c
theorem end_count {x : Edg} (hx : x.Ok) : (truthsF x).length = (truthsF (endX x)).length :=
  truths_count (f := List.reverse) (fun t h => end_truth hx h) (fun t h => by have := end_truth (endX_ok hx) h; rwa [endX_endX] at this) (fun t _ => List.reverse_reverse t) fun t _ => List.reverse_reverse t
theorem end_part (x : Edg) (keep : Nat → Bool) : partF (endX x) keep = endX (partF x keep) := by
  unfold partF endX
  simp only [keepL_map]
theorem end_wrong {x : Edg} (hx : x.Ok) : wrongF (endX x) = wrongF x := by
  unfold wrongF
  have e : (endX x).claims.length = x.claims.length := by unfold endX; simp
  rw [e]
  congr 1
  funext g
  rw [end_part]
  exact (hasT_len (end_count (partF_ok hx _))).symm
theorem end_bnd {x : Edg} (hx : x.Ok) {s : Bs} (h : IsBnd x s) : IsBnd (endX x) s.reverse := by
  have hl := h.len
  refine ⟨by rw [List.length_reverse]; exact hl, by rw [List.map_reverse]; exact end_truth hx h.lo, by rw [List.map_reverse]; exact end_truth hx h.hi, fun t ht p hp => ?_⟩
  rw [List.length_reverse] at hp
  have h1 := end_truth (endX_ok hx) ht
  rw [endX_endX] at h1
  have htl : t.length = x.n := ht.len
  have h2 := h.all _ h1 (s.length - 1 - p) (by omega)
  rw [atL_rev (by omega), show t.length - 1 - (s.length - 1 - p) = p by omega] at h2
  rw [← atL_fst, ← atL_snd, List.map_reverse, List.map_reverse, atL_rev (by rw [List.length_map]; exact hp), atL_rev (by rw [List.length_map]; exact hp), List.length_map, List.length_map, atL_fst, atL_snd]
  exact h2

end Go.Proofs.YtbpfhoihfoojfaaGreatDoor

namespace Go.Proofs.YtbpfhoihfoojfaaGreatDoor

/-- Stones at all points. -/
def pinC (p : Nat) (n : Int) : Cl := ⟨1, p, 0, n, 0⟩
def pins (s : Bs) (k : Nat) : List Cl := (List.range k).map fun p => pinC p (gl s p)
theorem pins_succ (s : Bs) (k : Nat) : pins s (k + 1) = pins s k ++ [pinC k (gl s k)] := by
  unfold pins; rw [List.range_succ, List.map_append]; rfl
theorem pinC_holds {p : Nat} {n : Int} {t : Nat → Int} : (pinC p n).holds t = true ↔ t p = n := by
  unfold pinC Cl.holds
  simp
theorem only_one {α : Type} {l : List α} {a : α} (h : l.Nodup) (hm : ∀ b, b ∈ l ↔ b = a) : l = [a] := by
  cases l with
  | nil => exact absurd ((hm a).2 rfl) (by simp)
  | cons b l =>
    have hb := (hm b).1 (by simp)
    subst hb
    cases l with
    | nil => rfl
    | cons c l =>
      have hc := (hm c).1 (by simp)
      subst hc
      simp at h
theorem atL_ext {t u : List Int} (hl : t.length = u.length) (h : ∀ p < t.length, atL t p = atL u p) : t = u := by
  refine List.ext_getElem hl fun p h1 h2 => ?_
  have := h p h1
  rwa [atL_at h1, atL_at h2] at this
theorem pins_truths {x : Edg} {s : Bs} (h : IsBnd x s) : truthsF { x with claims := x.claims ++ pins s x.n } = [s.map Prod.fst] := by
  refine only_one (truthsF_nodup _) fun t => ?_
  rw [mem_truthsF]
  have hl := h.lo
  constructor
  · intro ht
    have hlen : t.length = x.n := ht.len
    refine atL_ext (hlen.trans hl.len.symm) fun p hp => ?_
    have := ht.claims (pinC p (gl s p)) (List.mem_append_right _ (List.mem_map.2 ⟨p, by rw [List.mem_range]; omega, rfl⟩))
    rw [pinC_holds] at this
    rw [this, atL_fst]
  · rintro rfl
    refine ⟨hl.len, hl.reach, hl.bend, fun c hc => ?_⟩
    rcases List.mem_append.1 hc with hc | hc
    · exact hl.claims c hc
    · obtain ⟨p, -, rfl⟩ := List.mem_map.1 hc
      rw [pinC_holds, atL_fst]
theorem pins_ok {x : Edg} (hx : x.Ok) (hm : x.claims.length ≤ 3) {s : Bs} (h : IsBnd x s) : Edg.Ok { x with claims := x.claims ++ pins s x.n } := by
  have hp := hx.p
  have hn : (x.n : Int) = x.points := by unfold Edg.n; omega
  refine ⟨hx.p, hx.b, ?_, fun c hc => ?_⟩
  · show (x.claims ++ pins s x.n).length ≤ 7
    rw [List.length_append, pins, List.length_map, List.length_range]; omega
  · rcases List.mem_append.1 hc with hc | hc
    · exact hx.c c hc
    · obtain ⟨p, hp', rfl⟩ := List.mem_map.1 hc
      rw [List.mem_range] at hp'
      have := h.lo.reach p hp'
      rw [atL_fst] at this
      exact ⟨by simp [pinC], by simp only [pinC]; omega, by simp [pinC], by simpa [pinC] using this, by simp [pinC]⟩

/-- A claim more. -/
theorem more_bounds {x : Edg} {c : Cl} {s s' : Bs} (h : IsBnd x s) (h' : IsBnd (x.add c) s') {p : Nat} (hp : p < x.n) : gl s p ≤ gl s' p ∧ gh s' p ≤ gh s p := by
  have key : ∀ t, IsT (x.add c) t → IsT x t := fun t ht => isT_iff.1 (isT_claims (x := x.add c) (y := x) rfl rfl (fun c' hc => List.mem_append_left _ hc) (isT_iff.2 ht))
  have hl := h.len
  have h1 := h.all _ (key _ h'.lo) p (by omega)
  have h2 := h.all _ (key _ h'.hi) p (by omega)
  rw [atL_fst] at h1
  rw [atL_snd] at h2
  omega
theorem more_count (x : Edg) (c : Cl) : (truthsF (x.add c)).length ≤ (truthsF x).length := by
  rw [truths_add]; exact List.length_filter_le _ _
theorem verdF_self (n : Nat) : verdF n n = 1 := by unfold verdF; rw [if_pos rfl]
theorem more_own (x : Edg) (c : Cl) : verdF ((truthsF (x.add c)).filter fun t => c.holds (atL t)).length (truthsF (x.add c)).length = 1 := by
  rw [truths_add, List.filter_filter]
  simp only [Bool.and_self]
  exact verdF_self _
theorem more_verd {α : Type} {l l' : List α} (hs : ∀ a ∈ l', a ∈ l) {q : α → Bool} (hl : l' ≠ []) (hv : verdF (l.filter q).length l.length ≠ 3) : verdF (l'.filter q).length l'.length = verdF (l.filter q).length l.length := by
  have h0 : 0 < l'.length := by cases l' with | nil => exact absurd rfl hl | cons => simp
  by_cases h1 : (l.filter q).length = l.length
  · have hq : ∀ a ∈ l, q a = true := by
      have e := List.filter_eq_self (l := l) (p := q)
      exact e.1 (List.filter_sublist.eq_of_length h1)
    have : l'.filter q = l' := List.filter_eq_self.2 fun a ha => hq a (hs a ha)
    rw [this, verdF_self, h1, verdF_self]
  · by_cases h2 : (l.filter q).length = 0
    · have hq : ∀ a ∈ l, ¬ q a = true := List.filter_eq_nil_iff.1 (List.length_eq_zero_iff.1 h2)
      have : l'.filter q = [] := List.filter_eq_nil_iff.2 fun a ha => hq a (hs a ha)
      rw [this]
      unfold verdF
      rw [if_neg h1, if_pos h2, if_neg (by simp; omega), if_pos List.length_nil]
    · exact absurd (by unfold verdF; rw [if_neg h1, if_neg h2]) hv
theorem more_ends {a b a' b' : Int} (h : a ≤ a') (h' : b' ≤ b) (h0 : 0 ≤ a) (hab : a' ≤ b') (hv : verdE (a, b) ≠ 3) : verdE (a', b') = verdE (a, b) := by
  unfold verdE at hv ⊢
  simp only at hv ⊢
  by_cases h1 : a > 0
  · rw [if_pos h1, if_pos (by omega)]
  · by_cases h2 : b = 0
    · rw [if_neg h1, if_pos h2, if_neg (by omega), if_pos (by omega)]
    · rw [if_neg h1, if_neg h2] at hv; exact absurd rfl hv

/-- Year by year: upwards the first year, downwards the last one that is seen. -/
def upY (q : Nat → Bool) : Nat → Int
  | 0 => -1
  | k + 1 => if upY q k < 0 ∧ q k = true then k else upY q k
def downY (q : Nat → Bool) (n : Nat) : Nat → Int
  | 0 => -1
  | k + 1 => if q (n - 1 - k) = true then ((n - 1 - k : Nat) : Int) else downY q n k
/-- The first year in which something is so; -1 where there is none. -/
def IsY (q : Nat → Bool) (a b : Nat) (y : Int) : Prop := (y = -1 ∧ ∀ i, a ≤ i → i < b → q i = false) ∨ (∃ k : Nat, y = k ∧ a ≤ k ∧ k < b ∧ q k = true ∧ ∀ i, a ≤ i → i < k → q i = false)
theorem IsY.eq {q : Nat → Bool} {a b : Nat} {y z : Int} (h : IsY q a b y) (g : IsY q a b z) : y = z := by
  rcases h with ⟨h1, h2⟩ | ⟨k, rfl, h1, h2, h3, h4⟩ <;> rcases g with ⟨g1, g2⟩ | ⟨j, rfl, g1, g2, g3, g4⟩
  · rw [h1, g1]
  · rw [h2 j g1 g2] at g3; exact absurd g3 (by decide)
  · rw [g2 k h1 h2] at h3; exact absurd h3 (by decide)
  · rcases Nat.lt_trichotomy k j with h | h | h
    · rw [g4 k h1 h] at h3; exact absurd h3 (by decide)
    · rw [h]
    · rw [h4 j g1 h] at g3; exact absurd g3 (by decide)
theorem upY_is (q : Nat → Bool) : ∀ k, IsY q 0 k (upY q k)
  | 0 => .inl ⟨rfl, fun i _ h => absurd h (by omega)⟩
  | k + 1 => by
    unfold upY
    rcases upY_is q k with ⟨h1, h2⟩ | ⟨j, h1, h2, h3, h4, h5⟩
    · by_cases hq : q k = true
      · rw [if_pos ⟨by omega, hq⟩]
        exact .inr ⟨k, rfl, by omega, by omega, hq, h2⟩
      · rw [if_neg fun h => hq h.2]
        refine .inl ⟨h1, fun i _ hi => ?_⟩
        by_cases e : i = k
        · rw [e]; simpa using hq
        · exact h2 i (by omega) (by omega)
    · rw [if_neg fun h => by omega]
      exact .inr ⟨j, h1, h2, by omega, h4, h5⟩
theorem downY_is (q : Nat → Bool) (n : Nat) : ∀ k ≤ n, IsY q (n - k) n (downY q n k)
  | 0, _ => .inl ⟨rfl, fun i h h' => absurd h (by omega)⟩
  | k + 1, hk => by
    unfold downY
    by_cases hq : q (n - 1 - k) = true
    · rw [if_pos hq]
      exact .inr ⟨n - 1 - k, rfl, by omega, by omega, hq, fun i h h' => absurd h (by omega)⟩
    · rw [if_neg hq]
      have hq' : q (n - 1 - k) = false := by simpa using hq
      rcases downY_is q n k (by omega) with ⟨h1, h2⟩ | ⟨j, h1, h2, h3, h4, h5⟩
      · refine .inl ⟨h1, fun i hi hi' => ?_⟩
        by_cases e : i = n - 1 - k
        · rw [e]; exact hq'
        · exact h2 i (by omega) hi'
      · refine .inr ⟨j, h1, by omega, h3, h4, fun i hi hi' => ?_⟩
        by_cases e : i = n - 1 - k
        · rw [e]; exact hq'
        · exact h5 i (by omega) hi'
theorem years_meet (q : Nat → Bool) (n : Nat) : downY q n n = upY q n := by
  have h := downY_is q n n (Nat.le_refl _)
  rw [Nat.sub_self] at h
  exact h.eq (upY_is q n)

/-- Fines of years. -/
def fineY (rate : Int) (n : Nat) (g : Int → Nat → Int) (y : Int) : Int := ((List.range n).map fun p => rate * g y p).sum
def fineF (rate : Int) (n : Nat) (g : Int → Nat → Int) (lo hi : Int) : Int := ((rng lo hi).map (fineY rate n g)).sum
theorem rng_cut {lo cut hi : Int} (h1 : lo ≤ cut + 1) (h2 : cut ≤ hi) : rng lo hi = rng lo cut ++ rng (cut + 1) hi := by
  unfold rng
  have e : (hi + 1 - lo).toNat = (cut + 1 - lo).toNat + (hi + 1 - (cut + 1)).toNat := by omega
  rw [e, List.range_add, List.map_append, List.map_map]
  congr 1
  refine List.map_congr_left fun i _ => ?_
  simp only [Function.comp]
  omega
theorem rng_one (a : Int) : rng a a = [a] := by
  unfold rng
  rw [show (a + 1 - a).toNat = 1 by omega]
  simp
theorem rng_none {lo hi : Int} (h : hi < lo) : rng lo hi = [] := by
  unfold rng
  rw [show (hi + 1 - lo).toNat = 0 by omega]; rfl
theorem rng_snoc {lo hi : Int} (h : lo ≤ hi + 1) : rng lo (hi + 1) = rng lo hi ++ [hi + 1] := by
  rw [rng_cut (cut := hi) h (by omega), rng_one]
theorem fine_cut {rate : Int} {n : Nat} {g : Int → Nat → Int} {lo cut hi : Int} (h1 : lo ≤ cut + 1) (h2 : cut ≤ hi) : fineF rate n g lo hi = fineF rate n g lo cut + fineF rate n g (cut + 1) hi := by
  unfold fineF
  rw [rng_cut h1 h2, List.map_append, List.sum_append]
theorem fine_one (rate : Int) (n : Nat) (g : Int → Nat → Int) (a : Int) : fineF rate n g a a = fineY rate n g a := by
  unfold fineF
  rw [rng_one]; simp
theorem sum_mono {α : Type} {f g : α → Int} : ∀ {l : List α}, (∀ a ∈ l, f a ≤ g a) → (l.map f).sum ≤ (l.map g).sum
  | [], _ => Int.le_refl _
  | a :: l, h => by
    have h1 := h a (by simp)
    have h2 := sum_mono (f := f) (g := g) (l := l) fun b hb => h b (by simp [hb])
    simp only [List.map_cons, List.sum_cons]
    omega
theorem fine_mono {rate : Int} (hr : 0 ≤ rate) {n : Nat} {g k : Int → Nat → Int} {lo hi : Int} (h : ∀ y, ∀ p < n, g y p ≤ k y p) : fineF rate n g lo hi ≤ fineF rate n k lo hi :=
  sum_mono fun y _ => sum_mono fun p hp => Int.mul_le_mul_of_nonneg_left (h y p (List.mem_range.1 hp)) hr
/-- The least and the greatest fine over all truths: those of the bounds. -/
theorem fine_truths {x : Edg} {s : Bs} (h : IsBnd x s) {rate : Int} (hr : 0 ≤ rate) {fu : Int → Nat → Option Fu} {lo hi : Int} :
    spanF ((truthsF x).map fun t => fineF rate x.n (fun y p => tkF (fu y p) (atL t p)) lo hi) = (fineF rate x.n (fun y p => tkF (fu y p) (gl s p)) lo hi, fineF rate x.n (fun y p => tkF (fu y p) (gh s p)) lo hi) :=
  span_truths h (f := fun t => fineF rate x.n (fun y p => tkF (fu y p) (t p)) lo hi) fun _ _ hab => fine_mono hr fun _ p hp => tkF_mono _ (hab p hp)

/-- Furrows from the other end. -/
def endFu (P : Int) (f : Fu) : Fu := { f with point := P - 1 - f.point }
theorem mtch_end (P p y : Int) (f : Fu) : mtch (P - 1 - p) y (endFu P f) = mtch p y f := by
  unfold mtch endFu
  simp only
  congr 1
  rw [Bool.eq_iff_iff, decide_eq_true_iff, decide_eq_true_iff]
  omega
theorem newB_end (P p y : Int) (o : Option Fu) (f : Fu) : newB (P - 1 - p) y (o.map (endFu P)) (endFu P f) = newB p y o f := by
  unfold newB
  rw [mtch_end]
  cases o <;> rfl
theorem newG_end (P p y : Int) (l : List Fu) : newG (P - 1 - p) y (l.map (endFu P)) = (newG p y l).map (endFu P) := by
  have key : ∀ r : List Fu, newG (P - 1 - p) y (r.reverse.map (endFu P)) = (newG p y r.reverse).map (endFu P) := by
    intro r
    induction r with
    | nil => rfl
    | cons f r ih =>
      rw [List.reverse_cons, List.map_append, List.map_cons, List.map_nil, newG_snoc, newG_snoc, ih, newB_end]
      split <;> rfl
  have := key l.reverse
  rwa [List.reverse_reverse] at this
theorem tkF_end (P : Int) (o : Option Fu) (n : Int) : tkF (o.map (endFu P)) n = tkF o n := by cases o <;> rfl

/-- The error of furrows. -/
def furE (P : Int) (pre : List Fu) : List Fu → Int
  | [] => 0
  | f :: r => if ¬ (0 ≤ f.point ∧ f.point ≤ P - 1) then 3 else if ¬ ((0 ≤ f.year ∧ f.year ≤ 30) ∧ (0 ≤ f.off ∧ f.off ≤ 9)) then 1 else if (pre.any fun g => decide (g.point = f.point) && decide (g.year = f.year)) = true then 4 else furE P (pre ++ [f]) r
def furX (P : Int) (l : List Fu) : Int := if 8 < l.length then 6 else furE P [] l
def Fu.Ok (P : Int) (f : Fu) : Prop := (0 ≤ f.point ∧ f.point ≤ P - 1) ∧ (0 ≤ f.year ∧ f.year ≤ 30) ∧ (0 ≤ f.off ∧ f.off ≤ 9)
theorem one_snoc {l : List Fu} {f : Fu} : OneEach (l ++ [f]) ↔ OneEach l ∧ ∀ g ∈ l, ¬ (g.point = f.point ∧ g.year = f.year) := by
  unfold OneEach
  rw [List.pairwise_append]
  constructor
  · exact fun h => ⟨h.1, fun g hg => h.2.2 g hg f (by simp)⟩
  · exact fun h => ⟨h.1, by simp, fun g hg f' hf' => by rw [List.mem_singleton] at hf'; rw [hf']; exact h.2 g hg⟩
theorem furE_zero {P : Int} : ∀ {l pre : List Fu}, OneEach pre → (furE P pre l = 0 ↔ (∀ f ∈ l, f.Ok P) ∧ OneEach (pre ++ l))
  | [], pre, h => by simp [furE, h]
  | f :: r, pre, h => by
    unfold furE
    by_cases h1 : 0 ≤ f.point ∧ f.point ≤ P - 1
    · rw [if_neg fun hh => hh h1]
      by_cases h2 : (0 ≤ f.year ∧ f.year ≤ 30) ∧ (0 ≤ f.off ∧ f.off ≤ 9)
      · rw [if_neg fun hh => hh h2]
        by_cases h3 : (pre.any fun g => decide (g.point = f.point) && decide (g.year = f.year)) = true
        · rw [if_pos h3]
          constructor
          · intro hh; exact absurd hh (by decide)
          · rintro ⟨-, ho⟩
            obtain ⟨g, hg, he⟩ := List.any_eq_true.1 h3
            rw [Bool.and_eq_true, decide_eq_true_iff, decide_eq_true_iff] at he
            exact absurd he ((List.pairwise_append.1 ho).2.2 g hg f (by simp))
        · rw [if_neg h3]
          have h4 : OneEach (pre ++ [f]) := one_snoc.2 ⟨h, fun g hg he => h3 (List.any_eq_true.2 ⟨g, hg, by rw [Bool.and_eq_true, decide_eq_true_iff, decide_eq_true_iff]; exact he⟩)⟩
          rw [furE_zero h4, List.append_assoc, List.singleton_append]
          constructor
          · exact fun hh => ⟨fun g hg => by rcases List.mem_cons.1 hg with rfl | hg'; exact ⟨h1, h2⟩; exact hh.1 g hg', hh.2⟩
          · exact fun hh => ⟨fun g hg => hh.1 g (by simp [hg]), hh.2⟩
      · rw [if_pos h2]
        constructor
        · intro hh; exact absurd hh (by decide)
        · exact fun hh => absurd (hh.1 f (by simp)).2 h2
    · rw [if_pos h1]
      constructor
      · intro hh; exact absurd hh (by decide)
      · exact fun hh => absurd (hh.1 f (by simp)).1 h1
theorem furX_zero {P : Int} {l : List Fu} : furX P l = 0 ↔ l.length ≤ 8 ∧ (∀ f ∈ l, f.Ok P) ∧ OneEach l := by
  unfold furX
  by_cases h : 8 < l.length
  · rw [if_pos h]
    constructor
    · intro hh; exact absurd hh (by decide)
    · intro hh; omega
  · rw [if_neg h, furE_zero List.Pairwise.nil, List.nil_append]
    exact ⟨fun hh => ⟨by omega, hh⟩, fun hh => hh.2⟩
theorem endFu_ok {P : Int} {l : List Fu} (h : furX P l = 0) : furX P (l.map (endFu P)) = 0 := by
  rw [furX_zero] at h ⊢
  refine ⟨by rw [List.length_map]; exact h.1, fun f hf => ?_, ?_⟩
  · obtain ⟨g, hg, rfl⟩ := List.mem_map.1 hf
    have := h.2.1 g hg
    unfold Fu.Ok at this ⊢
    simp only [endFu]
    omega
  · refine List.Pairwise.map _ (fun a b hab => ?_) h.2.2
    rintro ⟨h1, h2⟩
    simp only [endFu] at h1 h2
    exact hab ⟨by omega, h2⟩

/-- All lists of offsets. -/
def wordsF : Nat → List (List Int)
  | 0 => [[]]
  | k + 1 => (rng 0 9).flatMap fun i => (wordsF k).map (i :: ·)
theorem gen_words : ∀ (k : Nat) (t : List Int), gen (fun _ => rng 0 9) (fun _ => true) k t = (wordsF k).map (t ++ ·)
  | 0, t => by simp [gen, wordsF]
  | k + 1, t => by
    unfold gen wordsF
    rw [List.map_flatMap]
    congr 1
    funext i
    rw [gen_words k, List.map_map]
    refine List.map_congr_left fun u _ => ?_
    simp
theorem words_truths (x : Edg) : (wordsF x.n).filter (isT x) = truthsF x := by
  have h := gen_filter (cand := fun _ => rng 0 9) (keep := fun _ => true) (keep' := isT x) (k := x.n) (t := [])
  rw [gen_words] at h
  unfold truthsF
  have e : (wordsF x.n).map ([] ++ ·) = wordsF x.n := by simp
  rw [e] at h
  rw [h]
  congr 1

end Go.Proofs.YtbpfhoihfoojfaaGreatDoor

namespace Go.Proofs.YtbpfhoihfoojfaaGreatDoor

theorem but_bits : ∀ n : Fin 8, ∀ g : Fin 128, g.1 < 2 ^ n.1 → (2 ^ n.1 - 1) &&& (65535 - g.1) < 2 ^ n.1 ∧ ∀ i : Fin 7, i.1 < n.1 → ((2 ^ n.1 - 1) &&& (65535 - g.1)).testBit i.1 = !g.1.testBit i.1 := by decide +kernel
theorem less_bits : ∀ g : Fin 128, ∀ k : Fin 7, g.1.testBit k.1 = true → sizeG (g.1 - 2 ^ k.1) < sizeG g.1 ∧ ∀ i : Fin 7, (g.1 - 2 ^ k.1).testBit i.1 = (g.1.testBit i.1 && decide (i.1 ≠ k.1)) := by decide +kernel
theorem has_bit (g i : Nat) : (decide ((g >>> i) &&& 1 = 1)) = g.testBit i := by
  rw [Nat.testBit, Nat.and_comm]
  have h : 1 &&& g >>> i < 2 := Nat.lt_of_le_of_lt Nat.and_le_left (by omega)
  generalize 1 &&& g >>> i = m at h
  match m, h with
  | 0, _ => rfl
  | 1, _ => rfl
theorem pow_le_128 {n : Nat} (hn : n ≤ 7) : 2 ^ n ≤ 128 := Nat.pow_le_pow_right (by decide) hn (n := 2)
/-- All claims but a group. -/
theorem part_but {x : Edg} (hx : x.Ok) {g : Nat} (hg : g < 2 ^ x.claims.length) : partF x (fun i => ((2 ^ x.claims.length - 1) &&& (65535 - g)).testBit i) = partF x fun i => !g.testBit i := by
  have hm := hx.m
  have hp := pow_le_128 hm
  have h := (but_bits ⟨x.claims.length, by omega⟩ ⟨g, by omega⟩ hg).2
  unfold partF
  rw [keepL_congr fun i hi => ?_]
  rw [Nat.zero_add]
  exact h ⟨i, by omega⟩ hi
theorem pow_bit (i j : Nat) : (2 ^ i).testBit j = decide (i = j) := by
  rw [Nat.testBit_two_pow]
/-- All claims but one. -/
theorem part_less {x : Edg} (hx : x.Ok) {i : Nat} (hi : i < x.claims.length) : partF x (fun j => ((2 ^ x.claims.length - 1) &&& (65535 - 2 ^ i)).testBit j) = partF x fun j => decide (j ≠ i) := by
  rw [part_but hx (Nat.pow_lt_pow_right (by decide) hi)]
  congr 1
  funext j
  rw [pow_bit]
  by_cases h : i = j <;> simp [h, eq_comm]
/-- Idle claims. -/
def idleF (x : Edg) : List Nat := (List.range x.claims.length).filter fun i => (truthsF (partF x fun j => decide (j ≠ i))).length == (truthsF x).length
theorem idle_le (x : Edg) (i : Nat) : (truthsF x).length ≤ (truthsF (partF x fun j => decide (j ≠ i))).length := by
  have h := part_le (x := x) (keep := fun j => decide (j ≠ i)) (keep' := fun _ => true) fun _ _ _ => rfl
  rwa [part_all] at h
/-- What comes before the first that passes, passes not. -/
theorem few_before {n g h : Nat} {test : Nat → Bool} (hn : n ≤ 7) (hf : fewF n test = some g) (hh : h < 2 ^ n) (hc : cmpG h g = -1) : test h = false := by
  unfold fewF at hf
  obtain ⟨ht, a, b, e, ha⟩ := List.find?_eq_some_iff_append.1 hf
  have hm := mem_masks hn hh
  have hs := masks_sorted hn
  rw [e] at hm hs
  rcases List.mem_append.1 hm with h1 | h1
  · simpa using ha h h1
  · rcases List.mem_cons.1 h1 with h2 | h2
    · rw [h2, cmpG_self] at hc; exact absurd hc (by decide)
    · have := (List.pairwise_cons.1 (List.pairwise_append.1 hs).2.1).1 h h2
      rw [this.2] at hc; exact absurd hc (by decide)
theorem cmp_size {a b : Nat} (h : sizeG a < sizeG b) : cmpG a b = -1 := by
  unfold cmpG cmpN
  rw [if_pos h, if_pos (by decide)]
/-- Without any one claim of a smallest clash there is a truth. -/
theorem clash_less {x : Edg} (hx : x.Ok) {g k : Nat} (hg : clashF x = some g) (hk : g.testBit k = true) : hasT (partF x fun i => g.testBit i && decide (i ≠ k)) = true := by
  have hm := hx.m
  have hp := pow_le_128 hm
  obtain ⟨hlt, -⟩ := few_test hm hg
  have hk7 : k < x.claims.length := by
    rcases Nat.lt_or_ge k x.claims.length with h | h
    · exact h
    · rw [Nat.testBit_lt_two_pow (Nat.lt_of_lt_of_le hlt (Nat.pow_le_pow_right (by decide) h))] at hk
      exact absurd hk (by decide)
  obtain ⟨h1, h2⟩ := less_bits ⟨g, by omega⟩ ⟨k, by omega⟩ hk
  have h3 := few_before hm hg (h := g - 2 ^ k) (Nat.lt_of_le_of_lt (Nat.sub_le _ _) hlt) (cmp_size h1)
  have h4 : hasT (partF x fun i => (g - 2 ^ k).testBit i) = true := by simpa using h3
  have e : partF x (fun i => (g - 2 ^ k).testBit i) = partF x fun i => g.testBit i && decide (i ≠ k) := by
    unfold partF
    rw [keepL_congr fun i hi => ?_]
    rw [Nat.zero_add]
    exact h2 ⟨i, by omega⟩
  rwa [e] at h4

end Go.Proofs.YtbpfhoihfoojfaaGreatDoor

namespace Go.Proofs.YtbpfhoihfoojfaaGreatDoor

def countX (x : Edg) : Int × Int := if checkX x ≠ 0 then (0, checkX x) else (((truthsF x).length : Int), 0)
def boundsX (x : Edg) : List (Int × Int) × Int :=
  if checkX x ≠ 0 then ([], checkX x) else match bndF x with
    | none => ([], 12)
    | some s => (s, 0)
def ptB (x : Edg) (a : Int) : Bool := btwB a 0 (x.points - 1)
def apartX (x : Edg) (a b : Int) : (Int × Int) × Int :=
  if checkX x ≠ 0 then ((0, 0), checkX x)
  else if ¬ (ptB x a = true ∧ ptB x b = true) then ((0, 0), 3)
  else if hasT x = false then ((0, 0), 12)
  else (spanF ((truthsF x).map fun t => atL t a.toNat - atL t b.toNat), 0)
def askedX (x : Edg) (c : Cl) : Int := if checkX x ≠ 0 then checkX x else claimE x.points c
def followsX (x : Edg) (c : Cl) : Int × Int :=
  if askedX x c ≠ 0 then (0, askedX x c)
  else if hasT x = false then (0, 12)
  else (verdF ((truthsF x).filter fun t => c.holds (atL t)).length (truthsF x).length, 0)
def noE : Edg := ⟨0, 0, []⟩
def addX (x : Edg) (c : Cl) : Edg × Int :=
  if askedX x c ≠ 0 then (noE, askedX x c)
  else if 7 ≤ x.claims.length then (noE, 6)
  else if hasT (x.add c) = false then (noE, 12)
  else (x.add c, 0)
def wrongX (x : Edg) : List Nat × Int := if checkX x ≠ 0 then ([], checkX x) else (maskL ((wrongF x).getD 0), 0)
def clashX (x : Edg) : List Nat × Int :=
  if checkX x ≠ 0 then ([], checkX x) else match clashF x with
    | none => ([], 11)
    | some g => (maskL g, 0)
def idleX (x : Edg) : List Nat × Int := if checkX x ≠ 0 then ([], checkX x) else (idleF x, 0)
def bothX (x : Edg) (l : List Fu) : Int := if checkX x ≠ 0 then checkX x else furX x.points l
def tkE (l : List Fu) (s : Bs) (p : Nat) (y : Int) : Int × Int := (tkF (newG p y l) (gl s p), tkF (newG p y l) (gh s p))
def takenX (x : Edg) (l : List Fu) (y : Int) : List (Int × Int) × Int :=
  if bothX x l ≠ 0 then ([], bothX x l)
  else if btwB y 0 30 = false then ([], 1)
  else match bndF x with
    | none => ([], 12)
    | some s => ((List.range x.n).map fun p => tkE l s p y, 0)
def encrX (x : Edg) (l : List Fu) (y : Int) : List Int × Int := if (takenX x l y).2 ≠ 0 then ([], (takenX x l y).2) else ((takenX x l y).1.map verdE, 0)
def sinceX (x : Edg) (l : List Fu) (p : Int) : (Int × Int) × Int :=
  if bothX x l ≠ 0 then ((0, 0), bothX x l)
  else if ptB x p = false then ((0, 0), 3)
  else match bndF x with
    | none => ((0, 0), 12)
    | some s => ((downY (fun y => decide ((tkE l s p.toNat y).2 > 0)) 31 31, downY (fun y => decide ((tkE l s p.toNat y).1 > 0)) 31 31), 0)
def fineX (x : Edg) (l : List Fu) (rate lo hi : Int) : (Int × Int) × Int :=
  if bothX x l ≠ 0 then ((0, 0), bothX x l)
  else if ¬ (btwB rate 1 9 = true ∧ btwB lo 0 30 = true ∧ btwB hi 0 30 = true) then ((0, 0), 1)
  else if hi < lo then ((0, 0), 5)
  else match bndF x with
    | none => ((0, 0), 12)
    | some s => ((fineF rate x.n (fun y p => (tkE l s p y).1) lo hi, fineF rate x.n (fun y p => (tkE l s p y).2) lo hi), 0)

theorem taken_truths {x : Edg} {s : Bs} (h : IsBnd x s) (l : List Fu) {p : Nat} (hp : p < x.n) (y : Int) : spanF ((truthsF x).map fun t => tkF (newG p y l) (atL t p)) = tkE l s p y :=
  span_truths h (f := fun t => tkF (newG p y l) (t p)) fun _ _ hab => tkF_mono _ (hab p hp)
theorem encr_truths {x : Edg} {s : Bs} (h : IsBnd x s) (l : List Fu) {p : Nat} (hp : p < x.n) (y : Int) : verdF ((truthsF x).filter fun t => decide (tkF (newG p y l) (atL t p) > 0)).length (truthsF x).length = verdE (tkE l s p y) := by
  rw [verd_ends (f := fun t => tkF (newG p y l) (atL t p)) (bndF_some h.eq) fun _ _ => tkF_nonneg _ _, taken_truths h l hp y]
theorem tkE_le {x : Edg} {s : Bs} (h : IsBnd x s) (l : List Fu) {p : Nat} (hp : p < x.n) (y : Int) : 0 ≤ (tkE l s p y).1 ∧ (tkE l s p y).1 ≤ (tkE l s p y).2 := by
  refine ⟨tkF_nonneg _ _, tkF_mono _ ?_⟩
  have := h.all _ h.lo p (by rw [h.len]; exact hp)
  rw [atL_fst] at this
  exact this.2
theorem verdE_never {n : Int × Int} (h : 0 ≤ n.1 ∧ n.1 ≤ n.2) : verdE n ≠ 2 ↔ 0 < n.2 := by
  unfold verdE
  by_cases h1 : n.1 > 0
  · rw [if_pos h1]; simp; omega
  · rw [if_neg h1]
    by_cases h2 : n.2 = 0
    · rw [if_pos h2]; simp; omega
    · rw [if_neg h2]; simp; omega
theorem verdE_always {n : Int × Int} : verdE n = 1 ↔ 0 < n.1 := by
  unfold verdE
  by_cases h1 : n.1 > 0
  · rw [if_pos h1]; simp; omega
  · rw [if_neg h1]
    by_cases h2 : n.2 = 0
    · rw [if_pos h2]; simp; omega
    · rw [if_neg h2]; simp; omega
theorem fineX_truths {x : Edg} {s : Bs} (h : IsBnd x s) (l : List Fu) {rate : Int} (hr : 0 ≤ rate) (lo hi : Int) :
    spanF ((truthsF x).map fun t => fineF rate x.n (fun y p => tkF (newG p y l) (atL t p)) lo hi) = (fineF rate x.n (fun y p => (tkE l s p y).1) lo hi, fineF rate x.n (fun y p => (tkE l s p y).2) lo hi) :=
  fine_truths h hr (fu := fun y p => newG p y l)

/-- Where there is a truth there are bounds. -/
theorem bnd_exists {x : Edg} (hx : x.Ok) (ht : truthsF x ≠ []) : ∃ s, IsBnd x s := by
  have good : ∀ {s : Bs}, Pass x s → ∀ p < x.n, gl s p ≤ gh s p := fun h p hp => Int.not_lt.1 fun hl => ht (h.none hp hl)
  have key : ∀ (n : Nat) (s : Bs), Pass x s → (mu s).toNat = n → ∃ s, IsBnd x s := by
    intro n
    induction n using Nat.strongRecOn with
    | _ n ih =>
      intro s hs hn
      have h' := hs.next hx
      by_cases hc : (passF x s).2 = true
      · have hl := hs.less hx hc
        have h0 := mu_nonneg (s := (passF x s).1) fun p hp => good h' p (by rw [← h'.len]; exact hp)
        exact ih (mu (passF x s).1).toNat (by omega) _ h' rfl
      · exact ⟨s, (hs.done hx (by simpa using hc) (good h')).2⟩
  exact key _ _ Pass.start rfl
theorem bnd_of {x : Edg} (hx : x.Ok) {s : Bs} (h : bndF x = some s) : IsBnd x s := by
  obtain ⟨s', h'⟩ := bnd_exists hx (bndF_some h)
  rw [h'.eq] at h
  injection h with h
  exact h ▸ h'
theorem bnd_cases {x : Edg} (hx : x.Ok) : (truthsF x = [] ∧ bndF x = none ∧ hasT x = false) ∨ ∃ s, IsBnd x s ∧ bndF x = some s ∧ hasT x = true := by
  by_cases h : truthsF x = []
  · refine .inl ⟨h, bndF_none.2 h, ?_⟩
    unfold hasT; rw [h]; rfl
  · obtain ⟨s, hs⟩ := bnd_exists hx h
    exact .inr ⟨s, hs, hs.eq, hasT_iff.2 h⟩

end Go.Proofs.YtbpfhoihfoojfaaGreatDoor

namespace Go.Proofs.YtbpfhoihfoojfaaGreatDoor

theorem gl_rev {s : Bs} {p : Nat} (hp : p < s.length) : gl s.reverse p = gl s (s.length - 1 - p) := by
  rw [← atL_fst, ← atL_fst, List.map_reverse, atL_rev (by rw [List.length_map]; exact hp), List.length_map]
theorem gh_rev {s : Bs} {p : Nat} (hp : p < s.length) : gh s.reverse p = gh s (s.length - 1 - p) := by
  rw [← atL_snd, ← atL_snd, List.map_reverse, atL_rev (by rw [List.length_map]; exact hp), List.length_map]
theorem end_tkE {x : Edg} (hx : x.Ok) {s : Bs} (h : IsBnd x s) (l : List Fu) {p : Nat} (hp : p < x.n) (y : Int) : tkE (l.map (endFu x.points)) s.reverse (x.n - 1 - p) y = tkE l s p y := by
  have hl := h.len
  have hn : (x.n : Int) = x.points := by have := hx.p; unfold Edg.n; omega
  have e : ((x.n - 1 - p : Nat) : Int) = x.points - 1 - (p : Int) := by omega
  unfold tkE
  rw [e, newG_end, tkF_end, tkF_end, gl_rev (by omega), gh_rev (by omega), show s.length - 1 - (x.n - 1 - p) = p by omega]
theorem gl_mir {s : Bs} {p : Nat} (hp : p < s.length) : gl (s.map fun b => (9 - b.2, 9 - b.1)) p = 9 - gh s p := by
  unfold gl gh
  rw [List.getD_eq_getElem?_getD, List.getD_eq_getElem?_getD, List.getElem?_map, List.getElem?_eq_getElem hp]
  rfl
theorem gh_mir {s : Bs} {p : Nat} (hp : p < s.length) : gh (s.map fun b => (9 - b.2, 9 - b.1)) p = 9 - gl s p := by
  unfold gl gh
  rw [List.getD_eq_getElem?_getD, List.getD_eq_getElem?_getD, List.getElem?_map, List.getElem?_eq_getElem hp]
  rfl

/-- The field that is seen last, by its year. -/
def seenB (p y : Int) (r : Int × Int) (f : Fu) : Bool := decide (f.point = p) && (decide (r.2 < f.year) && decide (f.year ≤ y))
def seenS (a : Int) (p y : Int) (l : List Fu) : Int × Int := l.foldl (fun r f => if seenB p y r f = true then (f.off, f.year) else r) (a, -1)
def seenO (a : Int) : Option Fu → Int × Int
  | none => (a, -1)
  | some f => (f.off, f.year)
theorem seenS_snoc (a p y : Int) (l : List Fu) (f : Fu) : seenS a p y (l ++ [f]) = if seenB p y (seenS a p y l) f = true then (f.off, f.year) else seenS a p y l := by
  unfold seenS; rw [List.foldl_append]; rfl
theorem seen_new {a p y : Int} {l : List Fu} (h : ∀ f ∈ l, 0 ≤ f.year) : seenS a p y l = seenO a (newG p y l) := by
  have key : ∀ r : List Fu, (∀ f ∈ r.reverse, 0 ≤ f.year) → seenS a p y r.reverse = seenO a (newG p y r.reverse) := by
    intro r
    induction r with
    | nil => intro _; rfl
    | cons f r ih =>
      intro hr
      rw [List.reverse_cons] at hr ⊢
      have hf := hr f (by simp)
      rw [seenS_snoc, newG_snoc, ih fun g hg => hr g (List.mem_append_left _ hg)]
      have e : seenB p y (seenO a (newG p y r.reverse)) f = newB p y (newG p y r.reverse) f := by
        cases newG p y r.reverse with
        | none =>
          have h1 : (decide ((-1 : Int) < f.year)) = true := decide_eq_true (by omega)
          show (decide (f.point = p) && (decide ((-1 : Int) < f.year) && decide (f.year ≤ y))) = ((decide (f.point = p) && decide (f.year ≤ y)) && true)
          rw [h1, Bool.true_and, Bool.and_true]
        | some g =>
          show (decide (f.point = p) && (decide (g.year < f.year) && decide (f.year ≤ y))) = ((decide (f.point = p) && decide (f.year ≤ y)) && decide (g.year < f.year))
          rw [Bool.and_assoc, Bool.and_comm (decide (g.year < f.year))]
      rw [e]
      split <;> rfl
  have := key l.reverse
  rw [List.reverse_reverse] at this
  exact this h
theorem seen_is {a : Int} {o : Option Fu} (h : ∀ f, o = some f → 0 ≤ f.year) : 0 ≤ (seenO a o).2 ↔ o ≠ none := by
  cases o with
  | none => simp [seenO]
  | some f => simp [seenO]; exact h f rfl
/-- A span that begins at its widest. -/
theorem span_from {l : List Int} (hl : l ≠ []) (h : ∀ n ∈ l, 0 ≤ n ∧ n ≤ 18) : l.foldl (fun r n => (min r.1 n, max r.2 n)) ((18 : Int), (0 : Int)) = spanF l := by
  cases l with
  | nil => exact absurd rfl hl
  | cons a l =>
    have := h a (by simp)
    rw [List.foldl_cons, show (min (18 : Int) a, max (0 : Int) a) = (a, a) by rw [Int.min_eq_right this.2, Int.max_eq_right this.1]]
    rfl

end Go.Proofs.YtbpfhoihfoojfaaGreatDoor

namespace Go.Proofs.YtbpfhoihfoojfaaGreatDoor

def bankE (more : List Cl) : Edg := ⟨3, 2, [⟨1, 0, 0, 4, 0⟩, ⟨2, 2, 0, 7, 1⟩, ⟨3, 1, 0, 5, 0⟩] ++ more⟩
def ploughF : List Fu := [⟨1, 3, 5⟩, ⟨1, 8, 3⟩, ⟨2, 5, 6⟩]
theorem known_count : countX (bankE []) = (3, 0) := by decide +kernel
theorem known_bounds : boundsX (bankE []) = ([(4, 4), (4, 5), (6, 7)], 0) := by decide +kernel
theorem known_clash : clashX (bankE [⟨1, 1, 0, 7, 0⟩]) = ([0, 3], 0) := by decide +kernel
theorem known_encr : encrX (bankE []) ploughF 8 = ([2, 1, 3], 0) := by decide +kernel
theorem known_fine : fineX (bankE []) ploughF 2 7 8 = ((2, 8), 0) := by decide +kernel
theorem known_apart : apartX (bankE []) 2 1 = ((1, 2), 0) ∧ apartX (bankE []) 0 2 = ((-3, -2), 0) ∧ (apartX (bankE []) 0 3).2 = 3 := by decide +kernel
theorem known_follows : followsX (bankE []) ⟨4, 1, 0, 4, 0⟩ = (1, 0) ∧ followsX (bankE []) ⟨4, 1, 0, 5, 0⟩ = (3, 0) ∧ followsX (bankE []) ⟨1, 2, 0, 8, 0⟩ = (2, 0) ∧ followsX (bankE []) ⟨5, 2, 1, 2, 0⟩ = (1, 0) := by decide +kernel
theorem known_add : (addX (bankE []) ⟨1, 2, 0, 8, 0⟩).2 = 12 ∧ (addX (bankE []) ⟨1, 1, 0, 5, 0⟩).2 = 0 ∧ countX (bankE [⟨1, 1, 0, 5, 0⟩]) = (2, 0) := by decide +kernel
theorem known_wrong : wrongX (bankE []) = ([], 0) ∧ wrongX (bankE [⟨1, 1, 0, 7, 0⟩]) = ([3], 0) ∧ idleX (bankE []) = ([], 0) ∧ idleX (bankE [⟨3, 2, 0, 9, 0⟩]) = ([3], 0) := by decide +kernel
theorem known_taken : takenX (bankE []) ploughF 2 = ([(0, 0), (0, 0), (0, 0)], 0) ∧ takenX (bankE []) ploughF 3 = ([(0, 0), (0, 0), (0, 0)], 0) ∧ takenX (bankE []) ploughF 8 = ([(0, 0), (1, 2), (0, 1)], 0) := by decide +kernel
theorem known_encr4 : encrX (bankE []) ploughF 4 = ([2, 2, 2], 0) := by decide +kernel
theorem known_since : sinceX (bankE []) ploughF 0 = ((-1, -1), 0) ∧ sinceX (bankE []) ploughF 1 = ((8, 8), 0) ∧ sinceX (bankE []) ploughF 2 = ((5, -1), 0) := by decide +kernel
theorem known_fine2 : fineX (bankE []) ploughF 2 4 4 = ((0, 0), 0) ∧ (fineX (bankE []) ploughF 2 8 7).2 = 5 := by decide +kernel

end Go.Proofs.YtbpfhoihfoojfaaGreatDoor

namespace Go.Proofs.YtbpfhoihfoojfaaGreatDoor

/-- While the furrow at j sinks down among the first i + 1. -/
structure Ins (l0 cur : List Fu) (i j : Nat) : Prop where
  perm : cur.Perm l0
  ord : ∀ a b (_ : a < b) (_ : b ≤ i) (hl : b < cur.length), b ≠ j → (cur[a]'(by omega)).year ≤ cur[b].year
theorem Ins.len {l0 cur : List Fu} {i j : Nat} (h : Ins l0 cur i j) : cur.length = l0.length := h.perm.length_eq
/-- The first i are sorted. -/
structure Srt (l0 cur : List Fu) (i : Nat) : Prop where
  perm : cur.Perm l0
  ord : ∀ a b (_ : a < b) (_ : b < i) (hl : b < cur.length), (cur[a]'(by omega)).year ≤ cur[b].year
theorem Srt.start (l0 : List Fu) : Srt l0 l0 1 := ⟨.refl _, fun a b h1 h2 _ => by omega⟩
theorem Srt.begin {l0 cur : List Fu} {i : Nat} (h : Srt l0 cur i) : Ins l0 cur i i := ⟨h.perm, fun a b h1 h2 hl hne => h.ord a b h1 (by omega) hl⟩
def swapL (l : List Fu) (j : Nat) : List Fu := match l[j]?, l[j - 1]? with
  | some x, some y => (l.set j y).set (j - 1) x
  | _, _ => l
theorem swapL_eq {l : List Fu} {j : Nat} (h : j < l.length) : swapL l j = (l.set j (l[j - 1]'(by omega))).set (j - 1) l[j] := by
  unfold swapL
  rw [List.getElem?_eq_getElem h, List.getElem?_eq_getElem (show j - 1 < l.length by omega)]
theorem swapL_at {l : List Fu} {j : Nat} (h : j < l.length) (h0 : 0 < j) (a : Nat) (ha : a < (swapL l j).length) : (swapL l j)[a] = if a = j then l[j - 1]'(by omega) else if a = j - 1 then l[j] else l[a]'(by rw [swapL_eq h] at ha; simpa using ha) := by
  simp only [swapL_eq h, List.getElem_set]
  by_cases e1 : a = j
  · subst e1
    rw [if_neg (by omega), if_pos rfl, if_pos rfl]
  · by_cases e2 : a = j - 1
    · subst e2
      rw [if_pos rfl, if_neg (by omega), if_pos rfl]
    · rw [if_neg (by omega), if_neg (by omega), if_neg e1, if_neg e2]
theorem swapL_perm {l : List Fu} {j : Nat} (h : j < l.length) : (swapL l j).Perm l := by
  rw [swapL_eq h]
  by_cases h0 : 0 < j
  · have e : l = l.take (j - 1) ++ (l[j - 1]'(by omega) :: l[j] :: l.drop (j + 1)) := by
      have e1 : l.drop (j - 1) = l[j - 1]'(by omega) :: l.drop j := by
        have := List.drop_eq_getElem_cons (show j - 1 < l.length by omega)
        rwa [show j - 1 + 1 = j by omega] at this
      rw [← List.drop_eq_getElem_cons h, ← e1, List.take_append_drop]
    have hl : (l.take (j - 1)).length = j - 1 := by rw [List.length_take]; omega
    generalize hx : l[j - 1]'(by omega) = x at e ⊢
    generalize hy : l[j] = y at e ⊢
    generalize l.take (j - 1) = p at e hl
    generalize l.drop (j + 1) = s at e
    subst e
    rw [List.set_append_right _ _ (by omega), List.set_append_right _ _ (by omega), hl, Nat.sub_self, show j - (j - 1) = 1 by omega]
    simp only [List.set_cons_succ, List.set_cons_zero]
    exact List.Perm.append_left _ (List.Perm.swap ..)
  · obtain rfl : j = 0 := by omega
    simp
theorem Ins.sink {l0 cur : List Fu} {i j : Nat} (h : Ins l0 cur i j) (h0 : 0 < j) (hi : j ≤ i) (hl : j < cur.length) (hlt : cur[j].year < (cur[j - 1]'(by omega)).year) : Ins l0 (swapL cur j) i (j - 1) := by
  have hlen : (swapL cur j).length = cur.length := (swapL_perm hl).length_eq
  refine ⟨(swapL_perm hl).trans h.perm, fun a b h1 h2 hb hne => ?_⟩
  rw [swapL_at hl h0 a (by omega), swapL_at hl h0 b hb]
  by_cases e1 : b = j
  · subst e1
    rw [if_pos rfl, if_neg (by omega)]
    by_cases e2 : a = b - 1
    · rw [if_pos e2]; omega
    · rw [if_neg e2]
      exact h.ord a (b - 1) (by omega) (by omega) (by omega) (by omega)
  · rw [if_neg e1, if_neg (show ¬ b = j - 1 from hne)]
    by_cases e2 : a = j
    · rw [if_pos e2]
      exact h.ord (j - 1) b (by omega) h2 (by omega) e1
    · rw [if_neg e2]
      by_cases e3 : a = j - 1
      · rw [if_pos e3]
        subst e3
        have := h.ord j b (by omega) h2 (by omega) e1
        exact this
      · rw [if_neg e3]
        exact h.ord a b h1 h2 (by omega) e1
theorem Ins.stop {l0 cur : List Fu} {i j : Nat} (h : Ins l0 cur i j) (hi : j ≤ i) (hl : i < cur.length) (hs : j = 0 ∨ ∃ h0 : 0 < j, (cur[j - 1]'(by omega)).year ≤ (cur[j]'(by omega)).year) : Srt l0 cur (i + 1) := by
  refine ⟨h.perm, fun a b h1 h2 hb => ?_⟩
  by_cases e : b = j
  · subst e
    rcases hs with rfl | ⟨h0, hs⟩
    · omega
    · by_cases e2 : a = b - 1
      · subst e2; exact hs
      · exact Int.le_trans (h.ord a (b - 1) (by omega) (by omega) (by omega) (by omega)) hs
  · exact h.ord a b h1 (by omega) hb e
theorem Srt.done {l0 cur : List Fu} {i : Nat} (h : Srt l0 cur i) (hi : cur.length ≤ i) : l0.Perm cur ∧ cur.Pairwise fun f g => f.year ≤ g.year := by
  refine ⟨h.perm.symm, List.pairwise_iff_getElem.2 fun a b ha hb hab => h.ord a b hab (by omega) hb⟩

end Go.Proofs.YtbpfhoihfoojfaaGreatDoor

