/- Edges that are compared, in plain words: fewer claims, offsets turned about, points from the other end, stones at all points; conditions: as said. -/
import Derived.Test.YtgdifckmjdjcpaaEdgT2
namespace Go.Proofs.Ytgdifckmjdjcpaa

theorem gen_filter {cand : List Int → List Int} {keep keep' : List Int → Bool} : ∀ {k : Nat} {t : List Int}, (gen cand keep k t).filter keep' = gen cand (fun s => keep s && keep' s) k t
  | 0, t => by
    unfold gen
    by_cases h : keep t = true
    · rw [if_pos h]
      by_cases h' : keep' t = true
      · rw [if_pos (by rw [h, h']; rfl), List.filter_cons_of_pos h', List.filter_nil]
      · rw [if_neg (by rw [h]; simpa using h'), List.filter_cons_of_neg h', List.filter_nil]
    · rw [if_neg h, if_neg (by simp [h]), List.filter_nil]
  | k + 1, t => by
    unfold gen
    rw [List.filter_flatMap]
    congr 1
    funext n
    exact gen_filter
/-- What has fewer truths. -/
theorem truths_filter {x y : Edg} (hn : x.points = y.points) (h : ∀ t, isT x t = true → isT y t = true) : truthsF x = (truthsF y).filter (isT x) := by
  unfold truthsF
  rw [gen_filter, show y.n = x.n by unfold Edg.n; rw [hn]]
  congr 1
  funext t
  cases h1 : isT x t with
  | false => simp
  | true => rw [h t h1]; rfl
theorem isT_claims {x y : Edg} (hp : x.points = y.points) (hb : x.bend = y.bend) (hc : ∀ c ∈ y.claims, c ∈ x.claims) {t : List Int} (h : isT x t = true) : isT y t = true := by
  rw [isT_iff] at h ⊢
  have hn : x.n = y.n := by unfold Edg.n; rw [hp]
  exact ⟨by rw [← hn]; exact h.len, fun p q => h.reach p (by omega), fun p q => by rw [← hb]; exact h.bend p (by omega), fun c hc' => h.claims c (hc c hc')⟩
/-- With a claim more. -/
def Edg.add (x : Edg) (c : Cl) : Edg := { x with claims := x.claims ++ [c] }
theorem truths_add (x : Edg) (c : Cl) : truthsF (x.add c) = (truthsF x).filter fun t => c.holds (atL t) := by
  rw [truths_filter (x := x.add c) (y := x) rfl fun t ht => isT_claims (x := x.add c) (y := x) rfl rfl (fun c' h => List.mem_append_left _ h) ht]
  refine List.filter_congr fun t ht => ?_
  have hx := mem_truthsF.1 ht
  rw [Bool.eq_iff_iff, isT_iff]
  constructor
  · exact fun h => h.claims c (List.mem_append_right _ (List.mem_singleton.2 rfl))
  · exact fun h => ⟨hx.len, hx.reach, hx.bend, fun c' hc' => by
      rcases List.mem_append.1 hc' with h' | h'
      · exact hx.claims c' h'
      · rw [List.mem_singleton] at h'; rw [h']; exact h⟩

/-- Where truths answer to truths, one to one. -/
theorem truths_map {x y : Edg} {f : List Int → List Int} (hxy : ∀ t, IsT x t → IsT y (f t)) (hyx : ∀ t, IsT y t → IsT x (f t)) (hff : ∀ t, IsT x t → f (f t) = t) (hff' : ∀ t, IsT y t → f (f t) = t) : ((truthsF x).map f).Perm (truthsF y) := by
  refine (List.perm_ext_iff_of_nodup ?_ (truthsF_nodup y)).2 fun t => ?_
  · refine List.Pairwise.map _ (R := fun a b => a ≠ b ∧ IsT x a ∧ IsT x b) ?_ ?_
    · rintro a b ⟨h1, h2, h3⟩ e
      exact h1 (by rw [← hff a h2, ← hff b h3, e])
    · exact (truthsF_nodup x).imp_of_mem fun ha hb h => ⟨h, mem_truthsF.1 ha, mem_truthsF.1 hb⟩
  · rw [List.mem_map, mem_truthsF]
    constructor
    · rintro ⟨s, hs, rfl⟩
      exact hxy s (mem_truthsF.1 hs)
    · exact fun h => ⟨f t, mem_truthsF.2 (hyx t h), hff' t h⟩
theorem truths_count {x y : Edg} {f : List Int → List Int} (hxy : ∀ t, IsT x t → IsT y (f t)) (hyx : ∀ t, IsT y t → IsT x (f t)) (hff : ∀ t, IsT x t → f (f t) = t) (hff' : ∀ t, IsT y t → f (f t) = t) : (truthsF x).length = (truthsF y).length := by
  have := (truths_map hxy hyx hff hff').length_eq
  rwa [List.length_map] at this

/-! Offsets turned about. -/
def mirC (c : Cl) : Cl :=
  if c.kind = 5 then ⟨5, c.other, c.point, c.off, c.err⟩
  else if c.kind = 3 then ⟨4, c.point, c.other, 9 - c.off, c.err⟩
  else if c.kind = 4 then ⟨3, c.point, c.other, 9 - c.off, c.err⟩
  else ⟨c.kind, c.point, c.other, 9 - c.off, c.err⟩
def mirX (x : Edg) : Edg := { x with claims := x.claims.map mirC }
def mirT (t : List Int) : List Int := t.map fun n => 9 - n
theorem atL_mir {t : List Int} {p : Nat} (h : p < t.length) : atL (mirT t) p = 9 - atL t p := by
  rw [atL_at h, atL_at (by unfold mirT; simpa using h)]
  unfold mirT
  rw [List.getElem_map]
theorem mirT_mirT (t : List Int) : mirT (mirT t) = t := by
  unfold mirT
  rw [List.map_map]
  conv => rhs; rw [← List.map_id t]
  refine List.map_congr_left fun n _ => ?_
  simp only [Function.comp, id]
  omega
theorem mirC_holds {P : Int} {c : Cl} (h : c.Ok P) {f g : Nat → Int} (hf : g c.point.toNat = 9 - f c.point.toNat) (hg : c.kind = 5 → g c.other.toNat = 9 - f c.other.toNat) : (mirC c).holds g = c.holds f := by
  have hk := h.k
  rw [Bool.eq_iff_iff]
  unfold mirC
  by_cases k5 : c.kind = 5
  · have hg := hg k5
    rw [if_pos k5]
    simp only [Cl.holds, k5]
    simp only [show ¬ ((5 : Int) = 1) by decide, show ¬ ((5 : Int) = 2) by decide, show ¬ ((5 : Int) = 3) by decide, show ¬ ((5 : Int) = 4) by decide, if_false, decide_eq_true_eq]
    omega
  · rw [if_neg k5]
    by_cases k3 : c.kind = 3
    · rw [if_pos k3]
      simp only [Cl.holds, k3]
      simp only [show ¬ ((4 : Int) = 1) by decide, show ¬ ((4 : Int) = 2) by decide, show ¬ ((4 : Int) = 3) by decide, show ¬ ((3 : Int) = 1) by decide, show ¬ ((3 : Int) = 2) by decide, if_false, if_true, decide_eq_true_eq]
      omega
    · rw [if_neg k3]
      by_cases k4 : c.kind = 4
      · rw [if_pos k4]
        simp only [Cl.holds, k4]
        simp only [show ¬ ((4 : Int) = 1) by decide, show ¬ ((4 : Int) = 2) by decide, show ¬ ((4 : Int) = 3) by decide, show ¬ ((3 : Int) = 1) by decide, show ¬ ((3 : Int) = 2) by decide, if_false, if_true, decide_eq_true_eq]
        omega
      · rw [if_neg k4]
        have k12 : c.kind = 1 ∨ c.kind = 2 := by omega
        rcases k12 with k | k
        · simp only [Cl.holds, k, if_true, decide_eq_true_eq]
          omega
        · simp only [Cl.holds, k, show ¬ ((2 : Int) = 1) by decide, if_false, if_true, btwB_iff]
          omega
theorem mir_truth {x : Edg} (hx : x.Ok) {t : List Int} (h : IsT x t) : IsT (mirX x) (mirT t) := by
  have hp := hx.p
  have hn : (x.n : Int) = x.points := by unfold Edg.n; omega
  have hl := h.len
  refine ⟨by unfold mirT; rw [List.length_map]; exact hl, fun p q => ?_, fun p q => ?_, fun c hc => ?_⟩
  · have q : p < x.n := q
    rw [atL_mir (by omega)]
    have := h.reach p q
    omega
  · have q : p + 1 < x.n := q
    rw [atL_mir (by omega), atL_mir (by omega)]
    have := h.bend p q
    have e : (mirX x).bend = x.bend := rfl
    rw [e]
    omega
  · obtain ⟨c', hc', rfl⟩ := List.mem_map.1 hc
    have hok := hx.c c' hc'
    have hpt := hok.p
    have hot := hok.o
    rw [mirC_holds hok (f := atL t) (atL_mir (by omega)) fun k5 => ?_]
    · exact h.claims c' hc'
    · rw [if_pos k5] at hot
      exact atL_mir (by omega)
theorem mirC_ok {P : Int} {c : Cl} (h : c.Ok P) : (mirC c).Ok P := by
  obtain ⟨h1, h2, h3, h4, h5⟩ := h
  unfold mirC
  by_cases k5 : c.kind = 5
  · rw [if_pos k5] at h3 h4
    rw [if_neg (by omega)] at h5
    rw [if_pos k5]
    exact ⟨by simp, h3.1, by simp; exact ⟨h2, fun e => h3.2 e.symm⟩, by simp; exact h4, by simp; exact h5⟩
  · rw [if_neg k5] at h3 h4
    rw [if_neg k5]
    by_cases k3 : c.kind = 3
    · rw [if_neg (by omega)] at h5
      rw [if_pos k3]
      exact ⟨by simp, h2, by simp; exact h3, by simp; omega, by simp; exact h5⟩
    · rw [if_neg k3]
      by_cases k4 : c.kind = 4
      · rw [if_neg (by omega)] at h5
        rw [if_pos k4]
        exact ⟨by simp, h2, by simp; exact h3, by simp; omega, by simp; exact h5⟩
      · rw [if_neg k4]
        exact ⟨h1, h2, by simp only [if_neg k5]; exact h3, by simp only [if_neg k5]; omega, h5⟩
theorem mirC_mirC {P : Int} {c : Cl} (h : c.Ok P) : mirC (mirC c) = c := by
  have hk := h.k
  obtain ⟨k, p, o, a, e⟩ := c
  simp only at hk
  unfold mirC
  by_cases k5 : k = 5
  · subst k5; rfl
  · by_cases k3 : k = 3
    · subst k3; simp; omega
    · by_cases k4 : k = 4
      · subst k4; simp; omega
      · simp [k5, k3, k4]; omega
theorem mirX_ok {x : Edg} (hx : x.Ok) : (mirX x).Ok := by
  refine ⟨hx.p, hx.b, by unfold mirX; simp only [List.length_map]; exact hx.m, fun c hc => ?_⟩
  obtain ⟨c', hc', rfl⟩ := List.mem_map.1 hc
  exact mirC_ok (hx.c c' hc')
theorem mirX_mirX {x : Edg} (hx : x.Ok) : mirX (mirX x) = x := by
  obtain ⟨p, b, cs⟩ := x
  unfold mirX
  simp only [List.map_map]
  congr 1
  conv => rhs; rw [← List.map_id cs]
  exact List.map_congr_left fun c hc => mirC_mirC (hx.c c hc)
theorem mir_count {x : Edg} (hx : x.Ok) : (truthsF x).length = (truthsF (mirX x)).length :=
  truths_count (f := mirT) (fun t h => mir_truth hx h) (fun t h => by have := mir_truth (mirX_ok hx) h; rwa [mirX_mirX hx] at this) (fun t _ => mirT_mirT t) fun t _ => mirT_mirT t
/-- The bounds turned about. -/
theorem mir_bnd {x : Edg} (hx : x.Ok) {s : Bs} (h : IsBnd x s) : IsBnd (mirX x) (s.map fun b => (9 - b.2, 9 - b.1)) := by
  have hl := h.len
  have e1 : (s.map fun b : Int × Int => (9 - b.2, 9 - b.1)).map Prod.fst = mirT (s.map Prod.snd) := by unfold mirT; rw [List.map_map, List.map_map]; rfl
  have e2 : (s.map fun b : Int × Int => (9 - b.2, 9 - b.1)).map Prod.snd = mirT (s.map Prod.fst) := by unfold mirT; rw [List.map_map, List.map_map]; rfl
  refine ⟨by rw [List.length_map]; exact hl, by rw [e1]; exact mir_truth hx h.hi, by rw [e2]; exact mir_truth hx h.lo, fun t ht p hp => ?_⟩
  rw [List.length_map] at hp
  have h1 := mir_truth (mirX_ok hx) ht
  rw [mirX_mirX hx] at h1
  have h2 := h.all _ h1 p hp
  have htl : t.length = x.n := ht.len
  rw [atL_mir (by omega)] at h2
  rw [← atL_fst, ← atL_snd, e1, e2, atL_mir (by rw [List.length_map]; exact hp), atL_mir (by rw [List.length_map]; exact hp), atL_fst, atL_snd]
  omega

end Go.Proofs.Ytgdifckmjdjcpaa
