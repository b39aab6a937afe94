/- Edges in plain words: where a pass changes nothing its ends are the bounds; truths between the bounds, and truths grown point by point, are all truths in their order; conditions: as said. -/
import Derived.Test.YtgdifckmjdjcpaaEdgT1
namespace Go.Proofs.Ytgdifckmjdjcpaa

theorem atL_fst (s : Bs) (p : Nat) : atL (s.map Prod.fst) p = gl s p := by
  unfold atL gl
  rw [List.getD_eq_getElem?_getD, List.getD_eq_getElem?_getD, List.getElem?_map]
  cases s[p]? <;> rfl
theorem atL_snd (s : Bs) (p : Nat) : atL (s.map Prod.snd) p = gh s p := by
  unfold atL gh
  rw [List.getD_eq_getElem?_getD, List.getD_eq_getElem?_getD, List.getElem?_map]
  cases s[p]? <;> rfl

structure IsBnd (x : Edg) (s : Bs) : Prop where
  len : s.length = x.n
  lo : IsT x (s.map Prod.fst)
  hi : IsT x (s.map Prod.snd)
  all : ∀ t, IsT x t → Within s (atL t)

theorem opsX_fits {x : Edg} (h : x.Ok) : ∀ o ∈ opsX x, o.fits x.n := by
  have hp := h.p
  have hn : (x.n : Int) = x.points := by unfold Edg.n; omega
  intro o ho
  unfold opsX at ho
  rcases List.mem_append.1 ho with ho | ho
  · obtain ⟨p, hp', ho⟩ := List.mem_flatMap.1 ho
    have hp' := List.mem_range.1 hp'
    simp only [opsB, List.mem_cons, List.not_mem_nil, or_false] at ho
    rcases ho with rfl | rfl | rfl | rfl <;> simp only [Op.fits] <;> omega
  · obtain ⟨c, hc, ho⟩ := List.mem_flatMap.1 ho
    obtain ⟨h1, h2, h3, -, -⟩ := h.c c hc
    unfold opsC at ho
    split at ho
    · simp only [List.mem_cons, List.not_mem_nil, or_false] at ho
      rcases ho with rfl | rfl <;> simp only [Op.fits] <;> omega
    · split at ho
      · simp only [List.mem_cons, List.not_mem_nil, or_false] at ho
        rcases ho with rfl | rfl <;> simp only [Op.fits] <;> omega
      · split at ho
        · simp only [List.mem_cons, List.not_mem_nil, or_false] at ho
          subst ho; simp only [Op.fits]; omega
        · split at ho
          · simp only [List.mem_cons, List.not_mem_nil, or_false] at ho
            subst ho; simp only [Op.fits]; omega
          · rw [if_pos (by omega)] at h3
            simp only [List.mem_cons, List.not_mem_nil, or_false] at ho
            rcases ho with rfl | rfl <;> simp only [Op.fits] <;> omega

theorem opsC_sat {c : Cl} {t : Nat → Int} (h : c.holds t = true) : ∀ o ∈ opsC c, o.sat t := by
  intro o ho
  unfold opsC at ho
  unfold Cl.holds at h
  split at ho
  · rename_i k
    rw [if_pos k] at h
    have h := of_decide_eq_true h
    simp only [List.mem_cons, List.not_mem_nil, or_false] at ho
    rcases ho with rfl | rfl <;> simp only [Op.sat] <;> omega
  · rename_i k1
    rw [if_neg k1] at h
    split at ho
    · rename_i k
      rw [if_pos k, btwB_iff] at h
      simp only [List.mem_cons, List.not_mem_nil, or_false] at ho
      rcases ho with rfl | rfl <;> simp only [Op.sat] <;> omega
    · rename_i k2
      rw [if_neg k2] at h
      split at ho
      · rename_i k
        rw [if_pos k] at h
        have h := of_decide_eq_true h
        simp only [List.mem_cons, List.not_mem_nil, or_false] at ho
        subst ho; simp only [Op.sat]; omega
      · rename_i k3
        rw [if_neg k3] at h
        split at ho
        · rename_i k
          rw [if_pos k] at h
          have h := of_decide_eq_true h
          simp only [List.mem_cons, List.not_mem_nil, or_false] at ho
          subst ho; simp only [Op.sat]; omega
        · rename_i k4
          rw [if_neg k4] at h
          have h := of_decide_eq_true h
          simp only [List.mem_cons, List.not_mem_nil, or_false] at ho
          rcases ho with rfl | rfl <;> simp only [Op.sat] <;> omega

theorem opsX_sat {x : Edg} {t : List Int} (h : IsT x t) : ∀ o ∈ opsX x, o.sat (atL t) := by
  intro o ho
  unfold opsX at ho
  rcases List.mem_append.1 ho with ho | ho
  · obtain ⟨p, hp', ho⟩ := List.mem_flatMap.1 ho
    have hp' := List.mem_range.1 hp'
    have hb := h.bend p (by omega)
    simp only [opsB, List.mem_cons, List.not_mem_nil, or_false] at ho
    rcases ho with rfl | rfl | rfl | rfl <;> simp only [Op.sat] <;> omega
  · obtain ⟨c, hc, ho⟩ := List.mem_flatMap.1 ho
    exact opsC_sat (h.claims c hc) o ho

/-- Where nothing changes any more, both ends are truths. -/
theorem still_truth {x : Edg} (hx : x.Ok) {s : Bs} (hl : s.length = x.n) (hs : ∀ o ∈ opsX x, o.still s) (hb : ∀ p < x.n, 0 ≤ gl s p ∧ gl s p ≤ gh s p ∧ gh s p ≤ 9) : IsT x (s.map Prod.fst) ∧ IsT x (s.map Prod.snd) := by
  have hp := hx.p
  have hn : (x.n : Int) = x.points := by unfold Edg.n; omega
  have B : ∀ p, p + 1 < x.n → ∀ o ∈ opsB x.bend p, o.still s := fun p hp o ho =>
    hs o (by unfold opsX; exact List.mem_append_left _ (List.mem_flatMap.2 ⟨p, List.mem_range.2 (by omega), ho⟩))
  have C : ∀ c ∈ x.claims, ∀ o ∈ opsC c, o.still s := fun c hc o ho =>
    hs o (by unfold opsX; exact List.mem_append_right _ (List.mem_flatMap.2 ⟨c, hc, ho⟩))
  have D : ∀ c ∈ x.claims, c.holds (gl s) = true ∧ c.holds (gh s) = true := by
    intro c hc
    have h0 := C c hc
    have hok := hx.c c hc
    obtain ⟨h1, h2, h3, h4, h5⟩ := hok
    have hbp := hb c.point.toNat (by omega)
    unfold opsC at h0
    unfold Cl.holds
    by_cases k1 : c.kind = 1
    · rw [if_pos k1] at h0
      have a1 := h0 _ (List.mem_cons_self ..)
      have a2 := h0 _ (List.mem_cons_of_mem _ (List.mem_cons_self ..))
      simp only [Op.still] at a1 a2
      rw [if_pos k1, if_pos k1]
      exact ⟨decide_eq_true (by omega), decide_eq_true (by omega)⟩
    · rw [if_neg k1] at h0
      rw [if_neg k1, if_neg k1]
      by_cases k2 : c.kind = 2
      · rw [if_pos k2] at h0
        have a1 := h0 _ (List.mem_cons_self ..)
        have a2 := h0 _ (List.mem_cons_of_mem _ (List.mem_cons_self ..))
        simp only [Op.still] at a1 a2
        rw [if_pos k2, if_pos k2]
        exact ⟨btwB_iff.2 (by omega), btwB_iff.2 (by omega)⟩
      · rw [if_neg k2] at h0
        rw [if_neg k2, if_neg k2]
        by_cases k3 : c.kind = 3
        · rw [if_pos k3] at h0
          have a1 := h0 _ (List.mem_cons_self ..)
          simp only [Op.still] at a1
          rw [if_pos k3, if_pos k3]
          exact ⟨decide_eq_true (by omega), decide_eq_true (by omega)⟩
        · rw [if_neg k3] at h0
          rw [if_neg k3, if_neg k3]
          by_cases k4 : c.kind = 4
          · rw [if_pos k4] at h0
            have a1 := h0 _ (List.mem_cons_self ..)
            simp only [Op.still] at a1
            rw [if_pos k4, if_pos k4]
            exact ⟨decide_eq_true (by omega), decide_eq_true (by omega)⟩
          · rw [if_neg k4] at h0
            have a1 := h0 _ (List.mem_cons_self ..)
            have a2 := h0 _ (List.mem_cons_of_mem _ (List.mem_cons_self ..))
            simp only [Op.still] at a1 a2
            rw [if_neg k4, if_neg k4]
            exact ⟨decide_eq_true (by omega), decide_eq_true (by omega)⟩
  constructor
  · refine ⟨by rw [List.length_map, hl], fun p hp => ?_, fun p hp => ?_, fun c hc => ?_⟩
    · rw [atL_fst]; have := hb p hp; omega
    · rw [atL_fst, atL_fst]
      have a1 := B p hp (.lowv p (p + 1) x.bend) (by simp [opsB])
      have a2 := B p hp (.lowv (p + 1) p x.bend) (by simp [opsB])
      simp only [Op.still] at a1 a2
      omega
    · rw [show atL (s.map Prod.fst) = gl s from funext (atL_fst s)]; exact (D c hc).1
  · refine ⟨by rw [List.length_map, hl], fun p hp => ?_, fun p hp => ?_, fun c hc => ?_⟩
    · rw [atL_snd]; have := hb p hp; omega
    · rw [atL_snd, atL_snd]
      have a1 := B p hp (.highv p (p + 1) x.bend) (by simp [opsB])
      have a2 := B p hp (.highv (p + 1) p x.bend) (by simp [opsB])
      simp only [Op.still] at a1 a2
      omega
    · rw [show atL (s.map Prod.snd) = gh s from funext (atL_snd s)]; exact (D c hc).2

/-- A pass over an edge. -/
def passF (x : Edg) (s : Bs) : Bs × Bool := (opsX x).foldl Op.run (s, false)
structure Pass (x : Edg) (s : Bs) : Prop where
  len : s.length = x.n
  reach : ∀ p < x.n, 0 ≤ gl s p ∧ gh s p ≤ 9
  all : ∀ t, IsT x t → Within s (atL t)
theorem Pass.start {x : Edg} : Pass x (List.replicate x.n (0, 9)) := by
  have h1 : ∀ p < x.n, gl (List.replicate x.n ((0 : Int), (9 : Int))) p = 0 ∧ gh (List.replicate x.n ((0 : Int), (9 : Int))) p = 9 := by
    intro p hp
    unfold gl gh
    rw [List.getD_eq_getElem?_getD, List.getElem?_replicate, if_pos hp]
    exact ⟨rfl, rfl⟩
  refine ⟨List.length_replicate, fun p hp => ?_, fun t ht p hp => ?_⟩
  · obtain ⟨a, b⟩ := h1 p hp; omega
  · rw [List.length_replicate] at hp
    obtain ⟨a, b⟩ := h1 p hp
    have := ht.reach p hp
    omega
theorem Pass.next {x : Edg} (hx : x.Ok) {s : Bs} (h : Pass x s) : Pass x (passF x s).1 := by
  have hf : ∀ o ∈ opsX x, o.fits (s, false).1.length := fun o ho => by rw [h.len]; exact opsX_fits hx o ho
  have h1 := fold_step hf
  refine ⟨h1.len.trans h.len, fun p hp => ?_, fun t ht => fold_sound hf (opsX_sat ht) (h.all t ht)⟩
  have h2 := h1.lo p (by rw [h.len]; exact hp)
  have h3 := h1.hi p (by rw [h.len]; exact hp)
  have h4 := h.reach p hp
  unfold passF
  simp only at h2 h3
  omega
theorem Pass.none {x : Edg} {s : Bs} (h : Pass x s) {p : Nat} (hp : p < x.n) (hb : gh s p < gl s p) : truthsF x = [] := by
  apply List.eq_nil_iff_forall_not_mem.2
  intro t ht
  have := h.all t (mem_truthsF.1 ht) p (by rw [h.len]; exact hp)
  omega
theorem Pass.done {x : Edg} (hx : x.Ok) {s : Bs} (h : Pass x s) (hc : (passF x s).2 = false) (hb : ∀ p < x.n, gl (passF x s).1 p ≤ gh (passF x s).1 p) : (passF x s).1 = s ∧ IsBnd x s := by
  obtain ⟨h1, h2⟩ := fold_still hc
  have e : passF x s = (s, false) := h1
  rw [e] at hb ⊢
  have h3 := still_truth hx h.len h2 fun p hp => by have := h.reach p hp; have := hb p hp; simp only at this; omega
  exact ⟨rfl, h.len, h3.1, h3.2, h.all⟩
theorem Pass.less {x : Edg} (hx : x.Ok) {s : Bs} (h : Pass x s) (hc : (passF x s).2 = true) : mu (passF x s).1 < mu s := by
  have hf : ∀ o ∈ opsX x, o.fits (s, false).1.length := fun o ho => by rw [h.len]; exact opsX_fits hx o ho
  rcases (fold_step hf).ch with e | ⟨-, e⟩
  · unfold passF at hc; rw [e] at hc; exact absurd hc (by simp)
  · exact e
theorem mu_nonneg : ∀ {s : Bs}, (∀ p < s.length, gl s p ≤ gh s p) → 0 ≤ mu s
  | [], _ => by simp [mu]
  | b :: s, h => by
    have ih := mu_nonneg (s := s) fun p hp => by simpa [gl, gh] using h (p + 1) (by simp; omega)
    have := h 0 (by simp)
    simp [mu, gl, gh] at this ih ⊢
    omega

theorem IsBnd.eq {x : Edg} {s : Bs} (h : IsBnd x s) : bndF x = some s := by
  have hm := mem_truthsF.2 h.lo
  unfold bndF
  rw [if_neg (List.ne_nil_of_mem hm)]
  congr 1
  apply List.ext_getElem (by simp [h.len])
  intro p h1 h2
  rw [List.getElem_map, List.getElem_range]
  refine (spanF_of (a := gl s p) (b := gh s p) ?_ ?_ ?_).trans ?_
  · exact List.mem_map.2 ⟨_, hm, atL_fst s p⟩
  · exact List.mem_map.2 ⟨_, mem_truthsF.2 h.hi, atL_snd s p⟩
  · intro n hn
    obtain ⟨t, ht, rfl⟩ := List.mem_map.1 hn
    exact h.all t (mem_truthsF.1 ht) p h2
  · unfold gl gh
    rw [List.getD_eq_getElem?_getD, List.getElem?_eq_getElem h2]
    rfl
theorem bndF_none {x : Edg} : bndF x = none ↔ truthsF x = [] := by
  unfold bndF
  split <;> simp [*]
theorem bndF_some {x : Edg} {s : Bs} (h : bndF x = some s) : truthsF x ≠ [] := by
  intro e
  rw [bndF_none.2 e] at h
  exact absurd h (by simp)

/-! The truths between the bounds. -/
theorem gen_keep {cand : List Int → List Int} {keep keep' : List Int → Bool} : ∀ {k : Nat} {t : List Int}, (∀ s, t <+: s → s.length = t.length + k → (∀ u n, t <+: u → (u ++ [n]) <+: s → n ∈ cand u) → keep s = keep' s) → gen cand keep k t = gen cand keep' k t
  | 0, t, h => by
    unfold gen
    rw [h t (List.prefix_refl _) rfl fun u n h1 h2 => ?_]
    have a1 := h1.length_le
    have a2 := h2.length_le
    rw [List.length_append, List.length_singleton] at a2
    omega
  | k + 1, t, h => by
    unfold gen
    have e : ∀ n ∈ cand t, gen cand keep k (t ++ [n]) = gen cand keep' k (t ++ [n]) := fun n hn =>
      gen_keep fun s h1 h2 h3 => h s ((List.prefix_append t [n]).trans h1) (by rw [h2, List.length_append, List.length_singleton]; omega) fun u m h4 h5 => by
        by_cases e : u = t
        · subst e
          have p3 := List.prefix_of_prefix_length_le h5 h1 (by simp)
          have p4 := p3.eq_of_length (by simp)
          have p5 := List.append_cancel_left p4
          injection p5 with p5
          exact p5 ▸ hn
        · have hu : t ++ [n] <+: u := by
            have hlt : t.length < u.length := by
              have := h4.length_le
              rcases Nat.lt_or_ge t.length u.length with h | h
              · exact h
              · exact absurd (h4.eq_of_length (by omega)).symm e
            exact List.prefix_of_prefix_length_le h1 ((List.prefix_append u [m]).trans h5) (by rw [List.length_append, List.length_singleton]; omega)
          exact h3 u m hu h5
    have h2 : ∀ l : List Int, (∀ n ∈ l, n ∈ cand t) → (l.flatMap fun n => gen cand keep k (t ++ [n])) = l.flatMap fun n => gen cand keep' k (t ++ [n]) := by
      intro l
      induction l with
      | nil => intro _; rfl
      | cons a l ih => intro hl; rw [List.flatMap_cons, List.flatMap_cons, e a (hl a (List.mem_cons_self ..)), ih fun n hn => hl n (List.mem_cons_of_mem _ hn)]
    exact h2 _ fun n hn => hn

def stepB (B : Int) (t : List Int) (n : Int) : Bool := decide (t = []) || btwB (n - atL t (t.length - 1)) (-B) B
def candS (x : Edg) (s : Bs) (t : List Int) : List Int := (rng (gl s t.length) (gh s t.length)).filter (stepB x.bend t)
def keepC (x : Edg) (t : List Int) : Bool := x.claims.all fun c => c.holds (atL t)

theorem atL_prefix {u s : List Int} (h : u <+: s) {p : Nat} (hp : p < u.length) : atL u p = atL s p := by
  obtain ⟨r, rfl⟩ := h
  unfold atL
  rw [List.getD_eq_getElem?_getD, List.getD_eq_getElem?_getD, List.getElem?_append_left hp]
theorem atL_last {u s : List Int} {n : Int} (h : (u ++ [n]) <+: s) : atL s u.length = n := by
  rw [← atL_prefix h (by simp)]
  unfold atL
  rw [List.getD_eq_getElem?_getD, List.getElem?_append_right (Nat.le_refl _), Nat.sub_self]
  rfl
theorem stepB_truth {x : Edg} {u s : List Int} {n : Int} (hs : IsT x s) (h : (u ++ [n]) <+: s) : stepB x.bend u n = true := by
  unfold stepB
  by_cases e : u = []
  · simp [e]
  · have hl : 0 < u.length := by
      cases u with
      | nil => exact absurd rfl e
      | cons a l => simp
    have h1 := h.length_le
    rw [List.length_append, List.length_singleton, hs.len] at h1
    have h2 := hs.bend (u.length - 1) (by omega)
    rw [show u.length - 1 + 1 = u.length by omega, atL_last h, ← atL_prefix ((List.prefix_append u [n]).trans h) (by omega)] at h2
    rw [Bool.or_eq_true]
    exact .inr (btwB_iff.2 h2)

theorem gen_cand {cand cand' : List Int → List Int} {keep : List Int → Bool} : ∀ {k : Nat} {t : List Int}, (∀ u, t <+: u → u.length < t.length + k → cand u = cand' u) → gen cand keep k t = gen cand' keep k t
  | 0, _, _ => rfl
  | k + 1, t, h => by
    unfold gen
    rw [h t (List.prefix_refl _) (by omega)]
    congr 1
    funext n
    exact gen_cand fun u h1 h2 => h u ((List.prefix_append t [n]).trans h1) (by rw [List.length_append, List.length_singleton] at h2; omega)

theorem rng_filter {lo hi : Int} (h1 : 0 ≤ lo) (h3 : hi ≤ 9) : rng lo hi = (rng 0 9).filter fun n => btwB n lo hi := by
  by_cases h : lo ≤ hi
  · have key : ∀ a : Fin 10, ∀ b : Fin 10, rng ((a : Nat) : Int) ((b : Nat) : Int) = (rng 0 9).filter fun n => btwB n ((a : Nat) : Int) ((b : Nat) : Int) := by decide +kernel
    have := key ⟨lo.toNat, by omega⟩ ⟨hi.toNat, by omega⟩
    simp only [show ((lo.toNat : Nat) : Int) = lo by omega, show ((hi.toNat : Nat) : Int) = hi by omega] at this
    exact this
  · rw [show rng lo hi = [] by unfold rng; rw [show (hi + 1 - lo).toNat = 0 by omega]; rfl]
    symm
    apply List.filter_eq_nil_iff.2
    intro n _
    rw [btwB_iff]
    omega

theorem gen_bounds {x : Edg} {s : Bs} (h : IsBnd x s) : gen (candS x s) (keepC x) x.n [] = truthsF x := by
  have e1 : truthsF x = gen (fun t => (rng 0 9).filter (fun n => btwB n (gl s t.length) (gh s t.length) && stepB x.bend t n)) (isT x) x.n [] := by
    unfold truthsF
    refine (gen_prune (cand := fun _ => rng 0 9) (g := fun t n => btwB n (gl s t.length) (gh s t.length) && stepB x.bend t n) ?_).symm
    intro u n t _ ht hu _
    have ht := isT_iff.1 ht
    have hlen := hu.length_le
    rw [List.length_append, List.length_singleton, ht.len] at hlen
    have := h.all t ht u.length (by rw [h.len]; omega)
    rw [atL_last hu] at this
    rw [Bool.and_eq_true]
    exact ⟨btwB_iff.2 this, stepB_truth ht hu⟩
  have e2 : gen (fun t => (rng 0 9).filter (fun n => btwB n (gl s t.length) (gh s t.length) && stepB x.bend t n)) (isT x) x.n [] = gen (candS x s) (isT x) x.n [] := by
    refine gen_cand fun u _ hu => ?_
    have h1 := h.lo.reach u.length (by simpa using hu)
    have h2 := h.hi.reach u.length (by simpa using hu)
    rw [atL_fst] at h1
    rw [atL_snd] at h2
    unfold candS
    rw [rng_filter h1.1 h2.2, List.filter_filter]
    congr 1
    funext n
    exact Bool.and_comm _ _
  rw [e1, e2]
  symm
  refine gen_keep fun t _ hl hc => ?_
  simp only [List.length_nil, Nat.zero_add] at hl
  cases hk : keepC x t with
  | false =>
    cases ht : isT x t with
    | false => rfl
    | true =>
      have := (isT_iff.1 ht).claims
      unfold keepC at hk
      rw [List.all_eq_true.2 this] at hk
      exact absurd hk (by decide)
  | true =>
    refine isT_iff.2 ⟨hl, fun p hp => ?_, fun p hp => ?_, fun c hcl => List.all_eq_true.1 hk c hcl⟩
    · have hpre : (t.take p ++ [atL t p]) <+: t := by
        rw [atL_at (by omega), ← List.take_succ_eq_append_getElem (by omega)]
        exact List.take_prefix _ _
      have := hc (t.take p) (atL t p) (List.nil_prefix ..) hpre
      have := (List.mem_filter.1 this).1
      rw [mem_rng, List.length_take, Nat.min_eq_left (by omega)] at this
      have h1 := h.lo.reach p hp
      have h2 := h.hi.reach p hp
      rw [atL_fst] at h1
      rw [atL_snd] at h2
      omega
    · have hpre : (t.take (p + 1) ++ [atL t (p + 1)]) <+: t := by
        rw [atL_at (by omega), ← List.take_succ_eq_append_getElem (by omega)]
        exact List.take_prefix _ _
      have := hc (t.take (p + 1)) (atL t (p + 1)) (List.nil_prefix ..) hpre
      have := (List.mem_filter.1 this).2
      unfold stepB at this
      rw [Bool.or_eq_true] at this
      rcases this with h0 | h0
      · have := of_decide_eq_true h0
        have := congrArg List.length this
        rw [List.length_take, Nat.min_eq_left (by omega)] at this
        simp at this
      · rw [List.length_take, Nat.min_eq_left (by omega), btwB_iff, Nat.add_sub_cancel, atL_prefix (List.take_prefix (p + 1) t) (by rw [List.length_take]; omega)] at h0
        exact h0

/-! Truths that grow point by point. -/
def claimsAt (x : Edg) (t : List Int) : Bool := x.claims.all fun c => decide (max c.point c.other ≠ (t.length : Int) - 1) || c.holds (atL t)
def growF (x : Edg) : Nat → List Int → List (List Int)
  | 0, t => if claimsAt x t = true then [t] else []
  | k + 1, t => if claimsAt x t = true then ((rng 0 9).filter (stepB x.bend t)).flatMap fun n => growF x k (t ++ [n]) else []

theorem holds_congr {c : Cl} {f g : Nat → Int} (h1 : f c.point.toNat = g c.point.toNat) (h2 : f c.other.toNat = g c.other.toNat) : c.holds f = c.holds g := by
  unfold Cl.holds
  rw [h1, h2]
theorem holds_prefix {P : Int} {c : Cl} (hc : c.Ok P) {u s : List Int} (h : u <+: s) (hm : max c.point c.other < (u.length : Int)) : c.holds (atL u) = c.holds (atL s) := by
  have hp := hc.p
  have ho := hc.o
  have h0 : 0 ≤ c.other := by split at ho <;> omega
  exact holds_congr (atL_prefix h (by omega)) (atL_prefix h (by omega))

structure Grown (x : Edg) (t : List Int) : Prop where
  reach : ∀ p < t.length, 0 ≤ atL t p ∧ atL t p ≤ 9
  bend : ∀ p, p + 1 < t.length → -x.bend ≤ atL t (p + 1) - atL t p ∧ atL t (p + 1) - atL t p ≤ x.bend
  claims : ∀ c ∈ x.claims, max c.point c.other < (t.length : Int) - 1 → c.holds (atL t) = true

theorem grow_gen {x : Edg} (hx : x.Ok) : ∀ (k : Nat) (t : List Int), t.length + k = x.n → Grown x t → growF x k t = gen (fun _ => rng 0 9) (isT x) k t
  | 0, t, hl, hg => by
    have hp := hx.p
    have hn : (x.n : Int) = x.points := by unfold Edg.n; omega
    unfold growF gen
    have e : claimsAt x t = isT x t := by
      rw [Bool.eq_iff_iff, isT_iff]
      unfold claimsAt
      rw [List.all_eq_true]
      constructor
      · intro h
        refine ⟨by omega, fun p hp => hg.reach p (by omega), fun p hp => hg.bend p (by omega), fun c hc => ?_⟩
        have := h c hc
        rw [Bool.or_eq_true, decide_eq_true_eq] at this
        rcases this with h0 | h0
        · have hok := hx.c c hc
          have := hok.p
          have ho := hok.o
          refine hg.claims c hc ?_
          split at ho <;> omega
        · exact h0
      · intro h c hc
        rw [Bool.or_eq_true]
        exact .inr (h.claims c hc)
    rw [e]
  | k + 1, t, hl, hg => by
    unfold growF
    by_cases h : claimsAt x t = true
    · rw [if_pos h]
      have hcl : ∀ c ∈ x.claims, max c.point c.other < (t.length : Int) → c.holds (atL t) = true := by
        intro c hc hm
        have := List.all_eq_true.1 h c hc
        rw [Bool.or_eq_true, decide_eq_true_eq] at this
        rcases this with h0 | h0
        · exact hg.claims c hc (by omega)
        · exact h0
      have h2 : ∀ l : List Int, (∀ n ∈ l, n ∈ rng 0 9) → ((l.filter (stepB x.bend t)).flatMap fun n => growF x k (t ++ [n])) = l.flatMap fun n => gen (fun _ => rng 0 9) (isT x) k (t ++ [n]) := by
        intro l
        induction l with
        | nil => intro _; rfl
        | cons a l ih =>
          intro hl'
          have ih := ih fun n hn => hl' n (List.mem_cons_of_mem _ hn)
          by_cases hs : stepB x.bend t a = true
          · rw [List.filter_cons_of_pos hs, List.flatMap_cons, List.flatMap_cons, ih]
            congr 1
            refine grow_gen hx k (t ++ [a]) (by rw [List.length_append, List.length_singleton]; omega) ⟨fun p hp => ?_, fun p hp => ?_, fun c hc hm => ?_⟩
            · rw [List.length_append, List.length_singleton] at hp
              by_cases e : p = t.length
              · subst e
                rw [atL_last (List.prefix_refl _)]
                exact mem_rng.1 (hl' a (List.mem_cons_self ..))
              · rw [← atL_prefix (List.prefix_append t [a]) (by omega)]
                exact hg.reach p (by omega)
            · rw [List.length_append, List.length_singleton] at hp
              by_cases e : p + 1 = t.length
              · rw [e, atL_last (List.prefix_refl _), ← atL_prefix (List.prefix_append t [a]) (by omega)]
                unfold stepB at hs
                rw [Bool.or_eq_true, decide_eq_true_eq] at hs
                rcases hs with h0 | h0
                · subst h0; simp at e
                · rw [btwB_iff, show t.length - 1 = p by omega] at h0
                  exact h0
              · rw [← atL_prefix (List.prefix_append t [a]) (by omega), ← atL_prefix (List.prefix_append t [a]) (by omega)]
                exact hg.bend p (by omega)
            · rw [List.length_append, List.length_singleton] at hm
              rw [← holds_prefix (hx.c c hc) (List.prefix_append t [a]) (by omega)]
              exact hcl c hc (by omega)
          · rw [List.filter_cons_of_neg hs, List.flatMap_cons, ih]
            rw [show gen (fun _ => rng 0 9) (isT x) k (t ++ [a]) = [] from ?_]
            · rfl
            · apply List.eq_nil_iff_forall_not_mem.2
              intro s hs'
              obtain ⟨a1, a2, -⟩ := mem_gen hs'
              exact hs (stepB_truth (isT_iff.1 a1) a2)
      rw [h2 _ fun n hn => hn]
      rfl
    · rw [if_neg h]
      symm
      apply List.eq_nil_iff_forall_not_mem.2
      intro s hs'
      obtain ⟨a1, a2, -⟩ := mem_gen hs'
      apply h
      refine List.all_eq_true.2 fun c hc => ?_
      rw [Bool.or_eq_true, decide_eq_true_eq]
      by_cases hm : max c.point c.other = (t.length : Int) - 1
      · right
        rw [holds_prefix (hx.c c hc) a2 (by omega)]
        exact (isT_iff.1 a1).claims c hc
      · exact .inl hm
theorem grow_truths {x : Edg} (hx : x.Ok) : growF x x.n [] = truthsF x := by
  refine grow_gen hx x.n [] (by simp) ⟨by simp, by simp, fun c hc hm => ?_⟩
  have := (hx.c c hc).p
  simp at hm
  omega

end Go.Proofs.Ytgdifckmjdjcpaa
