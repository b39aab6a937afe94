/- Edges with some of their claims alone, in plain words: the fewest wrong claims, a smallest clash, and that they meet; points numbered from the other end; stones at all points; conditions: as said. -/
import Derived.Test.YtgdifckmjdjcpaaEdgT5
import Derived.Test.YtgdifckmjdjcpaaEdgT3
namespace Go.Proofs.Ytgdifckmjdjcpaa

/-- Some claims alone. -/
def keepL (keep : Nat → Bool) (l : List Cl) (k : Nat) : List Cl := ((l.zipIdx k).filter fun c => keep c.2).map Prod.fst
def partF (x : Edg) (keep : Nat → Bool) : Edg := { x with claims := keepL keep x.claims 0 }
theorem keepL_nil (keep : Nat → Bool) (k : Nat) : keepL keep [] k = [] := rfl
theorem keepL_cons (keep : Nat → Bool) (c : Cl) (l : List Cl) (k : Nat) : keepL keep (c :: l) k = (if keep k = true then [c] else []) ++ keepL keep l (k + 1) := by
  unfold keepL
  rw [List.zipIdx_cons]
  by_cases h : keep k = true
  · rw [List.filter_cons_of_pos (p := fun c : Cl × Nat => keep c.2) h, if_pos h]; rfl
  · rw [List.filter_cons_of_neg (p := fun c : Cl × Nat => keep c.2) h, if_neg h]; rfl
theorem keepL_snoc (keep : Nat → Bool) (c : Cl) : ∀ (l : List Cl) (k : Nat), keepL keep (l ++ [c]) k = keepL keep l k ++ (if keep (k + l.length) = true then [c] else [])
  | [], k => by rw [List.nil_append, keepL_cons, keepL_nil, List.append_nil]; rfl
  | a :: l, k => by
    rw [List.cons_append, keepL_cons, keepL_cons, keepL_snoc keep c l (k + 1), List.append_assoc, show k + 1 + l.length = k + (a :: l).length by simp; omega]
theorem mem_keepL {keep : Nat → Bool} {c : Cl} : ∀ {l : List Cl} {k : Nat}, c ∈ keepL keep l k ↔ ∃ i, ∃ h : i < l.length, l[i] = c ∧ keep (k + i) = true
  | [], k => by simp [keepL_nil]
  | a :: l, k => by
    rw [keepL_cons, List.mem_append, mem_keepL]
    constructor
    · rintro (h | ⟨i, hi, h1, h2⟩)
      · split at h
        · rw [List.mem_singleton] at h
          exact ⟨0, by simp, h.symm, by assumption⟩
        · simp at h
      · exact ⟨i + 1, by simpa using hi, h1, by rw [← h2]; congr 1; omega⟩
    · rintro ⟨i, hi, h1, h2⟩
      cases i with
      | zero => left; rw [if_pos (show keep k = true from h2), List.mem_singleton]; exact h1.symm
      | succ i => exact .inr ⟨i, by simpa using hi, h1, by rw [← h2]; congr 1; omega⟩
theorem keepL_map {keep : Nat → Bool} (f : Cl → Cl) : ∀ (l : List Cl) (k : Nat), keepL keep (l.map f) k = (keepL keep l k).map f
  | [], _ => rfl
  | c :: l, k => by rw [List.map_cons, keepL_cons, keepL_cons, keepL_map f l (k + 1), List.map_append]; congr 1; split <;> rfl
theorem keepL_congr {keep keep' : Nat → Bool} : ∀ {l : List Cl} {k : Nat}, (∀ i < l.length, keep (k + i) = keep' (k + i)) → keepL keep l k = keepL keep' l k
  | [], _, _ => rfl
  | c :: l, k, h => by
    have h0 := h 0 (by simp)
    rw [keepL_cons, keepL_cons, keepL_congr fun i hi => ?_]
    · rw [show keep k = keep' k from h0]
    · have := h (i + 1) (by simpa using hi)
      rwa [show k + (i + 1) = k + 1 + i by omega] at this
theorem keepL_all : ∀ (l : List Cl) (k : Nat), keepL (fun _ => true) l k = l
  | [], _ => rfl
  | c :: l, k => by rw [keepL_cons, keepL_all l (k + 1)]; rfl
theorem keepL_none : ∀ (l : List Cl) (k : Nat), keepL (fun _ => false) l k = []
  | [], _ => rfl
  | c :: l, k => by rw [keepL_cons, keepL_none l (k + 1)]; rfl
theorem keepL_len {keep : Nat → Bool} : ∀ (l : List Cl) (k : Nat), (keepL keep l k).length ≤ l.length
  | [], _ => Nat.le_refl _
  | c :: l, k => by
    have := keepL_len (keep := keep) l (k + 1)
    rw [keepL_cons, List.length_append, List.length_cons]
    split <;> simp <;> omega
theorem partF_ok {x : Edg} (hx : x.Ok) (keep : Nat → Bool) : (partF x keep).Ok := by
  refine ⟨hx.p, hx.b, Nat.le_trans (keepL_len _ _) hx.m, fun c hc => ?_⟩
  obtain ⟨i, hi, rfl, -⟩ := mem_keepL.1 hc
  exact hx.c _ (List.getElem_mem hi)
/-- With fewer claims there are all truths, and perhaps more. -/
theorem part_sub {x : Edg} {keep keep' : Nat → Bool} (h : ∀ i < x.claims.length, keep i = true → keep' i = true) : truthsF (partF x keep') = (truthsF (partF x keep)).filter (isT (partF x keep')) :=
  truths_filter (x := partF x keep') (y := partF x keep) rfl fun t ht => isT_claims (x := partF x keep') (y := partF x keep) rfl rfl (fun c hc => by
    obtain ⟨i, hi, h1, h2⟩ := mem_keepL.1 hc
    rw [Nat.zero_add] at h2
    exact mem_keepL.2 ⟨i, hi, h1, by rw [Nat.zero_add]; exact h i hi h2⟩) ht
theorem part_le {x : Edg} {keep keep' : Nat → Bool} (h : ∀ i < x.claims.length, keep i = true → keep' i = true) : (truthsF (partF x keep')).length ≤ (truthsF (partF x keep)).length := by
  rw [part_sub h]; exact List.length_filter_le _ _
theorem part_all (x : Edg) : partF x (fun _ => true) = x := by unfold partF; rw [keepL_all]
theorem part_none_truth {x : Edg} (hx : x.Ok) : truthsF (partF x fun _ => false) ≠ [] := by
  have h : IsT (partF x fun _ => false) (List.replicate x.n 0) := by
    have e : ∀ p, atL (List.replicate x.n 0) p = 0 := fun p => by
      unfold atL
      rw [List.getD_eq_getElem?_getD, List.getElem?_replicate]
      split <;> rfl
    have hb := hx.b
    have eb : (partF x fun _ => false).bend = x.bend := rfl
    refine ⟨List.length_replicate, fun p _ => by rw [e]; omega, fun p _ => by rw [e, e, eb]; omega, fun c hc => ?_⟩
    have : c ∈ keepL (fun _ => false) x.claims 0 := hc
    rw [keepL_none] at this
    simp at this
  exact List.ne_nil_of_mem (mem_truthsF.2 h)

def hasT (x : Edg) : Bool := !(truthsF x).isEmpty
theorem hasT_iff {x : Edg} : hasT x = true ↔ truthsF x ≠ [] := by unfold hasT; cases truthsF x <;> simp
theorem hasT_sub {x : Edg} {keep keep' : Nat → Bool} (h : ∀ i < x.claims.length, keep i = true → keep' i = true) (ht : hasT (partF x keep') = true) : hasT (partF x keep) = true := by
  rw [hasT_iff] at ht ⊢
  intro e
  rw [part_sub h, e] at ht
  exact ht rfl
/-- The fewest claims that must be wrong, and the fewest that contradict each other, as masks. -/
def wrongF (x : Edg) : Option Nat := fewF x.claims.length fun g => hasT (partF x fun i => !g.testBit i)
def clashF (x : Edg) : Option Nat := fewF x.claims.length fun g => !hasT (partF x fun i => g.testBit i)
theorem few_test {n g : Nat} {test : Nat → Bool} (hn : n ≤ 7) (h : fewF n test = some g) : g < 2 ^ n ∧ test g = true := by
  unfold fewF at h
  exact ⟨masks_lt hn (List.mem_of_find?_eq_some h), List.find?_some h⟩
theorem few_some {n g : Nat} {test : Nat → Bool} (hn : n ≤ 7) (hg : g < 2 ^ n) (ht : test g = true) : ∃ b, fewF n test = some b := by
  cases h : fewF n test with
  | some b => exact ⟨b, rfl⟩
  | none =>
    unfold fewF at h
    have := List.find?_eq_none.1 h g (mem_masks hn hg)
    exact absurd ht this
theorem full_bit {n i : Nat} (h : i < n) : (2 ^ n - 1).testBit i = true := by rw [Nat.testBit_two_pow_sub_one]; exact decide_eq_true h
theorem wrong_some {x : Edg} (hx : x.Ok) : ∃ g, wrongF x = some g := by
  have hm := hx.m
  have h2 : 0 < 2 ^ x.claims.length := Nat.two_pow_pos _
  refine few_some (g := 2 ^ x.claims.length - 1) hm (by omega) ?_
  rw [hasT_iff]
  have e : partF x (fun i => !(2 ^ x.claims.length - 1).testBit i) = partF x fun _ => false := by
    unfold partF
    rw [keepL_congr fun i hi => ?_]
    rw [Nat.zero_add, full_bit hi]; rfl
  rw [e]
  exact part_none_truth hx
theorem clash_none {x : Edg} (hx : x.Ok) : clashF x = none ↔ hasT x = true := by
  have hm := hx.m
  have h2 : 0 < 2 ^ x.claims.length := Nat.two_pow_pos _
  have ef : partF x (fun i => (2 ^ x.claims.length - 1).testBit i) = x := by
    conv => rhs; rw [← part_all x]
    unfold partF
    rw [keepL_congr fun i hi => ?_]
    rw [Nat.zero_add, full_bit hi]
  constructor
  · intro h
    cases ht : hasT x with
    | true => rfl
    | false =>
      obtain ⟨b, hb⟩ := few_some (n := x.claims.length) (g := 2 ^ x.claims.length - 1) (test := fun g => !hasT (partF x fun i => g.testBit i)) hm (by omega) (by rw [ef, ht]; rfl)
      unfold clashF at h
      rw [hb] at h
      exact absurd h (by simp)
  · intro h
    cases hc : clashF x with
    | none => rfl
    | some g =>
      obtain ⟨h1, h3⟩ := few_test hm hc
      have : hasT (partF x fun i => g.testBit i) = true := hasT_sub (keep' := fun _ => true) (fun _ _ _ => rfl) (by rw [part_all]; exact h)
      rw [this] at h3
      exact absurd h3 (by decide)
theorem masks_zero (n : Nat) : ∃ t, masksF n = 0 :: t := by
  unfold masksF
  rw [List.range_succ_eq_map, List.flatMap_cons]
  exact ⟨_, rfl⟩
theorem wrong_zero {x : Edg} : wrongF x = some 0 ↔ hasT x = true := by
  have e : partF x (fun i => !(0 : Nat).testBit i) = x := by
    conv => rhs; rw [← part_all x]
    unfold partF
    rw [keepL_congr fun i hi => ?_]
    simp
  obtain ⟨t, ht⟩ := masks_zero x.claims.length
  unfold wrongF fewF
  rw [ht, List.find?_cons, e]
  cases h : hasT x with
  | true => simp
  | false =>
    simp only
    constructor
    · intro h'
      have := List.find?_some h'
      rw [e, h] at this
      exact absurd this (by decide)
    · intro h'; exact absurd h' (by decide)
/-- A clash has one of the wrong claims. -/
theorem wrong_meets {x : Edg} (hx : x.Ok) {g k : Nat} (hg : wrongF x = some g) (hk : clashF x = some k) : ∃ i, i < x.claims.length ∧ g.testBit i = true ∧ k.testBit i = true := by
  have hm := hx.m
  obtain ⟨-, h1⟩ := few_test hm hg
  obtain ⟨-, h2⟩ := few_test hm hk
  by_cases h : ∃ i, i < x.claims.length ∧ g.testBit i = true ∧ k.testBit i = true
  · exact h
  · have := hasT_sub (x := x) (keep := fun i => k.testBit i) (keep' := fun i => !g.testBit i) (fun i hi hki => by
      cases hgi : g.testBit i with
      | false => rfl
      | true => exact absurd ⟨i, hi, hgi, hki⟩ h) h1
    rw [this] at h2
    exact absurd h2 (by decide)

/-! The same of the claims turned about. -/
theorem mir_part (x : Edg) (keep : Nat → Bool) : partF (mirX x) keep = mirX (partF x keep) := by
  unfold partF mirX
  simp only [keepL_map]
theorem hasT_len {x y : Edg} (h : (truthsF x).length = (truthsF y).length) : hasT x = hasT y := by
  unfold hasT; cases hx : truthsF x <;> cases hy : truthsF y <;> simp_all
theorem mir_wrong {x : Edg} (hx : x.Ok) : wrongF (mirX x) = wrongF x := by
  unfold wrongF
  have e : (mirX x).claims.length = x.claims.length := by unfold mirX; simp
  rw [e]
  congr 1
  funext g
  rw [mir_part]
  exact (hasT_len (mir_count (partF_ok hx _))).symm

/-! Points from the other end. -/
def endC (P : Int) (c : Cl) : Cl := ⟨c.kind, P - 1 - c.point, if c.kind = 5 then P - 1 - c.other else c.other, c.off, c.err⟩
def endX (x : Edg) : Edg := { x with claims := x.claims.map (endC x.points) }
theorem atL_rev {t : List Int} {p : Nat} (h : p < t.length) : atL t.reverse p = atL t (t.length - 1 - p) := by
  rw [atL_at (by simpa using h), atL_at (by omega), List.getElem_reverse]
theorem endC_holds {P : Int} {c : Cl} (h : c.Ok P) {f g : Nat → Int} (h1 : g (P - 1 - c.point).toNat = f c.point.toNat) (h2 : c.kind = 5 → g (P - 1 - c.other).toNat = f c.other.toNat) : (endC P c).holds g = c.holds f := by
  unfold endC Cl.holds
  simp only
  by_cases k5 : c.kind = 5
  · rw [if_pos k5, h1, h2 k5]
  · have hk := h.k
    rw [if_neg k5, h1]
    by_cases k1 : c.kind = 1
    · rw [if_pos k1, if_pos k1]
    · rw [if_neg k1, if_neg k1]
      by_cases k2 : c.kind = 2
      · rw [if_pos k2, if_pos k2]
      · rw [if_neg k2, if_neg k2]
        by_cases k3 : c.kind = 3
        · rw [if_pos k3, if_pos k3]
        · rw [if_neg k3, if_neg k3, if_pos (by omega), if_pos (by omega)]
theorem end_truth {x : Edg} (hx : x.Ok) {t : List Int} (h : IsT x t) : IsT (endX x) t.reverse := by
  have hp := hx.p
  have hn : (x.n : Int) = x.points := by unfold Edg.n; omega
  have hl := h.len
  refine ⟨by rw [List.length_reverse]; exact hl, fun p q => ?_, fun p q => ?_, fun c hc => ?_⟩
  · have q : p < x.n := q
    rw [atL_rev (by omega)]
    exact h.reach _ (by omega)
  · have q : p + 1 < x.n := q
    rw [atL_rev (by omega), atL_rev (by omega)]
    have := h.bend (t.length - 1 - (p + 1)) (by omega)
    rw [show t.length - 1 - (p + 1) + 1 = t.length - 1 - p by omega] at this
    have e : (endX x).bend = x.bend := rfl
    rw [e]
    omega
  · obtain ⟨c', hc', rfl⟩ := List.mem_map.1 hc
    have hok := hx.c c' hc'
    have hpt := hok.p
    have hot := hok.o
    rw [endC_holds hok (f := atL t) ?_ fun k5 => ?_]
    · exact h.claims c' hc'
    · rw [atL_rev (by omega)]; congr 1; omega
    · rw [if_pos k5] at hot
      rw [atL_rev (by omega)]; congr 1; omega
theorem endC_ok {P : Int} {c : Cl} (h : c.Ok P) : (endC P c).Ok P := by
  obtain ⟨h1, h2, h3, h4, h5⟩ := h
  refine ⟨h1, by unfold endC; simp only; omega, ?_, h4, h5⟩
  unfold endC
  simp only
  by_cases k5 : c.kind = 5
  · rw [if_pos k5] at h3
    rw [if_pos k5, if_pos k5]
    omega
  · rw [if_neg k5] at h3
    rw [if_neg k5, if_neg k5]
    exact h3
theorem endC_endC (P : Int) (c : Cl) : endC P (endC P c) = c := by
  obtain ⟨k, p, o, a, e⟩ := c
  unfold endC
  simp only
  congr 1
  · omega
  · split <;> omega
theorem endX_ok {x : Edg} (hx : x.Ok) : (endX x).Ok := by
  refine ⟨hx.p, hx.b, by unfold endX; simp only [List.length_map]; exact hx.m, fun c hc => ?_⟩
  obtain ⟨c', hc', rfl⟩ := List.mem_map.1 hc
  exact endC_ok (hx.c c' hc')
theorem endX_endX (x : Edg) : endX (endX x) = x := by
  obtain ⟨p, b, cs⟩ := x
  unfold endX
  simp only [List.map_map]
  congr 1
  conv => rhs; rw [← List.map_id cs]
  exact List.map_congr_left fun c _ => endC_endC p c
theorem end_count {x : Edg} (hx : x.Ok) : (truthsF x).length = (truthsF (endX x)).length :=
  truths_count (f := List.reverse) (fun t h => end_truth hx h) (fun t h => by have := end_truth (endX_ok hx) h; rwa [endX_endX] at this) (fun t _ => List.reverse_reverse t) fun t _ => List.reverse_reverse t
theorem end_part (x : Edg) (keep : Nat → Bool) : partF (endX x) keep = endX (partF x keep) := by
  unfold partF endX
  simp only [keepL_map]
theorem end_wrong {x : Edg} (hx : x.Ok) : wrongF (endX x) = wrongF x := by
  unfold wrongF
  have e : (endX x).claims.length = x.claims.length := by unfold endX; simp
  rw [e]
  congr 1
  funext g
  rw [end_part]
  exact (hasT_len (end_count (partF_ok hx _))).symm
theorem end_bnd {x : Edg} (hx : x.Ok) {s : Bs} (h : IsBnd x s) : IsBnd (endX x) s.reverse := by
  have hl := h.len
  refine ⟨by rw [List.length_reverse]; exact hl, by rw [List.map_reverse]; exact end_truth hx h.lo, by rw [List.map_reverse]; exact end_truth hx h.hi, fun t ht p hp => ?_⟩
  rw [List.length_reverse] at hp
  have h1 := end_truth (endX_ok hx) ht
  rw [endX_endX] at h1
  have htl : t.length = x.n := ht.len
  have h2 := h.all _ h1 (s.length - 1 - p) (by omega)
  rw [atL_rev (by omega), show t.length - 1 - (s.length - 1 - p) = p by omega] at h2
  rw [← atL_fst, ← atL_snd, List.map_reverse, List.map_reverse, atL_rev (by rw [List.length_map]; exact hp), atL_rev (by rw [List.length_map]; exact hp), List.length_map, List.length_map, atL_fst, atL_snd]
  exact h2

end Go.Proofs.Ytgdifckmjdjcpaa
