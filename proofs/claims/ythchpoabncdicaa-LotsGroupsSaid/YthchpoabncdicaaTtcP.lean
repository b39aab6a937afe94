/- What trading comes to, in plain words: no group can better it, no other division is so, nobody gains by a lie; conditions: as said. -/
import Derived.Test.YthchpoabncdicaaOrd
namespace Go.Proofs.Ythchpoabncdicaa
open Go.RowKit

theorem len_of_sub : ∀ {l m : List Nat}, l.Nodup → (∀ x ∈ l, x ∈ m) → l.length ≤ m.length
  | [], _, _, _ => Nat.zero_le _
  | x :: t, m, hn, hs => by
    have h1 := List.nodup_cons.1 hn
    have hx := hs x (by simp)
    have := len_of_sub (l := t) (m := m.erase x) h1.2 (fun y hy => (List.mem_erase_of_ne (fun e => by subst e; exact h1.1 hy)).2 (hs y (by simp [hy])))
    rw [List.length_erase_of_mem hx] at this
    have := List.length_pos_of_mem hx
    simp; omega
theorem perm_of_inj {l : List Nat} {p : Nat → Nat} (hn : l.Nodup) (hm : ∀ x ∈ l, p x ∈ l) (hi : ∀ x ∈ l, ∀ y ∈ l, p x = p y → x = y) : (l.map p).Perm l := by
  have hnd : (l.map p).Nodup := by
    rw [List.nodup_iff_pairwise_ne, List.pairwise_map]
    refine List.Pairwise.imp_of_mem ?_ (List.nodup_iff_pairwise_ne.1 hn)
    intro a b ha hb hne e
    exact hne (hi a ha b hb e)
  rw [List.perm_ext_iff_of_nodup hnd hn]
  intro a
  constructor
  · intro h
    obtain ⟨x, hx, rfl⟩ := List.mem_map.1 h
    exact hm x hx
  · intro h
    by_cases hc : a ∈ l.map p
    · exact hc
    · exfalso
      have h1 : (a :: l.map p).Nodup := List.nodup_cons.2 ⟨hc, hnd⟩
      have h2 := len_of_sub h1 (m := l) (fun x hx => by
        rcases List.mem_cons.1 hx with rfl | hx
        · exact h
        · obtain ⟨y, hy, rfl⟩ := List.mem_map.1 hx
          exact hm y hy)
      simp at h2
      omega
theorem sum_perm {f : Nat → Nat} {l m : List Nat} (h : l.Perm m) : (l.map f).sum = (m.map f).sum := by
  induction h with
  | nil => rfl
  | cons x _ ih => simp [ih]
  | swap x y l => simp; omega
  | trans _ _ i1 i2 => exact i1.trans i2
theorem sum_le_eq {f g : Nat → Nat} : ∀ {l : List Nat}, (∀ x ∈ l, f x ≤ g x) → (l.map f).sum ≤ (l.map g).sum ∧ ((l.map f).sum = (l.map g).sum → ∀ x ∈ l, f x = g x)
  | [], _ => by simp
  | x :: t, h => by
    obtain ⟨h1, h2⟩ := sum_le_eq (f := f) (g := g) (l := t) (fun y hy => h y (by simp [hy]))
    have h0 := h x (by simp)
    simp only [List.map_cons, List.sum_cons]
    refine ⟨by omega, fun e y hy => ?_⟩
    rcases List.mem_cons.1 hy with rfl | hy
    · omega
    · exact h2 (by omega) y hy
/-- Round a whole list, what nowhere grows stays. -/
theorem round_eq {l : List Nat} {p f : Nat → Nat} (hn : l.Nodup) (hm : ∀ x ∈ l, p x ∈ l) (hi : ∀ x ∈ l, ∀ y ∈ l, p x = p y → x = y) (h : ∀ x ∈ l, f (p x) ≤ f x) : ∀ x ∈ l, f (p x) = f x := by
  have h1 := sum_perm (f := f) (perm_of_inj hn hm hi)
  rw [List.map_map] at h1
  exact (sum_le_eq (f := f ∘ p) (g := f) h).2 h1
theorem round_onto {l : List Nat} {p : Nat → Nat} (hn : l.Nodup) (hm : ∀ x ∈ l, p x ∈ l) (hi : ∀ x ∈ l, ∀ y ∈ l, p x = p y → x = y) {a : Nat} (ha : a ∈ l) : ∃ x ∈ l, p x = a := by
  have := ((perm_of_inj hn hm hi).mem_iff (a := a)).2 ha
  obtain ⟨x, hx, e⟩ := List.mem_map.1 this
  exact ⟨x, hx, e⟩

/-- What trading comes to: v gets what p v had, in the round r v; what it would like more was gone before. -/
structure Ttc (n : Nat) (rkF : Nat → Nat → Nat) (p r : Nat → Nat) : Prop where
  lt : ∀ v, v < n → p v < n
  inj : ∀ v w, v < n → w < n → p v = p w → v = w
  lev : ∀ v, v < n → r (p v) = r v
  best : ∀ v u, v < n → u < n → rkF v u < rkF v (p v) → r u < r v

def RkInj (n : Nat) (rkF : Nat → Nat → Nat) : Prop := ∀ v u w, v < n → u < n → w < n → rkF v u = rkF v w → u = w

theorem Ttc.ir {n : Nat} {rkF : Nat → Nat → Nat} {p r : Nat → Nat} (h : Ttc n rkF p r) {v : Nat} (hv : v < n) : rkF v (p v) ≤ rkF v v := by
  by_cases hc : rkF v v < rkF v (p v)
  · have := h.best v v hv hv hc; omega
  · omega
theorem Ttc.noblock {n : Nat} {rkF : Nat → Nat → Nat} {p r : Nat → Nat} (h : Ttc n rkF p r) (hj : RkInj n rkF) {l : List Nat} {σ : Nat → Nat} (hn : l.Nodup) (hl : ∀ x ∈ l, x < n) (hm : ∀ x ∈ l, σ x ∈ l) (hi : ∀ x ∈ l, ∀ y ∈ l, σ x = σ y → x = y)
    (hb : ∀ x ∈ l, rkF x (σ x) ≤ rkF x (p x)) : ∀ x ∈ l, rkF x (σ x) = rkF x (p x) := by
  have h1 : ∀ x ∈ l, r (σ x) ≤ r x := fun x hx => by
    have hx' := hl x hx
    have hs := hl _ (hm x hx)
    by_cases e : rkF x (σ x) = rkF x (p x)
    · rw [hj x _ _ hx' hs (h.lt x hx') e, h.lev x hx']; exact Nat.le_refl _
    · have := h.best x (σ x) hx' hs (by have := hb x hx; omega)
      omega
  intro x hx
  have h2 := round_eq hn hm hi h1 x hx
  by_cases e : rkF x (σ x) = rkF x (p x)
  · exact e
  · have := h.best x (σ x) (hl x hx) (hl _ (hm x hx)) (by have := hb x hx; omega)
    omega
theorem Ttc.nogroup {n : Nat} {rkF : Nat → Nat → Nat} {p r : Nat → Nat} (h : Ttc n rkF p r) {l : List Nat} {σ : Nat → Nat} (hn : l.Nodup) (hl : ∀ x ∈ l, x < n) (hm : ∀ x ∈ l, σ x ∈ l) (hi : ∀ x ∈ l, ∀ y ∈ l, σ x = σ y → x = y)
    (hb : ∀ x ∈ l, rkF x (p (σ x)) < rkF x (p x)) : l = [] := by
  have h1 : ∀ x ∈ l, r (σ x) < r x := fun x hx => by
    have hs := hl _ (hm x hx)
    have := h.best x (p (σ x)) (hl x hx) (h.lt _ hs) (hb x hx)
    rw [h.lev _ hs] at this
    exact this
  cases l with
  | nil => rfl
  | cons x t =>
    have h2 := round_eq hn hm hi (fun x hx => Nat.le_of_lt (h1 x hx)) x (by simp)
    have := h1 x (by simp)
    omega
theorem least_ex {P : Nat → Prop} : ∀ {t : Nat}, P t → ∃ t, P t ∧ ∀ s, s < t → ¬ P s := by
  have : ∀ t, (∃ s, s ≤ t ∧ P s) → ∃ t, P t ∧ ∀ s, s < t → ¬ P s := by
    intro t
    induction t with
    | zero =>
      rintro ⟨s, hs, h⟩
      have : s = 0 := by omega
      subst this
      exact ⟨0, h, fun s hs => by omega⟩
    | succ t ih =>
      rintro ⟨s, hs, h⟩
      by_cases hc : ∃ s, s ≤ t ∧ P s
      · exact ih hc
      · have : s = t + 1 := by
          by_cases e : s ≤ t
          · exact absurd ⟨s, e, h⟩ hc
          · omega
        subst this
        exact ⟨t + 1, h, fun u hu hp => hc ⟨u, by omega, hp⟩⟩
  intro t h
  exact this t ⟨t, Nat.le_refl _, h⟩
/-- The villages of a round. -/
def rnd (n : Nat) (r : Nat → Nat) (t : Nat) : List Nat := (List.range n).filter (fun u => r u == t)
theorem mem_rnd {n : Nat} {r : Nat → Nat} {t u : Nat} : u ∈ rnd n r t ↔ u < n ∧ r u = t := by simp [rnd]
theorem rnd_nodup (n : Nat) (r : Nat → Nat) (t : Nat) : (rnd n r t).Nodup := List.Pairwise.filter _ List.nodup_range
theorem Ttc.unique {n : Nat} {rkF : Nat → Nat → Nat} {p r : Nat → Nat} (h : Ttc n rkF p r) (hj : RkInj n rkF) {d : Nat → Nat} (hd : ∀ v, v < n → d v < n) (di : ∀ v w, v < n → w < n → d v = d w → v = w) (hne : ∃ v, v < n ∧ d v ≠ p v) :
    ∃ t, (∀ u ∈ rnd n r t, p u ∈ rnd n r t ∧ rkF u (p u) ≤ rkF u (d u)) ∧ ∃ u ∈ rnd n r t, rkF u (p u) < rkF u (d u) := by
  obtain ⟨v, hv, hvd⟩ := hne
  obtain ⟨t, ⟨v, hv, hvt, hvd⟩, hmin⟩ := least_ex (P := fun t => ∃ v, v < n ∧ r v = t ∧ d v ≠ p v) ⟨v, hv, rfl, hvd⟩
  have hlow : ∀ u, u < n → r u < t → d u = p u := fun u hu hr => by
    by_cases e : d u = p u
    · exact e
    · exact absurd ⟨u, hu, rfl, e⟩ (hmin _ hr)
  have hge : ∀ u ∈ rnd n r t, rkF u (p u) ≤ rkF u (d u) := by
    intro u hu
    obtain ⟨hun, hut⟩ := mem_rnd.1 hu
    by_cases hc : rkF u (d u) < rkF u (p u)
    · exfalso
      have h1 := h.best u (d u) hun (hd u hun) hc
      obtain ⟨w, hw, hwe⟩ := round_onto (rnd_nodup n r (r (d u))) (p := p) (fun x hx => by
        obtain ⟨a, b⟩ := mem_rnd.1 hx
        exact mem_rnd.2 ⟨h.lt x a, by rw [h.lev x a, b]⟩) (fun x hx y hy e => h.inj x y (mem_rnd.1 hx).1 (mem_rnd.1 hy).1 e) (mem_rnd.2 ⟨hd u hun, rfl⟩)
      obtain ⟨hwn, hwr⟩ := mem_rnd.1 hw
      have h2 := hlow w hwn (by omega)
      have := di w u hwn hun (by rw [h2, hwe])
      subst this
      omega
    · omega
  refine ⟨t, fun u hu => ⟨?_, hge u hu⟩, v, mem_rnd.2 ⟨hv, hvt⟩, ?_⟩
  · obtain ⟨hun, hut⟩ := mem_rnd.1 hu
    exact mem_rnd.2 ⟨h.lt u hun, by rw [h.lev u hun, hut]⟩
  · have := hge v (mem_rnd.2 ⟨hv, hvt⟩)
    by_cases e : rkF v (p v) = rkF v (d v)
    · exact absurd (hj v _ _ hv (h.lt v hv) (hd v hv) e).symm hvd
    · omega
/-- Nobody gets more by telling another liking. -/
theorem Ttc.honest {n : Nat} {rkF rkG : Nat → Nat → Nat} {p r q s : Nat → Nat} (h : Ttc n rkF p r) (g : Ttc n rkG q s) (hj : RkInj n rkF) {who : Nat} (hw : who < n) (he : ∀ v, v < n → v ≠ who → rkG v = rkF v) : rkF who (p who) ≤ rkF who (q who) := by
  by_cases hc : rkF who (q who) < rkF who (p who)
  · exfalso
    have hlow := h.best who (q who) hw (g.lt who hw) hc
    have claim : ∀ t, t ≤ r who → ∀ u, u < n → r u < t → q u = p u := by
      intro t
      induction t with
      | zero => intro _ u _ hu; omega
      | succ t ih =>
        intro ht u hu hut
        have ih := ih (by omega)
        by_cases hrt : r u < t
        · exact ih u hu hrt
        · have hrt : r u = t := by omega
          have hS : ∀ x ∈ rnd n r t, p x ∈ rnd n r t := fun x hx => by
            obtain ⟨a, b⟩ := mem_rnd.1 hx
            exact mem_rnd.2 ⟨h.lt x a, by rw [h.lev x a, b]⟩
          have hge : ∀ x ∈ rnd n r t, s (p x) ≤ s x ∧ (q x ≠ p x → s (p x) < s x) := by
            intro x hx
            obtain ⟨hxn, hxt⟩ := mem_rnd.1 hx
            have hxw : x ≠ who := fun e => by subst e; omega
            by_cases e : q x = p x
            · exact ⟨by rw [← e, g.lev x hxn]; exact Nat.le_refl _, fun h => absurd e h⟩
            · have hlt : s (p x) < s x := by
                by_cases hc : rkF x (q x) < rkF x (p x)
                · exfalso
                  have h1 := h.best x (q x) hxn (g.lt x hxn) hc
                  obtain ⟨y, hy, hye⟩ := round_onto (rnd_nodup n r (r (q x))) (p := p) (fun x hx => by
                    obtain ⟨a, b⟩ := mem_rnd.1 hx
                    exact mem_rnd.2 ⟨h.lt x a, by rw [h.lev x a, b]⟩) (fun x hx y hy e => h.inj x y (mem_rnd.1 hx).1 (mem_rnd.1 hy).1 e) (mem_rnd.2 ⟨g.lt x hxn, rfl⟩)
                  obtain ⟨hyn, hyr⟩ := mem_rnd.1 hy
                  have h2 := ih y hyn (by omega)
                  have := g.inj y x hyn hxn (by rw [h2, hye])
                  subst this
                  omega
                · refine g.best x (p x) hxn (h.lt x hxn) ?_
                  rw [he x hxn hxw]
                  have : rkF x (p x) ≠ rkF x (q x) := fun e2 => e (hj x _ _ hxn (h.lt x hxn) (g.lt x hxn) e2).symm
                  omega
              exact ⟨Nat.le_of_lt hlt, fun _ => hlt⟩
          have hu' : u ∈ rnd n r t := mem_rnd.2 ⟨hu, hrt⟩
          have h2 := round_eq (rnd_nodup n r t) hS (fun x hx y hy e => h.inj x y (mem_rnd.1 hx).1 (mem_rnd.1 hy).1 e) (fun x hx => (hge x hx).1) u hu'
          by_cases e : q u = p u
          · exact e
          · have := (hge u hu').2 e
            omega
    have claim := claim (r who) (Nat.le_refl _)
    obtain ⟨y, hy, hye⟩ := round_onto (rnd_nodup n r (r (q who))) (p := p) (fun x hx => by
      obtain ⟨a, b⟩ := mem_rnd.1 hx
      exact mem_rnd.2 ⟨h.lt x a, by rw [h.lev x a, b]⟩) (fun x hx y hy e => h.inj x y (mem_rnd.1 hx).1 (mem_rnd.1 hy).1 e) (mem_rnd.2 ⟨g.lt who hw, rfl⟩)
    obtain ⟨hyn, hyr⟩ := mem_rnd.1 hy
    have h2 := claim y hyn (by omega)
    have := g.inj y who hyn hw (by rw [h2, hye])
    subst this
    omega
  · omega

end Go.Proofs.Ythchpoabncdicaa
