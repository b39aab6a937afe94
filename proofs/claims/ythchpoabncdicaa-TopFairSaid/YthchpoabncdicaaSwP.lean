/- Exchanges, in plain words: each is wanted by both, after them nobody wants one, and nobody is worse off; conditions: as said. -/
import Derived.Test.YthchpoabncdicaaB3
namespace Go.Proofs.Ythchpoabncdicaa
open Go.RowKit

/-- Exchanges one after another, each wanted by both. -/
def Seq (vs : List Vil) : List Int → List (List Int) → List Int → Prop
  | l, [], fin => fin = l
  | l, e :: t, fin => ∃ i j : Nat, e = [(i : Int), (j : Int)] ∧ i < j ∧ j < l.length ∧ both vs l i j = true ∧ Seq vs (swapAt l (i, j)) t fin

theorem Seq.of (vs : List Vil) : ∀ (k : Nat) (l : List Int) (out : List (List Int)), ∃ t, (swapsN vs k l out).1 = out ++ t ∧ Seq vs l t (swapsN vs k l out).2
  | 0, l, out => ⟨[], by simp [swapsN], rfl⟩
  | k + 1, l, out => by
    rw [swapsN]
    split
    · exact ⟨[], by simp, rfl⟩
    · rename_i h
      obtain ⟨t, e, hs⟩ := Seq.of vs k (swapAt l (wantF vs l)) (out ++ [[((wantF vs l).1 : Int), ((wantF vs l).2 : Int)]])
      rcases wantF_is vs l with ⟨h0, _⟩ | ⟨h1, h2, h3, _⟩
      · exact absurd h0 h
      · exact ⟨_ :: t, by rw [e, List.append_assoc]; rfl, _, _, rfl, h1, h2, h3, hs⟩
theorem swaps_quiet {vs : List Vil} {n : Nat} (hlk : ∀ v ∈ vs, PermOf n v.likes) (hv : vs.length = n) : ∀ (k : Nat) (l : List Int) (out : List (List Int)), l.length = n → PermOf n l → pot vs l ≤ k → wantF vs (swapsN vs k l out).2 = (0, 0)
  | 0, l, out, hl, hp, hk => by
    rw [swapsN]
    rcases wantF_is vs l with ⟨h0, _⟩ | ⟨h1, h2, h3, _⟩
    · exact h0
    · have := pot_swap (by rw [hl]; exact hlk) (by omega) (by rw [hl]; exact hp) h1 h2 h3
      omega
  | k + 1, l, out, hl, hp, hk => by
    rw [swapsN]
    split
    · assumption
    · rename_i h
      rcases wantF_is vs l with ⟨h0, _⟩ | ⟨h1, h2, h3, _⟩
      · exact absurd h0 h
      · have h4 := pot_swap (by rw [hl]; exact hlk) (by omega) (by rw [hl]; exact hp) h1 h2 h3
        exact swaps_quiet hlk hv k _ _ (by rw [swapAt_len]; exact hl) (swapAt_perm hp h1 h2) (by show pot vs (swapAt l ((wantF vs l).1, (wantF vs l).2)) ≤ k; omega)
theorem Seq.le {vs : List Vil} (v : Nat) : ∀ {t : List (List Int)} {l fin : List Int}, Seq vs l t fin → rk vs v (fin.getD v 0) ≤ rk vs v (l.getD v 0)
  | [], l, fin, h => by
    have h : fin = l := h
    rw [h]; omega
  | e :: t, l, fin, h => by
    obtain ⟨i, j, _, hij, hj, hb, hs⟩ := h
    have ih := Seq.le v hs
    rw [swapAt_at l hij hj] at ih
    simp only [both, wish, Bool.and_eq_true, decide_eq_true_eq] at hb
    by_cases e1 : v = i
    · subst e1; rw [if_pos rfl] at ih; omega
    · rw [if_neg e1] at ih
      by_cases e2 : v = j
      · subst e2; rw [if_pos rfl] at ih; omega
      · rw [if_neg e2] at ih; exact ih
theorem Seq.perm {vs : List Vil} {n : Nat} : ∀ {t : List (List Int)} {l fin : List Int}, Seq vs l t fin → PermOf n l → PermOf n fin
  | [], l, fin, h, hp => by
    have h : fin = l := h
    rw [h]; exact hp
  | e :: t, l, fin, h, hp => by
    obtain ⟨i, j, _, hij, hj, hb, hs⟩ := h
    exact Seq.perm hs (swapAt_perm hp hij hj)
theorem Seq.at {vs : List Vil} {m : List Int} {out : List (List Int)} {k : Nat} {fin : List Int} (hk : k < out.length) (h : Seq vs m (out.drop k) fin) : ∃ i j : Nat, out[k] = [(i : Int), (j : Int)] ∧ i < j ∧ j < m.length ∧ both vs m i j = true ∧ Seq vs (swapAt m (i, j)) (out.drop (k + 1)) fin := by
  rw [List.drop_eq_getElem_cons hk] at h
  exact h
theorem Seq.stop {vs : List Vil} {m : List Int} {out : List (List Int)} {fin : List Int} (h : Seq vs m (out.drop out.length) fin) : m = fin := by
  rw [List.drop_length] at h
  exact Eq.symm h

theorem divE_zero {c : Com} {l : List Int} (hok : c.Ok 4) (hp : PermOf c.mountains.length l) : divE c l = 0 := by
  rw [divE, if_pos ((checkE_zero c).2 hok)]
  exact (placesE_zero l _).2 hp

/-- What Swaps answers to valid commons and a division. -/
structure SwLaw (c : Com) (l : List Int) (out : List (List Int)) (fin : List Int) : Prop where
  seq : Seq c.villages l out fin
  perm : PermOf c.mountains.length fin
  quiet : ∀ i j, i < j → j < fin.length → both c.villages fin i j = false
  le : ∀ v, rk c.villages v (fin.getD v 0) ≤ rk c.villages v (l.getD v 0)
theorem swaps_law {c : Com} {l : List Int} (hok : c.Ok 4) (hp : PermOf c.mountains.length l) : SwLaw c l (swapsF c.villages l).1 (swapsF c.villages l).2 := by
  obtain ⟨t, e, hs⟩ := Seq.of c.villages (pot c.villages l) l []
  rw [List.nil_append] at e
  have hq := swaps_quiet (fun v hv => (hok.vil v hv).2.2.2.2) hok.vl (pot c.villages l) l [] hp.len hp (Nat.le_refl _)
  have e : (swapsF c.villages l).1 = t := e
  have hs : Seq c.villages l t (swapsF c.villages l).2 := hs
  have hq : wantF c.villages (swapsF c.villages l).2 = (0, 0) := hq
  rw [e]
  refine ⟨hs, hs.perm hp, fun i j hij hj => ?_, fun v => hs.le v⟩
  rcases wantF_is c.villages (swapsF c.villages l).2 with ⟨_, h⟩ | ⟨h1, _⟩
  · exact h i j hij hj
  · rw [hq] at h1; omega

end Go.Proofs.Ythchpoabncdicaa
