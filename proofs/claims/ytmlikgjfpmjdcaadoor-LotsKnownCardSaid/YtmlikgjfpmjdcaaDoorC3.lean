/- Plain laws and contracts about commons, merged (Pick, ParP, LPareto, Blk1, Grp1); conditions: as said at each. -/
import Derived.Test.YtmlikgjfpmjdcaaDoorC1
/- All lists of so many numbers, ascending (mestakit.Picks); conditions: numbers up to four. -/
namespace Go.Proofs.YtmlikgjfpmjdcaaDoor
open Go.RowKit

def picksL (n : Nat) : Nat → Nat → List (List Int)
  | 0, _ => [[]]
  | m + 1, f => (List.range (n - f)).flatMap fun (d : Nat) => (picksL n m (f + d + 1)).map fun t => ((f + d : Nat) : Int) :: t
/-- Those that begin with the first d numbers. -/
def picksTo (n m f d : Nat) : List (List Int) := (List.range d).flatMap fun (d : Nat) => (picksL n m (f + d + 1)).map fun t => ((f + d : Nat) : Int) :: t
theorem picksTo_succ (n m f d : Nat) : picksTo n m f (d + 1) = picksTo n m f d ++ (picksL n m (f + d + 1)).map fun t => ((f + d : Nat) : Int) :: t := by
  rw [picksTo, picksTo, List.range_succ, List.flatMap_append]; simp
theorem picksL_len {n : Nat} (hn : n ≤ 4) : ∀ m, m ≤ 4 → ∀ f, f ≤ 5 → (picksL n m f).length ≤ 10 ∧ ∀ l ∈ picksL n m f, l.length = m := by
  have h : ∀ n < 5, ∀ m < 5, ∀ f < 6, (picksL n m f).length ≤ 10 ∧ ∀ l ∈ picksL n m f, l.length = m := by decide +kernel
  intro m hm f hf
  exact h n (by omega) m (by omega) f (by omega)
theorem picksTo_len {n : Nat} (hn : n ≤ 4) (m : Nat) (hm : m ≤ 4) (f : Nat) (hf : f ≤ 4) : ∀ d, d + f ≤ 5 → (picksTo n m f d).length ≤ 10 * d
  | 0, _ => by simp [picksTo]
  | d + 1, h => by
    have ih := picksTo_len hn m hm f hf d (by omega)
    have := (picksL_len hn m hm (f + d + 1) (by omega)).1
    rw [picksTo_succ, List.length_append, List.length_map]
    omega

/-- A grid that lies apart from a row in the making. -/
theorem Grid.turn {N : Nat} {w w3 : World} {v v' x : Value} {o : Obj} {R : List (List Int)} (h : Grid (fun k => k < N ∧ v.ownBlock ≠ some k) w x R) (hN : N ≤ w.heap.size) (hT : Turned (w.alloc o) w3 v v') : Grid (fun k => k < N ∧ v'.ownBlock ≠ some k) w3 x R := by
  have hsz : (w.alloc o).heap.size = w.heap.size + 1 := by simp
  have hs3 := hT.size
  refine (h.step (by omega) fun k hk hl => ?_).wide fun k hk _ => ⟨hk.1, fun e => ?_⟩
  · rw [hT.block k (by omega) hk.2, Below.heap_alloc _ _ k hl]
  · rcases hT.place with e1 | e1
    · exact hk.2 (e1 ▸ e)
    · rw [e1, hsz] at e
      have := hk.1
      simp at e; omega

end Go.Proofs.YtmlikgjfpmjdcaaDoor

/- Drawing, in plain words: no other division is liked as much or more by all, and more by one; conditions: as said. -/
namespace Go.Proofs.YtmlikgjfpmjdcaaDoor
open Go.RowKit

theorem draw_keep (vs : List Vil) : ∀ (order : List Int) (s : List Int × List Int) (v : Nat), (∀ u ∈ order, 0 ≤ u) → (v : Int) ∉ order → (order.foldl (drawStep vs) s).1.getD v 0 = s.1.getD v 0
  | [], s, v, _, _ => rfl
  | u :: rest, s, v, hu, hv => by
    rw [List.foldl_cons, draw_keep vs rest _ v (fun x hx => hu x (by simp [hx])) (fun h => hv (by simp [h]))]
    have h1 : u.toNat ≠ v := fun e => hv (by have := hu u (by simp); rw [← e, Int.toNat_of_nonneg this]; simp)
    unfold drawStep
    split
    · simp only [List.getD_eq_getElem?_getD, List.getElem?_set_ne h1]
    · rfl
theorem first_le {l : List Int} (hn : l.Nodup) {q : Int → Bool} {m x : Int} (h : l.find? q = some m) (hx : x ∈ l) (hq : q x = true) : m ∈ l ∧ placeOf l m ≤ placeOf l x := by
  rw [List.find?_eq_some_iff_getElem] at h
  obtain ⟨_, i, hi, rfl, h2⟩ := h
  obtain ⟨j, hj, rfl⟩ := List.getElem_of_mem hx
  refine ⟨List.getElem_mem hi, ?_⟩
  rw [placeOf_at hn hi, placeOf_at hn hj]
  by_cases hji : j < i
  · have := h2 j hji
    rw [hq] at this
    simp at this
  · omega
theorem placeOf_inj {l : List Int} (hn : l.Nodup) {x y : Int} (hx : x ∈ l) (hy : y ∈ l) (h : placeOf l x = placeOf l y) : x = y := by
  obtain ⟨i, hi, rfl⟩ := List.getElem_of_mem hx
  obtain ⟨j, hj, rfl⟩ := List.getElem_of_mem hy
  rw [placeOf_at hn hi, placeOf_at hn hj] at h
  have : i = j := by omega
  subst this; rfl
theorem perm_inj {n : Nat} {d : List Int} (hd : PermOf n d) {v u : Nat} (hv : v < n) (hu : u < n) (h : d.getD v 0 = d.getD u 0) : v = u := by
  have hl := hd.len
  rw [List.getD_eq_getElem?_getD, List.getD_eq_getElem?_getD, List.getElem?_eq_getElem (by omega), List.getElem?_eq_getElem (by omega)] at h
  exact (List.getElem_inj hd.nodup).1 h

/-- Whoever likes a division as much as what is drawn has what is drawn. -/
theorem draw_par {vs : List Vil} {n : Nat} {d : List Int} (hlk : ∀ v : Nat, v < n → PermOf n (vs.getD v ⟨0, 0, []⟩).likes) (hd : PermOf n d) :
    ∀ (order : List Int) (s : List Int × List Int), order.Nodup → (∀ u ∈ order, 0 ≤ u ∧ u < n) → s.1.length = n →
    (∀ v : Nat, v < n → (v : Int) ∉ order → d.getD v 0 = s.1.getD v 0) →
    (∀ m ∈ s.2, ∃ v : Nat, v < n ∧ (v : Int) ∉ order ∧ s.1.getD v 0 = m) →
    (∀ v : Nat, v < n → rk vs v (d.getD v 0) ≤ rk vs v ((order.foldl (drawStep vs) s).1.getD v 0)) →
    ∀ v : Nat, v < n → d.getD v 0 = (order.foldl (drawStep vs) s).1.getD v 0
  | [], s, _, _, _, h1, _, _, v, hv => h1 v hv (by simp)
  | u :: rest, s, hnd, hb, hl, h1, h2, h3, v, hv => by
    have hb0 := hb u (by simp)
    obtain ⟨k, rfl⟩ : ∃ k : Nat, u = (k : Int) := ⟨u.toNat, by omega⟩
    have hk : k < n := by omega
    have hkr : (k : Int) ∉ rest := (List.nodup_cons.1 hnd).1
    have hp := hlk k hk
    have hdl := hd.len
    have hdm : d.getD k 0 ∈ (vs.getD k ⟨0, 0, []⟩).likes := by
      rw [hp.mem, ← hd.mem, List.getD_eq_getElem?_getD, List.getElem?_eq_getElem (by omega)]
      exact List.getElem_mem _
    have hfree : d.getD k 0 ∉ s.2 := fun hm => by
      obtain ⟨v', hv', hn', he⟩ := h2 _ hm
      have := h1 v' hv' hn'
      have hvk := perm_inj hd hv' hk (by omega)
      subst hvk
      exact hn' (by simp)
    rw [List.foldl_cons] at h3 ⊢
    cases hf : (vs.getD k ⟨0, 0, []⟩).likes.find? (fun m => decide (m ∉ s.2)) with
    | none =>
      rw [List.find?_eq_none] at hf
      exact absurd (by simpa using hfree) (hf _ hdm)
    | some m =>
      obtain ⟨hml, hmp⟩ := first_le hp.nodup hf hdm (by simpa using hfree)
      have hst : drawStep vs s (k : Int) = (s.1.set k m, m :: s.2) := by
        unfold drawStep
        rw [Int.toNat_natCast, hf]
      rw [hst] at h3 ⊢
      have hbr : ∀ u ∈ rest, 0 ≤ u ∧ u < n := fun x hx => hb x (by simp [hx])
      have hku : (s.1.set k m).getD k 0 = m := by
        rw [List.getD_eq_getElem?_getD, List.getElem?_set_self (by omega)]; rfl
      have hkeep := draw_keep vs rest (s.1.set k m, m :: s.2) k (fun x hx => (hbr x hx).1) hkr
      have h4 := h3 k hk
      rw [hkeep] at h4
      simp only [hku] at h4
      have hdk : d.getD k 0 = m := placeOf_inj hp.nodup hdm hml (by unfold rk at h4; omega)
      have hne : ∀ v' : Nat, v' ≠ k → (s.1.set k m).getD v' 0 = s.1.getD v' 0 := fun v' h => by
        simp only [List.getD_eq_getElem?_getD, List.getElem?_set_ne (Ne.symm h)]
      refine draw_par hlk hd rest (s.1.set k m, m :: s.2) (List.nodup_cons.1 hnd).2 hbr (by simpa using hl) (fun v' hv' hn' => ?_) (fun m' hm' => ?_) h3 v hv
      · by_cases e : v' = k
        · subst e; rw [hdk]; exact hku.symm
        · show d.getD v' 0 = (s.1.set k m).getD v' 0
          rw [hne v' e]
          exact h1 v' hv' (by simp only [List.mem_cons, not_or]; exact ⟨by omega, hn'⟩)
      · rcases List.mem_cons.1 hm' with e | e
        · exact ⟨k, hk, hkr, by rw [e]; exact hku⟩
        · obtain ⟨v', hv', hn', he⟩ := h2 m' e
          simp only [List.mem_cons, not_or] at hn'
          exact ⟨v', hv', hn'.2, by show (s.1.set k m).getD v' 0 = m'; rw [hne v' (by omega)]; exact he⟩

theorem find_some {l t : List Int} (hl : l.Nodup) (h : t.length < l.length) : ∃ m, l.find? (fun m => decide (m ∉ t)) = some m := by
  cases hf : l.find? (fun m => decide (m ∉ t)) with
  | some m => exact ⟨m, rfl⟩
  | none =>
    rw [List.find?_eq_none] at hf
    have := hl.length_le_of_subset (l₂ := t) fun x hx => by simpa using hf x hx
    omega
/-- What is drawn: within bounds, no mountain twice. -/
theorem draw_all {vs : List Vil} {n : Nat} (hlk : ∀ v : Nat, v < n → PermOf n (vs.getD v ⟨0, 0, []⟩).likes) :
    ∀ (order : List Int) (s : List Int × List Int), order.Nodup → (∀ u ∈ order, 0 ≤ u ∧ u < n) → s.1.length = n → s.2.length + order.length = n →
    (∀ v : Nat, v < n → (v : Int) ∉ order → s.1.getD v 0 ∈ s.2 ∧ 0 ≤ s.1.getD v 0 ∧ s.1.getD v 0 < n) →
    (∀ v u : Nat, v < n → u < n → (v : Int) ∉ order → (u : Int) ∉ order → s.1.getD v 0 = s.1.getD u 0 → v = u) →
    (∀ v : Nat, v < n → 0 ≤ (order.foldl (drawStep vs) s).1.getD v 0 ∧ (order.foldl (drawStep vs) s).1.getD v 0 < n) ∧
    (∀ v u : Nat, v < n → u < n → (order.foldl (drawStep vs) s).1.getD v 0 = (order.foldl (drawStep vs) s).1.getD u 0 → v = u)
  | [], s, _, _, _, _, h1, h2 => ⟨fun v hv => (h1 v hv (by simp)).2, fun v u hv hu => h2 v u hv hu (by simp) (by simp)⟩
  | u :: rest, s, hnd, hb, hl, hlen, h1, h2 => by
    have hb0 := hb u (by simp)
    obtain ⟨k, rfl⟩ : ∃ k : Nat, u = (k : Int) := ⟨u.toNat, by omega⟩
    have hk : k < n := by omega
    have hkr : (k : Int) ∉ rest := (List.nodup_cons.1 hnd).1
    have hp := hlk k hk
    obtain ⟨m, hf⟩ := find_some (t := s.2) hp.nodup (by have := hp.len; simp at hlen; omega)
    have hml := List.mem_of_find?_eq_some hf
    have hmb := (hp.mem m).1 hml
    have hmf : m ∉ s.2 := by have := List.find?_some hf; simpa using this
    have hst : drawStep vs s (k : Int) = (s.1.set k m, m :: s.2) := by
      unfold drawStep
      rw [Int.toNat_natCast, hf]
    rw [List.foldl_cons, hst]
    have hku : (s.1.set k m).getD k 0 = m := by
      rw [List.getD_eq_getElem?_getD, List.getElem?_set_self (by omega)]; rfl
    have hne : ∀ v' : Nat, v' ≠ k → (s.1.set k m).getD v' 0 = s.1.getD v' 0 := fun v' h => by
      simp only [List.getD_eq_getElem?_getD, List.getElem?_set_ne (Ne.symm h)]
    have hno : ∀ v : Nat, v ≠ k → (v : Int) ∉ rest → (v : Int) ∉ (k : Int) :: rest := fun v h h' => by
      simp only [List.mem_cons, not_or]; exact ⟨by omega, h'⟩
    refine draw_all hlk rest (s.1.set k m, m :: s.2) (List.nodup_cons.1 hnd).2 (fun x hx => hb x (by simp [hx])) (by simpa using hl) (by simp at hlen ⊢; omega) (fun v hv hn' => ?_) (fun v u hv hu hvn hun => ?_)
    · show (s.1.set k m).getD v 0 ∈ m :: s.2 ∧ 0 ≤ (s.1.set k m).getD v 0 ∧ (s.1.set k m).getD v 0 < n
      by_cases e : v = k
      · subst e; rw [hku]; exact ⟨by simp, hmb⟩
      · rw [hne v e]
        have h3 := h1 v hv (hno v e hn')
        exact ⟨List.mem_cons_of_mem _ h3.1, h3.2⟩
    · show (s.1.set k m).getD v 0 = (s.1.set k m).getD u 0 → v = u
      by_cases e : v = k
      · subst e
        by_cases e2 : u = v
        · intro _; exact e2.symm
        · rw [hku, hne u e2]
          intro h
          exact absurd (h ▸ (h1 u hu (hno u e2 hun)).1) hmf
      · by_cases e2 : u = k
        · subst e2
          rw [hku, hne v e]
          intro h
          exact absurd (h ▸ (h1 v hv (hno v e hvn)).1) hmf
        · rw [hne v e, hne u e2]
          exact h2 v u hv hu (hno v e hvn) (hno u e2 hun)
theorem drawF_perm {vs : List Vil} {n : Nat} {order : List Int} (hlk : ∀ v : Nat, v < n → PermOf n (vs.getD v ⟨0, 0, []⟩).likes) (ho : PermOf n order) : PermOf n (drawF vs n order) := by
  have hdl : (drawF vs n order).length = n := by
    rw [drawF, drawSt, drawSt_len vs n]; simp
  obtain ⟨h1, h2⟩ := draw_all hlk order (List.replicate n 0, []) ho.nodup (fun u hu => (ho.mem u).1 hu) (by simp) (by simpa using ho.len) (fun v hv hn => absurd ((ho.mem _).2 ⟨by omega, by omega⟩) hn) (fun v u hv _ hn => absurd ((ho.mem _).2 ⟨by omega, by omega⟩) hn)
  have hgd : ∀ v (a : v < (drawF vs n order).length), (drawF vs n order)[v] = (drawF vs n order).getD v 0 := fun v a => by rw [List.getD_eq_getElem?_getD, List.getElem?_eq_getElem a]; rfl
  rw [permOf_iff]
  refine ⟨hdl, fun x hx => ?_, ?_⟩
  · obtain ⟨v, hv, rfl⟩ := List.getElem_of_mem hx
    rw [hgd v hv]
    exact h1 v (by omega)
  · rw [List.Nodup, List.pairwise_iff_getElem]
    intro a b ha hb hab e
    rw [hgd a ha, hgd b hb] at e
    have := h2 a b (by omega) (by omega) e
    omega
/-- The law: whoever is as well off everywhere has just what is drawn. -/
theorem pareto_law {vs : List Vil} {n : Nat} {order d : List Int} (hlk : ∀ v : Nat, v < n → PermOf n (vs.getD v ⟨0, 0, []⟩).likes) (ho : PermOf n order) (hd : PermOf n d)
    (h : ∀ v : Nat, v < n → rk vs v (d.getD v 0) ≤ rk vs v ((drawF vs n order).getD v 0)) (v : Nat) (hv : v < n) : rk vs v (d.getD v 0) = rk vs v ((drawF vs n order).getD v 0) := by
  have := draw_par hlk hd order (List.replicate n 0, []) ho.nodup (fun u hu => (ho.mem u).1 hu) (by simp) (fun v hv hn => absurd ((ho.mem _).2 ⟨by omega, by omega⟩) hn) (by simp) h v hv
  rw [this]; rfl

end Go.Proofs.YtmlikgjfpmjdcaaDoor

/- The walk of LotsPareto: it hands back true, whatever the numbers; conditions: the argument reads as numbers. -/
namespace Go.Proofs.YtmlikgjfpmjdcaaDoor
open Go.RowKit

theorem Blk.drew {b : Nat} {cs : Array Value} {t : TypeId} {w : World} (h : Blk b cs t w) : Blk b cs t w.drew := h
/-- What a comparison of two divisions reads. -/
def PaS (b : Nat) (vm vv : Value) (gb o : Nat) (row : Value) (rb ro bf fo : Nat) (x y : Int) (w : World) : Prop := Blk b #[vm, vv] 25 w ∧ w.cell? ⟨gb, o, none⟩ = some row ∧ w.cell? ⟨rb, ro, none⟩ = some (.int .i64 x) ∧ w.cell? ⟨bf, fo, none⟩ = some (.int .i64 y)
theorem PaS.drew {b : Nat} {vm vv : Value} {gb o : Nat} {row : Value} {rb ro bf fo : Nat} {x y : Int} {w : World} (h : PaS b vm vv gb o row rb ro bf fo x y w) : PaS b vm vv gb o row rb ro bf fo x y w.drew := h
def betterN (vs : List Vil) (d got : List Int) (j : Nat) : Bool := (List.range j).any fun v => decide (rk vs v (d.getD v 0) < rk vs v (got.getD v 0))
def worseN (vs : List Vil) (d got : List Int) (j : Nat) : Bool := (List.range j).any fun v => decide (rk vs v (d.getD v 0) > rk vs v (got.getD v 0))
theorem betterN_succ (vs : List Vil) (d got : List Int) (j : Nat) : betterN vs d got (j + 1) = (betterN vs d got j || decide (rk vs j (d.getD j 0) < rk vs j (got.getD j 0))) := by simp [betterN, List.range_succ]
theorem worseN_succ (vs : List Vil) (d got : List Int) (j : Nat) : worseN vs d got (j + 1) = (worseN vs d got j || decide (rk vs j (d.getD j 0) > rk vs j (got.getD j 0))) := by simp [worseN, List.range_succ]
theorem pareto_flags {vs : List Vil} {n : Nat} {order d : List Int} (hlk : ∀ v : Nat, v < n → PermOf n (vs.getD v ⟨0, 0, []⟩).likes) (ho : PermOf n order) (hd : PermOf n d) (hw : worseN vs d (drawF vs n order) n = false) : betterN vs d (drawF vs n order) n = false := by
  simp only [worseN, List.any_eq_false, List.mem_range, decide_eq_true_eq] at hw
  simp only [betterN, List.any_eq_false, List.mem_range, decide_eq_true_eq]
  intro v hv
  have := pareto_law hlk ho hd (fun u hu => by have := hw u hu; omega) v hv
  omega

end Go.Proofs.YtmlikgjfpmjdcaaDoor

/- The contract of blocked (mestalaw08): whether a group could do better by itself; conditions: valid commons of at most four mountains, two divisions. -/
namespace Go.Proofs.YtmlikgjfpmjdcaaDoor
open Go.RowKit

/-- Whom the m-th of a group is, and whose mountain it would get. -/
def gAt (S : List Int) (m : Nat) : Nat := (S.getD m 0).toNat
def gTo (S p : List Int) (m : Nat) : Nat := (S.getD (p.getD m 0).toNat 0).toNat
def betB (vs : List Vil) (fst d S p : List Int) (j : Nat) : Bool := (List.range j).any fun m => decide (rk vs (gAt S m) (fst.getD (gTo S p m) 0) < rk vs (gAt S m) (d.getD (gAt S m) 0))
def worB (vs : List Vil) (fst d S p : List Int) (j : Nat) : Bool := (List.range j).any fun m => decide (rk vs (gAt S m) (fst.getD (gTo S p m) 0) > rk vs (gAt S m) (d.getD (gAt S m) 0))
theorem betB_succ (vs : List Vil) (fst d S p : List Int) (j : Nat) : betB vs fst d S p (j + 1) = (betB vs fst d S p j || decide (rk vs (gAt S j) (fst.getD (gTo S p j) 0) < rk vs (gAt S j) (d.getD (gAt S j) 0))) := by simp [betB, List.range_succ]
theorem worB_succ (vs : List Vil) (fst d S p : List Int) (j : Nat) : worB vs fst d S p (j + 1) = (worB vs fst d S p j || decide (rk vs (gAt S j) (fst.getD (gTo S p j) 0) > rk vs (gAt S j) (d.getD (gAt S j) 0))) := by simp [worB, List.range_succ]
def blkB (vs : List Vil) (fst d S p : List Int) (m : Nat) : Bool := betB vs fst d S p m && !worB vs fst d S p m
def Blocks (vs : List Vil) (fst d : List Int) (n : Nat) : Prop := ∃ m, 1 ≤ m ∧ m ≤ n ∧ ∃ S ∈ picksL n m 0, ∃ p ∈ ordersL m, blkB vs fst d S p m = true

/-- What a round over a group reads. -/
def BlS (b : Nat) (vm vv : Value) (b1 o1 : Nat) (r1 : Value) (b2 o2 : Nat) (r2 : Value) (b3 o3 : Nat) (x3 : Int) (b4 o4 : Nat) (x4 : Int) (b5 o5 : Nat) (x5 : Int) (b6 o6 : Nat) (x6 : Int) (w : World) : Prop :=
  Blk b #[vm, vv] 25 w ∧ w.cell? ⟨b1, o1, none⟩ = some r1 ∧ w.cell? ⟨b2, o2, none⟩ = some r2 ∧ w.cell? ⟨b3, o3, none⟩ = some (.int .i64 x3) ∧ w.cell? ⟨b4, o4, none⟩ = some (.int .i64 x4) ∧ w.cell? ⟨b5, o5, none⟩ = some (.int .i64 x5) ∧ w.cell? ⟨b6, o6, none⟩ = some (.int .i64 x6)
theorem BlS.drew {b : Nat} {vm vv : Value} {b1 o1 : Nat} {r1 : Value} {b2 o2 : Nat} {r2 : Value} {b3 o3 : Nat} {x3 : Int} {b4 o4 : Nat} {x4 : Int} {b5 o5 : Nat} {x5 : Int} {b6 o6 : Nat} {x6 : Int} {w : World} (h : BlS b vm vv b1 o1 r1 b2 o2 r2 b3 o3 x3 b4 o4 x4 b5 o5 x5 b6 o6 x6 w) : BlS b vm vv b1 o1 r1 b2 o2 r2 b3 o3 x3 b4 o4 x4 b5 o5 x5 b6 o6 x6 w.drew := h

def ascB : List Int → Bool
  | [] => true
  | [_] => true
  | x :: y :: t => decide (x < y) && ascB (y :: t)
theorem ascB_pw : ∀ l, ascB l = true → l.Pairwise (· < ·)
  | [], _ => by simp
  | [_], _ => by simp
  | x :: y :: t, h => by
    simp only [ascB, Bool.and_eq_true, decide_eq_true_eq] at h
    have ih := ascB_pw (y :: t) h.2
    refine List.pairwise_cons.2 ⟨fun z hz => ?_, ih⟩
    rcases List.mem_cons.1 hz with rfl | hz
    · exact h.1
    · have := (List.pairwise_cons.1 ih).1 z hz
      omega
theorem picksL_ok {n : Nat} (hn : n ≤ 4) {m : Nat} (hm : m ≤ 4) : ∀ S ∈ picksL n m 0, S.length = m ∧ S.Nodup ∧ ∀ x ∈ S, 0 ≤ x ∧ x < n := by
  have h : ∀ n < 5, ∀ m < 5, ∀ S ∈ picksL n m 0, S.length = m ∧ ascB S = true ∧ S.all (fun x => decide (0 ≤ x) && decide (x < (n : Int))) = true := by decide +kernel
  intro S hS
  obtain ⟨h1, h2, h3⟩ := h n (by omega) m (by omega) S hS
  refine ⟨h1, (ascB_pw S h2).imp (fun h => by omega), fun x hx => ?_⟩
  have := List.all_eq_true.1 h3 x hx
  simpa using this
theorem orders_len {n : Nat} (hn : n ≤ 4) : (ordersL n).length ≤ 24 := by
  have h : ∀ n < 5, (ordersL n).length ≤ 24 := by decide +kernel
  exact h n (by omega)

end Go.Proofs.YtmlikgjfpmjdcaaDoor

/- Whether a group can hand its mountains round (law's better, Better of mestaref08); conditions: valid commons, a division, a group of at most four. -/
namespace Go.Proofs.YtmlikgjfpmjdcaaDoor
open Go.RowKit

/-- The first j of a group like what they would get more. -/
def fineB (vs : List Vil) (d S p : List Int) (j : Nat) : Bool := (List.range j).all fun m => decide (rk vs (gAt S m) (d.getD (gTo S p m) 0) < rk vs (gAt S m) (d.getD (gAt S m) 0))
theorem fineB_succ (vs : List Vil) (d S p : List Int) (j : Nat) : fineB vs d S p (j + 1) = (fineB vs d S p j && decide (rk vs (gAt S j) (d.getD (gTo S p j) 0) < rk vs (gAt S j) (d.getD (gAt S j) 0))) := by simp [fineB, List.range_succ]
def betterB (vs : List Vil) (d S : List Int) : Bool := (ordersL S.length).any fun p => fineB vs d S p S.length
/-- What a round reads. -/
def GrS (b : Nat) (cs : Array Value) (b1 o1 : Nat) (v1 : Value) (b2 o2 : Nat) (x2 : Int) (b3 o3 : Nat) (x3 : Int) (b4 o4 : Nat) (x4 : Int) (b5 o5 : Nat) (x5 : Int) (b6 o6 : Nat) (x6 : Int) (w : World) : Prop :=
  Blk b cs 25 w ∧ w.cell? ⟨b1, o1, none⟩ = some v1 ∧ w.cell? ⟨b2, o2, none⟩ = some (.int .i64 x2) ∧ w.cell? ⟨b3, o3, none⟩ = some (.int .i64 x3) ∧ w.cell? ⟨b4, o4, none⟩ = some (.int .i64 x4) ∧ w.cell? ⟨b5, o5, none⟩ = some (.int .i64 x5) ∧ w.cell? ⟨b6, o6, none⟩ = some (.int .i64 x6)
theorem GrS.drew {b : Nat} {cs : Array Value} {b1 o1 : Nat} {v1 : Value} {b2 o2 : Nat} {x2 : Int} {b3 o3 : Nat} {x3 : Int} {b4 o4 : Nat} {x4 : Int} {b5 o5 : Nat} {x5 : Int} {b6 o6 : Nat} {x6 : Int} {w : World} (h : GrS b cs b1 o1 v1 b2 o2 x2 b3 o3 x3 b4 o4 x4 b5 o5 x5 b6 o6 x6 w) : GrS b cs b1 o1 v1 b2 o2 x2 b3 o3 x3 b4 o4 x4 b5 o5 x5 b6 o6 x6 w.drew := h
set_option maxRecDepth 100000 in
theorem ordersL_exts : ∀ n < 5, ordersL n = exts n n [] := by decide +kernel

end Go.Proofs.YtmlikgjfpmjdcaaDoor

