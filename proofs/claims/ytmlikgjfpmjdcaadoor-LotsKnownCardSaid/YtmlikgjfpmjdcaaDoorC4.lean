/- Plain laws and contracts about commons, merged (RS1, RT1, RD1, LateP); conditions: as said at each. -/
import Derived.Test.YtmlikgjfpmjdcaaDoorC1
import Derived.Test.YtmlikgjfpmjdcaaDoorC3
/- The contracts of asked and want (mestaref08); conditions: as said. -/
namespace Go.Proofs.YtmlikgjfpmjdcaaDoor
open Go.RowKit

end Go.Proofs.YtmlikgjfpmjdcaaDoor

/- Blocks of bools; who points at whom, as mestaref08 finds it; conditions: as said. -/
namespace Go.Proofs.YtmlikgjfpmjdcaaDoor
open Go.RowKit

def BL (l : List Bool) : List Value := l.map Value.bool
theorem BL_len (l : List Bool) : (BL l).length = l.length := List.length_map _
/-- A made block of bools, known whole. -/
def BoolBlk (w : World) (g : Nat) (l : List Bool) : Prop := w.heap[g]? = some (.cells (BL l).toArray 4 (0, 0))
theorem BoolBlk.lt {w : World} {g : Nat} {l : List Bool} (h : BoolBlk w g l) : g < w.heap.size := (Array.getElem?_eq_some_iff.1 h).1
theorem BoolBlk.cell {w : World} {g : Nat} {l : List Bool} (h : BoolBlk w g l) (j : Nat) (hj : j < l.length) : w.cell? ⟨g, j, none⟩ = some (.bool l[j]) := by
  unfold BoolBlk at h
  rw [World.cell?, h]
  simp [BL, hj]
theorem BoolBlk.free {w : World} {g : Nat} {l : List Bool} (h : BoolBlk w g l) (j : Nat) : w.frozen? ⟨g, j, none⟩ = false := by
  unfold BoolBlk at h
  rw [World.frozen?, h]
  simp
theorem BoolBlk.set {w : World} {g : Nat} {l : List Bool} (h : BoolBlk w g l) (j : Nat) (x : Bool) : BoolBlk (w.setCell ⟨g, j, none⟩ (.bool x)) g (l.set j x) := by
  unfold BoolBlk at *
  simp only [World.setCell, Array.getElem?_modify, h]
  simp [BL, List.map_set]
theorem BoolBlk.step {w w' : World} {g : Nat} {l : List Bool} (h : BoolBlk w g l) (hb : w'.heap[g]? = w.heap[g]?) : BoolBlk w' g l := hb.trans h
theorem BoolBlk.call {w w' : World} {g : Nat} {l : List Bool} (h : BoolBlk w g l) (hB : Below w.heap.size w w') : BoolBlk w' g l := h.step (hB.block g h.lt)
theorem BoolBlk.other {w : World} {g : Nat} {l : List Bool} (h : BoolBlk w g l) {a : Addr} (ha : a.block ≠ g) (u : Value) : BoolBlk (w.setCell a u) g l := h.step (Below.heap_setCell w a u g (by omega))
theorem BoolBlk.alloc {w : World} {g : Nat} {l : List Bool} (h : BoolBlk w g l) (o : Obj) : BoolBlk (w.alloc o) g l := h.step (Below.heap_alloc w o g h.lt)
theorem Tryd.info4 : (Tryd.prog.info? 4).map (fun i => (i.zero, i.size, i.bytes)) = some (some (.bool false), 1, 1) := by kernel_rfl
theorem boolBlk_made (w : World) (n : Nat) : BoolBlk (w.alloc (.cells (BL (List.replicate n false)).toArray 4)) w.heap.size (List.replicate n false) := by
  unfold BoolBlk
  exact heap_alloc_new w _

/-- A mask as a list of bools. -/
def bools (n m : Nat) : List Bool := (List.range n).map (hasB m)
theorem bools_len (n m : Nat) : (bools n m).length = n := by simp [bools]
theorem bools_at (n m j : Nat) (h : j < (bools n m).length) : (bools n m)[j] = hasB m j := by simp [bools]

/-- The best of the first k that are left. -/
def bestTo (vs : List Vil) (order : List Int) (m v : Nat) : Nat → Option Nat
  | 0 => none
  | k + 1 => match bestTo vs order m v k with
    | none => if hasB m k = true then some k else none
    | some b => if hasB m k = true ∧ rk vs v (order.getD k 0) < rk vs v (order.getD b 0) then some k else some b
theorem bestTo_spec (vs : List Vil) (order : List Int) (m v : Nat) : ∀ k, (bestTo vs order m v k = none ∧ ∀ j, j < k → hasB m j = false) ∨
    (∃ b, bestTo vs order m v k = some b ∧ b < k ∧ hasB m b = true ∧ ∀ j, j < k → hasB m j = true → rk vs v (order.getD b 0) ≤ rk vs v (order.getD j 0))
  | 0 => .inl ⟨rfl, by omega⟩
  | k + 1 => by
    rcases bestTo_spec vs order m v k with ⟨h1, h2⟩ | ⟨b, h1, h2, h3, h4⟩
    · rw [bestTo, h1]
      by_cases hk : hasB m k = true
      · refine .inr ⟨k, by simp [hk], by omega, hk, fun j hj hm => ?_⟩
        by_cases e : j = k
        · subst e; exact Int.le_refl _
        · rw [h2 j (by omega)] at hm; cases hm
      · refine .inl ⟨by simp [hk], fun j hj => ?_⟩
        by_cases e : j = k
        · subst e; simpa using hk
        · exact h2 j (by omega)
    · rw [bestTo, h1]
      by_cases hk : hasB m k = true ∧ rk vs v (order.getD k 0) < rk vs v (order.getD b 0)
      · refine .inr ⟨k, if_pos hk, by omega, hk.1, fun j hj hm => ?_⟩
        by_cases e : j = k
        · subst e; exact Int.le_refl _
        · have := h4 j (by omega) hm; have := hk.2; omega
      · refine .inr ⟨b, if_neg hk, by omega, h3, fun j hj hm => ?_⟩
        by_cases e : j = k
        · subst e
          have : ¬ rk vs v (order.getD j 0) < rk vs v (order.getD b 0) := fun h => hk ⟨hm, h⟩
          omega
        · exact h4 j (by omega) hm

theorem placeOf_get {l : List Int} {x : Int} (h : x ∈ l) : ∃ (q : Nat) (hq : q < l.length), placeOf l x = q ∧ l[q] = x := by
  have hb := placeOf_bd h
  rw [placeOf] at hb ⊢
  split at hb
  · rename_i i hi
    rw [List.idxOf?, List.findIdx?_eq_some_iff_getElem] at hi
    obtain ⟨h1, h2, _⟩ := hi
    exact ⟨i, h1, by simp, by simpa using h2⟩
  · omega
theorem ptV_spec {vs : List Vil} {order : List Int} {m v : Nat} (hp : PermOf order.length order) (hv : v < vs.length) (hl : PermOf order.length vs[v].likes) (_hm : ∀ j, hasB m j = true → j < order.length) (h : ∃ u, u < order.length ∧ hasB m u = true) :
    hasB m (ptV vs order m v) = true ∧ ∀ j, j < order.length → hasB m j = true → rk vs v (order.getD (ptV vs order m v) 0) ≤ rk vs v (order.getD j 0) := by
  refine ⟨ptV_in hp hv hl h, fun j hj hmj => ?_⟩
  have hget : (vs.getD v ⟨0, 0, []⟩).likes = vs[v].likes := by simp [hv]
  rw [ptV, hget]
  split
  · rename_i x hx
    rw [List.find?_eq_some_iff_getElem] at hx
    obtain ⟨hx1, r, hr, hxr, hpre⟩ := hx
    have hxm : x ∈ order := (hp.mem _).2 ((hl.mem _).1 (by rw [← hxr]; exact List.getElem_mem hr))
    obtain ⟨q, hq, hq1, hq2⟩ := placeOf_get hxm
    have e1 : order.getD (placeOf order x).toNat 0 = x := by rw [hq1, Int.toNat_natCast]; simp [hq, hq2]
    have hjm : order[j] ∈ vs[v].likes := (hl.mem _).2 ((hp.mem _).1 (List.getElem_mem hj))
    have e2 : order.getD j 0 = order[j] := by simp [hj]
    rw [e1, e2, rk_at hv, rk_at hv]
    have e3 : placeOf vs[v].likes x = r := by rw [← hxr]; exact placeOf_at hl.nodup hr
    obtain ⟨q2, hq3, hq4, hq5⟩ := placeOf_get hjm
    rw [e3, hq4]
    by_cases hlt : q2 < r
    · have := hpre q2 hlt
      rw [hq5, placeOf_at hp.nodup hj, Int.toNat_natCast, hmj] at this
      simp at this
    · omega
  · rename_i hx
    exfalso
    obtain ⟨u, hu, hb⟩ := h
    rw [List.find?_eq_none] at hx
    have h1 : order[u] ∈ vs[v].likes := (hl.mem _).2 ((hp.mem _).1 (List.getElem_mem hu))
    have h3 := hx _ h1
    rw [placeOf_at hp.nodup hu] at h3
    exact absurd hb h3
theorem best_pt {vs : List Vil} {order : List Int} {m v : Nat} (hp : PermOf order.length order) (hv : v < vs.length) (hl : PermOf order.length vs[v].likes) (hm : ∀ j, hasB m j = true → j < order.length) (h : ∃ u, u < order.length ∧ hasB m u = true) :
    bestTo vs order m v order.length = some (ptV vs order m v) := by
  obtain ⟨p1, p2⟩ := ptV_spec hp hv hl hm h
  have p3 := hm _ p1
  rcases bestTo_spec vs order m v order.length with ⟨_, h2⟩ | ⟨b, h1, h2, h3, h4⟩
  · obtain ⟨u, hu, hb⟩ := h
    rw [h2 u hu] at hb; cases hb
  · rw [h1]
    have a1 := p2 b h2 h3
    have a2 := h4 _ p3 p1
    have e : rk vs v (order.getD b 0) = rk vs v (order.getD (ptV vs order m v) 0) := by omega
    have g1 : order.getD b 0 = order[b] := by simp [h2]
    have g2 : order.getD (ptV vs order m v) 0 = order[ptV vs order m v] := by simp [p3]
    rw [g1, g2, rk_at hv, rk_at hv] at e
    have m1 : order[b] ∈ vs[v].likes := (hl.mem _).2 ((hp.mem _).1 (List.getElem_mem h2))
    have m2 : order[ptV vs order m v] ∈ vs[v].likes := (hl.mem _).2 ((hp.mem _).1 (List.getElem_mem p3))
    obtain ⟨q1, hq1, e1, f1⟩ := placeOf_get m1
    obtain ⟨q2, hq2, e2, f2⟩ := placeOf_get m2
    have : q1 = q2 := by omega
    subst this
    rw [f1] at f2
    have := (List.getElem_inj hp.nodup).1 f2
    rw [this]

/-- What points reads. -/
def PtS (b : Nat) (vm vv : Value) (A : Nat → Prop) (vl : Value) (l : List Int) (gl : Nat) (lb : List Bool) (w : World) : Prop := Blk b #[vm, vv] 25 w ∧ Ints A w vl l ∧ BoolBlk w gl lb
theorem PtS.call {b : Nat} {vm vv : Value} {A : Nat → Prop} {vl : Value} {l : List Int} {gl : Nat} {lb : List Bool} {w w' : World} (h : PtS b vm vv A vl l gl lb w) (hB : Below w.heap.size w w') : PtS b vm vv A vl l gl lb w' := ⟨h.1.call hB, h.2.1.call hB, h.2.2.call hB⟩
theorem PtS.drew {b : Nat} {vm vv : Value} {A : Nat → Prop} {vl : Value} {l : List Int} {gl : Nat} {lb : List Bool} {w : World} (h : PtS b vm vv A vl l gl lb w) : PtS b vm vv A vl l gl lb w.drew := ⟨h.1, h.2.1.drewN 1, h.2.2⟩

def ptsTo (vs : List Vil) (order : List Int) (m k : Nat) : List Int := (List.range order.length).map fun v => if v < k then (ptV vs order m v : Int) else 0
theorem ptsTo_zero (vs : List Vil) (order : List Int) (m : Nat) : ptsTo vs order m 0 = List.replicate order.length 0 := by
  rw [ptsTo, List.eq_replicate_iff]; simp
theorem ptsTo_len (vs : List Vil) (order : List Int) (m k : Nat) : (ptsTo vs order m k).length = order.length := by simp [ptsTo]
theorem ptsTo_at (vs : List Vil) (order : List Int) (m k j : Nat) (h : j < (ptsTo vs order m k).length) : (ptsTo vs order m k)[j] = if j < k then (ptV vs order m j : Int) else 0 := by simp [ptsTo]
theorem ptsTo_succ (vs : List Vil) (order : List Int) (m k : Nat) (_hk : k < order.length) : ptsTo vs order m (k + 1) = (ptsTo vs order m k).set k (ptV vs order m k : Int) := by
  apply List.ext_getElem
  · simp [ptsTo]
  · intro j h1 h2
    rw [ptsTo_at, List.getElem_set]
    by_cases e : k = j
    · subst e; simp
    · rw [if_neg e, ptsTo_at]
      have : (j < k + 1) ↔ (j < k) := by omega
      simp [this]

end Go.Proofs.YtmlikgjfpmjdcaaDoor

/- Draw of mestaref08: what is drawn in an order, or the error; conditions: none. -/
namespace Go.Proofs.YtmlikgjfpmjdcaaDoor
open Go.RowKit

/-- What is taken of n mountains. -/
def takB (n : Nat) (t : List Int) : List Bool := (List.range n).map fun (j : Nat) => decide ((j : Int) ∈ t)
theorem takB_len (n : Nat) (t : List Int) : (takB n t).length = n := by simp [takB]
theorem takB_at (n : Nat) (t : List Int) (j : Nat) (h : j < (takB n t).length) : (takB n t)[j] = decide ((j : Int) ∈ t) := by simp [takB]
theorem takB_nil (n : Nat) : takB n [] = List.replicate n false := by
  apply List.ext_getElem
  · simp [takB]
  · intro i h1 h2; simp [takB]
theorem takB_cons (n : Nat) (t : List Int) (j : Nat) : takB n ((j : Int) :: t) = (takB n t).set j true := by
  apply List.ext_getElem
  · simp [takB]
  · intro i h1 h2
    rw [List.getElem_set]
    by_cases e : j = i
    · subst e; simp [takB]
    · have : ¬ (i : Int) = (j : Int) := by omega
      simp [takB, e, this]
theorem BoolBlk.qt {w w' : World} {g : Nat} {l : List Bool} (h : BoolBlk w g l) (q : Qt w w') : BoolBlk w' g l := h.call (q.below _)
theorem IntBlk.qt {w w' : World} {g : Nat} {l : List Int} (h : IntBlk w g l) (q : Qt w w') : IntBlk w' g l := h.call (q.below _)
/-- What a round reads first, and last. -/
def RdS (b : Nat) (vv : Value) (b1 o1 : Nat) (vi b2 o2 : Nat) (lv : Value) (w : World) : Prop := w.cell? ⟨b, 1, none⟩ = some vv ∧ w.cell? ⟨b1, o1, none⟩ = some (.int .i64 vi) ∧ w.cell? ⟨b2, o2, none⟩ = some lv
theorem RdS.drew {b : Nat} {vv : Value} {b1 o1 vi b2 o2 : Nat} {lv : Value} {w : World} (h : RdS b vv b1 o1 vi b2 o2 lv w) : RdS b vv b1 o1 vi b2 o2 lv w.drew := h
def RdT (b1 o1 : Nat) (vi b2 o2 x : Nat) (w : World) : Prop := w.cell? ⟨b1, o1, none⟩ = some (.int .i64 vi) ∧ w.cell? ⟨b2, o2, none⟩ = some (.int .i64 x)
theorem RdT.drew {b1 o1 vi b2 o2 x : Nat} {w : World} (h : RdT b1 o1 vi b2 o2 x w) : RdT b1 o1 vi b2 o2 x w.drew := h

theorem drawSt_two {vs : List Vil} {n : Nat} (hlk : ∀ v : Nat, v < n → PermOf n (vs.getD v ⟨0, 0, []⟩).likes) : ∀ (order : List Int) (s : List Int × List Int), (∀ u ∈ order, 0 ≤ u ∧ u < n) → s.2.length + order.length ≤ n → (order.foldl (drawStep vs) s).2.length = s.2.length + order.length
  | [], s, _, _ => rfl
  | u :: rest, s, hb, hl => by
    have hb0 := hb u (by simp)
    obtain ⟨k, rfl⟩ : ∃ k : Nat, u = (k : Int) := ⟨u.toNat, by omega⟩
    have hp := hlk k (by omega)
    simp only [List.length_cons] at hl
    obtain ⟨m, hf⟩ := find_some (t := s.2) hp.nodup (by have := hp.len; omega)
    have hst : drawStep vs s (k : Int) = (s.1.set k m, m :: s.2) := by
      unfold drawStep
      rw [Int.toNat_natCast, hf]
    rw [List.foldl_cons, hst, drawSt_two hlk rest _ (fun x hx => hb x (by simp [hx])) (by simp; omega)]
    simp; omega

end Go.Proofs.YtmlikgjfpmjdcaaDoor

/- A late village, in plain words: nobody else gains by it; conditions: as said. -/
namespace Go.Proofs.YtmlikgjfpmjdcaaDoor
open Go.RowKit

theorem sumI_take_nonneg : ∀ {t : List Int}, (∀ i, i < t.length → 0 ≤ t.getD i 0) → 0 ≤ sumI t
  | [], _ => Int.le_refl _
  | x :: u, h => by
    have h0 := h 0 (by simp)
    have h1 := sumI_take_nonneg (t := u) (fun i hi => by have := h (i + 1) (by simp; omega); simpa using this)
    simp at h0
    simp only [sumI]; omega
theorem sumI_lt_ex : ∀ {l m : List Int}, l.length = m.length → sumI l ≤ sumI m → (∃ i, i < l.length ∧ m.getD i 0 < l.getD i 0) → ∃ k, k < l.length ∧ l.getD k 0 < m.getD k 0 := by
  intro l m hl hs ⟨i, hi, h⟩
  by_cases hk : ∃ k, k < l.length ∧ l.getD k 0 < m.getD k 0
  · exact hk
  · exfalso
    obtain ⟨h1, h2⟩ := sumI_le (l := m) (m := l) hl.symm (fun j hj => by
      by_cases h : l.getD j 0 < m.getD j 0
      · exact absurd ⟨j, by omega, h⟩ hk
      · omega)
    have := h2 (by omega)
    rw [this] at h
    omega

/-- A late village: nobody else gains, and all others together give up no more than it gets. -/
theorem late_law {vs : List Vil} {x : Vil} (hv : VOk vs) (hx : VOk (vs ++ [x])) (p : Nat) :
    (∀ i, i < vs.length → 0 ≤ (allotN vs p).getD i 0 ∧ 0 ≤ (allotN (vs ++ [x]) p).getD i 0 ∧ (allotN (vs ++ [x]) p).getD i 0 ≤ (allotN vs p).getD i 0)
    ∧ 0 ≤ (allotN (vs ++ [x]) p).getD vs.length 0 ∧ (allotN (vs ++ [x]) p).getD vs.length 0 ≤ x.herd
    ∧ ∃ g : Int, g = sumI (allotN vs p) - sumI ((allotN (vs ++ [x]) p).take vs.length) ∧ g ≤ (allotN (vs ++ [x]) p).getD vs.length 0 ∧ ((p : Int) ≤ sumI (allotN vs p) → g = (allotN (vs ++ [x]) p).getD vs.length 0) := by
  have e1 : ∀ i, i < vs.length → hea (vs ++ [x]) i = hea vs i := fun i hi => by simp [hea, List.getElem?_append_left hi]
  have e2 : ∀ i, i < vs.length → her (vs ++ [x]) i = her vs i := fun i hi => by simp [her, List.getElem?_append_left hi]
  have e3 : her (vs ++ [x]) vs.length = x.herd := by simp [her]
  have hla := allotN_len (vs ++ [x]) p
  have hlb := allotN_len vs p
  have ha := allotN_her hx p
  have hb := allotN_her hv p
  have pa := fun i => allotN_pos (vs := vs ++ [x]) p i
  have pb := fun i => allotN_pos (vs := vs) p i
  have ja := allotN_just hx p
  have jb := allotN_just hv p
  have sa := allotN_sum hx p
  have sb := allotN_sum hv p
  have hh : sumI (herds (vs ++ [x])) = sumI (herds vs) + x.herd := by simp [herds, sumI_append, sumI]
  generalize allotN (vs ++ [x]) p = a at *
  generalize allotN vs p = b at *
  simp only [List.length_append, List.length_cons, List.length_nil] at hla ha
  have ht : sumI a = sumI (a.take vs.length) + a.getD vs.length 0 := by
    have h1 : a = a.take vs.length ++ [a.getD vs.length 0] := by
      have h2 : vs.length < a.length := by omega
      have h3 := List.take_succ_eq_append_getElem h2
      rw [List.take_of_length_le (by omega)] at h3
      have h5 : a.getD vs.length 0 = a[vs.length] := by simp [h2]
      rw [h5]; exact h3
    have h4 := congrArg sumI h1
    rw [sumI_append] at h4
    simpa [sumI] using h4
  have gt : ∀ i, i < vs.length → (a.take vs.length).getD i 0 = a.getD i 0 := fun i hi => by
    simp [List.getD_eq_getElem?_getD, hi]
  have hmon : ∀ i, i < vs.length → a.getD i 0 ≤ b.getD i 0 := by
    intro i hi
    by_cases hc : a.getD i 0 ≤ b.getD i 0
    · exact hc
    · exfalso
      have hai := ha i (by omega)
      rw [e2 i hi] at hai
      have hsle : sumI (a.take vs.length) ≤ sumI b := by
        have h0 := pa vs.length
        by_cases hfull : sumI b = sumI (herds vs)
        · have h1 := (sumI_le (l := a.take vs.length) (m := herds vs) (by simp [herds]; omega) (fun j hj => by
            have hj : j < vs.length := by simp at hj; omega
            rw [gt j hj, herds_at vs j hj, ← e2 j hj]; exact ha j (by omega))).1
          omega
        · omega
      obtain ⟨k, hk, hkl⟩ := sumI_lt_ex (l := a.take vs.length) (m := b) (by simp; omega) hsle ⟨i, by simp; omega, by rw [gt i hi]; omega⟩
      have hk : k < vs.length := by simp at hk; omega
      rw [gt k hk] at hkl
      have hne : i ≠ k := fun e => by subst e; omega
      have A1 := ja k i (by simp; omega) (by simp; omega) (Ne.symm hne) (by rw [e2 k hk]; have := hb k hk; omega) (by have := pb i; omega)
      have B1 := jb i k hi hk hne (by omega) (by have := pa k; omega)
      rw [e1 k hk, e1 i hi] at A1
      have c1 : hea vs i * (a.getD k 0 + 1) ≤ hea vs i * b.getD k 0 := Int.mul_le_mul_of_nonneg_left (by omega) (by have := vok_hea hv i hi; omega)
      have c2 : hea vs k * (b.getD i 0 + 1) ≤ hea vs k * a.getD i 0 := Int.mul_le_mul_of_nonneg_left (by omega) (by have := vok_hea hv k hk; omega)
      have d1 := A1.2 (by omega)
      have d2 := B1.2 (by omega)
      omega
  have h60 := vok_her hx vs.length (by simp)
  rw [e3] at h60
  refine ⟨fun i hi => ⟨pb i, pa i, hmon i hi⟩, pa _, by rw [← e3]; exact ha _ (by omega), _, rfl, by omega, fun hp => by omega⟩

end Go.Proofs.YtmlikgjfpmjdcaaDoor

