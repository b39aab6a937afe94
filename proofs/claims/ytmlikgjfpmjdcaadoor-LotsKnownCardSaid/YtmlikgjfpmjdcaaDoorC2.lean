/- Plain laws and contracts about commons, merged (RF4, RF5, RF6, RF7, RF8, RF9, FairQ, FairP); conditions: as said at each. -/
import Derived.Test.YtmlikgjfpmjdcaaDoorC1
/- Whether a division gives no village a mountain that it had in some years (mestaref08.fits); conditions: all lists as long as the division. -/
namespace Go.Proofs.YtmlikgjfpmjdcaaDoor
open Go.RowKit

/-- Two divisions agree in none of the first k places. -/
def apartTo (a d : List Int) (k : Nat) : Bool := (List.range k).all fun i => !(a.getD i 0 == d.getD i 0)
theorem apartTo_succ (a d : List Int) (k : Nat) : apartTo a d (k + 1) = (apartTo a d k && !(a.getD k 0 == d.getD k 0)) := by simp [apartTo, List.range_succ]
def fitsTo (ys : List (List Int)) (d : List Int) (k : Nat) : Bool := (ys.take k).all fun a => apartTo a d d.length
theorem fitsTo_succ (ys : List (List Int)) (d : List Int) (k : Nat) (hk : k < ys.length) : fitsTo ys d (k + 1) = (fitsTo ys d k && apartTo ys[k] d d.length) := by
  rw [fitsTo, fitsTo, List.take_succ_eq_append_getElem hk, List.all_append]; simp
theorem fits_no {ys : List (List Int)} {d : List Int} {k j : Nat} (hk : k < ys.length) (hj : j < d.length) (he : ys[k].getD j 0 = d.getD j 0) : fitsTo ys d ys.length = false := by
  rw [fitsTo, List.take_length, List.all_eq_false]
  refine ⟨ys[k], List.getElem_mem hk, ?_⟩
  rw [apartTo, Bool.not_eq_true, List.all_eq_false]
  exact ⟨j, by simpa using hj, by rw [he]; simp⟩

end Go.Proofs.YtmlikgjfpmjdcaaDoor

/- Which of two lists of years has less envy first (mestaref08.calmer); conditions: valid commons, divisions, as many in both. -/
namespace Go.Proofs.YtmlikgjfpmjdcaaDoor
open Go.RowKit

/-- Less envy in the first year, from the k-th on, in which they differ. -/
def calmF (vs : List Vil) : List (List Int) → List (List Int) → Bool
  | a :: s, b :: t => if rkS vs a vs.length = rkS vs b vs.length then calmF vs s t else decide (rkS vs a vs.length < rkS vs b vs.length)
  | _, _ => false
theorem calmF_at {vs : List Vil} {s t : List (List Int)} {k : Nat} (h1 : k < s.length) (h2 : k < t.length) : calmF vs (s.drop k) (t.drop k) = if rkS vs s[k] vs.length = rkS vs t[k] vs.length then calmF vs (s.drop (k + 1)) (t.drop (k + 1)) else decide (rkS vs s[k] vs.length < rkS vs t[k] vs.length) := by
  rw [List.drop_eq_getElem_cons h1, List.drop_eq_getElem_cons h2, calmF]
def CaS (b : Nat) (vm vv : Value) (b1 o1 : Nat) (r : Value) (w : World) : Prop := Blk b #[vm, vv] 25 w ∧ w.cell? ⟨b1, o1, none⟩ = some r
theorem CaS.drew {b : Nat} {vm vv : Value} {b1 o1 : Nat} {r : Value} {w : World} (h : CaS b vm vv b1 o1 r w) : CaS b vm vv b1 o1 r w.drew := h

end Go.Proofs.YtmlikgjfpmjdcaaDoor

/- Lists of lists of lists in memory (for mestaref08.Cycles); conditions: as said. -/
namespace Go.Proofs.YtmlikgjfpmjdcaaDoor
open Go.RowKit

theorem Tryd.info40 : (Tryd.prog.info? 40).map (fun i => (i.zero, i.size, i.bytes)) = some (some (.slice none 0 0), 1, 24) := by kernel_rfl

/-- A slice of slices of slices. -/
def Cube (A : Nat → Prop) (w : World) (v : Value) (l : List (List (List Int))) : Prop :=
  ∃ vs : List Value, vs.length = l.length ∧ Arr A w v l.length vs ∧ ∀ i (a : i < vs.length) (b : i < l.length), Grid A w vs[i] l[i]
theorem Cube.step {A : Nat → Prop} {w w' : World} {v : Value} {l : List (List (List Int))} (h : Cube A w v l)
    (hs : w.heap.size ≤ w'.heap.size) (hb : ∀ k, A k → k < w.heap.size → w'.heap[k]? = w.heap[k]?) : Cube A w' v l := by
  obtain ⟨vs, h1, h2, h3⟩ := h
  exact ⟨vs, h1, h2.step hs hb, fun i a b => (h3 i a b).step hs hb⟩
theorem Cube.wide {A A' : Nat → Prop} {w : World} {v : Value} {l : List (List (List Int))} (h : Cube A w v l) (hA : ∀ k, A k → k < w.heap.size → A' k) : Cube A' w v l := by
  obtain ⟨vs, h1, h2, h3⟩ := h
  exact ⟨vs, h1, h2.wide hA, fun i a b => (h3 i a b).wide hA⟩
theorem Cube.call {A : Nat → Prop} {w w' : World} {v : Value} {l : List (List (List Int))} (h : Cube A w v l) (hB : Below w.heap.size w w') : Cube A w' v l := h.step hB.size fun k _ hl => hB.block k hl
theorem Cube.shape {A : Nat → Prop} {w : World} {v : Value} {l : List (List (List Int))} (h : Cube A w v l) : ∃ ao cap, v = .slice ao l.length cap ∧ l.length ≤ cap ∧ cap ≤ maxLen := by
  obtain ⟨vs, _, ⟨ao, cap, hv, h1, ⟨h2, _⟩, _⟩, _⟩ := h
  exact ⟨ao, cap, hv, h1, h2⟩
theorem cube_one {A : Nat → Prop} {w : World} {us : List Value} {g : List (List (List Int))} (hu : us.length = g.length) (h : ∀ i (a : i < us.length) (b : i < g.length), Grid A w us[i] g[i]) : ∀ u ∈ us, u.oneCell' = true := by
  intro u hu'
  obtain ⟨i, hi, rfl⟩ := List.getElem_of_mem hu'
  obtain ⟨ao, cap, he, _⟩ := (h i hi (by omega)).shape
  rw [he]
  rfl
/-- One that the call makes. -/
def GOC (A : Nat → Prop) (B : Nat) (w : World) (v : Value) (out : List (List (List Int))) : Prop :=
  ∃ vs : List Value, vs.length = out.length ∧ Own B w 40 1 v out.length vs ∧ ∀ i (a : i < vs.length) (b : i < out.length), Grid (fun k => A k ∧ v.ownBlock ≠ some k) w vs[i] out[i]
theorem GOC.nil (A : Nat → Prop) (B : Nat) (w : World) : GOC A B w (.slice none 0 0) [] := ⟨[], rfl, Own.nil, fun i a => by simp at a⟩
theorem GOC.call {A : Nat → Prop} {B : Nat} {w w' : World} {v : Value} {out : List (List (List Int))} (h : GOC A B w v out) (hB : Below w.heap.size w w') : GOC A B w' v out := by
  obtain ⟨vs, h1, h2, h3⟩ := h
  exact ⟨vs, h1, h2.step fun k _ _ hl => hB.block k hl, fun i a b => (h3 i a b).step hB.size fun k _ hl => hB.block k hl⟩
theorem GOC.lt {A : Nat → Prop} {B : Nat} {w : World} {v : Value} {out : List (List (List Int))} (h : GOC A B w v out) (q : Nat) (hq : v.ownBlock = some q) : q < w.heap.size := by
  obtain ⟨vs, _, ho, _⟩ := h
  exact (ho.lt q hq).2
theorem GOC.cube {A C : Nat → Prop} {B : Nat} {w : World} {v : Value} {out : List (List (List Int))} (h : GOC A B w v out) (hA : ∀ k, A k → C k) (hB : ∀ k, B ≤ k → C k) : Cube C w v out := by
  obtain ⟨vs, h1, h2, h3⟩ := h
  exact ⟨vs, h1, h2.arr.wide fun k hk _ => hB k hk, fun i a b => (h3 i a b).wide fun k hk _ => hA k hk.1⟩
theorem gputsC {A : Nat → Prop} {B : Nat} {w w3 : World} {v v' : Value} {out news : List (List (List Int))} {vs us : List Value} (h1 : vs.length = out.length)
    (h3 : ∀ i (a : i < vs.length) (b : i < out.length), Grid (fun k => A k ∧ v.ownBlock ≠ some k) w vs[i] out[i]) (hu : us.length = news.length)
    (hr : ∀ i (a : i < us.length) (b : i < news.length), Grid (fun k => A k ∧ v.ownBlock ≠ some k) w us[i] news[i])
    (ho : Own B w3 40 1 v' (out.length + news.length) (vs ++ us)) (hT : Turned w w3 v v') : GOC A B w3 v' (out ++ news) := by
  have hpl : ∀ k, k < w.heap.size → v.ownBlock ≠ some k → v'.ownBlock ≠ some k := fun k hk hv e => by
    rcases hT.place with e1 | e1
    · exact hv (e1 ▸ e)
    · rw [e1] at e; simp at e; omega
  have go : ∀ (u : Value) (x : List (List Int)), Grid (fun k => A k ∧ v.ownBlock ≠ some k) w u x → Grid (fun k => A k ∧ v'.ownBlock ≠ some k) w3 u x := fun u x h =>
    ((h.wide (A' := fun k => A k ∧ v.ownBlock ≠ some k ∧ k < w.heap.size) fun k hk hl => ⟨hk.1, hk.2, hl⟩).step (w' := w3) hT.size fun k hk hl => hT.block k hl hk.2.1).wide fun k hk hl => ⟨hk.1, hpl k hk.2.2 hk.2.1⟩
  refine ⟨vs ++ us, by simp [h1, hu], by simpa using ho, fun i a b => ?_⟩
  by_cases hi : i < vs.length
  · rw [List.getElem_append_left hi, List.getElem_append_left (by omega)]
    exact go _ _ (h3 i hi (by omega))
  · rw [List.getElem_append_right (by omega), List.getElem_append_right (by omega)]
    have := hr (i - vs.length) (by simp at a; omega) (by simp at b; omega)
    have e : i - out.length = i - vs.length := by omega
    simp only [e]
    exact go _ _ this
/-- A grid with one row more, in a row of the call's own. -/
theorem grid_put {A : Nat → Prop} {B : Nat} {w : World} {v : Value} {b : List (List Int)} {d : List Int} {us : List Value} {r : Value} (hu : us.length = b.length)
    (hus : ∀ i (a : i < us.length) (bb : i < b.length), Ints A w us[i] b[i]) (hr : Ints A w r d) (ho : Own B w 22 1 v (b.length + 1) (us ++ [r])) (hA : ∀ k, B ≤ k → A k) : Grid A w v (b ++ [d]) := by
  refine ⟨us ++ [r], by simp [hu], ?_, fun i a bb => ?_⟩
  · have h1 : Arr (fun k => B ≤ k) w v (b.length + 1) (us ++ [r]) := Own.arr ho
    have h2 := h1.wide (A' := A) (fun k hk _ => hA k hk)
    simpa using h2
  · by_cases hi : i < us.length
    · rw [List.getElem_append_left hi, List.getElem_append_left (by omega)]
      exact hus i hi (by omega)
    · have e : i = us.length := by simp at a; omega
      subst e
      have e1 : (us ++ [r])[us.length] = r := by simp
      have e2 : (b ++ [d])[us.length] = d := by simp [hu]
      rw [e1, e2]
      exact hr

/-- All lists of years that go on from some and in which each village has each mountain once. -/
def cycL (n : Nat) : Nat → List (List Int) → List (List (List Int))
  | 0, b => [b]
  | r + 1, b => (exts n n []).flatMap fun d => if fitsTo b d b.length then cycL n r (b ++ [d]) else []
/-- Those that go on with one of the first k divisions. -/
def cycTo (n r : Nat) (b : List (List Int)) (k : Nat) : List (List (List Int)) := ((exts n n []).take k).flatMap fun d => if fitsTo b d b.length then cycL n r (b ++ [d]) else []
theorem cycTo_succ (n r : Nat) (b : List (List Int)) (k : Nat) (hk : k < (exts n n []).length) : cycTo n r b (k + 1) = cycTo n r b k ++ (if fitsTo b (exts n n [])[k] b.length then cycL n r (b ++ [(exts n n [])[k]]) else []) := by
  rw [cycTo, cycTo, List.take_succ_eq_append_getElem hk, List.flatMap_append]; simp
theorem cycL_succ (n r : Nat) (b : List (List Int)) : cycL n (r + 1) b = cycTo n r b (exts n n []).length := by rw [cycL, cycTo, List.take_length]
theorem exts_all {n : Nat} (hn : n ≤ 4) : (exts n n []).length ≤ 24 ∧ ∀ l ∈ exts n n [], l.length = n := by
  have h : ∀ n < 5, (exts n n []).length ≤ 24 ∧ ∀ l ∈ exts n n [], l.length = n := by decide +kernel
  exact h n (by omega)
theorem cycTo_len {n r : Nat} {b : List (List Int)} (h : ∀ d, (cycL n r (b ++ [d])).length ≤ 24 ^ r) : ∀ k, k ≤ (exts n n []).length → (cycTo n r b k).length ≤ k * 24 ^ r
  | 0, _ => by simp [cycTo]
  | k + 1, hk => by
    have ih := cycTo_len h k (by omega)
    rw [cycTo_succ n r b k (by omega), List.length_append, Nat.add_mul]
    split
    · have := h (exts n n [])[k]; omega
    · rw [List.length_nil]; omega
theorem cycL_len {n : Nat} (hn : n ≤ 4) : ∀ r b, (cycL n r b).length ≤ 24 ^ r
  | 0, b => by simp [cycL]
  | r + 1, b => by
    have h1 := cycTo_len (b := b) (fun d => cycL_len hn r (b ++ [d])) _ (Nat.le_refl _)
    have h2 : (exts n n []).length * 24 ^ r ≤ 24 * 24 ^ r := Nat.mul_le_mul_right _ (exts_all hn).1
    rw [cycL_succ, Nat.pow_succ, Nat.mul_comm (24 ^ r)]
    omega

end Go.Proofs.YtmlikgjfpmjdcaaDoor

/- All lists of years that go on from some (mestaref08.Cycles); conditions: at most four mountains. -/
namespace Go.Proofs.YtmlikgjfpmjdcaaDoor
open Go.RowKit

def CyS (b o : Nat) (r : Value) (w : World) : Prop := w.cell? ⟨b, o, none⟩ = some r
theorem CyS.drew {b o : Nat} {r : Value} {w : World} (h : CyS b o r w) : CyS b o r w.drew := h

end Go.Proofs.YtmlikgjfpmjdcaaDoor

/- The cycle of years, as mestaref08 finds it; conditions: valid commons of at most four mountains. -/
namespace Go.Proofs.YtmlikgjfpmjdcaaDoor
open Go.RowKit

theorem cycL_mem {n : Nat} : ∀ r b s, s ∈ cycL n r b → s.length = b.length + r ∧ ∀ a ∈ s, a ∈ b ∨ a ∈ exts n n []
  | 0, b, s, h => by
    rw [cycL, List.mem_singleton] at h
    subst h
    exact ⟨rfl, fun a ha => .inl ha⟩
  | r + 1, b, s, h => by
    rw [cycL, List.mem_flatMap] at h
    obtain ⟨d, hd, h⟩ := h
    split at h
    · obtain ⟨h1, h2⟩ := cycL_mem r _ s h
      refine ⟨by rw [h1, List.length_append, List.length_singleton]; omega, fun a ha => ?_⟩
      rcases h2 a ha with h3 | h3
      · rcases List.mem_append.1 h3 with h3 | h3
        · exact .inl h3
        · rw [List.mem_singleton] at h3; subst h3; exact .inr hd
      · exact .inr h3
    · simp at h
theorem exts_perm {n : Nat} (hn : n ≤ 4) : ∀ l ∈ exts n n [], PermOf n l := by
  have h : ∀ n < 5, ∀ l ∈ exts n n [], l.isPerm (iota n) = true := by decide +kernel
  exact fun l hl => List.isPerm_iff.1 (h n (by omega) l hl)
set_option maxRecDepth 1000000 in
theorem cycL_some {n : Nat} (hn : n ≤ 4) : 0 < (cycL n n []).length := by
  have h : ∀ n < 5, 0 < (cycL n n []).length := by decide +kernel
  exact h n (by omega)
/-- The first with the least envy of the first k + 1. -/
def bestC (vs : List Vil) (L : List (List (List Int))) : Nat → List (List Int)
  | 0 => L.getD 0 []
  | k + 1 => if calmF vs (L.getD (k + 1) []) (bestC vs L k) then L.getD (k + 1) [] else bestC vs L k
theorem bestC_mem (vs : List Vil) (L : List (List (List Int))) : ∀ k, k < L.length → bestC vs L k ∈ L
  | 0, h => by rw [bestC, List.getD_eq_getElem?_getD, List.getElem?_eq_getElem h]; exact List.getElem_mem h
  | k + 1, h => by
    rw [bestC]
    split
    · rw [List.getD_eq_getElem?_getD, List.getElem?_eq_getElem h]; exact List.getElem_mem h
    · exact bestC_mem vs L k (by omega)
def rfairF (c : Com) : List (List Int) := bestC c.villages (cycL c.villages.length c.villages.length []) ((cycL c.villages.length c.villages.length []).length - 1)
theorem Cube.addr {A : Nat → Prop} {w : World} {ao : Option Addr} {n cap : Nat} {l : List (List (List Int))} (h : Cube A w (.slice ao n cap) l) (hx : 0 < l.length) :
    ∃ b off, ao = some ⟨b, off, none⟩ ∧ A b ∧ b < w.heap.size ∧ ∀ j (hj : j < l.length), ∃ ar cr, w.cell? ⟨b, off + j, none⟩ = some (.slice ar l[j].length cr) ∧ Grid A w (.slice ar l[j].length cr) l[j] := by
  obtain ⟨vs, h0, ⟨ao', cap', hv, h1, h2, h3⟩, h4⟩ := h
  injection hv with e1 e2 e3
  subst e1
  rcases h3 with h3 | ⟨b, off, he, hA, hl, hc⟩
  · rw [h3] at h0; simp at h0; omega
  · refine ⟨b, off, he, hA, hl, fun j hj => ?_⟩
    have h5 := h4 j (by omega) hj
    obtain ⟨ar, cr, he2, _⟩ := h5.shape
    rw [he2] at h5
    exact ⟨ar, cr, (hc j vs[j] (List.getElem?_eq_getElem (by omega))).trans (by rw [he2]), h5⟩

end Go.Proofs.YtmlikgjfpmjdcaaDoor

/- Fair of mestaref08 for any commons; conditions: none. -/
namespace Go.Proofs.YtmlikgjfpmjdcaaDoor
open Go.RowKit

def rfairR (c : Com) : List (List Int) := if checkE c = 0 then rfairF c else []
end Go.Proofs.YtmlikgjfpmjdcaaDoor

/- What Fair of lots goes through, in plain words: lists of indices; envy is rank; conditions: as said. -/
namespace Go.Proofs.YtmlikgjfpmjdcaaDoor
open Go.RowKit

/-- The lists of years, by the numbers of the divisions. -/
def cycI (all : List (List Int)) : Nat → List Int → List (List Int)
  | 0, ys => [ys]
  | r + 1, ys => (List.range all.length).flatMap fun i => if fitsY all ys i then cycI all r (ys ++ [(i : Int)]) else []
theorem growF_fold (all : List (List Int)) (sums : List Int) : ∀ r ys ks, growF all sums r ys ks = (cycI all r ys).foldl (offerF sums) ks
  | 0, ys, ks => rfl
  | r + 1, ys, ks => by
    rw [growF, cycI, List.foldl_flatMap]
    congr 1
    funext ks i
    split
    · exact growF_fold all sums r _ ks
    · rfl
/-- The divisions that a list of numbers stands for. -/
def toDiv (all : List (List Int)) (ys : List Int) : List (List Int) := ys.map fun y => all.getD y.toNat []
theorem toDiv_snoc (all : List (List Int)) (ys : List Int) (i : Nat) : toDiv all (ys ++ [(i : Int)]) = toDiv all ys ++ [all.getD i []] := by simp [toDiv]

/-- As many are liked more as the rank says. -/
theorem rank_count {l : List Int} (hn : l.Nodup) (k : Nat) : ∀ j, j ≤ l.length → ((l.take j).filter fun m => decide (placeOf l m < (k : Int))).length = min j k
  | 0, _ => by simp
  | j + 1, hj => by
    have ih := rank_count hn k j (by omega)
    have hj' : j < l.length := by omega
    rw [List.take_succ_eq_append_getElem hj', List.filter_append, List.length_append, ih, List.filter_cons, List.filter_nil, placeOf_at hn hj']
    by_cases h : j < k
    · rw [decide_eq_true (by omega : (j : Int) < (k : Int))]
      simp; omega
    · rw [decide_eq_false (by omega : ¬ (j : Int) < (k : Int))]
      simp; omega
theorem rank_all {l d : List Int} (hn : l.Nodup) (hp : d.Perm l) {k : Nat} (hk : k ≤ l.length) : (d.filter fun m => decide (placeOf l m < (k : Int))).length = k := by
  have h := rank_count hn k l.length (Nat.le_refl _)
  rw [List.take_length] at h
  rw [(hp.filter _).length_eq, h]
  omega

theorem envy_rk {vs : List Vil} {d : List Int} {v : Nat} (hv : v < vs.length) (hl : PermOf d.length vs[v].likes) (hp : PermOf d.length d) (hvd : v < d.length) : (envyAt vs d v : Int) = rk vs v (d.getD v 0) := by
  have hg : d.getD v 0 = d[v] := by simp [hvd]
  have hm : d[v] ∈ vs[v].likes := (hl.mem _).2 ((hp.mem _).1 (List.getElem_mem hvd))
  have hb := placeOf_bd hm
  have hr : ∀ m, rk vs v m = placeOf vs[v].likes m := fun m => rk_at hv m
  obtain ⟨k, hk⟩ : ∃ k : Nat, placeOf vs[v].likes d[v] = (k : Int) := ⟨(placeOf vs[v].likes d[v]).toNat, by omega⟩
  have hpl : d.Perm vs[v].likes := List.Perm.trans hp (List.Perm.symm hl)
  have h := rank_all (l := vs[v].likes) (d := d) hl.nodup hpl (k := k) (by omega)
  rw [envyAt, hg]
  simp only [hr, hk]
  rw [h]
theorem sum_rk {vs : List Vil} {d : List Int} (hv : vs.length = d.length) (hl : ∀ v ∈ vs, PermOf d.length v.likes) (hp : PermOf d.length d) : ∀ k, k ≤ d.length → sumL ((List.range k).map fun v => (envyAt vs d v : Int)) = rkS vs d k
  | 0, _ => by simp [sumL, rkS]
  | k + 1, hk => by
    have ih := sum_rk hv hl hp k (by omega)
    rw [List.range_succ, List.map_append, List.map_cons, List.map_nil, sumL_snoc, ih, rkS, envy_rk (by omega) (hl _ (List.getElem_mem (by omega))) hp (by omega)]
theorem envySum_rk {vs : List Vil} {d : List Int} (hv : vs.length = d.length) (hl : ∀ v ∈ vs, PermOf d.length v.likes) (hp : PermOf d.length d) : envySum vs d = rkS vs d d.length := by
  rw [envySum, envyL]
  exact sum_rk hv hl hp _ (Nat.le_refl _)

theorem apart_clash {a d : List Int} (h : a.length = d.length) : apartTo a d d.length = !clashB a d := by
  rw [apartTo, clashB, h, List.not_any_eq_all_not]
  congr 1
  funext i
  rw [Bool.beq_comm]
theorem fits_same {n : Nat} {all : List (List Int)} (hall : ∀ l ∈ all, l.length = n) {ys : List Int} (hys : ∀ y ∈ ys, 0 ≤ y ∧ y < (all.length : Int)) {i : Nat} (hi : i < all.length) : fitsTo (toDiv all ys) (all.getD i []) (toDiv all ys).length = fitsY all ys i := by
  have hrow : ∀ j, j < all.length → (all.getD j []).length = n := fun j hj => by
    rw [List.getD_eq_getElem?_getD, List.getElem?_eq_getElem hj]; exact hall _ (List.getElem_mem hj)
  rw [fitsTo, List.take_length, toDiv, List.all_map, fitsY, List.not_any_eq_all_not]
  refine Bool.eq_iff_iff.2 ?_
  simp only [List.all_eq_true, Function.comp]
  have key : ∀ y ∈ ys, apartTo (all.getD y.toNat []) (all.getD i []) (all.getD i []).length = !clashY all (all.getD i []) y := fun y hy => by
    have := hys y hy
    rw [clashY, apart_clash (by rw [hrow _ (by omega), hrow i hi])]
  exact ⟨fun h y hy => by rw [← key y hy]; exact h y hy, fun h y hy => by rw [key y hy]; exact h y hy⟩
theorem flat_range {all : List (List Int)} {f : List Int → List (List (List Int))} : all.flatMap f = (List.range all.length).flatMap fun i => f (all.getD i []) := by
  have h : all = (List.range all.length).map fun i => all.getD i [] := by
    apply List.ext_getElem
    · simp
    · intro i h1 h2; simp [h1]
  conv => lhs; rw [h]
  rw [List.flatMap_map]
theorem cyc_map {n : Nat} (hall : ∀ l ∈ exts n n [], l.length = n) : ∀ r ys, (∀ y ∈ ys, 0 ≤ y ∧ y < ((exts n n []).length : Int)) → cycL n r (toDiv (exts n n []) ys) = (cycI (exts n n []) r ys).map (toDiv (exts n n []))
  | 0, ys, _ => rfl
  | r + 1, ys, hys => by
    rw [cycL, cycI, flat_range, List.map_flatMap, List.flatMap_def, List.flatMap_def]
    congr 1
    refine List.map_congr_left fun i hi => ?_
    have hi : i < (exts n n []).length := by simpa using hi
    rw [fits_same hall hys hi]
    split
    · rw [← toDiv_snoc, cyc_map hall r _ (fun y hy => ?_)]
      rcases List.mem_append.1 hy with h | h
      · exact hys y h
      · rw [List.mem_singleton] at h; subst h; omega
    · rfl

end Go.Proofs.YtmlikgjfpmjdcaaDoor

/- Fair of lots and Fair of mestaref08 answer the same, in plain words; conditions: none. -/
namespace Go.Proofs.YtmlikgjfpmjdcaaDoor
open Go.RowKit

theorem cmpI_zero {x y : Int} (h : x = y) : cmpI x y = 0 := by subst h; unfold cmpI; simp
theorem cmpI_less {x y : Int} (h : x < y) : cmpI x y < 0 := by unfold cmpI; split <;> omega
theorem cmpI_more {x y : Int} (h : y < x) : 0 < cmpI x y := by unfold cmpI; rw [if_neg (by omega), if_pos h]; omega
theorem cmpI_lt {x y : Int} : cmpI x y < 0 ↔ x < y := by
  rcases Int.lt_trichotomy x y with h | h | h
  · exact ⟨fun _ => h, fun _ => cmpI_less h⟩
  · rw [cmpI_zero h]; omega
  · have := cmpI_more h; omega
theorem cmpI_eq {x y : Int} : cmpI x y = 0 ↔ x = y := by
  rcases Int.lt_trichotomy x y with h | h | h
  · have := cmpI_less h; omega
  · exact ⟨fun _ => h, fun _ => cmpI_zero h⟩
  · have := cmpI_more h; omega
theorem cmpL_cons (x y : Int) (s t : List Int) : cmpL (x :: s) (y :: t) = if x = y then cmpL s t else cmpI x y := by
  rw [cmpL]
  by_cases h : x = y
  · rw [cmpI_zero h, if_pos h]; simp
  · have : cmpI x y ≠ 0 := fun e => h (cmpI_eq.1 e)
    simp [h, this]
theorem cmpL_pre : ∀ (p s t : List Int), cmpL (p ++ s) (p ++ t) = cmpL s t
  | [], _, _ => rfl
  | x :: p, s, t => by rw [List.cons_append, List.cons_append, cmpL_cons, if_pos rfl, cmpL_pre p s t]
theorem cmpL_app : ∀ (a b s t : List Int), a.length = b.length → cmpL (a ++ s) (b ++ t) = if a = b then cmpL s t else cmpL a b
  | [], [], s, t, _ => by simp
  | [], _ :: _, _, _, h => by simp at h
  | _ :: _, [], _, _, h => by simp at h
  | x :: a, y :: b, s, t, h => by
    rw [List.cons_append, List.cons_append, cmpL_cons, cmpL_cons, cmpL_app a b s t (by simpa using h)]
    by_cases e : x = y
    · subst e
      by_cases e2 : a = b <;> simp [e2]
    · simp [e]

/-- The lists of numbers ascend. -/
theorem cycI_pre {all : List (List Int)} : ∀ r ys s, s ∈ cycI all r ys → s.length = ys.length + r ∧ (∃ t, s = ys ++ t) ∧ ∀ y ∈ s, y ∈ ys ∨ (0 ≤ y ∧ y < (all.length : Int))
  | 0, ys, s, h => by
    rw [cycI, List.mem_singleton] at h
    subst h
    exact ⟨rfl, ⟨[], by simp⟩, fun y hy => .inl hy⟩
  | r + 1, ys, s, h => by
    rw [cycI, List.mem_flatMap] at h
    obtain ⟨i, hi, h⟩ := h
    split at h
    · obtain ⟨h1, ⟨t, ht⟩, h3⟩ := cycI_pre r _ s h
      refine ⟨by rw [h1, List.length_append, List.length_singleton]; omega, ⟨(i : Int) :: t, by rw [ht]; simp⟩, fun y hy => ?_⟩
      rcases h3 y hy with h4 | h4
      · rcases List.mem_append.1 h4 with h4 | h4
        · exact .inl h4
        · rw [List.mem_singleton] at h4; subst h4
          have hi : i < all.length := by simpa using hi
          exact .inr ⟨by omega, by omega⟩
      · exact .inr h4
    · simp at h
theorem cycI_asc {all : List (List Int)} : ∀ r ys, (cycI all r ys).Pairwise fun a b => ¬ cmpL b a < 0
  | 0, ys => by simp [cycI]
  | r + 1, ys => by
    rw [cycI, List.pairwise_flatMap]
    refine ⟨fun i _ => ?_, ?_⟩
    · split
      · exact cycI_asc r _
      · exact List.Pairwise.nil
    · refine List.Pairwise.imp ?_ (List.pairwise_lt_range (n := all.length))
      intro i j hij x hx y hy
      split at hx
      · split at hy
        · obtain ⟨_, ⟨t, ht⟩, _⟩ := cycI_pre r _ x hx
          obtain ⟨_, ⟨u, hu⟩, _⟩ := cycI_pre r _ y hy
          rw [ht, hu, List.append_assoc, List.append_assoc, cmpL_pre, List.singleton_append, List.singleton_append, cmpL_cons, if_neg (by omega)]
          have := cmpI_more (show ((i : Nat) : Int) < ((j : Nat) : Int) by omega)
          omega
        · simp at hy
      · simp at hx

theorem calm_cmp {vs : List Vil} : ∀ (s t : List (List Int)), s.length = t.length → (calmF vs s t = true ↔ cmpL (s.map fun a => rkS vs a vs.length) (t.map fun a => rkS vs a vs.length) < 0)
  | [], [], _ => by simp [calmF, cmpL]
  | [], _ :: _, h => by simp at h
  | _ :: _, [], h => by simp at h
  | a :: s, b :: t, h => by
    rw [calmF, List.map_cons, List.map_cons, cmpL_cons]
    by_cases e : rkS vs a vs.length = rkS vs b vs.length
    · rw [if_pos e, if_pos e]
      exact calm_cmp s t (by simpa using h)
    · rw [if_neg e, if_neg e, decide_eq_true_eq, cmpI_lt]

/-- The sums of a list of numbers are the ranks of its divisions. -/
theorem sum_toDiv {vs : List Vil} {D : List (List Int)} (hD : ∀ d ∈ D, envySum vs d = rkS vs d vs.length) {ys : List Int} (hys : ∀ y ∈ ys, 0 ≤ y ∧ y < (D.length : Int)) : ys.map (sumAt (D.map (envySum vs))) = (toDiv D ys).map fun a => rkS vs a vs.length := by
  rw [toDiv, List.map_map]
  refine List.map_congr_left fun y hy => ?_
  have h := hys y hy
  have hy2 : y.toNat < D.length := by omega
  simp only [Function.comp, sumAt, List.getD_eq_getElem?_getD, List.getElem?_map, List.getElem?_eq_getElem hy2, Option.map_some, Option.getD_some]
  exact hD _ (List.getElem_mem hy2)
theorem key_calm {vs : List Vil} {D : List (List Int)} (hD : ∀ d ∈ D, envySum vs d = rkS vs d vs.length) {a b : List Int} (hl : b.length = a.length) (ha : ∀ y ∈ a, 0 ≤ y ∧ y < (D.length : Int)) (hb : ∀ y ∈ b, 0 ≤ y ∧ y < (D.length : Int)) (hab : ¬ cmpL b a < 0) :
    cmpL (keyF (D.map (envySum vs)) b) (keyF (D.map (envySum vs)) a) < 0 ↔ calmF vs (toDiv D b) (toDiv D a) = true := by
  rw [keyF, keyF, cmpL_app _ _ _ _ (by simp [hl]), sum_toDiv hD ha, sum_toDiv hD hb, calm_cmp _ _ (by simp [toDiv, hl])]
  split
  · rename_i e
    rw [e]
    have h0 : ∀ l : List Int, cmpL l l = 0 := fun l => by
      induction l with
      | nil => rfl
      | cons x l ih => rw [cmpL_cons, if_pos rfl, ih]
    rw [h0]
    exact ⟨fun h => absurd h hab, fun h => absurd h (by omega)⟩
  · exact Iff.rfl
theorem fold_best {vs : List Vil} {D : List (List Int)} (hD : ∀ d ∈ D, envySum vs d = rkS vs d vs.length) {r : Nat} : ∀ k, k < (cycI D r []).length → ∃ j, ∃ hj : j < (cycI D r []).length, j ≤ k ∧
    ((cycI D r []).take (k + 1)).foldl (offerF (D.map (envySum vs))) none = some ((cycI D r [])[j], keyF (D.map (envySum vs)) (cycI D r [])[j]) ∧ bestC vs ((cycI D r []).map (toDiv D)) k = toDiv D (cycI D r [])[j]
  | 0, h => ⟨0, h, Nat.le_refl _, by rw [List.take_succ_eq_append_getElem h]; rfl, by rw [bestC]; simp [h]⟩
  | k + 1, h => by
    obtain ⟨j, hj, hjk, h1, h2⟩ := fold_best hD (r := r) k (by omega)
    have hok : ∀ i (hi : i < (cycI D r []).length), (cycI D r [])[i].length = r ∧ ∀ y ∈ (cycI D r [])[i], 0 ≤ y ∧ y < (D.length : Int) := fun i hi => by
      obtain ⟨a1, _, a3⟩ := cycI_pre r [] _ (List.getElem_mem hi)
      exact ⟨by simpa using a1, fun y hy => (a3 y hy).resolve_left (by simp)⟩
    have hasc := List.pairwise_iff_getElem.1 (cycI_asc (all := D) r []) j (k + 1) hj h (by omega)
    have hkey := key_calm hD (by rw [(hok _ h).1, (hok _ hj).1]) (hok _ hj).2 (hok _ h).2 hasc
    have hg : ((cycI D r []).map (toDiv D)).getD (k + 1) [] = toDiv D (cycI D r [])[k + 1] := by simp [h]
    rw [List.take_succ_eq_append_getElem h, List.foldl_append, h1, bestC, h2, hg]
    simp only [List.foldl_cons, List.foldl_nil, offerF]
    by_cases hc : calmF vs (toDiv D (cycI D r [])[k + 1]) (toDiv D (cycI D r [])[j]) = true
    · exact ⟨k + 1, h, Nat.le_refl _, by rw [if_pos (hkey.2 hc)], by rw [if_pos hc]⟩
    · exact ⟨j, hj, by omega, by rw [if_neg (fun x => hc (hkey.1 x))], by rw [if_neg hc]⟩

theorem fairF_same {c : Com} (h : c.Ok 4) : fairF c = rfairF c := by
  have hn : c.villages.length ≤ 4 := by have := h.vl; have := h.n2; omega
  have hp := exts_perm hn
  have hlen := (exts_all hn).2
  have hD : ∀ d ∈ exts c.villages.length c.villages.length [], envySum c.villages d = rkS c.villages d c.villages.length := fun d hd => by
    have hl := hlen d hd
    have := envySum_rk (vs := c.villages) (d := d) hl.symm (fun v hv => by rw [hl, h.vl]; exact (h.vil v hv).2.2.2.2) (by rw [hl]; exact hp d hd)
    rw [this, hl]
  have hmap := cyc_map (n := c.villages.length) hlen c.villages.length [] (by simp)
  have hne := cycL_some hn
  rw [show toDiv (exts c.villages.length c.villages.length []) [] = [] from rfl] at hmap
  rw [hmap, List.length_map] at hne
  obtain ⟨j, hj, _, h1, h2⟩ := fold_best hD (r := c.villages.length) ((cycI (exts c.villages.length c.villages.length []) c.villages.length []).length - 1) (by omega)
  rw [rfairF, hmap, List.length_map, h2, fairF, yearsF, growF_fold, sumsF, divs]
  rw [show (cycI (exts c.villages.length c.villages.length []) c.villages.length []).length - 1 + 1 = (cycI (exts c.villages.length c.villages.length []) c.villages.length []).length by omega, List.take_length] at h1
  rw [h1, bestOf, toDiv]
theorem fair_same (c : Com) : fairR c = rfairR c := by
  rw [fairR, rfairR]
  split
  · rename_i e
    exact fairF_same ((checkE_zero c).1 e)
  · rfl

end Go.Proofs.YtmlikgjfpmjdcaaDoor

