/- Lists of lists of lists in memory (for mestaref08.Cycles); conditions: as said. -/
import Derived.Test.YthchpoabncdicaaRF5
namespace Go.Proofs.Ythchpoabncdicaa
open Go.RowKit

theorem Try.under113 : Try.prog.underlying 113 = some (.slice 35) := by kernel_rfl
theorem Try.info35 : (Try.prog.info? 35).map (fun i => (i.zero, i.size, i.bytes)) = some (some (.slice none 0 0), 1, 24) := by kernel_rfl

/-- A slice of slices of slices. -/
def Cube (A : Nat → Prop) (w : World) (v : Value) (l : List (List (List Int))) : Prop :=
  ∃ vs : List Value, vs.length = l.length ∧ Arr A w v l.length vs ∧ ∀ i (a : i < vs.length) (b : i < l.length), Grid A w vs[i] l[i]
theorem Cube.step {A : Nat → Prop} {w w' : World} {v : Value} {l : List (List (List Int))} (h : Cube A w v l)
    (hs : w.heap.size ≤ w'.heap.size) (hb : ∀ k, A k → k < w.heap.size → w'.heap[k]? = w.heap[k]?) : Cube A w' v l := by
  obtain ⟨vs, h1, h2, h3⟩ := h
  exact ⟨vs, h1, h2.step hs hb, fun i a b => (h3 i a b).step hs hb⟩
theorem Cube.wide {A A' : Nat → Prop} {w : World} {v : Value} {l : List (List (List Int))} (h : Cube A w v l) (hA : ∀ k, A k → k < w.heap.size → A' k) : Cube A' w v l := by
  obtain ⟨vs, h1, h2, h3⟩ := h
  exact ⟨vs, h1, h2.wide hA, fun i a b => (h3 i a b).wide hA⟩
theorem Cube.call {A : Nat → Prop} {w w' : World} {v : Value} {l : List (List (List Int))} (h : Cube A w v l) (hB : Below w.heap.size w w') : Cube A w' v l := h.step hB.size fun k _ hl => hB.block k hl
theorem Cube.shape {A : Nat → Prop} {w : World} {v : Value} {l : List (List (List Int))} (h : Cube A w v l) : ∃ ao cap, v = .slice ao l.length cap ∧ l.length ≤ cap ∧ cap ≤ maxLen := by
  obtain ⟨vs, _, ⟨ao, cap, hv, h1, ⟨h2, _⟩, _⟩, _⟩ := h
  exact ⟨ao, cap, hv, h1, h2⟩
theorem cube_one {A : Nat → Prop} {w : World} {us : List Value} {g : List (List (List Int))} (hu : us.length = g.length) (h : ∀ i (a : i < us.length) (b : i < g.length), Grid A w us[i] g[i]) : ∀ u ∈ us, u.oneCell' = true := by
  intro u hu'
  obtain ⟨i, hi, rfl⟩ := List.getElem_of_mem hu'
  obtain ⟨ao, cap, he, _⟩ := (h i hi (by omega)).shape
  rw [he]
  rfl
/-- One that the call makes. -/
def GOC (A : Nat → Prop) (B : Nat) (w : World) (v : Value) (out : List (List (List Int))) : Prop :=
  ∃ vs : List Value, vs.length = out.length ∧ Own B w 35 1 v out.length vs ∧ ∀ i (a : i < vs.length) (b : i < out.length), Grid (fun k => A k ∧ v.ownBlock ≠ some k) w vs[i] out[i]
theorem GOC.nil (A : Nat → Prop) (B : Nat) (w : World) : GOC A B w (.slice none 0 0) [] := ⟨[], rfl, Own.nil, fun i a => by simp at a⟩
theorem GOC.call {A : Nat → Prop} {B : Nat} {w w' : World} {v : Value} {out : List (List (List Int))} (h : GOC A B w v out) (hB : Below w.heap.size w w') : GOC A B w' v out := by
  obtain ⟨vs, h1, h2, h3⟩ := h
  exact ⟨vs, h1, h2.step fun k _ _ hl => hB.block k hl, fun i a b => (h3 i a b).step hB.size fun k _ hl => hB.block k hl⟩
theorem GOC.lt {A : Nat → Prop} {B : Nat} {w : World} {v : Value} {out : List (List (List Int))} (h : GOC A B w v out) (q : Nat) (hq : v.ownBlock = some q) : q < w.heap.size := by
  obtain ⟨vs, _, ho, _⟩ := h
  exact (ho.lt q hq).2
theorem GOC.cube {A C : Nat → Prop} {B : Nat} {w : World} {v : Value} {out : List (List (List Int))} (h : GOC A B w v out) (hA : ∀ k, A k → C k) (hB : ∀ k, B ≤ k → C k) : Cube C w v out := by
  obtain ⟨vs, h1, h2, h3⟩ := h
  exact ⟨vs, h1, h2.arr.wide fun k hk _ => hB k hk, fun i a b => (h3 i a b).wide fun k hk _ => hA k hk.1⟩
theorem gputsC {A : Nat → Prop} {B : Nat} {w w3 : World} {v v' : Value} {out news : List (List (List Int))} {vs us : List Value} (h1 : vs.length = out.length)
    (h3 : ∀ i (a : i < vs.length) (b : i < out.length), Grid (fun k => A k ∧ v.ownBlock ≠ some k) w vs[i] out[i]) (hu : us.length = news.length)
    (hr : ∀ i (a : i < us.length) (b : i < news.length), Grid (fun k => A k ∧ v.ownBlock ≠ some k) w us[i] news[i])
    (ho : Own B w3 35 1 v' (out.length + news.length) (vs ++ us)) (hT : Turned w w3 v v') : GOC A B w3 v' (out ++ news) := by
  have hpl : ∀ k, k < w.heap.size → v.ownBlock ≠ some k → v'.ownBlock ≠ some k := fun k hk hv e => by
    rcases hT.place with e1 | e1
    · exact hv (e1 ▸ e)
    · rw [e1] at e; simp at e; omega
  have go : ∀ (u : Value) (x : List (List Int)), Grid (fun k => A k ∧ v.ownBlock ≠ some k) w u x → Grid (fun k => A k ∧ v'.ownBlock ≠ some k) w3 u x := fun u x h =>
    ((h.wide (A' := fun k => A k ∧ v.ownBlock ≠ some k ∧ k < w.heap.size) fun k hk hl => ⟨hk.1, hk.2, hl⟩).step (w' := w3) hT.size fun k hk hl => hT.block k hl hk.2.1).wide fun k hk hl => ⟨hk.1, hpl k hk.2.2 hk.2.1⟩
  refine ⟨vs ++ us, by simp [h1, hu], by simpa using ho, fun i a b => ?_⟩
  by_cases hi : i < vs.length
  · rw [List.getElem_append_left hi, List.getElem_append_left (by omega)]
    exact go _ _ (h3 i hi (by omega))
  · rw [List.getElem_append_right (by omega), List.getElem_append_right (by omega)]
    have := hr (i - vs.length) (by simp at a; omega) (by simp at b; omega)
    have e : i - out.length = i - vs.length := by omega
    simp only [e]
    exact go _ _ this
/-- A grid with one row more, in a row of the call's own. -/
theorem grid_put {A : Nat → Prop} {B : Nat} {w : World} {v : Value} {b : List (List Int)} {d : List Int} {us : List Value} {r : Value} (hu : us.length = b.length)
    (hus : ∀ i (a : i < us.length) (bb : i < b.length), Ints A w us[i] b[i]) (hr : Ints A w r d) (ho : Own B w 22 1 v (b.length + 1) (us ++ [r])) (hA : ∀ k, B ≤ k → A k) : Grid A w v (b ++ [d]) := by
  refine ⟨us ++ [r], by simp [hu], ?_, fun i a bb => ?_⟩
  · have h1 : Arr (fun k => B ≤ k) w v (b.length + 1) (us ++ [r]) := Own.arr ho
    have h2 := h1.wide (A' := A) (fun k hk _ => hA k hk)
    simpa using h2
  · by_cases hi : i < us.length
    · rw [List.getElem_append_left hi, List.getElem_append_left (by omega)]
      exact hus i hi (by omega)
    · have e : i = us.length := by simp at a; omega
      subst e
      have e1 : (us ++ [r])[us.length] = r := by simp
      have e2 : (b ++ [d])[us.length] = d := by simp [hu]
      rw [e1, e2]
      exact hr

/-- All lists of years that go on from some and in which each village has each mountain once. -/
def cycL (n : Nat) : Nat → List (List Int) → List (List (List Int))
  | 0, b => [b]
  | r + 1, b => (exts n n []).flatMap fun d => if fitsTo b d b.length then cycL n r (b ++ [d]) else []
/-- Those that go on with one of the first k divisions. -/
def cycTo (n r : Nat) (b : List (List Int)) (k : Nat) : List (List (List Int)) := ((exts n n []).take k).flatMap fun d => if fitsTo b d b.length then cycL n r (b ++ [d]) else []
theorem cycTo_succ (n r : Nat) (b : List (List Int)) (k : Nat) (hk : k < (exts n n []).length) : cycTo n r b (k + 1) = cycTo n r b k ++ (if fitsTo b (exts n n [])[k] b.length then cycL n r (b ++ [(exts n n [])[k]]) else []) := by
  rw [cycTo, cycTo, List.take_succ_eq_append_getElem hk, List.flatMap_append]; simp
theorem cycL_succ (n r : Nat) (b : List (List Int)) : cycL n (r + 1) b = cycTo n r b (exts n n []).length := by rw [cycL, cycTo, List.take_length]
theorem exts_all {n : Nat} (hn : n ≤ 4) : (exts n n []).length ≤ 24 ∧ ∀ l ∈ exts n n [], l.length = n := by
  have h : ∀ n < 5, (exts n n []).length ≤ 24 ∧ ∀ l ∈ exts n n [], l.length = n := by decide +kernel
  exact h n (by omega)
theorem cycTo_len {n r : Nat} {b : List (List Int)} (h : ∀ d, (cycL n r (b ++ [d])).length ≤ 24 ^ r) : ∀ k, k ≤ (exts n n []).length → (cycTo n r b k).length ≤ k * 24 ^ r
  | 0, _ => by simp [cycTo]
  | k + 1, hk => by
    have ih := cycTo_len h k (by omega)
    rw [cycTo_succ n r b k (by omega), List.length_append, Nat.add_mul]
    split
    · have := h (exts n n [])[k]; omega
    · rw [List.length_nil]; omega
theorem cycL_len {n : Nat} (hn : n ≤ 4) : ∀ r b, (cycL n r b).length ≤ 24 ^ r
  | 0, b => by simp [cycL]
  | r + 1, b => by
    have h1 := cycTo_len (b := b) (fun d => cycL_len hn r (b ++ [d])) _ (Nat.le_refl _)
    have h2 : (exts n n []).length * 24 ^ r ≤ 24 * 24 ^ r := Nat.mul_le_mul_right _ (exts_all hn).1
    rw [cycL_succ, Nat.pow_succ, Nat.mul_comm (24 ^ r)]
    omega

end Go.Proofs.Ythchpoabncdicaa
