/- Words for data in memory that the walks of this seat share: slices of ints, grids, villages, commons; conditions: none. -/
import Derived.Test.YtbpfhoihfoojfaaGreatDoorProg
import Derived.WalkKit
import Derived.WalkSpells
import Derived.Deep.QuietTactic
import Derived.BigQuiet
import Derived.Lib.Hide
import Derived.Deep.Draws
import Derived.Laws.AppendOwnNone
namespace Go.Proofs.YtbpfhoihfoojfaaGreatDoor
open Go.RowKit

/-- A slice value v of n elements whose cells, all in blocks of A, read as xs. -/
def Arr (A : Nat → Prop) (w : World) (v : Value) (n : Nat) (xs : List Value) : Prop :=
  ∃ ao cap, v = .slice ao n cap ∧ n ≤ cap ∧ (cap ≤ maxLen ∧ (ao = none → cap = 0)) ∧
    (xs = [] ∨ ∃ b off, ao = some ⟨b, off, none⟩ ∧ A b ∧ b < w.heap.size ∧ ∀ j u, xs[j]? = some u → w.cell? ⟨b, off + j, none⟩ = some u)

theorem Arr.step {A : Nat → Prop} {w w' : World} {v : Value} {n : Nat} {xs : List Value} (h : Arr A w v n xs)
    (hs : w.heap.size ≤ w'.heap.size) (hb : ∀ k, A k → k < w.heap.size → w'.heap[k]? = w.heap[k]?) : Arr A w' v n xs := by
  obtain ⟨ao, cap, hv, h1, h2, h3⟩ := h
  refine ⟨ao, cap, hv, h1, h2, h3.imp id ?_⟩
  rintro ⟨b, off, he, hA, hl, hc⟩
  exact ⟨b, off, he, hA, by omega, fun j u hj => (World.cell?_of_block (hb b hA hl)).trans (hc j u hj)⟩

theorem Arr.wide {A A' : Nat → Prop} {w : World} {v : Value} {n : Nat} {xs : List Value} (h : Arr A w v n xs)
    (hA : ∀ k, A k → k < w.heap.size → A' k) : Arr A' w v n xs := by
  obtain ⟨ao, cap, hv, h1, h2, h3⟩ := h
  refine ⟨ao, cap, hv, h1, h2, h3.imp id ?_⟩
  rintro ⟨b, off, he, h4, hl, hc⟩
  exact ⟨b, off, he, hA b h4 hl, hl, hc⟩

/-- Where there is a cell, the address is known. -/
theorem Arr.addr {A : Nat → Prop} {w : World} {ao : Option Addr} {n cap : Nat} {xs : List Value} (h : Arr A w (.slice ao n cap) n xs) (hx : 0 < xs.length) :
    ∃ b off, ao = some ⟨b, off, none⟩ ∧ A b ∧ b < w.heap.size ∧ ∀ j u, xs[j]? = some u → w.cell? ⟨b, off + j, none⟩ = some u := by
  obtain ⟨ao', cap', hv, h1, h2, h3⟩ := h
  injection hv with e1 e2 e3
  subst e1
  rcases h3 with rfl | h3
  · simp at hx
  · exact h3

def I64 (l : List Int) : List Value := l.map (Value.int .i64)
theorem I64_len (l : List Int) : (I64 l).length = l.length := List.length_map _
theorem I64_at (l : List Int) (j : Nat) (h : j < l.length) : (I64 l)[j]? = some (.int .i64 l[j]) := by simp [I64, h]
theorem I64_append (a b : List Int) : I64 (a ++ b) = I64 a ++ I64 b := List.map_append

def Ints (A : Nat → Prop) (w : World) (v : Value) (l : List Int) : Prop := Arr A w v l.length (I64 l)

theorem Ints.step {A : Nat → Prop} {w w' : World} {v : Value} {l : List Int} (h : Ints A w v l)
    (hs : w.heap.size ≤ w'.heap.size) (hb : ∀ k, A k → k < w.heap.size → w'.heap[k]? = w.heap[k]?) : Ints A w' v l := Arr.step h hs hb
theorem Ints.wide {A A' : Nat → Prop} {w : World} {v : Value} {l : List Int} (h : Ints A w v l) (hA : ∀ k, A k → k < w.heap.size → A' k) : Ints A' w v l := Arr.wide h hA
theorem Ints.below {A : Nat → Prop} {B : Nat} {w w' : World} {v : Value} {l : List Int} (h : Ints A w v l) (hB : Below B w w') (hA : ∀ k, A k → k < w.heap.size → k < B) : Ints A w' v l :=
  h.step hB.size fun k hk hl => hB.block k (hA k hk hl)
/-- What a callee that writes nothing old leaves as it was. -/
theorem Ints.call {A : Nat → Prop} {w w' : World} {v : Value} {l : List Int} (h : Ints A w v l) (hB : Below w.heap.size w w') : Ints A w' v l :=
  h.below hB fun _ _ hl => hl

/-- The shape of the value. -/
theorem Ints.shape {A : Nat → Prop} {w : World} {v : Value} {l : List Int} (h : Ints A w v l) : ∃ ao cap, v = .slice ao l.length cap ∧ l.length ≤ cap ∧ cap ≤ maxLen := by
  obtain ⟨ao, cap, hv, h1, ⟨h2, _⟩, _⟩ := h
  exact ⟨ao, cap, hv, h1, h2⟩
theorem Ints.len {A : Nat → Prop} {w : World} {v : Value} {l : List Int} (h : Ints A w v l) : l.length ≤ 9223372036854775807 := by
  obtain ⟨ao, cap, hv, h1, ⟨h2, _⟩, _⟩ := h
  unfold maxLen at h2; omega
/-- Its address and cells, where it is not empty. -/
theorem Ints.addr {A : Nat → Prop} {w : World} {ao : Option Addr} {n cap : Nat} {l : List Int} (h : Ints A w (.slice ao n cap) l) (hx : 0 < l.length) :
    ∃ b off, ao = some ⟨b, off, none⟩ ∧ A b ∧ b < w.heap.size ∧ ∀ j (hj : j < l.length), w.cell? ⟨b, off + j, none⟩ = some (.int .i64 l[j]) := by
  obtain ⟨ao', cap', hv, h1, h2, h3⟩ := h
  injection hv with e1 e2 e3
  subst e1
  rcases h3 with h3 | ⟨b, off, he, hA, hl, hc⟩
  · have := I64_len l; rw [h3] at this; simp at this; omega
  · exact ⟨b, off, he, hA, hl, fun j hj => hc j _ (I64_at l j hj)⟩
theorem Ints.cell {A : Nat → Prop} {w : World} {b off n cap : Nat} {l : List Int} (h : Ints A w (.slice (some ⟨b, off, none⟩) n cap) l) (j : Nat) (hj : j < l.length) :
    w.cell? ⟨b, off + j, none⟩ = some (.int .i64 l[j]) := by
  obtain ⟨b', off', he, _, _, hc⟩ := h.addr (by omega)
  injection he with he
  injection he with e1 e2
  subst e1; subst e2
  exact hc j hj

theorem below_drewN {B : Nat} {a w : World} (h : Below B a w) (n : Nat) : Below B a (w.drewN n) := ⟨h.os, h.tape, h.output, h.size, h.block⟩
theorem ret_int {k : IntKind} {a b : Int} (h : a = b) : Ending.returned (.int k a) = .returned (.int k b) := by rw [h]
theorem ret_bool {a b : Bool} (h : a = b) : Ending.returned (.bool a) = .returned (.bool b) := by rw [h]

theorem Tryz.info3 : (Tryz.prog.info? 3).map (fun i => (i.zero, i.size, i.bytes)) = some (some (.int .i64 0), 1, 8) := by kernel_rfl

/-- The library's word for a row of the call's own, read as ints. -/
theorem Ints.of_owns {w : World} {B : Nat} {v : Value} {l : List Int} (h : w.ownsRow B 3 1 v l.length (I64 l)) : Ints (fun k => B ≤ k) w v l := by
  obtain ⟨hl, h⟩ := h
  rcases h with ⟨rfl, h0⟩ | ⟨g, cap, cur, rfl, hb, hg, hc, hm, hs, ht⟩
  · exact ⟨none, 0, by rw [h0], by omega, ⟨by unfold maxLen; omega, fun _ => rfl⟩, .inl (by unfold I64; rw [List.length_eq_zero_iff.1 h0]; rfl)⟩
  · refine ⟨_, cap, rfl, hc, ⟨hm, by simp⟩, .inr ⟨g, 0, rfl, hb, (Array.getElem?_eq_some_iff.1 hg).1, fun j u hj => ?_⟩⟩
    have hjl : j < l.length := by
      have := (List.getElem?_eq_some_iff.1 hj).1
      rwa [I64_len] at this
    rw [Nat.zero_add, World.cell?, hg]
    simp only [Option.isSome_none, Bool.false_eq_true, if_false]
    rw [← ht, List.getElem?_take] at hj
    simpa [hjl] using hj


theorem Ints.drewN {A : Nat → Prop} {w : World} {v : Value} {l : List Int} (h : Ints A w v l) (n : Nat) : Ints A (w.drewN n) v l :=
  h.step (Nat.le_refl _) fun _ _ _ => rfl

/-- A slice of one-celled slices that read as rows. -/
def Grid (A : Nat → Prop) (w : World) (v : Value) (g : List (List Int)) : Prop :=
  ∃ vs : List Value, vs.length = g.length ∧ Arr A w v g.length vs ∧ ∀ i (a : i < vs.length) (b : i < g.length), Ints A w vs[i] g[i]

theorem Grid.step {A : Nat → Prop} {w w' : World} {v : Value} {l : List (List Int)} (h : Grid A w v l)
    (hs : w.heap.size ≤ w'.heap.size) (hb : ∀ k, A k → k < w.heap.size → w'.heap[k]? = w.heap[k]?) : Grid A w' v l := by
  obtain ⟨vs, h1, h2, h3⟩ := h
  exact ⟨vs, h1, h2.step hs hb, fun i a b => (h3 i a b).step hs hb⟩
theorem Grid.wide {A A' : Nat → Prop} {w : World} {v : Value} {l : List (List Int)} (h : Grid A w v l) (hA : ∀ k, A k → k < w.heap.size → A' k) : Grid A' w v l := by
  obtain ⟨vs, h1, h2, h3⟩ := h
  exact ⟨vs, h1, h2.wide hA, fun i a b => (h3 i a b).wide hA⟩
theorem Grid.below {A : Nat → Prop} {B : Nat} {w w' : World} {v : Value} {l : List (List Int)} (h : Grid A w v l) (hB : Below B w w') (hA : ∀ k, A k → k < w.heap.size → k < B) : Grid A w' v l :=
  h.step hB.size fun k hk hl => hB.block k (hA k hk hl)
theorem Grid.call {A : Nat → Prop} {w w' : World} {v : Value} {l : List (List Int)} (h : Grid A w v l) (hB : Below w.heap.size w w') : Grid A w' v l :=
  h.below hB fun _ _ hl => hl
theorem Grid.drewN {A : Nat → Prop} {w : World} {v : Value} {l : List (List Int)} (h : Grid A w v l) (n : Nat) : Grid A (w.drewN n) v l :=
  h.step (Nat.le_refl _) fun _ _ _ => rfl
theorem Grid.shape {A : Nat → Prop} {w : World} {v : Value} {l : List (List Int)} (h : Grid A w v l) : ∃ ao cap, v = .slice ao l.length cap ∧ l.length ≤ cap ∧ cap ≤ maxLen := by
  obtain ⟨vs, _, ⟨ao, cap, hv, h1, ⟨h2, _⟩, _⟩, _⟩ := h
  exact ⟨ao, cap, hv, h1, h2⟩
theorem Grid.len {A : Nat → Prop} {w : World} {v : Value} {l : List (List Int)} (h : Grid A w v l) : l.length ≤ 9223372036854775807 := by
  obtain ⟨ao, cap, hv, h1, h2⟩ := h.shape
  unfold maxLen at h2; omega
theorem Grid.addr {A : Nat → Prop} {w : World} {ao : Option Addr} {n cap : Nat} {l : List (List Int)} (h : Grid A w (.slice ao n cap) l) (hx : 0 < l.length) :
    ∃ b off, ao = some ⟨b, off, none⟩ ∧ A b ∧ b < w.heap.size := by
  obtain ⟨vs, h0, ⟨ao', cap', hv, h1, h2, h3⟩, _⟩ := h
  injection hv with e1 e2 e3
  subst e1
  rcases h3 with h3 | ⟨b, off, he, hA, hl, hc⟩
  · rw [h3] at h0; simp at h0; omega
  · exact ⟨b, off, he, hA, hl⟩
/-- A row, as the walk loads it. -/
theorem Grid.row {A : Nat → Prop} {w : World} {b off n cap : Nat} {l : List (List Int)} (h : Grid A w (.slice (some ⟨b, off, none⟩) n cap) l) (j : Nat) (hj : j < l.length) :
    ∃ ao c, w.cell? ⟨b, off + j, none⟩ = some (.slice ao l[j].length c) ∧ Ints A w (.slice ao l[j].length c) l[j] := by
  obtain ⟨vs, h0, ⟨ao', cap', hv, h1, h2, h3⟩, h4⟩ := h
  injection hv with e1 e2 e3
  subst e1
  rcases h3 with h3 | ⟨b', off', he, hA, hl, hc⟩
  · rw [h3] at h0; simp at h0; omega
  · injection he with he
    injection he with e1 e2
    subst e1; subst e2
    have h5 := h4 j (by omega) hj
    obtain ⟨ao, c, he, _⟩ := h5.shape
    rw [he] at h5
    exact ⟨ao, c, (hc j vs[j] (by simp)).trans (by rw [he]), h5⟩


/-- Only draws. -/
def Qt (w w' : World) : Prop := ∃ n, w' = w.drewN n
theorem Qt.refl (w : World) : Qt w w := ⟨0, rfl⟩
theorem Qt.trans {a b c : World} (h : Qt a b) (k : Qt b c) : Qt a c := by
  obtain ⟨n, rfl⟩ := h
  obtain ⟨m, rfl⟩ := k
  exact ⟨n + m, by rw [World.drewN_drewN]⟩
theorem Qt.drewN {a b : World} (h : Qt a b) (n : Nat) : Qt a (b.drewN n) := h.trans ⟨n, rfl⟩
theorem Qt.below {a b : World} (h : Qt a b) (B : Nat) : Below B a b := by
  obtain ⟨n, rfl⟩ := h
  exact below_drewN (Below.refl _ _) n
theorem Qt.size {a b : World} (h : Qt a b) : b.heap.size = a.heap.size := by
  obtain ⟨n, rfl⟩ := h
  rfl
theorem Qt.heap {a b : World} (h : Qt a b) : b.heap = a.heap := by
  obtain ⟨n, rfl⟩ := h
  rfl
theorem Ints.qt {A : Nat → Prop} {w w' : World} {v : Value} {l : List Int} (h : Ints A w v l) (q : Qt w w') : Ints A w' v l := by
  obtain ⟨n, rfl⟩ := q
  exact h.drewN n
theorem Grid.qt {A : Nat → Prop} {w w' : World} {v : Value} {l : List (List Int)} (h : Grid A w v l) (q : Qt w w') : Grid A w' v l := by
  obtain ⟨n, rfl⟩ := q
  exact h.drewN n
/-- A quiet contract, met within a region that draws. -/
theorem qt_of {P : Program} {f : FuncId} {args : Array Value} {w : World} {n : Nat} {v : Value}
    (h : Calls P f args (w.drewN n) fun e w' => e = .returned v ∧ Qt (w.drewN n) w') : Calls P f args (w.drewN n) fun e w'' => e = .returned v ∧ ∃ m, w'' = w.drewN m :=
  h.mono fun _ _ ⟨he, m, hm⟩ => ⟨he, n + m, by rw [hm, World.drewN_drewN]⟩


/-- A row of the call's own, in a block from B on, of elements of type e and size sz: the library's word. -/
abbrev Own (B : Nat) (w : World) (e : TypeId) (sz : Nat) (v : Value) (n : Nat) (xs : List Value) : Prop := w.ownsRow B e sz v n xs

theorem Own.nil {B : Nat} {w : World} {e : TypeId} {sz : Nat} : Own B w e sz (.slice none 0 0) 0 [] := World.ownsRow_nil w B e sz

theorem Own.step {B : Nat} {w w' : World} {e : TypeId} {sz n : Nat} {v : Value} {xs : List Value} (h : Own B w e sz v n xs)
    (hb : ∀ k, v.ownBlock = some k → B ≤ k → k < w.heap.size → w'.heap[k]? = w.heap[k]?) : Own B w' e sz v n xs := by
  refine ⟨h.1, ?_⟩
  rcases h.2 with hn | ⟨g, cap, cur, rfl, h0, hg, rest⟩
  · exact .inl hn
  · exact .inr ⟨g, cap, cur, rfl, h0, by rw [hb g rfl h0 (Array.getElem?_eq_some_iff.1 hg).1]; exact hg, rest⟩

/-- What a callee leaves as it was: all that was there. -/
theorem Own.call {B : Nat} {w w' : World} {e : TypeId} {sz n : Nat} {v : Value} {xs : List Value} (h : Own B w e sz v n xs) (hB : Below w.heap.size w w') : Own B w' e sz v n xs :=
  h.step fun k _ _ hl => hB.block k hl
theorem Own.drewN {B : Nat} {w : World} {e : TypeId} {sz n : Nat} {v : Value} {xs : List Value} (h : Own B w e sz v n xs) (m : Nat) : Own B (w.drewN m) e sz v n xs :=
  h.step fun _ _ _ _ => rfl
theorem Own.qt {B : Nat} {w w' : World} {e : TypeId} {sz n : Nat} {v : Value} {xs : List Value} (h : Own B w e sz v n xs) (q : Qt w w') : Own B w' e sz v n xs := by
  obtain ⟨m, rfl⟩ := q
  exact h.drewN m
theorem Own.alloc {B : Nat} {w : World} {e : TypeId} {sz n : Nat} {v : Value} {xs : List Value} (h : Own B w e sz v n xs) (o : Obj) : Own B (w.alloc o) e sz v n xs :=
  h.step fun k _ _ hl => Below.heap_alloc w o k hl

/-- It reads as an array of cells. -/
theorem Own.arr {B : Nat} {w : World} {e : TypeId} {sz n : Nat} {v : Value} {xs : List Value} (h : Own B w e sz v n xs) : Arr (fun k => B ≤ k) w v n xs := by
  obtain ⟨hl, h1⟩ := h
  rcases h1 with ⟨rfl, rfl⟩ | ⟨g, cap, cur, rfl, hb, hg, hc, hm, hs, ht⟩
  · exact ⟨none, 0, rfl, by omega, ⟨by unfold maxLen; omega, fun _ => rfl⟩, .inl (List.length_eq_zero_iff.1 (by simpa using hl))⟩
  · refine ⟨_, cap, rfl, hc, ⟨hm, by simp⟩, .inr ⟨g, 0, rfl, hb, (Array.getElem?_eq_some_iff.1 hg).1, fun j u hj => ?_⟩⟩
    have hjl : j < n * sz := by
      have := (List.getElem?_eq_some_iff.1 hj).1
      rwa [hl] at this
    rw [Nat.zero_add, World.cell?, hg]
    simp only [Option.isSome_none, Bool.false_eq_true, if_false]
    rw [← ht, List.getElem?_take] at hj
    simpa [hjl] using hj

theorem Own.ints {B : Nat} {w : World} {v : Value} {n : Nat} {l : List Int} (h : Own B w 3 1 v n (I64 l)) : Ints (fun k => B ≤ k) w v l := by
  have h1 := h.1
  rw [I64_len, Nat.mul_one] at h1
  subst h1
  exact Own.arr h

/-- What an append may turn: the row's own block, alone; and where the new row lies. -/
structure Turned (w w' : World) (v v' : Value) : Prop where
  os : w'.os = w.os
  tape : w'.tape = w.tape
  output : w'.output = w.output
  size : w.heap.size ≤ w'.heap.size
  block : ∀ k, k < w.heap.size → v.ownBlock ≠ some k → w'.heap[k]? = w.heap[k]?
  place : v'.ownBlock = v.ownBlock ∨ v'.ownBlock = some w.heap.size

theorem Turned.below {B : Nat} {a w w' : World} {v v' : Value} {e : TypeId} {sz n : Nat} {xs : List Value} (h : Turned w w' v v') (ho : Own B w e sz v n xs) (hB : Below B a w) (hs : B ≤ w.heap.size) : Below B a w' :=
  hB.trans ⟨h.os, h.tape, h.output, h.size, fun k hk => h.block k (by omega) (fun e => by have := (ho.lt k e).1; omega)⟩

theorem Turned.below2 {B B' : Nat} {a w w' : World} {v v' : Value} {e : TypeId} {sz n : Nat} {xs : List Value} (h : Turned w w' v v') (ho : Own B w e sz v n xs) (hB : Below B' a w) (hs : B' ≤ w.heap.size) (hBB : B' ≤ B) : Below B' a w' :=
  hB.trans ⟨h.os, h.tape, h.output, h.size, fun k hk => h.block k (by omega) (fun e => by have := (ho.lt k e).1; omega)⟩

section
variable {P : Program} {w : World}

theorem run_append_turned (t ty e : TypeId) (i : TypeInfo) (z : Value) (size bytes : Nat) (ht : P.underlying t = some (.slice e)) (hi : P.info? e = some i) (hz : i.zero = some z)
    (hsize : i.size = size) (hby : i.bytes = bytes) (hzs : z.cells.size = size) (hsz : 0 < size)
    (v : Value) (n : Nat) (xs : List Value) (B : Nat) (hB : B ≤ w.heap.size) (hown : w.ownsRow B e size v n xs)
    (a : Addr) (m c : Nat) (news : List Value) (hl : news.length = m * size) (hnews : ∀ j u, news[j]? = some u → w.cell? (a.add j) = some u) (h1 : ∀ u ∈ news, u.oneCell' = true)
    (h63 : n + m ≤ maxLen) (hbytes : (n + m) * bytes ≤ 140737488355328) :
    ∃ v' w', (Builtin.append_ #[t, t] ty #[v, .slice (some a) m c]).run P w = .ok v' w' ∧ w'.ownsRow B e size v' (n + m) (xs ++ news) ∧ Turned w w' v v' := by
  obtain ⟨v', w', hr, h2, h3, h4⟩ := run_append_own (P := P) w B t ty e i z size bytes ht hi hz hsize hby hzs hsz v n xs hown a m c news hl hnews h1 h63 hbytes hB
  refine ⟨v', w', hr, h2, ⟨h3.os, h3.tape, h3.output, h3.size, fun k hk hne => h3.block k hk (fun e => hne e.symm), ?_⟩⟩
  subst hsize
  subst hby
  have hsmall : n + m ≤ 9223372036854775807 := by simp only [maxLen] at h63; omega
  rcases hown.2 with ⟨rfl, rfl⟩ | ⟨g, cap, cur, rfl, hbg, hg, hnc, hcm, hcs, htake⟩
  · by_cases hm : m = 0
    · exact .inl (by rw [h4.2 ⟨rfl, hm⟩])
    · have hr' := run_append_nil (P := P) w t ty e i z ht hi hz a m c news hl hnews (by omega) (by omega) (by have hb := hbytes; simp only [Nat.zero_add] at hb; omega)
      rw [hr'] at hr
      injection hr with e1 e2
      exact .inr (by rw [← e1]; rfl)
  · by_cases hroom : n + m ≤ cap
    · have hfit : n * i.size + news.length ≤ cur.size := by rw [hl, hcs, ← Nat.add_mul]; exact Nat.mul_le_mul_right _ hroom
      have hr' := run_append_room (P := P) w t ty e i ht hi g n cap cur hg a m c news hl hnews h1 hroom hfit
      rw [hr'] at hr
      injection hr with e1 e2
      exact .inl (by rw [← e1]; rfl)
    · have holds : ∀ j u, xs[j]? = some u → w.cell? ((⟨g, 0, none⟩ : Addr).add j) = some u := hown.cells (g := g) rfl
      have hr' := run_append_grow (P := P) w t ty e i z ht hi hz ⟨g, 0, none⟩ n cap xs hown.1 holds a m c news hl hnews (by omega) (by omega) (growslice_fits (by omega) hbytes)
      rw [hr'] at hr
      injection hr with e1 e2
      exact .inr (by rw [← e1]; rfl)

/-- 'append(s, x...)': s a row of the call's own, x whatever reads as cells. -/
theorem wp_append_arr {o : Oper} {a : Act} {K : Act → World → Prop} {Q : Exit → Act → World → Prop} (s x : Operand) (t : TypeId)
    (ho : o.op = .call { callee := .builtin .append, args := #[s, x], argTypes := #[t, t] })
    (e : TypeId) (z : Value) (size bytes : Nat) (ht : P.underlying t = some (.slice e)) (hi : (P.info? e).map (fun i => (i.zero, i.size, i.bytes)) = some (some z, size, bytes)) (hzs : z.cells.size = size) (hsz : 0 < size) (hby : bytes ≤ 64)
    {B : Nat} (hB : B ≤ w.heap.size) {A' : Nat → Prop} {v : Value} {n : Nat} {xs : List Value} (hown : Own B w e size v n xs) (hs : a.eval s = v)
    {vs : Value} {m : Nat} {news : List Value} (hsrc : Arr A' w vs m news) (hx : a.eval x = vs) (hl : news.length = m * size) (h1 : ∀ u ∈ news, u.oneCell' = true)
    (hnm : n + m ≤ 1000000)
    (h : ∀ v' w', Own B w' e size v' (n + m) (xs ++ news) → Turned w w' v v' → K (a.put o.dst v') w') : o.wp P a w K Q := by
  obtain ⟨i, hi', hz, hs1, hb⟩ := info_parts hi
  obtain ⟨ao, cap, rfl, hc, ⟨hm, hn0⟩, hcell⟩ := hsrc
  have hmb : (n + m) * bytes ≤ 140737488355328 := Nat.le_trans (Nat.mul_le_mul hnm hby) (by omega)
  cases ao with
  | none =>
    have hcap : cap = 0 := hn0 rfl
    subst hcap
    have hm0 : m = 0 := by omega
    subst hm0
    have hnil : news = [] := List.length_eq_zero_iff.1 (by simpa using hl)
    subst hnil
    have hrun := run_append_owned_none (P := P) (w := w) B t o.type e i size ht hi' v n xs hown
    unfold Oper.wp
    simp only [execOp, ho, resolve, invoke, builtin, Sem.run_bind, Sem.run_pure, Result.andThen_ok, List.map_toArray, List.map_cons, List.map_nil, hs, hx, hrun]
    refine h v w ?_ ⟨rfl, rfl, rfl, Nat.le_refl _, fun _ _ _ => rfl, .inl rfl⟩
    rw [Nat.add_zero, List.append_nil]
    exact hown
  | some ad =>
    have hnews : ∀ j u, news[j]? = some u → w.cell? (ad.add j) = some u := by
      intro j u hj
      rcases hcell with rfl | ⟨b, off, he, _, _, hcell⟩
      · simp at hj
      · injection he with he
        subst he
        have hadd : (⟨b, off, none⟩ : Addr).add j = ⟨b, off + j, none⟩ := by unfold Addr.add; split <;> simp_all
        rw [hadd]
        exact hcell j u hj
    obtain ⟨v', w', hr, h2, h3⟩ := run_append_turned (P := P) (w := w) t o.type e i z size bytes ht hi' hz hs1 hb hzs hsz v n xs B hB hown ad m cap news hl hnews h1 (by unfold maxLen; omega) hmb
    unfold Oper.wp execOp
    simp only [ho, resolve, invoke, builtin, Sem.run_bind, Sem.run_pure, Result.andThen_ok, List.map_toArray, List.map_cons, List.map_nil, hs, hx, hr]
    exact h v' w' h2 h3

theorem wpList_append_arr {ops : Array Oper} {rest : List Oper} {o : Oper} {a : Act} {Q : Exit → Act → World → Prop} (hgd : o.guard = none) (s x : Operand) (t : TypeId)
    (ho : o.op = .call { callee := .builtin .append, args := #[s, x], argTypes := #[t, t] })
    (e : TypeId) (z : Value) (size bytes : Nat) (ht : P.underlying t = some (.slice e)) (hi : (P.info? e).map (fun i => (i.zero, i.size, i.bytes)) = some (some z, size, bytes)) (hzs : z.cells.size = size) (hsz : 0 < size) (hby : bytes ≤ 64)
    {B : Nat} (hB : B ≤ w.heap.size) {A' : Nat → Prop} {v : Value} {n : Nat} {xs : List Value} (hown : Own B w e size v n xs) (hs : a.eval s = v)
    {vs : Value} {m : Nat} {news : List Value} (hsrc : Arr A' w vs m news) (hx : a.eval x = vs) (hl : news.length = m * size) (h1 : ∀ u ∈ news, u.oneCell' = true)
    (hnm : n + m ≤ 1000000)
    (h : ∀ v' w', Own B w' e size v' (n + m) (xs ++ news) → Turned w w' v v' → wpList P ops Q rest (a.put o.dst v') w') : wpList P ops Q (o :: rest) a w :=
  wpList_plain hgd fun _ hK => wp_append_arr s x t ho e z size bytes ht hi hzs hsz hby hB hown hs hsrc hx hl h1 hnm fun v' w' h2 h3 => hK _ _ (h v' w' h2 h3)

/-- The same at a step of a region that draws its order. -/
theorem step_append_arr {ops : Array Oper} {o : Oper} {a : Act} {K : Act → World → Prop} {Q : Exit → Act → World → Prop} {E : Prop} (hgd : o.guard = none) (s x : Operand) (t : TypeId)
    (ho : o.op = .call { callee := .builtin .append, args := #[s, x], argTypes := #[t, t] })
    (e : TypeId) (z : Value) (size bytes : Nat) (ht : P.underlying t = some (.slice e)) (hi : (P.info? e).map (fun i => (i.zero, i.size, i.bytes)) = some (some z, size, bytes)) (hzs : z.cells.size = size) (hsz : 0 < size) (hby : bytes ≤ 64)
    {B : Nat} (hB : B ≤ w.heap.size) {A' : Nat → Prop} {v : Value} {n : Nat} {xs : List Value} (hown : Own B w e size v n xs) (hs : a.eval s = v)
    {vs : Value} {m : Nat} {news : List Value} (hsrc : Arr A' w vs m news) (hx : a.eval x = vs) (hl : news.length = m * size) (h1 : ∀ u ∈ news, u.oneCell' = true)
    (hnm : n + m ≤ 1000000)
    (h : ∀ v' w', Own B w' e size v' (n + m) (xs ++ news) → Turned w w' v v' → K (a.put o.dst v') w') :
    if Region.wanted o (yielded ops a.tmps) = true then Oper.wp P o a w K Q else E := by
  rw [if_pos (by simp [Region.wanted, hgd])]
  exact wp_append_arr s x t ho e z size bytes ht hi hzs hsz hby hB hown hs hsrc hx hl h1 hnm h
end

theorem ints_one (l : List Int) : ∀ u ∈ I64 l, u.oneCell' = true := by
  intro u hu
  obtain ⟨x, _, rfl⟩ := List.mem_map.1 hu
  rfl

/-- A made block of ints, known whole. -/
def IntBlk (w : World) (g : Nat) (l : List Int) : Prop := w.heap[g]? = some (.cells (I64 l).toArray 3 (0, 0))

theorem IntBlk.lt {w : World} {g : Nat} {l : List Int} (h : IntBlk w g l) : g < w.heap.size := (Array.getElem?_eq_some_iff.1 h).1
theorem IntBlk.cell {w : World} {g : Nat} {l : List Int} (h : IntBlk w g l) (j : Nat) (hj : j < l.length) : w.cell? ⟨g, j, none⟩ = some (.int .i64 l[j]) := by
  unfold IntBlk at h
  rw [World.cell?, h]
  simp [I64, hj]
theorem IntBlk.free {w : World} {g : Nat} {l : List Int} (h : IntBlk w g l) (j : Nat) : w.frozen? ⟨g, j, none⟩ = false := by
  unfold IntBlk at h
  rw [World.frozen?, h]
  simp
theorem IntBlk.set {w : World} {g : Nat} {l : List Int} (h : IntBlk w g l) (j : Nat) (x : Int) : IntBlk (w.setCell ⟨g, j, none⟩ (.int .i64 x)) g (l.set j x) := by
  unfold IntBlk at *
  simp only [World.setCell, Array.getElem?_modify, h]
  simp [I64, List.map_set]
theorem IntBlk.step {w w' : World} {g : Nat} {l : List Int} (h : IntBlk w g l) (hb : w'.heap[g]? = w.heap[g]?) : IntBlk w' g l := hb.trans h
theorem IntBlk.call {w w' : World} {g : Nat} {l : List Int} (h : IntBlk w g l) (hB : Below w.heap.size w w') : IntBlk w' g l := h.step (hB.block g h.lt)
theorem IntBlk.other {w : World} {g : Nat} {l : List Int} (h : IntBlk w g l) {a : Addr} (ha : a.block ≠ g) (u : Value) : IntBlk (w.setCell a u) g l :=
  h.step (Below.heap_setCell w a u g (by omega))
theorem IntBlk.alloc {w : World} {g : Nat} {l : List Int} (h : IntBlk w g l) (o : Obj) : IntBlk (w.alloc o) g l := h.step (Below.heap_alloc w o g h.lt)
theorem IntBlk.ints {w : World} {g : Nat} {l : List Int} (h : IntBlk w g l) (hm : l.length ≤ 1000000) : Ints (fun k => k = g) w (.slice (some ⟨g, 0, none⟩) l.length l.length) l := by
  refine ⟨_, _, rfl, Nat.le_refl _, ⟨by unfold maxLen; omega, by simp⟩, .inr ⟨g, 0, rfl, rfl, h.lt, fun j u hj => ?_⟩⟩
  have hjl : j < l.length := by
    have := (List.getElem?_eq_some_iff.1 hj).1
    rwa [I64_len] at this
  rw [I64_at l j hjl] at hj
  injection hj with hj
  rw [← hj, Nat.zero_add]
  exact h.cell j hjl

/-- 'make([]int, n)': one run equation. -/
theorem run_make_ints (n : Nat) (hn : n ≤ 1000000) (w : World) :
    (Instr.makeSlice 26 (.int .i64 (n : Int)) (.int .i64 (n : Int))).run Tryz.prog w = .ok (.slice (some ⟨w.heap.size, 0, none⟩) n n) (w.alloc (.cells (I64 (List.replicate n 0)).toArray 3)) := by
  obtain ⟨i, hi, hz, hs, hb⟩ := info_parts Tryz.info3
  have hb' : (i.bytes : Int) * (n : Int) ≤ 281474976710656 := by rw [hb]; omega
  have hr := run_make (P := Tryz.prog) w 26 3 i (.int .i64 0) Tryz.underlying26 hi hz .i64 .i64 n n (by omega) (Int.le_refl _) hb' (by omega)
  simp only [Int.toNat_natCast] at hr
  have e : madeCells (Value.int .i64 0).cells (n * i.size) = (I64 (List.replicate n 0)).toArray := by
    apply Array.ext'
    rw [hs, Nat.mul_one]
    exact (toList_madeCells_one _ n).trans (by simp [I64])
  rw [e] at hr
  exact hr

theorem intBlk_made (w : World) (n : Nat) : IntBlk (w.alloc (.cells (I64 (List.replicate n 0)).toArray 3)) w.heap.size (List.replicate n 0) := by
  unfold IntBlk
  exact heap_alloc_new w _


/-- A literal's row. -/
theorem own_lit (w : World) (e : TypeId) (sz : Nat) (cs : Array Value) (n : Nat) (hs : cs.size = n * sz) (hn : n ≤ 1000000) :
    Own w.heap.size (w.alloc (.cells cs e)) e sz (.slice (some ⟨w.heap.size, 0, none⟩) n n) n cs.toList :=
  World.ownsRow_lit w cs n (Nat.le_refl _) (by unfold maxLen; omega) hs

/-- A literal of one element. -/
theorem arr_one (w : World) (e : TypeId) (u : Value) : Arr (fun k => w.heap.size ≤ k) (w.alloc (.cells #[u] e)) (.slice (some ⟨w.heap.size, 0, none⟩) 1 1) 1 [u] :=
  Own.arr (own_lit w e 1 #[u] 1 rfl (by omega))
theorem one_int (x : Int) : ∀ u ∈ [Value.int .i64 x], u.oneCell' = true := by
  intro u hu
  rw [List.mem_singleton] at hu
  subst hu
  rfl
theorem one_slice (ao : Option Addr) (n c : Nat) : ∀ u ∈ [Value.slice ao n c], u.oneCell' = true := by
  intro u hu
  rw [List.mem_singleton] at hu
  subst hu
  rfl

/-- Numbers from 0 to n - 1. -/
def iota (n : Nat) : List Int := (List.range n).map fun (i : Nat) => (i : Int)
theorem iota_len (n : Nat) : (iota n).length = n := by simp [iota]
theorem iota_succ (n : Nat) : iota (n + 1) = iota n ++ [(n : Int)] := by simp [iota, List.range_succ]
theorem iota_at (n j : Nat) (h : j < (iota n).length) : (iota n)[j] = (j : Int) := by simp [iota]
theorem iota_mem (n : Nat) (x : Int) : x ∈ iota n ↔ 0 ≤ x ∧ x < n := by
  simp only [iota, List.mem_map, List.mem_range]
  constructor
  · rintro ⟨a, ha, rfl⟩; omega
  · rintro ⟨h1, h2⟩; exact ⟨x.toNat, by omega, by omega⟩
theorem iota_nodup (n : Nat) : (iota n).Nodup := by
  unfold iota List.Nodup
  rw [List.pairwise_map]
  exact List.Pairwise.imp (fun h e => h (by omega)) List.nodup_range

theorem below_only {B : Nat} {a b c : World} {r : Nat} (h : Below B a b) (k : b.grownBy c (some r)) (hs : B ≤ b.heap.size) (hr : B ≤ r) : Below B a c :=
  h.grown k hs fun j e => by injection e with e; omega

end Go.Proofs.YtbpfhoihfoojfaaGreatDoor
