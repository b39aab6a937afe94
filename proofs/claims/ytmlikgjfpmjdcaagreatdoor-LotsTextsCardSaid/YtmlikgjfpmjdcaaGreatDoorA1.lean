/- Words for data in memory, small contracts, the hand that deals numbers, commons in memory, regions that draw their order; conditions: as said at each. -/
import Derived.Test.YtmlikgjfpmjdcaaGreatDoorProg
import Derived.WalkKit
import Derived.WalkSpells
import Derived.Deep.QuietTactic
import Derived.BigQuiet
import Derived.Lib.Hide
import Derived.Deep.Draws
import Derived.Laws.AppendOwnNone
import Derived.OrdersHeld
import Derived.Deep.RegionHeld3
/- Words for data in memory that the walks of this seat share: slices of ints, grids, villages, commons; conditions: none. -/
namespace Go.Proofs.YtmlikgjfpmjdcaaGreatDoor
open Go.RowKit

/-- A slice value v of n elements whose cells, all in blocks of A, read as xs. -/
def Arr (A : Nat → Prop) (w : World) (v : Value) (n : Nat) (xs : List Value) : Prop :=
  ∃ ao cap, v = .slice ao n cap ∧ n ≤ cap ∧ (cap ≤ maxLen ∧ (ao = none → cap = 0)) ∧
    (xs = [] ∨ ∃ b off, ao = some ⟨b, off, none⟩ ∧ A b ∧ b < w.heap.size ∧ ∀ j u, xs[j]? = some u → w.cell? ⟨b, off + j, none⟩ = some u)

theorem Arr.step {A : Nat → Prop} {w w' : World} {v : Value} {n : Nat} {xs : List Value} (h : Arr A w v n xs)
    (hs : w.heap.size ≤ w'.heap.size) (hb : ∀ k, A k → k < w.heap.size → w'.heap[k]? = w.heap[k]?) : Arr A w' v n xs := by
  obtain ⟨ao, cap, hv, h1, h2, h3⟩ := h
  refine ⟨ao, cap, hv, h1, h2, h3.imp id ?_⟩
  rintro ⟨b, off, he, hA, hl, hc⟩
  exact ⟨b, off, he, hA, by omega, fun j u hj => (World.cell?_of_block (hb b hA hl)).trans (hc j u hj)⟩

theorem Arr.wide {A A' : Nat → Prop} {w : World} {v : Value} {n : Nat} {xs : List Value} (h : Arr A w v n xs)
    (hA : ∀ k, A k → k < w.heap.size → A' k) : Arr A' w v n xs := by
  obtain ⟨ao, cap, hv, h1, h2, h3⟩ := h
  refine ⟨ao, cap, hv, h1, h2, h3.imp id ?_⟩
  rintro ⟨b, off, he, h4, hl, hc⟩
  exact ⟨b, off, he, hA b h4 hl, hl, hc⟩

/-- Where there is a cell, the address is known. -/
theorem Arr.addr {A : Nat → Prop} {w : World} {ao : Option Addr} {n cap : Nat} {xs : List Value} (h : Arr A w (.slice ao n cap) n xs) (hx : 0 < xs.length) :
    ∃ b off, ao = some ⟨b, off, none⟩ ∧ A b ∧ b < w.heap.size ∧ ∀ j u, xs[j]? = some u → w.cell? ⟨b, off + j, none⟩ = some u := by
  obtain ⟨ao', cap', hv, h1, h2, h3⟩ := h
  injection hv with e1 e2 e3
  subst e1
  rcases h3 with rfl | h3
  · simp at hx
  · exact h3

def I64 (l : List Int) : List Value := l.map (Value.int .i64)
theorem I64_len (l : List Int) : (I64 l).length = l.length := List.length_map _
theorem I64_at (l : List Int) (j : Nat) (h : j < l.length) : (I64 l)[j]? = some (.int .i64 l[j]) := by simp [I64, h]
theorem I64_append (a b : List Int) : I64 (a ++ b) = I64 a ++ I64 b := List.map_append

def Ints (A : Nat → Prop) (w : World) (v : Value) (l : List Int) : Prop := Arr A w v l.length (I64 l)

theorem Ints.step {A : Nat → Prop} {w w' : World} {v : Value} {l : List Int} (h : Ints A w v l)
    (hs : w.heap.size ≤ w'.heap.size) (hb : ∀ k, A k → k < w.heap.size → w'.heap[k]? = w.heap[k]?) : Ints A w' v l := Arr.step h hs hb
theorem Ints.wide {A A' : Nat → Prop} {w : World} {v : Value} {l : List Int} (h : Ints A w v l) (hA : ∀ k, A k → k < w.heap.size → A' k) : Ints A' w v l := Arr.wide h hA
theorem Ints.below {A : Nat → Prop} {B : Nat} {w w' : World} {v : Value} {l : List Int} (h : Ints A w v l) (hB : Below B w w') (hA : ∀ k, A k → k < w.heap.size → k < B) : Ints A w' v l :=
  h.step hB.size fun k hk hl => hB.block k (hA k hk hl)
/-- What a callee that writes nothing old leaves as it was. -/
theorem Ints.call {A : Nat → Prop} {w w' : World} {v : Value} {l : List Int} (h : Ints A w v l) (hB : Below w.heap.size w w') : Ints A w' v l :=
  h.below hB fun _ _ hl => hl

/-- The shape of the value. -/
theorem Ints.shape {A : Nat → Prop} {w : World} {v : Value} {l : List Int} (h : Ints A w v l) : ∃ ao cap, v = .slice ao l.length cap ∧ l.length ≤ cap ∧ cap ≤ maxLen := by
  obtain ⟨ao, cap, hv, h1, ⟨h2, _⟩, _⟩ := h
  exact ⟨ao, cap, hv, h1, h2⟩
theorem Ints.len {A : Nat → Prop} {w : World} {v : Value} {l : List Int} (h : Ints A w v l) : l.length ≤ 9223372036854775807 := by
  obtain ⟨ao, cap, hv, h1, ⟨h2, _⟩, _⟩ := h
  unfold maxLen at h2; omega
/-- Its address and cells, where it is not empty. -/
theorem Ints.addr {A : Nat → Prop} {w : World} {ao : Option Addr} {n cap : Nat} {l : List Int} (h : Ints A w (.slice ao n cap) l) (hx : 0 < l.length) :
    ∃ b off, ao = some ⟨b, off, none⟩ ∧ A b ∧ b < w.heap.size ∧ ∀ j (hj : j < l.length), w.cell? ⟨b, off + j, none⟩ = some (.int .i64 l[j]) := by
  obtain ⟨ao', cap', hv, h1, h2, h3⟩ := h
  injection hv with e1 e2 e3
  subst e1
  rcases h3 with h3 | ⟨b, off, he, hA, hl, hc⟩
  · have := I64_len l; rw [h3] at this; simp at this; omega
  · exact ⟨b, off, he, hA, hl, fun j hj => hc j _ (I64_at l j hj)⟩
theorem Ints.cell {A : Nat → Prop} {w : World} {b off n cap : Nat} {l : List Int} (h : Ints A w (.slice (some ⟨b, off, none⟩) n cap) l) (j : Nat) (hj : j < l.length) :
    w.cell? ⟨b, off + j, none⟩ = some (.int .i64 l[j]) := by
  obtain ⟨b', off', he, _, _, hc⟩ := h.addr (by omega)
  injection he with he
  injection he with e1 e2
  subst e1; subst e2
  exact hc j hj

theorem below_drewN {B : Nat} {a w : World} (h : Below B a w) (n : Nat) : Below B a (w.drewN n) := ⟨h.os, h.tape, h.output, h.size, h.block⟩
theorem ret_int {k : IntKind} {a b : Int} (h : a = b) : Ending.returned (.int k a) = .returned (.int k b) := by rw [h]
theorem ret_bool {a b : Bool} (h : a = b) : Ending.returned (.bool a) = .returned (.bool b) := by rw [h]

theorem Tryz.info3 : (Tryz.prog.info? 3).map (fun i => (i.zero, i.size, i.bytes)) = some (some (.int .i64 0), 1, 8) := by kernel_rfl

/-- The library's word for a row of the call's own, read as ints. -/
theorem Ints.of_owns {w : World} {B : Nat} {v : Value} {l : List Int} (h : w.ownsRow B 3 1 v l.length (I64 l)) : Ints (fun k => B ≤ k) w v l := by
  obtain ⟨hl, h⟩ := h
  rcases h with ⟨rfl, h0⟩ | ⟨g, cap, cur, rfl, hb, hg, hc, hm, hs, ht⟩
  · exact ⟨none, 0, by rw [h0], by omega, ⟨by unfold maxLen; omega, fun _ => rfl⟩, .inl (by unfold I64; rw [List.length_eq_zero_iff.1 h0]; rfl)⟩
  · refine ⟨_, cap, rfl, hc, ⟨hm, by simp⟩, .inr ⟨g, 0, rfl, hb, (Array.getElem?_eq_some_iff.1 hg).1, fun j u hj => ?_⟩⟩
    have hjl : j < l.length := by
      have := (List.getElem?_eq_some_iff.1 hj).1
      rwa [I64_len] at this
    rw [Nat.zero_add, World.cell?, hg]
    simp only [Option.isSome_none, Bool.false_eq_true, if_false]
    rw [← ht, List.getElem?_take] at hj
    simpa [hjl] using hj


theorem Ints.drewN {A : Nat → Prop} {w : World} {v : Value} {l : List Int} (h : Ints A w v l) (n : Nat) : Ints A (w.drewN n) v l :=
  h.step (Nat.le_refl _) fun _ _ _ => rfl

/-- A slice of one-celled slices that read as rows. -/
def Grid (A : Nat → Prop) (w : World) (v : Value) (g : List (List Int)) : Prop :=
  ∃ vs : List Value, vs.length = g.length ∧ Arr A w v g.length vs ∧ ∀ i (a : i < vs.length) (b : i < g.length), Ints A w vs[i] g[i]

theorem Grid.step {A : Nat → Prop} {w w' : World} {v : Value} {l : List (List Int)} (h : Grid A w v l)
    (hs : w.heap.size ≤ w'.heap.size) (hb : ∀ k, A k → k < w.heap.size → w'.heap[k]? = w.heap[k]?) : Grid A w' v l := by
  obtain ⟨vs, h1, h2, h3⟩ := h
  exact ⟨vs, h1, h2.step hs hb, fun i a b => (h3 i a b).step hs hb⟩
theorem Grid.wide {A A' : Nat → Prop} {w : World} {v : Value} {l : List (List Int)} (h : Grid A w v l) (hA : ∀ k, A k → k < w.heap.size → A' k) : Grid A' w v l := by
  obtain ⟨vs, h1, h2, h3⟩ := h
  exact ⟨vs, h1, h2.wide hA, fun i a b => (h3 i a b).wide hA⟩
theorem Grid.below {A : Nat → Prop} {B : Nat} {w w' : World} {v : Value} {l : List (List Int)} (h : Grid A w v l) (hB : Below B w w') (hA : ∀ k, A k → k < w.heap.size → k < B) : Grid A w' v l :=
  h.step hB.size fun k hk hl => hB.block k (hA k hk hl)
theorem Grid.call {A : Nat → Prop} {w w' : World} {v : Value} {l : List (List Int)} (h : Grid A w v l) (hB : Below w.heap.size w w') : Grid A w' v l :=
  h.below hB fun _ _ hl => hl
theorem Grid.drewN {A : Nat → Prop} {w : World} {v : Value} {l : List (List Int)} (h : Grid A w v l) (n : Nat) : Grid A (w.drewN n) v l :=
  h.step (Nat.le_refl _) fun _ _ _ => rfl
theorem Grid.shape {A : Nat → Prop} {w : World} {v : Value} {l : List (List Int)} (h : Grid A w v l) : ∃ ao cap, v = .slice ao l.length cap ∧ l.length ≤ cap ∧ cap ≤ maxLen := by
  obtain ⟨vs, _, ⟨ao, cap, hv, h1, ⟨h2, _⟩, _⟩, _⟩ := h
  exact ⟨ao, cap, hv, h1, h2⟩
theorem Grid.len {A : Nat → Prop} {w : World} {v : Value} {l : List (List Int)} (h : Grid A w v l) : l.length ≤ 9223372036854775807 := by
  obtain ⟨ao, cap, hv, h1, h2⟩ := h.shape
  unfold maxLen at h2; omega
theorem Grid.addr {A : Nat → Prop} {w : World} {ao : Option Addr} {n cap : Nat} {l : List (List Int)} (h : Grid A w (.slice ao n cap) l) (hx : 0 < l.length) :
    ∃ b off, ao = some ⟨b, off, none⟩ ∧ A b ∧ b < w.heap.size := by
  obtain ⟨vs, h0, ⟨ao', cap', hv, h1, h2, h3⟩, _⟩ := h
  injection hv with e1 e2 e3
  subst e1
  rcases h3 with h3 | ⟨b, off, he, hA, hl, hc⟩
  · rw [h3] at h0; simp at h0; omega
  · exact ⟨b, off, he, hA, hl⟩
/-- A row, as the walk loads it. -/
theorem Grid.row {A : Nat → Prop} {w : World} {b off n cap : Nat} {l : List (List Int)} (h : Grid A w (.slice (some ⟨b, off, none⟩) n cap) l) (j : Nat) (hj : j < l.length) :
    ∃ ao c, w.cell? ⟨b, off + j, none⟩ = some (.slice ao l[j].length c) ∧ Ints A w (.slice ao l[j].length c) l[j] := by
  obtain ⟨vs, h0, ⟨ao', cap', hv, h1, h2, h3⟩, h4⟩ := h
  injection hv with e1 e2 e3
  subst e1
  rcases h3 with h3 | ⟨b', off', he, hA, hl, hc⟩
  · rw [h3] at h0; simp at h0; omega
  · injection he with he
    injection he with e1 e2
    subst e1; subst e2
    have h5 := h4 j (by omega) hj
    obtain ⟨ao, c, he, _⟩ := h5.shape
    rw [he] at h5
    exact ⟨ao, c, (hc j vs[j] (by simp)).trans (by rw [he]), h5⟩


/-- Only draws. -/
def Qt (w w' : World) : Prop := ∃ n, w' = w.drewN n
theorem Qt.refl (w : World) : Qt w w := ⟨0, rfl⟩
theorem Qt.trans {a b c : World} (h : Qt a b) (k : Qt b c) : Qt a c := by
  obtain ⟨n, rfl⟩ := h
  obtain ⟨m, rfl⟩ := k
  exact ⟨n + m, by rw [World.drewN_drewN]⟩
theorem Qt.drewN {a b : World} (h : Qt a b) (n : Nat) : Qt a (b.drewN n) := h.trans ⟨n, rfl⟩
theorem Qt.below {a b : World} (h : Qt a b) (B : Nat) : Below B a b := by
  obtain ⟨n, rfl⟩ := h
  exact below_drewN (Below.refl _ _) n
theorem Qt.size {a b : World} (h : Qt a b) : b.heap.size = a.heap.size := by
  obtain ⟨n, rfl⟩ := h
  rfl
theorem Qt.heap {a b : World} (h : Qt a b) : b.heap = a.heap := by
  obtain ⟨n, rfl⟩ := h
  rfl
theorem Ints.qt {A : Nat → Prop} {w w' : World} {v : Value} {l : List Int} (h : Ints A w v l) (q : Qt w w') : Ints A w' v l := by
  obtain ⟨n, rfl⟩ := q
  exact h.drewN n
theorem Grid.qt {A : Nat → Prop} {w w' : World} {v : Value} {l : List (List Int)} (h : Grid A w v l) (q : Qt w w') : Grid A w' v l := by
  obtain ⟨n, rfl⟩ := q
  exact h.drewN n
/-- A quiet contract, met within a region that draws. -/
theorem qt_of {P : Program} {f : FuncId} {args : Array Value} {w : World} {n : Nat} {v : Value}
    (h : Calls P f args (w.drewN n) fun e w' => e = .returned v ∧ Qt (w.drewN n) w') : Calls P f args (w.drewN n) fun e w'' => e = .returned v ∧ ∃ m, w'' = w.drewN m :=
  h.mono fun _ _ ⟨he, m, hm⟩ => ⟨he, n + m, by rw [hm, World.drewN_drewN]⟩

end Go.Proofs.YtmlikgjfpmjdcaaGreatDoor

/- Rows of the call's own: append onto them, make, stores into them; conditions: none. -/
namespace Go.Proofs.YtmlikgjfpmjdcaaGreatDoor
open Go.RowKit

/-- A row of the call's own, in a block from B on, of elements of type e and size sz: the library's word. -/
abbrev Own (B : Nat) (w : World) (e : TypeId) (sz : Nat) (v : Value) (n : Nat) (xs : List Value) : Prop := w.ownsRow B e sz v n xs

theorem Own.nil {B : Nat} {w : World} {e : TypeId} {sz : Nat} : Own B w e sz (.slice none 0 0) 0 [] := World.ownsRow_nil w B e sz

theorem Own.step {B : Nat} {w w' : World} {e : TypeId} {sz n : Nat} {v : Value} {xs : List Value} (h : Own B w e sz v n xs)
    (hb : ∀ k, v.ownBlock = some k → B ≤ k → k < w.heap.size → w'.heap[k]? = w.heap[k]?) : Own B w' e sz v n xs := by
  refine ⟨h.1, ?_⟩
  rcases h.2 with hn | ⟨g, cap, cur, rfl, h0, hg, rest⟩
  · exact .inl hn
  · exact .inr ⟨g, cap, cur, rfl, h0, by rw [hb g rfl h0 (Array.getElem?_eq_some_iff.1 hg).1]; exact hg, rest⟩

/-- What a callee leaves as it was: all that was there. -/
theorem Own.call {B : Nat} {w w' : World} {e : TypeId} {sz n : Nat} {v : Value} {xs : List Value} (h : Own B w e sz v n xs) (hB : Below w.heap.size w w') : Own B w' e sz v n xs :=
  h.step fun k _ _ hl => hB.block k hl
theorem Own.drewN {B : Nat} {w : World} {e : TypeId} {sz n : Nat} {v : Value} {xs : List Value} (h : Own B w e sz v n xs) (m : Nat) : Own B (w.drewN m) e sz v n xs :=
  h.step fun _ _ _ _ => rfl
theorem Own.qt {B : Nat} {w w' : World} {e : TypeId} {sz n : Nat} {v : Value} {xs : List Value} (h : Own B w e sz v n xs) (q : Qt w w') : Own B w' e sz v n xs := by
  obtain ⟨m, rfl⟩ := q
  exact h.drewN m
theorem Own.alloc {B : Nat} {w : World} {e : TypeId} {sz n : Nat} {v : Value} {xs : List Value} (h : Own B w e sz v n xs) (o : Obj) : Own B (w.alloc o) e sz v n xs :=
  h.step fun k _ _ hl => Below.heap_alloc w o k hl

/-- It reads as an array of cells. -/
theorem Own.arr {B : Nat} {w : World} {e : TypeId} {sz n : Nat} {v : Value} {xs : List Value} (h : Own B w e sz v n xs) : Arr (fun k => B ≤ k) w v n xs := by
  obtain ⟨hl, h1⟩ := h
  rcases h1 with ⟨rfl, rfl⟩ | ⟨g, cap, cur, rfl, hb, hg, hc, hm, hs, ht⟩
  · exact ⟨none, 0, rfl, by omega, ⟨by unfold maxLen; omega, fun _ => rfl⟩, .inl (List.length_eq_zero_iff.1 (by simpa using hl))⟩
  · refine ⟨_, cap, rfl, hc, ⟨hm, by simp⟩, .inr ⟨g, 0, rfl, hb, (Array.getElem?_eq_some_iff.1 hg).1, fun j u hj => ?_⟩⟩
    have hjl : j < n * sz := by
      have := (List.getElem?_eq_some_iff.1 hj).1
      rwa [hl] at this
    rw [Nat.zero_add, World.cell?, hg]
    simp only [Option.isSome_none, Bool.false_eq_true, if_false]
    rw [← ht, List.getElem?_take] at hj
    simpa [hjl] using hj

theorem Own.ints {B : Nat} {w : World} {v : Value} {n : Nat} {l : List Int} (h : Own B w 3 1 v n (I64 l)) : Ints (fun k => B ≤ k) w v l := by
  have h1 := h.1
  rw [I64_len, Nat.mul_one] at h1
  subst h1
  exact Own.arr h

/-- What an append may turn: the row's own block, alone; and where the new row lies. -/
structure Turned (w w' : World) (v v' : Value) : Prop where
  os : w'.os = w.os
  tape : w'.tape = w.tape
  output : w'.output = w.output
  size : w.heap.size ≤ w'.heap.size
  block : ∀ k, k < w.heap.size → v.ownBlock ≠ some k → w'.heap[k]? = w.heap[k]?
  place : v'.ownBlock = v.ownBlock ∨ v'.ownBlock = some w.heap.size

theorem Turned.below {B : Nat} {a w w' : World} {v v' : Value} {e : TypeId} {sz n : Nat} {xs : List Value} (h : Turned w w' v v') (ho : Own B w e sz v n xs) (hB : Below B a w) (hs : B ≤ w.heap.size) : Below B a w' :=
  hB.trans ⟨h.os, h.tape, h.output, h.size, fun k hk => h.block k (by omega) (fun e => by have := (ho.lt k e).1; omega)⟩

theorem Turned.below2 {B B' : Nat} {a w w' : World} {v v' : Value} {e : TypeId} {sz n : Nat} {xs : List Value} (h : Turned w w' v v') (ho : Own B w e sz v n xs) (hB : Below B' a w) (hs : B' ≤ w.heap.size) (hBB : B' ≤ B) : Below B' a w' :=
  hB.trans ⟨h.os, h.tape, h.output, h.size, fun k hk => h.block k (by omega) (fun e => by have := (ho.lt k e).1; omega)⟩

section
variable {P : Program} {w : World}

theorem run_append_turned (t ty e : TypeId) (i : TypeInfo) (z : Value) (size bytes : Nat) (ht : P.underlying t = some (.slice e)) (hi : P.info? e = some i) (hz : i.zero = some z)
    (hsize : i.size = size) (hby : i.bytes = bytes) (hzs : z.cells.size = size) (hsz : 0 < size)
    (v : Value) (n : Nat) (xs : List Value) (B : Nat) (hB : B ≤ w.heap.size) (hown : w.ownsRow B e size v n xs)
    (a : Addr) (m c : Nat) (news : List Value) (hl : news.length = m * size) (hnews : ∀ j u, news[j]? = some u → w.cell? (a.add j) = some u) (h1 : ∀ u ∈ news, u.oneCell' = true)
    (h63 : n + m ≤ maxLen) (hbytes : (n + m) * bytes ≤ 140737488355328) :
    ∃ v' w', (Builtin.append_ #[t, t] ty #[v, .slice (some a) m c]).run P w = .ok v' w' ∧ w'.ownsRow B e size v' (n + m) (xs ++ news) ∧ Turned w w' v v' := by
  obtain ⟨v', w', hr, h2, h3, h4⟩ := run_append_own (P := P) w B t ty e i z size bytes ht hi hz hsize hby hzs hsz v n xs hown a m c news hl hnews h1 h63 hbytes hB
  refine ⟨v', w', hr, h2, ⟨h3.os, h3.tape, h3.output, h3.size, fun k hk hne => h3.block k hk (fun e => hne e.symm), ?_⟩⟩
  subst hsize
  subst hby
  have hsmall : n + m ≤ 9223372036854775807 := by simp only [maxLen] at h63; omega
  rcases hown.2 with ⟨rfl, rfl⟩ | ⟨g, cap, cur, rfl, hbg, hg, hnc, hcm, hcs, htake⟩
  · by_cases hm : m = 0
    · exact .inl (by rw [h4.2 ⟨rfl, hm⟩])
    · have hr' := run_append_nil (P := P) w t ty e i z ht hi hz a m c news hl hnews (by omega) (by omega) (by have hb := hbytes; simp only [Nat.zero_add] at hb; omega)
      rw [hr'] at hr
      injection hr with e1 e2
      exact .inr (by rw [← e1]; rfl)
  · by_cases hroom : n + m ≤ cap
    · have hfit : n * i.size + news.length ≤ cur.size := by rw [hl, hcs, ← Nat.add_mul]; exact Nat.mul_le_mul_right _ hroom
      have hr' := run_append_room (P := P) w t ty e i ht hi g n cap cur hg a m c news hl hnews h1 hroom hfit
      rw [hr'] at hr
      injection hr with e1 e2
      exact .inl (by rw [← e1]; rfl)
    · have holds : ∀ j u, xs[j]? = some u → w.cell? ((⟨g, 0, none⟩ : Addr).add j) = some u := hown.cells (g := g) rfl
      have hr' := run_append_grow (P := P) w t ty e i z ht hi hz ⟨g, 0, none⟩ n cap xs hown.1 holds a m c news hl hnews (by omega) (by omega) (growslice_fits (by omega) hbytes)
      rw [hr'] at hr
      injection hr with e1 e2
      exact .inr (by rw [← e1]; rfl)

/-- 'append(s, x...)': s a row of the call's own, x whatever reads as cells. -/
theorem wp_append_arr {o : Oper} {a : Act} {K : Act → World → Prop} {Q : Exit → Act → World → Prop} (s x : Operand) (t : TypeId)
    (ho : o.op = .call { callee := .builtin .append, args := #[s, x], argTypes := #[t, t] })
    (e : TypeId) (z : Value) (size bytes : Nat) (ht : P.underlying t = some (.slice e)) (hi : (P.info? e).map (fun i => (i.zero, i.size, i.bytes)) = some (some z, size, bytes)) (hzs : z.cells.size = size) (hsz : 0 < size) (hby : bytes ≤ 64)
    {B : Nat} (hB : B ≤ w.heap.size) {A' : Nat → Prop} {v : Value} {n : Nat} {xs : List Value} (hown : Own B w e size v n xs) (hs : a.eval s = v)
    {vs : Value} {m : Nat} {news : List Value} (hsrc : Arr A' w vs m news) (hx : a.eval x = vs) (hl : news.length = m * size) (h1 : ∀ u ∈ news, u.oneCell' = true)
    (hnm : n + m ≤ 1000000)
    (h : ∀ v' w', Own B w' e size v' (n + m) (xs ++ news) → Turned w w' v v' → K (a.put o.dst v') w') : o.wp P a w K Q := by
  obtain ⟨i, hi', hz, hs1, hb⟩ := info_parts hi
  obtain ⟨ao, cap, rfl, hc, ⟨hm, hn0⟩, hcell⟩ := hsrc
  have hmb : (n + m) * bytes ≤ 140737488355328 := Nat.le_trans (Nat.mul_le_mul hnm hby) (by omega)
  cases ao with
  | none =>
    have hcap : cap = 0 := hn0 rfl
    subst hcap
    have hm0 : m = 0 := by omega
    subst hm0
    have hnil : news = [] := List.length_eq_zero_iff.1 (by simpa using hl)
    subst hnil
    have hrun := run_append_owned_none (P := P) (w := w) B t o.type e i size ht hi' v n xs hown
    unfold Oper.wp
    simp only [execOp, ho, resolve, invoke, builtin, Sem.run_bind, Sem.run_pure, Result.andThen_ok, List.map_toArray, List.map_cons, List.map_nil, hs, hx, hrun]
    refine h v w ?_ ⟨rfl, rfl, rfl, Nat.le_refl _, fun _ _ _ => rfl, .inl rfl⟩
    rw [Nat.add_zero, List.append_nil]
    exact hown
  | some ad =>
    have hnews : ∀ j u, news[j]? = some u → w.cell? (ad.add j) = some u := by
      intro j u hj
      rcases hcell with rfl | ⟨b, off, he, _, _, hcell⟩
      · simp at hj
      · injection he with he
        subst he
        have hadd : (⟨b, off, none⟩ : Addr).add j = ⟨b, off + j, none⟩ := by unfold Addr.add; split <;> simp_all
        rw [hadd]
        exact hcell j u hj
    obtain ⟨v', w', hr, h2, h3⟩ := run_append_turned (P := P) (w := w) t o.type e i z size bytes ht hi' hz hs1 hb hzs hsz v n xs B hB hown ad m cap news hl hnews h1 (by unfold maxLen; omega) hmb
    unfold Oper.wp execOp
    simp only [ho, resolve, invoke, builtin, Sem.run_bind, Sem.run_pure, Result.andThen_ok, List.map_toArray, List.map_cons, List.map_nil, hs, hx, hr]
    exact h v' w' h2 h3

theorem wpList_append_arr {ops : Array Oper} {rest : List Oper} {o : Oper} {a : Act} {Q : Exit → Act → World → Prop} (hgd : o.guard = none) (s x : Operand) (t : TypeId)
    (ho : o.op = .call { callee := .builtin .append, args := #[s, x], argTypes := #[t, t] })
    (e : TypeId) (z : Value) (size bytes : Nat) (ht : P.underlying t = some (.slice e)) (hi : (P.info? e).map (fun i => (i.zero, i.size, i.bytes)) = some (some z, size, bytes)) (hzs : z.cells.size = size) (hsz : 0 < size) (hby : bytes ≤ 64)
    {B : Nat} (hB : B ≤ w.heap.size) {A' : Nat → Prop} {v : Value} {n : Nat} {xs : List Value} (hown : Own B w e size v n xs) (hs : a.eval s = v)
    {vs : Value} {m : Nat} {news : List Value} (hsrc : Arr A' w vs m news) (hx : a.eval x = vs) (hl : news.length = m * size) (h1 : ∀ u ∈ news, u.oneCell' = true)
    (hnm : n + m ≤ 1000000)
    (h : ∀ v' w', Own B w' e size v' (n + m) (xs ++ news) → Turned w w' v v' → wpList P ops Q rest (a.put o.dst v') w') : wpList P ops Q (o :: rest) a w :=
  wpList_plain hgd fun _ hK => wp_append_arr s x t ho e z size bytes ht hi hzs hsz hby hB hown hs hsrc hx hl h1 hnm fun v' w' h2 h3 => hK _ _ (h v' w' h2 h3)

/-- The same at a step of a region that draws its order. -/
theorem step_append_arr {ops : Array Oper} {o : Oper} {a : Act} {K : Act → World → Prop} {Q : Exit → Act → World → Prop} {E : Prop} (hgd : o.guard = none) (s x : Operand) (t : TypeId)
    (ho : o.op = .call { callee := .builtin .append, args := #[s, x], argTypes := #[t, t] })
    (e : TypeId) (z : Value) (size bytes : Nat) (ht : P.underlying t = some (.slice e)) (hi : (P.info? e).map (fun i => (i.zero, i.size, i.bytes)) = some (some z, size, bytes)) (hzs : z.cells.size = size) (hsz : 0 < size) (hby : bytes ≤ 64)
    {B : Nat} (hB : B ≤ w.heap.size) {A' : Nat → Prop} {v : Value} {n : Nat} {xs : List Value} (hown : Own B w e size v n xs) (hs : a.eval s = v)
    {vs : Value} {m : Nat} {news : List Value} (hsrc : Arr A' w vs m news) (hx : a.eval x = vs) (hl : news.length = m * size) (h1 : ∀ u ∈ news, u.oneCell' = true)
    (hnm : n + m ≤ 1000000)
    (h : ∀ v' w', Own B w' e size v' (n + m) (xs ++ news) → Turned w w' v v' → K (a.put o.dst v') w') :
    if Region.wanted o (yielded ops a.tmps) = true then Oper.wp P o a w K Q else E := by
  rw [if_pos (by simp [Region.wanted, hgd])]
  exact wp_append_arr s x t ho e z size bytes ht hi hzs hsz hby hB hown hs hsrc hx hl h1 hnm h
end

theorem ints_one (l : List Int) : ∀ u ∈ I64 l, u.oneCell' = true := by
  intro u hu
  obtain ⟨x, _, rfl⟩ := List.mem_map.1 hu
  rfl

/-- A made block of ints, known whole. -/
def IntBlk (w : World) (g : Nat) (l : List Int) : Prop := w.heap[g]? = some (.cells (I64 l).toArray 3 (0, 0))

theorem IntBlk.lt {w : World} {g : Nat} {l : List Int} (h : IntBlk w g l) : g < w.heap.size := (Array.getElem?_eq_some_iff.1 h).1
theorem IntBlk.cell {w : World} {g : Nat} {l : List Int} (h : IntBlk w g l) (j : Nat) (hj : j < l.length) : w.cell? ⟨g, j, none⟩ = some (.int .i64 l[j]) := by
  unfold IntBlk at h
  rw [World.cell?, h]
  simp [I64, hj]
theorem IntBlk.free {w : World} {g : Nat} {l : List Int} (h : IntBlk w g l) (j : Nat) : w.frozen? ⟨g, j, none⟩ = false := by
  unfold IntBlk at h
  rw [World.frozen?, h]
  simp
theorem IntBlk.set {w : World} {g : Nat} {l : List Int} (h : IntBlk w g l) (j : Nat) (x : Int) : IntBlk (w.setCell ⟨g, j, none⟩ (.int .i64 x)) g (l.set j x) := by
  unfold IntBlk at *
  simp only [World.setCell, Array.getElem?_modify, h]
  simp [I64, List.map_set]
theorem IntBlk.step {w w' : World} {g : Nat} {l : List Int} (h : IntBlk w g l) (hb : w'.heap[g]? = w.heap[g]?) : IntBlk w' g l := hb.trans h
theorem IntBlk.call {w w' : World} {g : Nat} {l : List Int} (h : IntBlk w g l) (hB : Below w.heap.size w w') : IntBlk w' g l := h.step (hB.block g h.lt)
theorem IntBlk.other {w : World} {g : Nat} {l : List Int} (h : IntBlk w g l) {a : Addr} (ha : a.block ≠ g) (u : Value) : IntBlk (w.setCell a u) g l :=
  h.step (Below.heap_setCell w a u g (by omega))
theorem IntBlk.alloc {w : World} {g : Nat} {l : List Int} (h : IntBlk w g l) (o : Obj) : IntBlk (w.alloc o) g l := h.step (Below.heap_alloc w o g h.lt)
theorem IntBlk.ints {w : World} {g : Nat} {l : List Int} (h : IntBlk w g l) (hm : l.length ≤ 1000000) : Ints (fun k => k = g) w (.slice (some ⟨g, 0, none⟩) l.length l.length) l := by
  refine ⟨_, _, rfl, Nat.le_refl _, ⟨by unfold maxLen; omega, by simp⟩, .inr ⟨g, 0, rfl, rfl, h.lt, fun j u hj => ?_⟩⟩
  have hjl : j < l.length := by
    have := (List.getElem?_eq_some_iff.1 hj).1
    rwa [I64_len] at this
  rw [I64_at l j hjl] at hj
  injection hj with hj
  rw [← hj, Nat.zero_add]
  exact h.cell j hjl

/-- 'make([]int, n)': one run equation. -/
theorem run_make_ints (n : Nat) (hn : n ≤ 1000000) (w : World) :
    (Instr.makeSlice 22 (.int .i64 (n : Int)) (.int .i64 (n : Int))).run Tryz.prog w = .ok (.slice (some ⟨w.heap.size, 0, none⟩) n n) (w.alloc (.cells (I64 (List.replicate n 0)).toArray 3)) := by
  obtain ⟨i, hi, hz, hs, hb⟩ := info_parts Tryz.info3
  have hb' : (i.bytes : Int) * (n : Int) ≤ 281474976710656 := by rw [hb]; omega
  have hr := run_make (P := Tryz.prog) w 22 3 i (.int .i64 0) Tryz.underlying22 hi hz .i64 .i64 n n (by omega) (Int.le_refl _) hb' (by omega)
  simp only [Int.toNat_natCast] at hr
  have e : madeCells (Value.int .i64 0).cells (n * i.size) = (I64 (List.replicate n 0)).toArray := by
    apply Array.ext'
    rw [hs, Nat.mul_one]
    exact (toList_madeCells_one _ n).trans (by simp [I64])
  rw [e] at hr
  exact hr

theorem intBlk_made (w : World) (n : Nat) : IntBlk (w.alloc (.cells (I64 (List.replicate n 0)).toArray 3)) w.heap.size (List.replicate n 0) := by
  unfold IntBlk
  exact heap_alloc_new w _


/-- A literal's row. -/
theorem own_lit (w : World) (e : TypeId) (sz : Nat) (cs : Array Value) (n : Nat) (hs : cs.size = n * sz) (hn : n ≤ 1000000) :
    Own w.heap.size (w.alloc (.cells cs e)) e sz (.slice (some ⟨w.heap.size, 0, none⟩) n n) n cs.toList :=
  World.ownsRow_lit w cs n (Nat.le_refl _) (by unfold maxLen; omega) hs

/-- A literal of one element. -/
theorem arr_one (w : World) (e : TypeId) (u : Value) : Arr (fun k => w.heap.size ≤ k) (w.alloc (.cells #[u] e)) (.slice (some ⟨w.heap.size, 0, none⟩) 1 1) 1 [u] :=
  Own.arr (own_lit w e 1 #[u] 1 rfl (by omega))
theorem one_int (x : Int) : ∀ u ∈ [Value.int .i64 x], u.oneCell' = true := by
  intro u hu
  rw [List.mem_singleton] at hu
  subst hu
  rfl
theorem one_slice (ao : Option Addr) (n c : Nat) : ∀ u ∈ [Value.slice ao n c], u.oneCell' = true := by
  intro u hu
  rw [List.mem_singleton] at hu
  subst hu
  rfl

/-- Numbers from 0 to n - 1. -/
def iota (n : Nat) : List Int := (List.range n).map fun (i : Nat) => (i : Int)
theorem iota_len (n : Nat) : (iota n).length = n := by simp [iota]
theorem iota_succ (n : Nat) : iota (n + 1) = iota n ++ [(n : Int)] := by simp [iota, List.range_succ]
theorem iota_at (n j : Nat) (h : j < (iota n).length) : (iota n)[j] = (j : Int) := by simp [iota]
theorem iota_mem (n : Nat) (x : Int) : x ∈ iota n ↔ 0 ≤ x ∧ x < n := by
  simp only [iota, List.mem_map, List.mem_range]
  constructor
  · rintro ⟨a, ha, rfl⟩; omega
  · rintro ⟨h1, h2⟩; exact ⟨x.toNat, by omega, by omega⟩
theorem iota_nodup (n : Nat) : (iota n).Nodup := by
  unfold iota List.Nodup
  rw [List.pairwise_map]
  exact List.Pairwise.imp (fun h e => h (by omega)) List.nodup_range

theorem below_only {B : Nat} {a b c : World} {r : Nat} (h : Below B a b) (k : b.grownBy c (some r)) (hs : B ≤ b.heap.size) (hr : B ≤ r) : Below B a c :=
  h.grown k hs fun j e => by injection e with e; omega

end Go.Proofs.YtmlikgjfpmjdcaaGreatDoor

/- Contracts of mestakit's small functions on lists; conditions: the arguments read as lists. -/
namespace Go.Proofs.YtmlikgjfpmjdcaaGreatDoor
open Go.RowKit

set_option maxHeartbeats 400000 in
theorem sameInts_q {A A' : Nat → Prop} {w : World} {v1 v2 : Value} {l1 l2 : List Int} (h1 : Ints A w v1 l1) (h2 : Ints A' w v2 l2) :
    Calls Tryz.prog 21 #[v1, v2] w fun e w' => e = .returned (.bool (l1 == l2)) ∧ Qt w w' := by
  obtain ⟨a1, c1, rfl, hc1, hm1⟩ := h1.shape
  obtain ⟨a2, c2, rfl, hc2, hm2⟩ := h2.shape
  have n1 := h1.len
  have n2 := h2.len
  by_cases hl : l1.length = l2.length
  · go_enter Tryz.func21, Tryz.ntmps21
    have hd : (((l1.length : Int)) != (l2.length : Int)) = false := by simp; omega
    have HL := Lib.hid hl; clear hl
    go_wp2
    go_loopw [5] (fun v wr => ∃ k : Nat, k ≤ l1.length ∧ v = .int .i64 k ∧ (∀ j (a : j < l1.length) (b : j < l2.length), j < k → l1[j] = l2[j]) ∧ Qt w wr) (fun v _ => l1.length - (intOf v).toNat)
    case atStart => exact ⟨0, Nat.zero_le _, rfl, by omega, Qt.refl _⟩
    case round =>
      obtain ⟨k, hk, rfl, hpre, hQ⟩ := hrel
      have HP := Lib.hid hpre; clear hpre
      by_cases hlt : k < l1.length
      · have hlt2 : k < l2.length := by have := HL.out; omega
        obtain ⟨b1, o1, rfl, _, _, _⟩ := h1.addr (by omega)
        obtain ⟨b2, o2, rfl, _, _, _⟩ := h2.addr (by omega)
        have g1 := (h1.qt hQ).cell k hlt
        have g2 := (h2.qt hQ).cell k hlt2
        go_wp2
        go_quiet (fail)
        go_wp2
        · have hne : (l1[k] != l2[k]) = true := by assumption
          go_ret
          refine ⟨ret_bool ?_, hQ.drewN _⟩
          symm
          rw [beq_eq_false_iff_ne]
          rintro rfl
          simp at hne
        · have hne : (l1[k] != l2[k]) = false := by assumption
          go_roundw
          case rel =>
            refine ⟨k + 1, by omega, by go_num, fun j a b hj => ?_, hQ.drewN _⟩
            by_cases e : j = k
            · subst e; simpa using hne
            · exact HP.out j a b (by omega)
          case measure => simp [intOf]; omega
      · go_wp2
        go_ret
        refine ⟨ret_bool ?_, hQ⟩
        symm
        rw [beq_iff_eq]
        exact List.ext_getElem HL.out fun j a b => HP.out j a b (by omega)
  · go_enter Tryz.func21, Tryz.ntmps21
    have hd : (((l1.length : Int)) != (l2.length : Int)) = true := by simp; omega
    go_wp2
    go_ret
    refine ⟨ret_bool ?_, Qt.refl _⟩
    symm
    rw [beq_eq_false_iff_ne]
    rintro rfl
    exact hl rfl

set_option maxHeartbeats 400000 in
theorem sameGrids_q {A A' : Nat → Prop} {w : World} {v1 v2 : Value} {l1 l2 : List (List Int)} (h1 : Grid A w v1 l1) (h2 : Grid A' w v2 l2) :
    Calls Tryz.prog 22 #[v1, v2] w fun e w' => e = .returned (.bool (l1 == l2)) ∧ Qt w w' := by
  obtain ⟨a1, c1, rfl, hc1, hm1⟩ := h1.shape
  obtain ⟨a2, c2, rfl, hc2, hm2⟩ := h2.shape
  have n1 := h1.len
  have n2 := h2.len
  by_cases hl : l1.length = l2.length
  · go_enter Tryz.func22, Tryz.ntmps22
    have hd : (((l1.length : Int)) != (l2.length : Int)) = false := by simp; omega
    have HL := Lib.hid hl; clear hl
    go_wp2
    go_loopw [5] (fun v wr => ∃ k : Nat, k ≤ l1.length ∧ v = .int .i64 k ∧ (∀ j (a : j < l1.length) (b : j < l2.length), j < k → l1[j] = l2[j]) ∧ Qt w wr) (fun v _ => l1.length - (intOf v).toNat)
    case atStart => exact ⟨0, Nat.zero_le _, rfl, by omega, Qt.refl _⟩
    case round =>
      obtain ⟨k, hk, rfl, hpre, hQ⟩ := hrel
      have HP := Lib.hid hpre; clear hpre
      by_cases hlt : k < l1.length
      · have hlt2 : k < l2.length := by have := HL.out; omega
        obtain ⟨b1, o1, rfl, _, _⟩ := h1.addr (by omega)
        obtain ⟨b2, o2, rfl, _, _⟩ := h2.addr (by omega)
        obtain ⟨p1, d1, g1, i1⟩ := (h1.qt hQ).row k hlt
        obtain ⟨p2, d2, g2, i2⟩ := (h2.qt hQ).row k hlt2
        by_cases hne : l1[k] = l2[k]
        · have hb : (l1[k] == l2[k]) = true := by simpa using hne
          have HN := Lib.hid hne; clear hne
          go_wp2
          go_quiet ((go_at_call 21; refine qt_of (sameInts_q (i1.drewN _) (i2.drewN _))))
          go_wp2
          go_roundw
          case rel =>
            refine ⟨k + 1, by omega, by go_num, fun j a b hj => ?_, hQ.drewN _⟩
            by_cases e : j = k
            · subst e; exact HN.out
            · exact HP.out j a b (by omega)
          case measure => simp [intOf]; omega
        · have hb : (l1[k] == l2[k]) = false := by simpa using hne
          go_wp2
          go_quiet ((go_at_call 21; refine qt_of (sameInts_q (i1.drewN _) (i2.drewN _))))
          go_wp2
          go_ret
          refine ⟨ret_bool ?_, hQ.drewN _⟩
          symm
          rw [beq_eq_false_iff_ne]
          rintro rfl
          exact hne rfl
      · go_wp2
        go_ret
        refine ⟨ret_bool ?_, hQ⟩
        symm
        rw [beq_iff_eq]
        exact List.ext_getElem HL.out fun j a b => HP.out j a b (by omega)
  · go_enter Tryz.func22, Tryz.ntmps22
    have hd : (((l1.length : Int)) != (l2.length : Int)) = true := by simp; omega
    go_wp2
    go_ret
    refine ⟨ret_bool ?_, Qt.refl _⟩
    symm
    rw [beq_eq_false_iff_ne]
    rintro rfl
    exact hl rfl

end Go.Proofs.YtmlikgjfpmjdcaaGreatDoor

/- Contracts of small functions on numbers and lists: Place, Wrap, Total, Index, Contains, between, inside, count, CopyInts; conditions: the arguments read as said. -/
namespace Go.Proofs.YtmlikgjfpmjdcaaGreatDoor
open Go.RowKit

/-- The first place of a number, -1 if it has none. -/
def placeOf (l : List Int) (x : Int) : Int := match l.idxOf? x with | some i => i | none => -1

theorem idxOf?_at {l : List Int} {x : Int} {k : Nat} (hk : k < l.length) (he : l[k] = x) (hp : ∀ j (a : j < l.length), j < k → l[j] ≠ x) : l.idxOf? x = some k := by
  rw [List.idxOf?_eq_some_iff]
  exact ⟨hk, by simpa using he, fun j hj => by simpa using hp j (by omega) hj⟩
theorem idxOf?_none {l : List Int} {x : Int} (hp : ∀ j (a : j < l.length), l[j] ≠ x) : l.idxOf? x = none := by
  rw [List.idxOf?_eq_none_iff]
  intro h
  obtain ⟨j, hj, he⟩ := List.getElem_of_mem h
  exact hp j hj he

set_option maxHeartbeats 400000 in
theorem index_c {A : Nat → Prop} {w : World} {v : Value} {l : List Int} (x : Int) (h : Ints A w v l) :
    Calls Tryz.prog 46 #[v, .int .i64 x] w fun e w' => e = .returned (.int .i64 (placeOf l x)) ∧ Qt w w' := by
  obtain ⟨a1, c1, rfl, hc1, hm1⟩ := h.shape
  have n1 := h.len
  go_enter Tryz.func46, Tryz.ntmps46
  go_wp2
  go_loop [8] (fun v => ∃ k : Nat, k ≤ l.length ∧ v = .int .i64 k ∧ (∀ j (a : j < l.length), j < k → l[j] ≠ x)) (fun v => l.length - (intOf v).toNat)
  case atStart => exact ⟨0, Nat.zero_le _, rfl, by omega⟩
  case round =>
    obtain ⟨k, hk, rfl, hpre⟩ := hrel
    have HP := Lib.hid hpre; clear hpre
    by_cases hlt : k < l.length
    · obtain ⟨b1, o1, rfl, _, _, _⟩ := h.addr (by omega)
      have g1 := h.cell k hlt
      by_cases hne : l[k] = x
      · have hb : (x == l[k]) = true := by simpa using hne.symm
        have HN := Lib.hid hne; clear hne
        go_wp2
        go_ret
        refine ⟨ret_int ?_, Qt.refl _⟩
        rw [placeOf, idxOf?_at hlt HN.out HP.out]
      · have hb : (x == l[k]) = false := by simpa using fun e => hne e.symm
        have HN := Lib.hid hne; clear hne
        go_wp2
        go_round
        case rel =>
          refine ⟨k + 1, by omega, by go_num, fun j a hj => ?_⟩
          by_cases e : j = k
          · subst e; exact HN.out
          · exact HP.out j a (by omega)
        case measure => simp [intOf]; omega
    · go_wp2
      go_ret
      refine ⟨ret_int ?_, Qt.refl _⟩
      rw [placeOf, idxOf?_none fun j a => HP.out j a (by omega)]

theorem placeOf_nonneg (l : List Int) (x : Int) : 0 ≤ placeOf l x ↔ x ∈ l := by
  unfold placeOf
  cases h : l.idxOf? x with
  | none => rw [List.idxOf?_eq_none_iff] at h; simp [h]
  | some i =>
    obtain ⟨hi, he, _⟩ := List.idxOf?_eq_some_iff.1 h
    simp only [Int.natCast_nonneg, true_iff]
    rw [← he]
    exact List.getElem_mem hi

theorem contains_c {A : Nat → Prop} {w : World} {v : Value} {l : List Int} (x : Int) (h : Ints A w v l) :
    Calls Tryz.prog 77 #[v, .int .i64 x] w fun e w' => e = .returned (.bool (decide (x ∈ l))) ∧ Qt w w' := by
  go_enter Tryz.func77, Tryz.ntmps77
  go_wp2_with (go_at_call 46; refine (index_c x h).mono ?_; rintro e w' ⟨rfl, hq⟩)
  go_ret
  refine ⟨ret_bool ?_, hq⟩
  exact decide_eq_decide.2 (placeOf_nonneg l x)

/-- From low to high. -/
def btw (n lo hi : Int) : Bool := decide (lo ≤ n) && decide (n ≤ hi)

theorem between_c (n lo hi : Int) (w : World) :
    Calls Tryz.prog 57 #[.int .i64 n, .int .i64 lo, .int .i64 hi] w fun e w' => e = .returned (.bool (btw n lo hi)) ∧ w = w' := by
  by_cases h : lo ≤ n
  · go_enter Tryz.func57, Tryz.ntmps57
    go_wp2
    go_ret
    exact ⟨ret_bool (by simp [btw, h]), rfl⟩
  · go_enter Tryz.func57, Tryz.ntmps57
    go_wp2
    go_ret
    exact ⟨ret_bool (by simp [btw]; omega), rfl⟩

theorem inside_c (n lo hi : Int) (w : World) :
    Calls Tryz.prog 62 #[.int .i64 n, .int .i64 lo, .int .i64 hi] w fun e w' => e = .returned (.bool (btw n lo hi)) ∧ w = w' := by
  by_cases h : lo ≤ n
  · go_enter Tryz.func62, Tryz.ntmps62
    go_wp2
    go_ret
    exact ⟨ret_bool (by simp [btw, h]), rfl⟩
  · go_enter Tryz.func62, Tryz.ntmps62
    go_wp2
    go_ret
    exact ⟨ret_bool (by simp [btw]; omega), rfl⟩

def countE (n lo hi : Int) : Int := if n < lo then 7 else if hi < n then 6 else 0

theorem count_c (n lo hi : Int) (w : World) :
    Calls Tryz.prog 61 #[.int .i64 n, .int .i64 lo, .int .i64 hi] w fun e w' => e = .returned (.int .i64 (countE n lo hi)) ∧ w = w' := by
  go_enter Tryz.func61, Tryz.ntmps61
  go_wp2
  all_goals go_ret
  · have h : n < lo := by assumption
    exact ⟨ret_int (by rw [countE, if_pos h]), rfl⟩
  · have h : hi < n := by assumption
    have h2 : lo ≤ n := by assumption
    exact ⟨ret_int (by rw [countE, if_neg (by omega), if_pos h]), rfl⟩
  · have h : n ≤ hi := by assumption
    have h2 : lo ≤ n := by assumption
    exact ⟨ret_int (by rw [countE, if_neg (by omega), if_neg (by omega)]), rfl⟩

end Go.Proofs.YtmlikgjfpmjdcaaGreatDoor

/- Contracts of the hand that deals numbers: pull, Upto, Among, Of, Row, NewHand; conditions: the hand lies in a block of its own. -/
namespace Go.Proofs.YtmlikgjfpmjdcaaGreatDoor
open Go.RowKit

/-- A hand in block hb that has dealt k times, its numbers in blocks before it. -/
def Hnd (w : World) (hb : Nat) (k : Nat) : Prop :=
  ∃ vn l s, w.heap[hb]? = some (.cells #[vn, .int .i64 (k : Int), .int .u64 s] 61 (0, 0)) ∧ Ints (fun i => i < hb) w vn l

theorem only_refl (w : World) (b : Nat) : w.grownBy w (some b) := World.grownBy.refl w _
theorem only_trans {a b c : World} {r : Nat} (h : a.grownBy b (some r)) (k : b.grownBy c (some r)) : a.grownBy c (some r) :=
  ⟨k.os.trans h.os, k.tape.trans h.tape, k.output.trans h.output, Nat.le_trans h.size k.size, fun i hi hne => (k.block i (Nat.lt_of_lt_of_le hi h.size) hne).trans (h.block i hi hne)⟩
theorem only_below {a w : World} {r : Nat} (h : Below a.heap.size a w) : a.grownBy w (some r) := ⟨h.os, h.tape, h.output, h.size, fun i hi _ => h.block i hi⟩

theorem u64_bd (n : Int) : 0 ≤ IntKind.u64.wrap n ∧ IntKind.u64.wrap n < 18446744073709551616 := by
  have e : IntKind.u64.wrap n = n % 18446744073709551616 := by
    unfold IntKind.wrap
    simp [IntKind.bits, IntKind.signed]
  rw [e]
  exact ⟨Int.emod_nonneg _ (by decide), Int.emod_lt_of_pos _ (by decide)⟩
theorem bits_bd (op : BinOp) (x y : Int) : 0 ≤ bits op .u64 x y ∧ bits op .u64 x y < 18446744073709551616 := u64_bd _
theorem bits_shr11 (op : BinOp) (x y : Int) : 0 ≤ bits op .u64 x y / 2048 ∧ bits op .u64 x y / 2048 < 9007199254740992 := by
  have := bits_bd op x y
  omega

/-- Two stores into the hand's block. -/
theorem hnd_set {w : World} {hb k : Nat} {vn x y : Value} {l : List Int} (h : w.heap[hb]? = some (.cells #[vn, x, y] 61 (0, 0))) (hl : Ints (fun i => i < hb) w vn l) (k' s' : Int) (hk : k' = ((k + 1 : Nat) : Int)) :
    Hnd ((w.setCell ⟨hb, 1, none⟩ (.int .i64 k')).setCell ⟨hb, 2, none⟩ (.int .u64 s')) hb (k + 1) ∧
      w.grownBy ((w.setCell ⟨hb, 1, none⟩ (.int .i64 k')).setCell ⟨hb, 2, none⟩ (.int .u64 s')) (some hb) := by
  subst hk
  have hother : ∀ i, i ≠ hb → ((w.setCell ⟨hb, 1, none⟩ (.int .i64 ((k + 1 : Nat) : Int))).setCell ⟨hb, 2, none⟩ (.int .u64 s')).heap[i]? = w.heap[i]? := fun i hi =>
    (Below.heap_setCell _ _ _ _ (show i ≠ hb from hi)).trans (Below.heap_setCell _ _ _ _ (show i ≠ hb from hi))
  refine ⟨⟨vn, l, s', ?_, hl.step (by simp [World.setCell]) fun i hi _ => hother i (by omega)⟩, rfl, rfl, rfl, by simp [World.setCell], fun i _ hne => hother i (fun e => hne (by rw [e]))⟩
  simp only [World.setCell, Array.getElem?_modify, h]
  simp

theorem hnd_set_q {w : World} {hb k : Nat} {vn x y : Value} {l : List Int} (h : w.heap[hb]? = some (.cells #[vn, x, y] 61 (0, 0))) (hl : Ints (fun i => i < hb) w vn l) (n : Nat) (k' s' : Int) (hk : k' = ((k + 1 : Nat) : Int)) :
    Hnd (((w.drewN n).setCell ⟨hb, 1, none⟩ (.int .i64 k')).setCell ⟨hb, 2, none⟩ (.int .u64 s')) hb (k + 1) ∧
      w.grownBy (((w.drewN n).setCell ⟨hb, 1, none⟩ (.int .i64 k')).setCell ⟨hb, 2, none⟩ (.int .u64 s')) (some hb) := by
  obtain ⟨h1, h2⟩ := hnd_set (w := w.drewN n) h (hl.drewN n) k' s' hk
  exact ⟨h1, h2.os, h2.tape, h2.output, h2.size, h2.block⟩

theorem Hnd.drewN {w : World} {hb k : Nat} (h : Hnd w hb k) (n : Nat) : Hnd (w.drewN n) hb k := by
  obtain ⟨vn, l, s, h1, h2⟩ := h
  exact ⟨vn, l, s, h1, h2.drewN n⟩
theorem Hnd.lt {w : World} {hb k : Nat} (h : Hnd w hb k) : hb < w.heap.size := by
  obtain ⟨vn, l, s, h1, h2⟩ := h
  exact (Array.getElem?_eq_some_iff.1 h1).1

set_option maxHeartbeats 1000000 in
theorem pull_c {w : World} {hb k : Nat} (h : Hnd w hb k) (hk : k < 1000000) :
    Calls Tryz.prog 56 #[.pointer (some ⟨hb, 0, none⟩)] w fun e w' => (∃ u : Int, e = .returned (.int .u64 u) ∧ 0 ≤ u ∧ u < 9007199254740992) ∧ Hnd w' hb (k + 1) ∧ w.grownBy w' (some hb) := by
  obtain ⟨vn, l, s, hbk, hl⟩ := h
  have c0 : w.cell? ⟨hb, 0, none⟩ = some vn := by rw [World.cell?, hbk]; rfl
  have c1 : w.cell? ⟨hb, 1, none⟩ = some (.int .i64 (k : Int)) := by rw [World.cell?, hbk]; rfl
  have c2 : w.cell? ⟨hb, 2, none⟩ = some (.int .u64 s) := by rw [World.cell?, hbk]; rfl
  have f1 : w.frozen? ⟨hb, 1, none⟩ = false := by rw [World.frozen?, hbk]; rfl
  have f2 : w.frozen? ⟨hb, 2, none⟩ = false := by rw [World.frozen?, hbk]; rfl
  obtain ⟨a1, cp, rfl, hc1, hm1⟩ := hl.shape
  have n1 := hl.len
  have hk1 := Lib.hid (show ((k : Int) + 1) = ((k + 1 : Nat) : Int) by omega)
  by_cases hlt : k < l.length
  · obtain ⟨b1, o1, rfl, hAb, _, _⟩ := hl.addr (by omega)
    have g1 := hl.cell k hlt
    go_enter Tryz.func56, Tryz.ntmps56
    go_wp2
    go_quiet (fail)
    go_wp2
    go_quiet (fail)
    go_wp2
    go_ret
    exact ⟨⟨_, rfl, bits_shr11 _ _ _⟩, hnd_set_q hbk hl _ _ _ hk1.out⟩
  · go_enter Tryz.func56, Tryz.ntmps56
    go_wp2
    go_quiet (fail)
    go_wp2
    go_ret
    exact ⟨⟨_, rfl, bits_shr11 _ _ _⟩, hnd_set_q hbk hl _ _ _ hk1.out⟩

theorem Hnd.step {w w' : World} {hb k : Nat} (h : Hnd w hb k) (hs : w.heap.size ≤ w'.heap.size) (hb' : ∀ i, i ≤ hb → w'.heap[i]? = w.heap[i]?) : Hnd w' hb k := by
  obtain ⟨vn, l, s, h1, h2⟩ := h
  exact ⟨vn, l, s, (hb' hb (Nat.le_refl _)).trans h1, h2.step hs fun i hi hl => hb' i (by omega)⟩
theorem Hnd.below {w w' : World} {hb k B : Nat} (h : Hnd w hb k) (hB : Below B w w') (h1 : hb < B) : Hnd w' hb k :=
  h.step hB.size fun i hi => hB.block i (by omega)
theorem Hnd.call {w w' : World} {hb k : Nat} (h : Hnd w hb k) (hB : Below w.heap.size w w') : Hnd w' hb k := h.below hB h.lt
theorem Hnd.setCell {w : World} {hb k : Nat} (h : Hnd w hb k) {a : Addr} (ha : hb < a.block) (u : Value) : Hnd (w.setCell a u) hb k :=
  h.step (by simp [World.setCell]) fun i hi => Below.heap_setCell w a u i (by omega)
theorem Hnd.qt {w w' : World} {hb k : Nat} (h : Hnd w hb k) (q : Qt w w') : Hnd w' hb k := by
  obtain ⟨n, rfl⟩ := q
  exact h.drewN n
theorem only_setCell {a w : World} {r : Nat} (h : a.grownBy w (some r)) {p : Addr} (hp : a.heap.size ≤ p.block) (u : Value) : a.grownBy (w.setCell p u) (some r) :=
  ⟨h.os, h.tape, h.output, by simpa [World.setCell] using h.size, fun i hi hne => (Below.heap_setCell w p u i (by omega)).trans (h.block i hi hne)⟩
theorem only_then {a b c : World} {r : Nat} (h : a.grownBy b (some r)) (k : Below b.heap.size b c) : a.grownBy c (some r) := only_trans h (only_below k)
theorem Ints.only {A : Nat → Prop} {w w' : World} {hb : Nat} {v : Value} {l : List Int} (h : Ints A w v l) (ho : w.grownBy w' (some hb)) (hA : ¬ A hb) : Ints A w' v l :=
  h.step ho.size fun i hi hl => ho.block i hl (fun e => hA (by injection e with e; exact e ▸ hi))
theorem Own.only {B : Nat} {w w' : World} {hb : Nat} {e : TypeId} {sz n : Nat} {v : Value} {xs : List Value} (h : Own B w e sz v n xs) (ho : w.grownBy w' (some hb)) (hB : hb < B) : Own B w' e sz v n xs :=
  h.step fun i _ h1 hl => ho.block i hl (fun e => by injection e with e; omega)

theorem upto_c {w : World} {hb k : Nat} (h : Hnd w hb k) (hk : k < 1000000) (most : Int) (hm : most ≤ 1000000) (hm0 : -1000000 ≤ most) :
    Calls Tryz.prog 25 #[.pointer (some ⟨hb, 0, none⟩), .int .i64 most] w fun e w' => (∃ u : Int, e = .returned (.int .i64 u) ∧ 0 ≤ u ∧ u ≤ max most 0) ∧ (∃ k', k' ≤ k + 1 ∧ Hnd w' hb k') ∧ w.grownBy w' (some hb) := by
  by_cases h0 : most ≤ 0
  · go_enter Tryz.func25, Tryz.ntmps25
    go_wp2_with fail
    go_ret
    exact ⟨⟨0, rfl, by omega, by omega⟩, ⟨k, by omega, h⟩, only_refl _ _⟩
  · go_enter Tryz.func25, Tryz.ntmps25
    go_wp2_with (go_at_call 56; refine (pull_c h hk).mono ?_; rintro e w' ⟨⟨u, rfl, hu0, hu1⟩, hh, ho⟩)
    go_ret
    have h1 := Int.emod_nonneg u (show most + 1 ≠ 0 by omega)
    have h2 := Int.emod_lt_of_pos u (show 0 < most + 1 by omega)
    refine ⟨⟨wrap64 (u % (most + 1)), rfl, ?_⟩, ⟨k + 1, by omega, hh⟩, ho⟩
    rw [IntWalk.wrap64_in _ ⟨by omega, by omega⟩]
    omega

theorem among_c {w : World} {hb k : Nat} (h : Hnd w hb k) (hk : k < 1000000) (least most : Int) (hm : most ≤ 500000) (hm0 : -500000 ≤ most) (hl : least ≤ 500000) (hl0 : -500000 ≤ least) :
    Calls Tryz.prog 23 #[.pointer (some ⟨hb, 0, none⟩), .int .i64 least, .int .i64 most] w fun e w' => (∃ u : Int, e = .returned (.int .i64 u) ∧ least ≤ u ∧ u ≤ max most least) ∧ (∃ k', k' ≤ k + 1 ∧ Hnd w' hb k') ∧ w.grownBy w' (some hb) := by
  go_enter Tryz.func23, Tryz.ntmps23
  go_wp2_with (go_at_call 25; refine (upto_c h hk (most - least) (by omega) (by omega)).mono ?_; rintro e w' ⟨⟨u, rfl, hu0, hu1⟩, hh, ho⟩)
  go_ret
  refine ⟨⟨wrap64 (least + u), ?_, ?_⟩, hh, ho⟩
  · first | rfl | rw [IntWalk.wrap64_in _ ⟨by omega, by omega⟩]; rfl
  · rw [IntWalk.wrap64_in _ ⟨by omega, by omega⟩]
    omega

theorem of_c {A' : Nat → Prop} {w : World} {hb k : Nat} (h : Hnd w hb k) (hk : k < 1000000) (x : Int) {v : Value} {l : List Int} (hl : Ints A' w v l) (hA : ¬ A' hb) (hll : l.length ≤ 1000) :
    Calls Tryz.prog 24 #[.pointer (some ⟨hb, 0, none⟩), .int .i64 x, v] w fun e w' => (∃ u : Int, e = .returned (.int .i64 u) ∧ (u = x ∨ u ∈ l)) ∧ (∃ k', k' ≤ k + 1 ∧ Hnd w' hb k') ∧ w.grownBy w' (some hb) := by
  obtain ⟨a1, cp, rfl, hc1, hm1⟩ := hl.shape
  have n1 := hl.len
  go_enter Tryz.func24, Tryz.ntmps24
  go_wp2_with fail
  refine (upto_c h hk l.length (by omega) (by omega)).mono ?_
  rintro e w' ⟨⟨u, rfl, hu0, hu1⟩, hh, ho⟩
  by_cases hp : 0 < u
  · obtain ⟨b1, o1, rfl, _, _, _⟩ := hl.addr (by omega)
    obtain ⟨j, hj⟩ : ∃ j : Nat, u = ((j + 1 : Nat) : Int) := ⟨(u - 1).toNat, by omega⟩
    have g1 := (hl.only ho hA).cell j (by omega)
    have hjl : j < l.length := by omega
    have ej : u - 1 = (j : Int) := by omega
    have ej2 : (u - 1).toNat = j := by omega
    subst hj
    go_wp2
    go_ret
    exact ⟨⟨_, rfl, .inr (List.getElem_mem hjl)⟩, hh, ho⟩
  · go_wp2
    go_ret
    exact ⟨⟨_, rfl, .inl rfl⟩, hh, ho⟩

end Go.Proofs.YtmlikgjfpmjdcaaGreatDoor

/- Contracts of NewHand and Row; conditions: as in Hand. -/
namespace Go.Proofs.YtmlikgjfpmjdcaaGreatDoor
open Go.RowKit

theorem newHand_c {A : Nat → Prop} {w : World} {v : Value} {l : List Int} (h : Ints A w v l) :
    Calls Tryz.prog 8 #[v] w fun e w' => e = .returned (.pointer (some ⟨w.heap.size, 0, none⟩)) ∧ Hnd w' w.heap.size 0 ∧ Below w.heap.size w w' := by
  obtain ⟨a1, c1, rfl, hc1, hm1⟩ := h.shape
  go_enter Tryz.func8, Tryz.ntmps8
  go_wp2
  go_ret
  refine ⟨rfl, ⟨_, l, 88172645463325252, heap_alloc_new w _, ?_⟩, (Below.refl _ _).alloc (Nat.le_refl _) _⟩
  exact (h.wide fun k hk hl => hl).call ((Below.refl _ _).alloc (Nat.le_refl _) _)

/-- Numbers from 0 to n - 1 in some order. -/
def PermOf (n : Nat) (l : List Int) : Prop := l.Perm (iota n)
theorem PermOf.len {n : Nat} {l : List Int} (h : PermOf n l) : l.length = n := by rw [List.Perm.length_eq h, iota_len]
theorem PermOf.mem {n : Nat} {l : List Int} (h : PermOf n l) (x : Int) : x ∈ l ↔ 0 ≤ x ∧ x < n := by rw [List.Perm.mem_iff h, iota_mem]
theorem PermOf.nodup {n : Nat} {l : List Int} (h : PermOf n l) : l.Nodup := (List.Perm.nodup_iff h).2 (iota_nodup n)

/-- An exchange of two places. -/
theorem swap_perm (l : List Int) (i j : Nat) (hi : i < l.length) (hj : j < l.length) : ((l.set i l[j]).set j l[i]).Perm l := by
  apply List.perm_iff_count.2
  intro a
  by_cases e : i = j
  · subst e; simp
  · rw [List.count_set (by simpa using hj), List.count_set hi]
    rw [List.getElem_set_ne e]
    have hp : 0 < l.count l[j] := List.count_pos_iff.2 (List.getElem_mem hj)
    have hq : 0 < l.count l[i] := List.count_pos_iff.2 (List.getElem_mem hi)
    simp only [beq_iff_eq]
    by_cases e1 : l[i] = a <;> by_cases e2 : l[j] = a <;> simp [e1, e2] <;> simp_all <;> omega

/-- An owned row of ints, its shape and cells. -/
theorem own_shape {B : Nat} {w : World} {v : Value} {n : Nat} {l : List Int} (h : Own B w 3 1 v n (I64 l)) (hn : 0 < n) : ∃ g cap, v = .slice (some ⟨g, 0, none⟩) n cap ∧ B ≤ g ∧ g < w.heap.size := by
  rcases h.2 with ⟨rfl, h0⟩ | ⟨g, cap, cur, rfl, hb, hg, _⟩
  · omega
  · exact ⟨g, cap, rfl, hb, (Array.getElem?_eq_some_iff.1 hg).1⟩
theorem own_len {B : Nat} {w : World} {v : Value} {n : Nat} {l : List Int} (h : Own B w 3 1 v n (I64 l)) : l.length = n := by
  have := h.1
  rw [I64_len] at this
  omega
theorem own_cell {B : Nat} {w : World} {g n cap : Nat} {l : List Int} (h : Own B w 3 1 (.slice (some ⟨g, 0, none⟩) n cap) n (I64 l)) (j : Nat) (hj : j < l.length) : w.cell? ⟨g, j, none⟩ = some (.int .i64 l[j]) := by
  have e := own_len h
  rw [World.ownsRow.cellAt h j (by omega), I64_at l j hj]
theorem own_free {B : Nat} {w : World} {g n cap : Nat} {xs : List Value} {e : TypeId} {sz : Nat} (h : Own B w e sz (.slice (some ⟨g, 0, none⟩) n cap) n xs) (j : Nat) : w.frozen? ⟨g, j, none⟩ = false := World.ownsRow.frozenAt h j
theorem own_set {B : Nat} {w : World} {g n cap : Nat} {l : List Int} (h : Own B w 3 1 (.slice (some ⟨g, 0, none⟩) n cap) n (I64 l)) (j : Nat) (x : Int) : Own B (w.setCell ⟨g, j, none⟩ (.int .i64 x)) 3 1 (.slice (some ⟨g, 0, none⟩) n cap) n (I64 (l.set j x)) := by
  have := (World.ownsRow.stored h j (.int .i64 x)).1
  rw [I64, List.map_set]
  exact this

set_option maxHeartbeats 1000000 in
theorem row_c {w : World} {hb k : Nat} (h : Hnd w hb k) (n : Nat) (hn : n ≤ 100) (hk : k < 900000) :
    Calls Tryz.prog 26 #[.pointer (some ⟨hb, 0, none⟩), .int .i64 n] w fun e w' => (∃ v, e = .returned v ∧ ∃ l, Ints (fun k => w.heap.size ≤ k) w' v l ∧ PermOf n l) ∧ (∃ k', k' ≤ k + n ∧ Hnd w' hb k') ∧ w.grownBy w' (some hb) := by
  have hlt := h.lt
  go_enter Tryz.func26, Tryz.ntmps26
  go_wp2
  go_loopw [5, 6] (fun v i wr => ∃ j : Nat, j ≤ n ∧ i = .int .i64 j ∧ Own w.heap.size wr 3 1 v j (I64 (iota j)) ∧ Below w.heap.size w wr) (fun _ i _ => n - (intOf i).toNat)
  case atStart => exact ⟨0, Nat.zero_le _, rfl, Own.nil, Below.refl _ _⟩
  case round =>
    obtain ⟨j, hj, rfl, ho, hB⟩ := hrel
    have hsz := hB.size
    by_cases hlt2 : j < n
    · have ho' := Own.alloc ho (.cells #[.int .i64 (j : Int)] 3)
      have ha := arr_one wr 3 (.int .i64 (j : Int))
      go_wp2_with (at_builtin; refine wpList_append_arr rfl _ _ 22 rfl 3 (.int .i64 0) 1 8 Tryz.underlying22 Tryz.info3 rfl (by decide) (by decide) (by simp; omega) ho' rfl ha rfl rfl (one_int _) (by omega) ?_; intro v' w' hown hT)
      go_roundw
      case rel =>
        refine ⟨j + 1, by omega, by go_num, ?_, hT.below ho' (hB.alloc (by omega) _) (by simp; omega)⟩
        rw [iota_succ, I64_append]
        exact hown
      case measure => simp [intOf]; omega
    · obtain rfl : j = n := by omega
      have hH := h.call hB
      have hG := only_below (r := hb) hB
      go_wp2
      go_loopw [7] (fun i wr => ∃ q : Int, i = .int .i64 q ∧ -1 ≤ q ∧ q < j ∧ ∃ l, PermOf j l ∧ Own w.heap.size wr 3 1 u5 j (I64 l) ∧ (∃ k' : Nat, (k' : Int) ≤ k + (j - 1 - q) ∧ Hnd wr hb k') ∧ w.grownBy wr (some hb)) (fun i _ => (intOf i).toNat)
      case atStart => exact ⟨(j : Int) - 1, rfl, by omega, by omega, iota j, List.Perm.refl _, ho, ⟨k, by omega, hH⟩, hG⟩
      case round =>
        obtain ⟨q, rfl, hq1, hq2, l, hp, hO, ⟨k', hk', hH'⟩, hG'⟩ := hrel
        by_cases hq : 0 < q
        · obtain ⟨i, rfl⟩ : ∃ i : Nat, q = ((i + 1 : Nat) : Int) := ⟨(q - 1).toNat, by omega⟩
          obtain ⟨g, cap, rfl, hg1, hg2⟩ := own_shape hO (by omega)
          have hgs := hG'.size
          have hll := hp.len
          go_wp2_with fail
          refine (upto_c hH' (by omega) _ (by omega) (by omega)).mono ?_
          rintro e w1 ⟨⟨u, rfl, hu0, hu1⟩, ⟨k2, hk2, hH2⟩, hG2⟩
          have hO1 := Own.only hO hG2 hlt
          obtain ⟨m, rfl⟩ : ∃ m : Nat, u = (m : Int) := ⟨u.toNat, by omega⟩
          have c1 := own_cell hO1 (i + 1) (by omega)
          have c2 := own_cell hO1 m (by omega)
          have f1 := own_free hO1 (i + 1)
          have hO2 := own_set hO1 (i + 1) (l[m]'(by omega))
          have f2 := own_free hO2 m
          have hO3 := own_set hO2 m (l[i + 1]'(by omega))
          have hs1 := hG2.size
          clear hO hO1 hO2
          have c3 := cell?_setCell_some (p := ⟨g, i + 1, none⟩) (x := .int .i64 (l[m]'(by omega))) c2
          obtain ⟨x3, c3⟩ := c3
          have L1 : i + 1 < l.length := by omega
          have L2 : m < l.length := by omega
          go_wp2
          go_roundw
          case rel =>
            refine ⟨(i : Int), by first | rfl | go_num, by omega, by omega, (l.set (i + 1) l[m]).set m l[i + 1], (swap_perm l (i + 1) m L1 L2).trans hp, hO3, ⟨k2, by omega, ?_⟩, ?_⟩
            · exact (hH2.setCell (by show hb < g; omega) _).setCell (by show hb < g; omega) _
            · exact only_setCell (only_setCell (only_trans hG' hG2) (by show w.heap.size ≤ g; omega) _) (by show w.heap.size ≤ g; omega) _
          case measure => simp [intOf]
        · go_wp2
          go_ret
          exact ⟨⟨_, rfl, l, Own.ints hO, hp⟩, ⟨k', by omega, hH'⟩, hG'⟩

end Go.Proofs.YtmlikgjfpmjdcaaGreatDoor

/- Villages and commons in memory; conditions: none. -/
namespace Go.Proofs.YtmlikgjfpmjdcaaGreatDoor
open Go.RowKit

structure Vil where
  hearths : Int
  herd : Int
  likes : List Int
deriving DecidableEq

structure Com where
  mountains : List Int
  villages : List Vil
deriving DecidableEq

/-- The cells of villages, whose lists are the values ls. -/
def vcells : List Vil → List Value → List Value
  | x :: vs, v :: ls => .int .i64 x.hearths :: .int .i64 x.herd :: v :: vcells vs ls
  | _, _ => []

theorem vcells_len : ∀ (vs : List Vil) (ls : List Value), ls.length = vs.length → (vcells vs ls).length = vs.length * 3
  | [], [], _ => rfl
  | [], _ :: _, h => by simp at h
  | _ :: _, [], h => by simp at h
  | x :: vs, v :: ls, h => by
    have := vcells_len vs ls (by simpa using h)
    simp only [vcells, List.length_cons, this]
    omega

theorem vcells_at : ∀ (vs : List Vil) (ls : List Value) (h : ls.length = vs.length) (k : Nat) (hk : k < vs.length),
    (vcells vs ls)[k * 3]? = some (.int .i64 vs[k].hearths) ∧ (vcells vs ls)[k * 3 + 1]? = some (.int .i64 vs[k].herd) ∧ (vcells vs ls)[k * 3 + 2]? = some (ls[k]'(by omega))
  | [], _, _, k, hk => by simp at hk
  | _ :: _, [], h, _, _ => by simp at h
  | x :: vs, v :: ls, h, 0, _ => by simp [vcells]
  | x :: vs, v :: ls, h, k + 1, hk => by
    obtain ⟨h1, h2, h3⟩ := vcells_at vs ls (by simpa using h) k (by simpa using hk)
    have e : (k + 1) * 3 = k * 3 + 3 := by omega
    refine ⟨?_, ?_, ?_⟩
    · rw [e]; simpa [vcells] using h1
    · rw [show (k + 1) * 3 + 1 = (k * 3 + 1) + 3 by omega]; simpa [vcells] using h2
    · rw [show (k + 1) * 3 + 2 = (k * 3 + 2) + 3 by omega]; simpa [vcells] using h3

theorem vcells_append : ∀ (vs : List Vil) (ls : List Value) (_ : ls.length = vs.length) (x : Vil) (v : Value),
    vcells (vs ++ [x]) (ls ++ [v]) = vcells vs ls ++ [.int .i64 x.hearths, .int .i64 x.herd, v]
  | [], [], _, _, _ => rfl
  | [], _ :: _, h, _, _ => by simp at h
  | _ :: _, [], h, _, _ => by simp at h
  | y :: vs, u :: ls, h, x, v => by
    simp only [List.cons_append, vcells]
    rw [vcells_append vs ls (by simpa using h) x v]

theorem vcells_set : ∀ (vs : List Vil) (ls : List Value) (_ : ls.length = vs.length) (k : Nat) (_ : k < vs.length) (v : Value),
    (vcells vs ls).set (k * 3 + 2) v = vcells vs (ls.set k v)
  | [], _, _, k, hk, _ => by simp at hk
  | _ :: _, [], h, _, _, _ => by simp at h
  | x :: vs, u :: ls, h, 0, _, v => by simp [vcells]
  | x :: vs, u :: ls, h, k + 1, hk, v => by
    rw [show (k + 1) * 3 + 2 = (k * 3 + 2) + 3 by omega]
    simp only [vcells, List.set_cons_succ]
    rw [vcells_set vs ls (by simpa using h) k (by simpa using hk) v]

/-- A slice of villages. -/
def Vils (A : Nat → Prop) (w : World) (v : Value) (vs : List Vil) : Prop :=
  ∃ ls : List Value, ls.length = vs.length ∧ Arr A w v vs.length (vcells vs ls) ∧ ∀ i (a : i < ls.length) (b : i < vs.length), Ints A w ls[i] vs[i].likes

theorem Vils.step {A : Nat → Prop} {w w' : World} {v : Value} {l : List Vil} (h : Vils A w v l)
    (hs : w.heap.size ≤ w'.heap.size) (hb : ∀ k, A k → k < w.heap.size → w'.heap[k]? = w.heap[k]?) : Vils A w' v l := by
  obtain ⟨vs, h1, h2, h3⟩ := h
  exact ⟨vs, h1, h2.step hs hb, fun i a b => (h3 i a b).step hs hb⟩
theorem Vils.wide {A A' : Nat → Prop} {w : World} {v : Value} {l : List Vil} (h : Vils A w v l) (hA : ∀ k, A k → k < w.heap.size → A' k) : Vils A' w v l := by
  obtain ⟨vs, h1, h2, h3⟩ := h
  exact ⟨vs, h1, h2.wide hA, fun i a b => (h3 i a b).wide hA⟩
theorem Vils.below {A : Nat → Prop} {B : Nat} {w w' : World} {v : Value} {l : List Vil} (h : Vils A w v l) (hB : Below B w w') (hA : ∀ k, A k → k < w.heap.size → k < B) : Vils A w' v l :=
  h.step hB.size fun k hk hl => hB.block k (hA k hk hl)
theorem Vils.call {A : Nat → Prop} {w w' : World} {v : Value} {l : List Vil} (h : Vils A w v l) (hB : Below w.heap.size w w') : Vils A w' v l :=
  h.below hB fun _ _ hl => hl
theorem Vils.drewN {A : Nat → Prop} {w : World} {v : Value} {l : List Vil} (h : Vils A w v l) (n : Nat) : Vils A (w.drewN n) v l :=
  h.step (Nat.le_refl _) fun _ _ _ => rfl
theorem Vils.qt {A : Nat → Prop} {w w' : World} {v : Value} {l : List Vil} (h : Vils A w v l) (q : Qt w w') : Vils A w' v l := by
  obtain ⟨n, rfl⟩ := q
  exact h.drewN n
theorem Vils.only {A : Nat → Prop} {w w' : World} {hb : Nat} {v : Value} {l : List Vil} (h : Vils A w v l) (ho : w.grownBy w' (some hb)) (hA : ¬ A hb) : Vils A w' v l :=
  h.step ho.size fun i hi hl => ho.block i hl (fun e => hA (by injection e with e; exact e ▸ hi))
theorem Vils.shape {A : Nat → Prop} {w : World} {v : Value} {l : List Vil} (h : Vils A w v l) : ∃ ao cap, v = .slice ao l.length cap ∧ l.length ≤ cap ∧ cap ≤ maxLen := by
  obtain ⟨vs, _, ⟨ao, cap, hv, h1, ⟨h2, _⟩, _⟩, _⟩ := h
  exact ⟨ao, cap, hv, h1, h2⟩
theorem Vils.len {A : Nat → Prop} {w : World} {v : Value} {l : List Vil} (h : Vils A w v l) : l.length ≤ 9223372036854775807 := by
  obtain ⟨ao, cap, hv, h1, h2⟩ := h.shape
  unfold maxLen at h2; omega
theorem Vils.addr {A : Nat → Prop} {w : World} {ao : Option Addr} {n cap : Nat} {l : List Vil} (h : Vils A w (.slice ao n cap) l) (hx : 0 < l.length) :
    ∃ b off, ao = some ⟨b, off, none⟩ ∧ A b ∧ b < w.heap.size := by
  obtain ⟨vs, h0, ⟨ao', cap', hv, h1, h2, h3⟩, _⟩ := h
  injection hv with e1 e2 e3
  subst e1
  rcases h3 with h3 | ⟨b, off, he, hA, hl, hc⟩
  · have := vcells_len l vs h0
    rw [h3] at this; simp at this; omega
  · exact ⟨b, off, he, hA, hl⟩
/-- A village, as the walk loads it. -/
theorem Vils.at {A : Nat → Prop} {w : World} {b off n cap : Nat} {l : List Vil} (h : Vils A w (.slice (some ⟨b, off, none⟩) n cap) l) (j : Nat) (hj : j < l.length) :
    ∃ ao c, w.cell? ⟨b, off + j * 3, none⟩ = some (.int .i64 l[j].hearths) ∧ w.cell? ⟨b, off + j * 3 + 1, none⟩ = some (.int .i64 l[j].herd) ∧
      w.cell? ⟨b, off + j * 3 + 2, none⟩ = some (.slice ao l[j].likes.length c) ∧ Ints A w (.slice ao l[j].likes.length c) l[j].likes := by
  obtain ⟨vs, h0, ⟨ao', cap', hv, h1, h2, h3⟩, h4⟩ := h
  injection hv with e1 e2 e3
  subst e1
  rcases h3 with h3 | ⟨b', off', he, hA, hl, hc⟩
  · have := vcells_len l vs h0
    rw [h3] at this; simp at this; omega
  · injection he with he
    injection he with e1 e2
    subst e1; subst e2
    have h5 := h4 j (by omega) hj
    obtain ⟨ao, c, he, _⟩ := h5.shape
    rw [he] at h5
    obtain ⟨g1, g2, g3⟩ := vcells_at l vs h0 j hj
    exact ⟨ao, c, hc _ _ g1, hc _ _ g2, (hc _ _ g3).trans (by rw [he]), h5⟩

/-- Commons as a value. -/
def Cm (A : Nat → Prop) (w : World) (vm vv : Value) (c : Com) : Prop := Ints A w vm c.mountains ∧ Vils A w vv c.villages

theorem Cm.step {A : Nat → Prop} {w w' : World} {vm vv : Value} {c : Com} (h : Cm A w vm vv c)
    (hs : w.heap.size ≤ w'.heap.size) (hb : ∀ k, A k → k < w.heap.size → w'.heap[k]? = w.heap[k]?) : Cm A w' vm vv c := ⟨h.1.step hs hb, h.2.step hs hb⟩
theorem Cm.wide {A A' : Nat → Prop} {w : World} {vm vv : Value} {c : Com} (h : Cm A w vm vv c) (hA : ∀ k, A k → k < w.heap.size → A' k) : Cm A' w vm vv c := ⟨h.1.wide hA, h.2.wide hA⟩
theorem Cm.below {A : Nat → Prop} {B : Nat} {w w' : World} {vm vv : Value} {c : Com} (h : Cm A w vm vv c) (hB : Below B w w') (hA : ∀ k, A k → k < w.heap.size → k < B) : Cm A w' vm vv c := ⟨h.1.below hB hA, h.2.below hB hA⟩
theorem Cm.call {A : Nat → Prop} {w w' : World} {vm vv : Value} {c : Com} (h : Cm A w vm vv c) (hB : Below w.heap.size w w') : Cm A w' vm vv c := ⟨h.1.call hB, h.2.call hB⟩
theorem Cm.qt {A : Nat → Prop} {w w' : World} {vm vv : Value} {c : Com} (h : Cm A w vm vv c) (q : Qt w w') : Cm A w' vm vv c := ⟨h.1.qt q, h.2.qt q⟩
theorem Cm.only {A : Nat → Prop} {w w' : World} {hb : Nat} {vm vv : Value} {c : Com} (h : Cm A w vm vv c) (ho : w.grownBy w' (some hb)) (hA : ¬ A hb) : Cm A w' vm vv c := ⟨h.1.only ho hA, h.2.only ho hA⟩

/-- An owned row of villages. -/
theorem Own.vils {B : Nat} {w : World} {v : Value} {vs : List Vil} {ls : List Value} (h : Own B w 43 3 v vs.length (vcells vs ls)) (hl : ls.length = vs.length)
    (hi : ∀ i (a : i < ls.length) (b : i < vs.length), Ints (fun k => B ≤ k) w ls[i] vs[i].likes) : Vils (fun k => B ≤ k) w v vs := ⟨ls, hl, Own.arr h, hi⟩

theorem Tryz.info43 : (Tryz.prog.info? 43).map (fun i => (i.zero, i.size, i.bytes)) = some (some (.agg #[.int .i64 0, .int .i64 0, .slice none 0 0]), 3, 40) := by kernel_rfl
theorem Tryz.info22 : (Tryz.prog.info? 22).map (fun i => (i.zero, i.size, i.bytes)) = some (some (.slice none 0 0), 1, 24) := by kernel_rfl

/-- Valid commons of at most so many mountains. -/
structure Com.Ok (c : Com) (most : Nat) : Prop where
  n1 : 1 ≤ c.mountains.length
  n2 : c.mountains.length ≤ most
  vl : c.villages.length = c.mountains.length
  bears : ∀ x ∈ c.mountains, 0 ≤ x ∧ x ≤ 99
  vil : ∀ v ∈ c.villages, 1 ≤ v.hearths ∧ v.hearths ≤ 50 ∧ 0 ≤ v.herd ∧ v.herd ≤ 60 ∧ PermOf c.mountains.length v.likes

end Go.Proofs.YtmlikgjfpmjdcaaGreatDoor

/- A region that draws its order, walked in one order of one's choice: reads and arithmetic yield in every world of a class, what acts comes alone; conditions: a Bool of the region, for the kernel. -/
namespace Go.Proofs.YtmlikgjfpmjdcaaGreatDoor

section
variable {P : Program} {ops : Array Oper} {Q : Exit → Act → World → Prop}

/-- The class that holds: till operation z has come up, and behind it. -/
def Cls (S T : World → Prop) : Bool → World → Prop
  | false => S
  | true => T

/-- Whatever comes up next. -/
def wpAnyZ (P : Program) (ops : Array Oper) (Q : Exit → Act → World → Prop) (C : Bool → World → Prop) (z : Nat) : Nat → Array Bool → Act → World → Prop
  | 0, listed, a, w => Region.ready .any ops listed = [] ∧ Q .normal a w
  | fuel + 1, listed, a, w =>
    (Region.ready .any ops listed = [] → Q .normal a w) ∧
    ∀ i ∈ Region.ready .any ops listed, wpOp P ops Q i (fun a' w' => C ((listed.setIfInBounds i true).getD z false) w' ∧ wpAnyZ P ops Q C z fuel (listed.setIfInBounds i true) a' w') a w

variable {C : Bool → World → Prop}

theorem any_of_z {z : Nat} : ∀ (fuel : Nat) (listed : Array Bool) (a : Act) (w : World), wpAnyZ P ops Q C z fuel listed a w → wpAny P .any ops Q fuel listed a w
  | 0, _, _, _, h => h
  | fuel + 1, _, _, _, h => ⟨h.1, fun i hi => wpOp_mono (fun a' w' h' => any_of_z fuel _ a' w' h'.2) (h.2 i hi)⟩

theorem getD_set_keep {listed : Array Bool} {i z : Nat} (h : listed.getD z false = true ∨ i ≠ z) : (listed.setIfInBounds i true).getD z false = listed.getD z false := by
  by_cases e : i = z
  · subst e
    rcases h with h | h
    · rw [h]; exact getD_set_true h
    · exact absurd rfl h
  · exact getD_set_ne false e

/-- What yields in every world of the class, and for which z waits or has come up, may be taken first. -/
theorem z_first {z i : Nat} {oi : Oper} {v : Value} (hi : ops[i]? = some oi) (hsel : ∀ (j : Nat) (o : Oper) cs b, ops[j]? = some o → o.op ≠ .select cs b)
    (hQ : ∀ c a w, Q (.panic c) (a.put oi.dst v) w → Q (.panic c) a w) (hzi : z ≠ i) :
    ∀ (fuel : Nat) (listed : Array Bool) (a : Act) (w : World), (listed.getD z false = true ∨ ∀ oz, ops[z]? = some oz → ∃ e ∈ oz.after, Region.binds .any e = true ∧ e.on = i) →
      (∀ j oj, ops[j]? = some oj → j ≠ i → listed.getD j true = false → (∀ e ∈ oj.after, Region.binds .any e = true → e.on ≠ i) → oi.apart ops oj = true) →
      i ∈ Region.ready .any ops listed → YieldsIf P ops (C (listed.getD z false)) oi v a → C (listed.getD z false) w →
      wpAnyZ P ops Q C z fuel (listed.setIfInBounds i true) (a.put oi.dst v) w → wpAnyZ P ops Q C z (fuel + 1) listed a w := by
  intro fuel
  induction fuel with
  | zero =>
    intro listed a w hzw _ hr hy hS H
    have hk : (listed.setIfInBounds i true).getD z false = listed.getD z false := getD_set_keep (.inr (Ne.symm hzi))
    refine ⟨fun h => (by rw [h] at hr; cases hr), fun j hj => ?_⟩
    by_cases hji : j = i
    · subst hji; exact hy.wpOp hi hS ⟨by rw [hk]; exact hS, H⟩
    · have h1 := ready_mono hj hji
      rw [H.1] at h1
      cases h1
  | succ fuel ih =>
    intro listed a w hzw hfree hr hy hS H
    have hk : (listed.setIfInBounds i true).getD z false = listed.getD z false := getD_set_keep (.inr (Ne.symm hzi))
    refine ⟨fun h => (by rw [h] at hr; cases hr), fun j hj => ?_⟩
    by_cases hji : j = i
    · subst hji; exact hy.wpOp hi hS ⟨by rw [hk]; exact hS, H⟩
    · have h1 := H.2 j (ready_mono hj hji)
      obtain ⟨hjun, oj, hoj, hall⟩ := mem_ready.1 hj
      have hnot : ∀ e ∈ oj.after, Region.binds .any e = true → e.on ≠ i := fun e he hb heq => by
        have h2 := hall e he hb
        have h0 := (mem_ready.1 hr).1
        rw [heq] at h2
        rcases Nat.lt_or_ge i listed.size with h' | h'
        · simp [h'] at h0 h2; rw [h0] at h2; cases h2
        · simp [Array.getElem?_eq_none h'] at h2
      have hjz : listed.getD z false = true ∨ j ≠ z := hzw.imp id fun hw e => by
        subst e
        obtain ⟨x, hx, hb, hon⟩ := hw oj hoj
        exact hnot x hx hb hon
      have hkj : (listed.setIfInBounds j true).getD z false = listed.getD z false := getD_set_keep hjz
      have hkij : ((listed.setIfInBounds i true).setIfInBounds j true).getD z false = listed.getD z false := by
        rw [getD_set_keep (by rw [hk]; exact hjz), hk]
      have h2 := wpOp_putIf hoj (hfree j oj hoj hji hjun hnot) (fun cs b => hsel i oi cs b hi) (fun cs b => hsel j oj cs b hoj) hQ hy h1
      have hfree' : ∀ k ok, ops[k]? = some ok → k ≠ i → (listed.setIfInBounds j true).getD k true = false →
          (∀ e ∈ ok.after, Region.binds .any e = true → e.on ≠ i) → oi.apart ops ok = true := fun k ok hk hki hun hno => by
        refine hfree k ok hk hki ?_ hno
        by_cases hjk : j = k
        · subst hjk; exact hjun
        · rw [getD_set_ne true hjk] at hun; exact hun
      refine wpOp_mono (fun a' w' h3 => ?_) h2
      have hS' : C (listed.getD z false) w' := by have := h3.2.1; rw [hkij] at this; exact this
      refine ⟨by rw [hkj]; exact hS', ih (listed.setIfInBounds j true) a' w' (by rw [hkj]; exact hzw) hfree' (ready_mono hr (Ne.symm hji)) (by rw [hkj]; exact h3.1) (by rw [hkj]; exact hS') ?_⟩
      rw [Array.setIfInBounds_comm _ _ hji]
      exact h3.2.2

theorem either {b : Bool} {w : World} (h : C b w) : C false w ∨ C true w := by
  cases b
  · exact .inl h
  · exact .inr h
/-- What yields in every world of both classes may be taken first. -/
theorem z_pure {z i : Nat} {oi : Oper} {v : Value} (hi : ops[i]? = some oi) (hsel : ∀ (j : Nat) (o : Oper) cs b, ops[j]? = some o → o.op ≠ .select cs b)
    (hQ : ∀ c a w, Q (.panic c) (a.put oi.dst v) w → Q (.panic c) a w) (hzi : z ≠ i) :
    ∀ (fuel : Nat) (listed : Array Bool) (a : Act) (w : World),
      (∀ j oj, ops[j]? = some oj → j ≠ i → listed.getD j true = false → (∀ e ∈ oj.after, Region.binds .any e = true → e.on ≠ i) → oi.apart ops oj = true) →
      i ∈ Region.ready .any ops listed → YieldsIf P ops (fun w => C false w ∨ C true w) oi v a → C (listed.getD z false) w →
      wpAnyZ P ops Q C z fuel (listed.setIfInBounds i true) (a.put oi.dst v) w → wpAnyZ P ops Q C z (fuel + 1) listed a w := by
  intro fuel
  induction fuel with
  | zero =>
    intro listed a w _ hr hy hS H
    have hk : (listed.setIfInBounds i true).getD z false = listed.getD z false := getD_set_keep (.inr (Ne.symm hzi))
    refine ⟨fun h => (by rw [h] at hr; cases hr), fun j hj => ?_⟩
    by_cases hji : j = i
    · subst hji; exact hy.wpOp hi (either hS) ⟨by rw [hk]; exact hS, H⟩
    · have h1 := ready_mono hj hji
      rw [H.1] at h1
      cases h1
  | succ fuel ih =>
    intro listed a w hfree hr hy hS H
    have hk : (listed.setIfInBounds i true).getD z false = listed.getD z false := getD_set_keep (.inr (Ne.symm hzi))
    refine ⟨fun h => (by rw [h] at hr; cases hr), fun j hj => ?_⟩
    by_cases hji : j = i
    · subst hji; exact hy.wpOp hi (either hS) ⟨by rw [hk]; exact hS, H⟩
    · have h1 := H.2 j (ready_mono hj hji)
      obtain ⟨hjun, oj, hoj, hall⟩ := mem_ready.1 hj
      have hnot : ∀ e ∈ oj.after, Region.binds .any e = true → e.on ≠ i := fun e he hb heq => by
        have h2 := hall e he hb
        have h0 := (mem_ready.1 hr).1
        rw [heq] at h2
        rcases Nat.lt_or_ge i listed.size with h' | h'
        · simp [h'] at h0 h2; rw [h0] at h2; cases h2
        · simp [Array.getElem?_eq_none h'] at h2
      have hkij : ((listed.setIfInBounds i true).setIfInBounds j true).getD z false = (listed.setIfInBounds j true).getD z false := by
        rw [← Array.setIfInBounds_comm _ _ hji]; exact getD_set_keep (.inr (Ne.symm hzi))
      have h2 := wpOp_putIf hoj (hfree j oj hoj hji hjun hnot) (fun cs b => hsel i oi cs b hi) (fun cs b => hsel j oj cs b hoj) hQ hy h1
      have hfree' : ∀ k ok, ops[k]? = some ok → k ≠ i → (listed.setIfInBounds j true).getD k true = false →
          (∀ e ∈ ok.after, Region.binds .any e = true → e.on ≠ i) → oi.apart ops ok = true := fun k ok hk hki hun hno => by
        refine hfree k ok hk hki ?_ hno
        by_cases hjk : j = k
        · subst hjk; exact hjun
        · rw [getD_set_ne true hjk] at hun; exact hun
      refine wpOp_mono (fun a' w' h3 => ?_) h2
      have hS' : C ((listed.setIfInBounds j true).getD z false) w' := by have := h3.2.1; rw [hkij] at this; exact this
      refine ⟨hS', ih (listed.setIfInBounds j true) a' w' hfree' (ready_mono hr (Ne.symm hji)) h3.1 hS' ?_⟩
      rw [Array.setIfInBounds_comm _ _ hji]
      exact h3.2.2

/-- An order of a region: 'one': the operation yields in every world of the class; 'pur': it yields in every world of both classes; 'act': it acts, and is the only one that may come up; 'two': two that act, either of which may come up. -/
inductive Plan where
  | fin
  | one (i : Nat) (p : Plan)
  | pur (i : Nat) (p : Plan)
  | act (i : Nat) (p : Plan)
  | two (i : Nat) (p : Plan) (j : Nat) (q : Plan)

def Plan.len : Plan → Nat
  | .fin => 0
  | .one _ p => p.len + 1
  | .pur _ p => p.len + 1
  | .act _ p => p.len + 1
  | .two _ p _ _ => p.len + 1

/-- The walk in the order of the plan; 'ph': has z come up? -/
def wpMix (P : Program) (ops : Array Oper) (C : Bool → World → Prop) (z : Nat) (Q : Exit → Act → World → Prop) : Plan → Bool → Act → World → Prop
  | .fin, _, a, w => Q .normal a w
  | .one i p, ph, a, w => ∃ o v, ops[i]? = some o ∧ YieldsIf P ops (C ph) o v a ∧ wpMix P ops C z Q p ph (a.put o.dst v) w
  | .pur i p, ph, a, w => ∃ o v, ops[i]? = some o ∧ YieldsIf P ops (fun w => C false w ∨ C true w) o v a ∧ wpMix P ops C z Q p ph (a.put o.dst v) w
  | .act i p, ph, a, w => wpOp P ops Q i (fun a' w' => C (ph || i == z) w' ∧ wpMix P ops C z Q p (ph || i == z) a' w') a w
  | .two i p j q, ph, a, w => wpOp P ops Q i (fun a' w' => C (ph || i == z) w' ∧ wpMix P ops C z Q p (ph || i == z) a' w') a w ∧
      wpOp P ops Q j (fun a' w' => C (ph || j == z) w' ∧ wpMix P ops C z Q q (ph || j == z) a' w') a w

def waitsB (ops : Array Oper) (z i : Nat) : Bool :=
  match ops[z]? with
  | some oz => oz.after.any fun e => Region.binds .any e && e.on == i
  | none => true

/-- The order is one that may be taken: what yields is apart from what may come before it, and z waits for it or has come up; what acts is all that may come up. -/
def mixB (ops : Array Oper) (z : Nat) : Plan → Array Bool → Bool
  | .fin, listed => Region.ready .any ops listed == []
  | .one i p, listed => Region.free .any ops listed i && (Region.ready .any ops listed).contains i && (z != i && (listed.getD z false || waitsB ops z i)) && mixB ops z p (listed.setIfInBounds i true)
  | .pur i p, listed => Region.free .any ops listed i && (Region.ready .any ops listed).contains i && z != i && mixB ops z p (listed.setIfInBounds i true)
  | .act i p, listed => Region.ready .any ops listed == [i] && ((listed.setIfInBounds i true).getD z false == (listed.getD z false || i == z)) && mixB ops z p (listed.setIfInBounds i true)
  | .two i p j q, listed => Region.ready .any ops listed == [i, j] && ((listed.setIfInBounds i true).getD z false == (listed.getD z false || i == z)) && ((listed.setIfInBounds j true).getD z false == (listed.getD z false || j == z)) && p.len == q.len &&
      mixB ops z p (listed.setIfInBounds i true) && mixB ops z q (listed.setIfInBounds j true)

theorem mix_any {z : Nat} (hs : Region.noSelect ops = true) : ∀ (l : Plan) (listed : Array Bool) (a : Act) (w : World), mixB ops z l listed = true → C (listed.getD z false) w →
    wpMix P ops C z (NoPanic Q) l (listed.getD z false) a w → wpAnyZ P ops (NoPanic Q) C z l.len listed a w
  | .fin, listed, a, w, hb, _, h => by
    simp only [mixB, beq_iff_eq] at hb
    exact ⟨hb, h⟩
  | .one i rest, listed, a, w, hb, hS, h => by
    simp only [mixB, Bool.and_eq_true, Bool.or_eq_true] at hb
    obtain ⟨⟨⟨hb1, hb2⟩, hb3, hb4⟩, hb6⟩ := hb
    obtain ⟨o, v, hi, hy, h⟩ := h
    have hzi : z ≠ i := by simpa using hb3
    have hk : (listed.setIfInBounds i true).getD z false = listed.getD z false := getD_set_keep (.inr (Ne.symm hzi))
    refine z_first hi (Region.noSelect_spec hs) (fun _ _ _ h => h) hzi _ listed a w (hb4.imp id fun hb4 oz hoz => ?_) (Region.free_spec hi hb1) (by simpa using hb2) hy hS (mix_any hs rest _ _ _ hb6 (by rw [hk]; exact hS) (by rw [hk]; exact h))
    unfold waitsB at hb4
    rw [hoz] at hb4
    obtain ⟨e, he, hbe⟩ := Array.any_eq_true'.1 hb4
    simp only [Bool.and_eq_true, beq_iff_eq] at hbe
    exact ⟨e, he, hbe.1, hbe.2⟩
  | .pur i rest, listed, a, w, hb, hS, h => by
    simp only [mixB, Bool.and_eq_true] at hb
    obtain ⟨⟨⟨hb1, hb2⟩, hb3⟩, hb6⟩ := hb
    obtain ⟨o, v, hi, hy, h⟩ := h
    have hzi : z ≠ i := by simpa using hb3
    have hk : (listed.setIfInBounds i true).getD z false = listed.getD z false := getD_set_keep (.inr (Ne.symm hzi))
    exact z_pure hi (Region.noSelect_spec hs) (fun _ _ _ h => h) hzi _ listed a w (Region.free_spec hi hb1) (by simpa using hb2) hy hS (mix_any hs rest _ _ _ hb6 (by rw [hk]; exact hS) (by rw [hk]; exact h))
  | .act i rest, listed, a, w, hb, hS, h => by
    simp only [mixB, Bool.and_eq_true, beq_iff_eq] at hb
    obtain ⟨⟨hb1, hb2⟩, hb3⟩ := hb
    refine ⟨fun h0 => (by rw [h0] at hb1; cases hb1), fun j hj => ?_⟩
    rw [hb1, List.mem_singleton] at hj
    subst hj
    refine wpOp_mono (fun a' w' h' => ?_) h
    rw [← hb2] at h'
    exact ⟨h'.1, mix_any hs rest _ _ _ hb3 h'.1 h'.2⟩
  | .two i p j q, listed, a, w, hb, hS, h => by
    simp only [mixB, Bool.and_eq_true, beq_iff_eq] at hb
    obtain ⟨⟨⟨⟨⟨hb1, hbi⟩, hbj⟩, hl⟩, hb2⟩, hb3⟩ := hb
    refine ⟨fun h0 => (by rw [h0] at hb1; cases hb1), fun k hk => ?_⟩
    rw [hb1] at hk
    simp only [List.mem_cons, List.not_mem_nil, or_false] at hk
    rcases hk with rfl | rfl
    · refine wpOp_mono (fun a' w' h' => ?_) h.1
      rw [← hbi] at h'
      exact ⟨h'.1, mix_any hs p _ _ _ hb2 h'.1 h'.2⟩
    · refine wpOp_mono (fun a' w' h' => ?_) h.2
      rw [← hbj] at h'
      have := mix_any hs q _ _ _ hb3 h'.1 h'.2
      rw [← hl] at this
      exact ⟨h'.1, this⟩

theorem getD_replicate (n z : Nat) : (Array.replicate n false).getD z false = false := by
  rcases Nat.lt_or_ge z n with h | h
  · simp [h]
  · simp [h]

/-- The beginning: from the world behind the draw. z: the operation behind which the class T holds in S's place. -/
theorem wp_region_mix {id : Nat} {a : Act} {w : World} (l : Plan) (z : Nat) (S T : World → Prop) (hm : P.follows .mixedOrders = true) (hs : Region.noSelect ops = true) (hn : l.len = ops.size)
    (hb : mixB ops z l (Array.replicate ops.size false) = true) (hS : S w.drew) (h : ∀ w1, Qt w w1 → S w1 → wpMix P ops (Cls S T) z (NoPanic Q) l false a w1) : (Code.region id ops true).wp P Q a w := by
  refine wp_region_noPanic (wp_region_any hm (any_of_z (C := Cls S T) (z := z) _ _ _ _ ?_))
  rw [← hn]
  exact mix_any hs l _ _ _ (by rw [hn]; exact hb) (by rw [getD_replicate]; exact hS) (by rw [getD_replicate]; exact h _ ⟨1, rfl⟩ hS)

theorem mix_pure {z i : Nat} {rest : Plan} {ph : Bool} {a : Act} {w : World} {o : Oper} (hi : ops[i]? = some o)
    (h : ∀ K : Act → Prop, (∀ a, wpMix P ops C z Q rest ph a w → K a) →
      if Region.wanted o (yielded ops a.tmps) then ∃ v, (∀ w', C ph w' → (execOp a.eval o).run P w' = .ok (.value v) w') ∧ K (a.put o.dst v) else K (a.put o.dst undef)) :
    wpMix P ops C z Q (.one i rest) ph a w := by
  have h1 := h (fun a => wpMix P ops C z Q rest ph a w) (fun _ h => h)
  by_cases hw : Region.wanted o (yielded ops a.tmps) = true
  · rw [if_pos hw] at h1
    obtain ⟨v, h2, h3⟩ := h1
    exact ⟨o, v, hi, .inl ⟨hw, h2⟩, h3⟩
  · rw [if_neg hw] at h1
    exact ⟨o, undef, hi, .inr ⟨by simpa using hw, rfl⟩, h1⟩

theorem mix_pur {z i : Nat} {rest : Plan} {ph : Bool} {a : Act} {w : World} {o : Oper} (hi : ops[i]? = some o)
    (h : ∀ K : Act → Prop, (∀ a, wpMix P ops C z Q rest ph a w → K a) →
      if Region.wanted o (yielded ops a.tmps) then ∃ v, (∀ w', (execOp a.eval o).run P w' = .ok (.value v) w') ∧ K (a.put o.dst v) else K (a.put o.dst undef)) :
    wpMix P ops C z Q (.pur i rest) ph a w := by
  have h1 := h (fun a => wpMix P ops C z Q rest ph a w) (fun _ h => h)
  by_cases hw : Region.wanted o (yielded ops a.tmps) = true
  · rw [if_pos hw] at h1
    obtain ⟨v, h2, h3⟩ := h1
    exact ⟨o, v, hi, .inl ⟨hw, fun w' _ => h2 w'⟩, h3⟩
  · rw [if_neg hw] at h1
    exact ⟨o, undef, hi, .inr ⟨by simpa using hw, rfl⟩, h1⟩

/-- A load, its value being one and the same in every world of both classes. -/
theorem mix_pload {z i : Nat} {rest : Plan} {ph : Bool} {a : Act} {w : World} {o : Oper} (hi : ops[i]? = some o) (hg : o.guard = none) {t : TypeId} {x : Operand} (ho : o.op = .load t x) {p : Addr} (v : Value)
    (hv : ∀ w', (C false w' ∨ C true w') → (loadVar t p).run P w' = .ok v w') (hx : a.eval x = .pointer (some p)) (h : wpMix P ops C z Q rest ph (a.put o.dst v) w) : wpMix P ops C z Q (.pur i rest) ph a w := by
  refine ⟨o, v, hi, .inl ⟨by simp [Region.wanted, hg], fun w' hS => ?_⟩, h⟩
  simp [execOp, ho, Instr.loadAt, hx, Instr.sureAddr, hv w' hS]

/-- A load, its value being one and the same in every world of the class. -/
theorem mix_load {z i : Nat} {rest : Plan} {ph : Bool} {a : Act} {w : World} {o : Oper} (hi : ops[i]? = some o) (hg : o.guard = none) {t : TypeId} {x : Operand} (ho : o.op = .load t x) {p : Addr} (v : Value)
    (hv : ∀ w', C ph w' → (loadVar t p).run P w' = .ok v w') (hx : a.eval x = .pointer (some p)) (h : wpMix P ops C z Q rest ph (a.put o.dst v) w) : wpMix P ops C z Q (.one i rest) ph a w := by
  refine ⟨o, v, hi, .inl ⟨by simp [Region.wanted, hg], fun w' hS => ?_⟩, h⟩
  simp [execOp, ho, Instr.loadAt, hx, Instr.sureAddr, hv w' hS]

theorem mix_eff {z i : Nat} {rest : Plan} {ph : Bool} {a : Act} {w : World} {o : Oper} (hi : ops[i]? = some o) (ph' : Bool) (hp : (ph || i == z) = ph')
    (h : ∀ K : Act → World → Prop, (∀ a' w', C ph' w' → wpMix P ops C z Q rest ph' a' w' → K a' w') →
      if Region.wanted o (yielded ops a.tmps) then o.wp P a w K Q else K (a.put o.dst undef) w) :
    wpMix P ops C z Q (.act i rest) ph a w := by
  have h1 := h (fun a' w' => C ph' w' ∧ wpMix P ops C z Q rest ph' a' w') (fun _ _ h1 h2 => ⟨h1, h2⟩)
  simp only [wpMix, wpOp, hi, hp]
  by_cases hw : Region.wanted o (yielded ops a.tmps) = true
  · rw [if_pos hw] at h1 ⊢
    exact .inl h1
  · rw [if_neg hw] at h1 ⊢
    exact h1

/-- Two that act, either of which may come up. -/
theorem mix_two {z i j : Nat} {p q : Plan} {ph : Bool} {a : Act} {w : World} {o o' : Oper} (hi : ops[i]? = some o) (hj : ops[j]? = some o') (pi pj : Bool) (hpi : (ph || i == z) = pi) (hpj : (ph || j == z) = pj)
    (h1 : ∀ K : Act → World → Prop, (∀ a' w', C pi w' → wpMix P ops C z Q p pi a' w' → K a' w') → if Region.wanted o (yielded ops a.tmps) then o.wp P a w K Q else K (a.put o.dst undef) w)
    (h2 : ∀ K : Act → World → Prop, (∀ a' w', C pj w' → wpMix P ops C z Q q pj a' w' → K a' w') → if Region.wanted o' (yielded ops a.tmps) then o'.wp P a w K Q else K (a.put o'.dst undef) w) :
    wpMix P ops C z Q (.two i p j q) ph a w :=
  ⟨mix_eff (rest := p) hi pi hpi h1, mix_eff (rest := q) hj pj hpj h2⟩

theorem mix_done {z : Nat} {ph : Bool} {a : Act} {w : World} (h : Q .normal a w) : wpMix P ops C z (NoPanic Q) .fin ph a w := h
end

end Go.Proofs.YtmlikgjfpmjdcaaGreatDoor

