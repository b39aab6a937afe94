/- The chapter's examples (commons): all have their results; conditions: none. -/
import Derived.Test.YtmlikgjfpmjdcaaDoorLk1
namespace Go.Proofs.YtmlikgjfpmjdcaaDoor
open Go.RowKit

theorem lt3 (w : World) (a b c : Int) : Ints (fun k => w.heap.size ≤ k) (w.alloc (.cells #[.int .i64 a, .int .i64 b, .int .i64 c] 3)) (.slice (some ⟨w.heap.size, 0, none⟩) 3 3) [a, b, c] :=
  Own.ints (n := 3) (own_lit w 3 1 #[.int .i64 a, .int .i64 b, .int .i64 c] 3 rfl (by omega))
theorem lt2 (w : World) (a b : Int) : Ints (fun k => w.heap.size ≤ k) (w.alloc (.cells #[.int .i64 a, .int .i64 b] 3)) (.slice (some ⟨w.heap.size, 0, none⟩) 2 2) [a, b] :=
  Own.ints (n := 2) (own_lit w 3 1 #[.int .i64 a, .int .i64 b] 2 rfl (by omega))
theorem ints_shp {A : Nat → Prop} {w : World} {v : Value} {l : List Int} (h : Ints A w v l) (n : Nat) (hn : l.length = n) : ∃ a c, v = .slice a n c := by
  obtain ⟨a, c, e, _⟩ := h.shape
  exact ⟨a, c, by rw [e, hn]⟩

theorem grid_of {w : World} {q : Nat} {vs : List Value} {g : List (List Int)} (hq : Blk q vs.toArray 22 w) (hl : vs.length = g.length) (hg : g.length ≤ 100) (hi : ∀ i (a : i < vs.length) (b : i < g.length), Ints (fun _ => True) w vs[i] g[i]) : Grid (fun _ => True) w (.slice (some ⟨q, 0, none⟩) g.length g.length) g := by
  refine ⟨vs, hl, ?_, hi⟩
  have h1 := own_of_blk hq 1 g.length g.length (by show vs.length = _; rw [hl, Nat.mul_one]) (Nat.le_refl _) hg
  have e : vs.toArray.toList.take (g.length * 1) = vs := by
    rw [Nat.mul_one, ← hl]
    exact List.take_length
  rw [e] at h1
  exact (Own.arr h1).wide fun _ _ _ => trivial
theorem Ints.al {A : Nat → Prop} {w : World} {v : Value} {l : List Int} (h : Ints A w v l) (o : Obj) : Ints (fun _ => True) (w.alloc o) v l := (h.call ((Below.refl _ w).alloc (Nat.le_refl _) o)).wide fun _ _ _ => trivial
theorem gY (w : World) : Grid (fun _ => True) (((((w.alloc (.cells #[.int .i64 2, .int .i64 0, .int .i64 1] 3)).alloc (.cells #[.int .i64 2, .int .i64 0, .int .i64 1] 3)).alloc (.cells #[.int .i64 2, .int .i64 1, .int .i64 0] 3)).alloc (.cells #[.int .i64 2, .int .i64 0, .int .i64 1] 3)).alloc (.cells #[.slice (some ⟨w.heap.size, 0, none⟩) 3 3, .slice (some ⟨w.heap.size + 1, 0, none⟩) 3 3, .slice (some ⟨w.heap.size + 1 + 1, 0, none⟩) 3 3, .slice (some ⟨w.heap.size + 1 + 1 + 1, 0, none⟩) 3 3] 22)) (.slice (some ⟨w.heap.size + 1 + 1 + 1 + 1, 0, none⟩) 4 4) [[2, 0, 1], [2, 0, 1], [2, 1, 0], [2, 0, 1]] := by
  have i0 : Ints (fun q => True) (((((w.alloc (.cells #[.int .i64 2, .int .i64 0, .int .i64 1] 3)).alloc (.cells #[.int .i64 2, .int .i64 0, .int .i64 1] 3)).alloc (.cells #[.int .i64 2, .int .i64 1, .int .i64 0] 3)).alloc (.cells #[.int .i64 2, .int .i64 0, .int .i64 1] 3)).alloc (.cells #[.slice (some ⟨w.heap.size, 0, none⟩) 3 3, .slice (some ⟨w.heap.size + 1, 0, none⟩) 3 3, .slice (some ⟨w.heap.size + 1 + 1, 0, none⟩) 3 3, .slice (some ⟨w.heap.size + 1 + 1 + 1, 0, none⟩) 3 3] 22)) (.slice (some ⟨w.heap.size, 0, none⟩) 3 3) [2, 0, 1] := ((((lt3 w 2 0 1).al _).al _).al _).al _
  have i1 : Ints (fun q => True) (((((w.alloc (.cells #[.int .i64 2, .int .i64 0, .int .i64 1] 3)).alloc (.cells #[.int .i64 2, .int .i64 0, .int .i64 1] 3)).alloc (.cells #[.int .i64 2, .int .i64 1, .int .i64 0] 3)).alloc (.cells #[.int .i64 2, .int .i64 0, .int .i64 1] 3)).alloc (.cells #[.slice (some ⟨w.heap.size, 0, none⟩) 3 3, .slice (some ⟨w.heap.size + 1, 0, none⟩) 3 3, .slice (some ⟨w.heap.size + 1 + 1, 0, none⟩) 3 3, .slice (some ⟨w.heap.size + 1 + 1 + 1, 0, none⟩) 3 3] 22)) (.slice (some ⟨w.heap.size + 1, 0, none⟩) 3 3) [2, 0, 1] := by have h := ((((lt3 (w.alloc (.cells #[.int .i64 2, .int .i64 0, .int .i64 1] 3)) 2 0 1).al (.cells #[.int .i64 2, .int .i64 1, .int .i64 0] 3)).al (.cells #[.int .i64 2, .int .i64 0, .int .i64 1] 3)).al (.cells #[.slice (some ⟨w.heap.size, 0, none⟩) 3 3, .slice (some ⟨w.heap.size + 1, 0, none⟩) 3 3, .slice (some ⟨w.heap.size + 1 + 1, 0, none⟩) 3 3, .slice (some ⟨w.heap.size + 1 + 1 + 1, 0, none⟩) 3 3] 22)); simpa using h
  have i2 : Ints (fun q => True) (((((w.alloc (.cells #[.int .i64 2, .int .i64 0, .int .i64 1] 3)).alloc (.cells #[.int .i64 2, .int .i64 0, .int .i64 1] 3)).alloc (.cells #[.int .i64 2, .int .i64 1, .int .i64 0] 3)).alloc (.cells #[.int .i64 2, .int .i64 0, .int .i64 1] 3)).alloc (.cells #[.slice (some ⟨w.heap.size, 0, none⟩) 3 3, .slice (some ⟨w.heap.size + 1, 0, none⟩) 3 3, .slice (some ⟨w.heap.size + 1 + 1, 0, none⟩) 3 3, .slice (some ⟨w.heap.size + 1 + 1 + 1, 0, none⟩) 3 3] 22)) (.slice (some ⟨w.heap.size + 1 + 1, 0, none⟩) 3 3) [2, 1, 0] := by have h := (((lt3 ((w.alloc (.cells #[.int .i64 2, .int .i64 0, .int .i64 1] 3)).alloc (.cells #[.int .i64 2, .int .i64 0, .int .i64 1] 3)) 2 1 0).al (.cells #[.int .i64 2, .int .i64 0, .int .i64 1] 3)).al (.cells #[.slice (some ⟨w.heap.size, 0, none⟩) 3 3, .slice (some ⟨w.heap.size + 1, 0, none⟩) 3 3, .slice (some ⟨w.heap.size + 1 + 1, 0, none⟩) 3 3, .slice (some ⟨w.heap.size + 1 + 1 + 1, 0, none⟩) 3 3] 22)); simpa using h
  have i3 : Ints (fun q => True) (((((w.alloc (.cells #[.int .i64 2, .int .i64 0, .int .i64 1] 3)).alloc (.cells #[.int .i64 2, .int .i64 0, .int .i64 1] 3)).alloc (.cells #[.int .i64 2, .int .i64 1, .int .i64 0] 3)).alloc (.cells #[.int .i64 2, .int .i64 0, .int .i64 1] 3)).alloc (.cells #[.slice (some ⟨w.heap.size, 0, none⟩) 3 3, .slice (some ⟨w.heap.size + 1, 0, none⟩) 3 3, .slice (some ⟨w.heap.size + 1 + 1, 0, none⟩) 3 3, .slice (some ⟨w.heap.size + 1 + 1 + 1, 0, none⟩) 3 3] 22)) (.slice (some ⟨w.heap.size + 1 + 1 + 1, 0, none⟩) 3 3) [2, 0, 1] := by have h := ((lt3 (((w.alloc (.cells #[.int .i64 2, .int .i64 0, .int .i64 1] 3)).alloc (.cells #[.int .i64 2, .int .i64 0, .int .i64 1] 3)).alloc (.cells #[.int .i64 2, .int .i64 1, .int .i64 0] 3)) 2 0 1).al (.cells #[.slice (some ⟨w.heap.size, 0, none⟩) 3 3, .slice (some ⟨w.heap.size + 1, 0, none⟩) 3 3, .slice (some ⟨w.heap.size + 1 + 1, 0, none⟩) 3 3, .slice (some ⟨w.heap.size + 1 + 1 + 1, 0, none⟩) 3 3] 22)); simpa using h
  exact grid_of (vs := [.slice (some ⟨w.heap.size, 0, none⟩) 3 3, .slice (some ⟨w.heap.size + 1, 0, none⟩) 3 3, .slice (some ⟨w.heap.size + 1 + 1, 0, none⟩) 3 3, .slice (some ⟨w.heap.size + 1 + 1 + 1, 0, none⟩) 3 3]) (g := [[2, 0, 1], [2, 0, 1], [2, 1, 0], [2, 0, 1]]) (blk_at (by simp) _ _) rfl (by decide) fun i a b => by
    have hi : i = 0 ∨ i = 1 ∨ i = 2 ∨ i = 3 := by simp at a; omega
    rcases hi with rfl | rfl | rfl | rfl
    · exact i0
    · exact i1
    · exact i2
    · exact i3
theorem bY (w : World) : Below w.heap.size w (((((w.alloc (.cells #[.int .i64 2, .int .i64 0, .int .i64 1] 3)).alloc (.cells #[.int .i64 2, .int .i64 0, .int .i64 1] 3)).alloc (.cells #[.int .i64 2, .int .i64 1, .int .i64 0] 3)).alloc (.cells #[.int .i64 2, .int .i64 0, .int .i64 1] 3)).alloc (.cells #[.slice (some ⟨w.heap.size, 0, none⟩) 3 3, .slice (some ⟨w.heap.size + 1, 0, none⟩) 3 3, .slice (some ⟨w.heap.size + 1 + 1, 0, none⟩) 3 3, .slice (some ⟨w.heap.size + 1 + 1 + 1, 0, none⟩) 3 3] 22)) := (((((Below.refl _ w).alloc (Nat.le_refl _) _).alloc (by simp) _).alloc (by simp; omega) _).alloc (by simp; omega) _).alloc (by simp; omega) _
theorem gS (w : World) : Grid (fun _ => True) ((w.alloc (.cells #[.int .i64 0, .int .i64 2] 3)).alloc (.cells #[.slice (some ⟨w.heap.size, 0, none⟩) 2 2] 22)) (.slice (some ⟨w.heap.size + 1, 0, none⟩) 1 1) [[0, 2]] :=
  grid_of (vs := [.slice (some ⟨w.heap.size, 0, none⟩) 2 2]) (g := [[0, 2]]) (blk_at (by simp) _ _) rfl (by decide) fun i a b => by
    obtain rfl : i = 0 := by simp at a; omega
    exact (lt2 w 0 2).al _
theorem bS (w : World) : Below w.heap.size w ((w.alloc (.cells #[.int .i64 0, .int .i64 2] 3)).alloc (.cells #[.slice (some ⟨w.heap.size, 0, none⟩) 2 2] 22)) := ((Below.refl _ w).alloc (Nat.le_refl _) _).alloc (by simp) _
/-- The three boxes. -/
def BX (b1 b2 b3 : Nat) (v1 v2 v3 : Value) (m1 m2 m3 : Nat) (w : World) : Prop := Blk b1 #[.slice (some ⟨m1, 0, none⟩) 3 3, v1] 25 w ∧ Blk b2 #[.slice (some ⟨m2, 0, none⟩) 3 3, v2] 25 w ∧ Blk b3 #[.slice (some ⟨m3, 0, none⟩) 3 3, v3] 25 w
theorem BX.keep {b1 b2 b3 : Nat} {v1 v2 v3 : Value} {m1 m2 m3 : Nat} {w w' : World} (h : BX b1 b2 b3 v1 v2 v3 m1 m2 m3 w) (h1 : w'.heap[b1]? = w.heap[b1]?) (h2 : w'.heap[b2]? = w.heap[b2]?) (h3 : w'.heap[b3]? = w.heap[b3]?) : BX b1 b2 b3 v1 v2 v3 m1 m2 m3 w' := ⟨h.1.keep h1, h.2.1.keep h2, h.2.2.keep h3⟩
/-- What stands while the examples are turned. -/
structure LS (w0 : World) (b1 b2 b3 : Nat) (v3 : Value) (m1 x1 y1 z1 c1 m2 x2 y2 z2 c2 m3 x3 y3 z3 c3 : Nat) (k1 k2 : Array Value) (q : Option Nat) (w : World) : Prop where
  bx : BX b1 b2 b3 (.slice (some ⟨c1, 0, none⟩) 3 3) (.slice (some ⟨c2, 0, none⟩) 3 3) v3 m1 m2 m3 w
  h1 : HB w0.heap.size m1 x1 y1 z1 c1 k1 w
  h2 : HB w0.heap.size m2 x2 y2 z2 c2 k2 w
  h3 : HB w0.heap.size m3 x3 y3 z3 c3 (vcs 5 10 x3 y3 z3) w
  qq : ∀ n, q = some n → Blk n #[.int .i64 0, .int .i64 0, .int .i64 1] 3 w ∧ b3 < n
  o : c1 < m2 ∧ c2 < m3 ∧ c3 < b1 ∧ b1 < b2 ∧ b2 < b3 ∧ b3 < w.heap.size
  bl : Below w0.heap.size w0 w
section
variable {w0 w w' : World} {b1 b2 b3 m1 x1 y1 z1 c1 m2 x2 y2 z2 c2 m3 x3 y3 z3 c3 : Nat} {v3 : Value} {k1 k2 : Array Value} {q : Option Nat}
theorem LS.call (h : LS w0 b1 b2 b3 v3 m1 x1 y1 z1 c1 m2 x2 y2 z2 c2 m3 x3 y3 z3 c3 k1 k2 q w) (hB : Below w.heap.size w w') : LS w0 b1 b2 b3 v3 m1 x1 y1 z1 c1 m2 x2 y2 z2 c2 m3 x3 y3 z3 c3 k1 k2 q w' :=
  ⟨⟨h.bx.1.keep (hB.block _ h.bx.1.lt), h.bx.2.1.keep (hB.block _ h.bx.2.1.lt), h.bx.2.2.keep (hB.block _ h.bx.2.2.lt)⟩, h.h1.call hB, h.h2.call hB, h.h3.call hB, fun n hn => ⟨(h.qq n hn).1.keep (hB.block _ (h.qq n hn).1.lt), (h.qq n hn).2⟩, by have := hB.size; have := h.o; omega, bnx h.bl hB⟩
theorem LS.qt (h : LS w0 b1 b2 b3 v3 m1 x1 y1 z1 c1 m2 x2 y2 z2 c2 m3 x3 y3 z3 c3 k1 k2 q w) (hq : Qt w w') : LS w0 b1 b2 b3 v3 m1 x1 y1 z1 c1 m2 x2 y2 z2 c2 m3 x3 y3 z3 c3 k1 k2 q w' := h.call (hq.below _)
theorem LS.lit {n : Nat} (hn : n = w.heap.size) (h : LS w0 b1 b2 b3 v3 m1 x1 y1 z1 c1 m2 x2 y2 z2 c2 m3 x3 y3 z3 c3 k1 k2 q w) : LS w0 b1 b2 b3 v3 m1 x1 y1 z1 c1 m2 x2 y2 z2 c2 m3 x3 y3 z3 c3 k1 k2 (some n) (w.alloc (.cells #[.int .i64 0, .int .i64 0, .int .i64 1] 3)) := by
  subst hn
  exact
  have h' := h.call ((Below.refl w.heap.size w).alloc (Nat.le_refl _) (.cells #[.int .i64 0, .int .i64 0, .int .i64 1] 3))
  ⟨h'.bx, h'.h1, h'.h2, h'.h3, fun n hn => by injection hn with hn; subst hn; exact ⟨Blk.new _ _ _, h.o.2.2.2.2.2⟩, h'.o, h'.bl⟩
theorem LS.set1 (h : LS w0 b1 b2 b3 v3 m1 x1 y1 z1 c1 m2 x2 y2 z2 c2 m3 x3 y3 z3 c3 k1 k2 q w) (j : Nat) (u : Value) : LS w0 b1 b2 b3 v3 m1 x1 y1 z1 c1 m2 x2 y2 z2 c2 m3 x3 y3 z3 c3 (k1.setIfInBounds j u) k2 q (w.setCell ⟨c1, j, none⟩ u) :=
  have o := h.o
  have o1 := h.h1.fo
  have o2 := h.h2.fo
  have o3 := h.h3.fo
  ⟨h.bx.keep (Below.heap_setCell _ _ _ _ (show b1 ≠ c1 by omega)) (Below.heap_setCell _ _ _ _ (show b2 ≠ c1 by omega)) (Below.heap_setCell _ _ _ _ (show b3 ≠ c1 by omega)), h.h1.set j u, h.h2.other (a := ⟨c1, j, none⟩) (.inl (show c1 < m2 by omega)) u, h.h3.other (a := ⟨c1, j, none⟩) (.inl (show c1 < m3 by omega)) u,
    fun n hn => ⟨(h.qq n hn).1.other (a := ⟨c1, j, none⟩) (show n ≠ c1 by have := (h.qq n hn).2; omega) u, (h.qq n hn).2⟩, by simpa [World.setCell] using o, h.bl.setCell (p := ⟨c1, j, none⟩) (show w0.heap.size ≤ c1 by omega) u⟩
theorem LS.set2 (h : LS w0 b1 b2 b3 v3 m1 x1 y1 z1 c1 m2 x2 y2 z2 c2 m3 x3 y3 z3 c3 k1 k2 q w) (j : Nat) (u : Value) : LS w0 b1 b2 b3 v3 m1 x1 y1 z1 c1 m2 x2 y2 z2 c2 m3 x3 y3 z3 c3 k1 (k2.setIfInBounds j u) q (w.setCell ⟨c2, j, none⟩ u) :=
  have o := h.o
  have o1 := h.h1.fo
  have o2 := h.h2.fo
  have o3 := h.h3.fo
  ⟨h.bx.keep (Below.heap_setCell _ _ _ _ (show b1 ≠ c2 by omega)) (Below.heap_setCell _ _ _ _ (show b2 ≠ c2 by omega)) (Below.heap_setCell _ _ _ _ (show b3 ≠ c2 by omega)), h.h1.other (a := ⟨c2, j, none⟩) (.inr (show c1 < c2 by omega)) u, h.h2.set j u, h.h3.other (a := ⟨c2, j, none⟩) (.inl (show c2 < m3 by omega)) u,
    fun n hn => ⟨(h.qq n hn).1.other (a := ⟨c2, j, none⟩) (show n ≠ c2 by have := (h.qq n hn).2; omega) u, (h.qq n hn).2⟩, by simpa [World.setCell] using o, h.bl.setCell (p := ⟨c2, j, none⟩) (show w0.heap.size ≤ c2 by omega) u⟩
theorem LS.set3 (h : LS w0 b1 b2 b3 v3 m1 x1 y1 z1 c1 m2 x2 y2 z2 c2 m3 x3 y3 z3 c3 k1 k2 q w) (u : Value) : LS w0 b1 b2 b3 u m1 x1 y1 z1 c1 m2 x2 y2 z2 c2 m3 x3 y3 z3 c3 k1 k2 q (w.setCell ⟨b3, 1, none⟩ u) :=
  have o := h.o
  have o1 := h.h1.fo
  have o2 := h.h2.fo
  have o3 := h.h3.fo
  ⟨⟨h.bx.1.other (a := ⟨b3, 1, none⟩) (show b1 ≠ b3 by omega) u, h.bx.2.1.other (a := ⟨b3, 1, none⟩) (show b2 ≠ b3 by omega) u, h.bx.2.2.set 1 u⟩, h.h1.other (a := ⟨b3, 1, none⟩) (.inr (show c1 < b3 by omega)) u, h.h2.other (a := ⟨b3, 1, none⟩) (.inr (show c2 < b3 by omega)) u, h.h3.other (a := ⟨b3, 1, none⟩) (.inr (show c3 < b3 by omega)) u,
    fun n hn => ⟨(h.qq n hn).1.other (a := ⟨b3, 1, none⟩) (show n ≠ b3 by have := (h.qq n hn).2; omega) u, (h.qq n hn).2⟩, by simpa [World.setCell] using o, h.bl.setCell (p := ⟨b3, 1, none⟩) (show w0.heap.size ≤ b3 by omega) u⟩
end


theorem kChkA {A : Nat → Prop} {w : World} {vm vv : Value} (h : Cm A w vm vv hillsC) : Calls Tryd.prog 6 #[.agg #[vm, vv]] w fun e w' => e = .returned (.int .i64 0) ∧ Below w.heap.size w w' := by have := check_c h; rw [kc1] at this; exact this
theorem kChkB {A : Nat → Prop} {w : World} {vm vv : Value} (h : Cm A w vm vv greatC) : Calls Tryd.prog 6 #[.agg #[vm, vv]] w fun e w' => e = .returned (.int .i64 1) ∧ Below w.heap.size w w' := by have := check_c h; rw [kc2] at this; exact this
theorem kChkC {A : Nat → Prop} {w : World} {vm vv : Value} (h : Cm A w vm vv twiceC) : Calls Tryd.prog 6 #[.agg #[vm, vv]] w fun e w' => e = .returned (.int .i64 4) ∧ Below w.heap.size w w' := by have := check_c h; rw [kc3] at this; exact this
theorem kChkD {A : Nat → Prop} {w : World} {vm vv : Value} (h : Cm A w vm vv twoC) : Calls Tryd.prog 6 #[.agg #[vm, vv]] w fun e w' => e = .returned (.int .i64 7) ∧ Below w.heap.size w w' := by have := check_c h; rw [kc4] at this; exact this
theorem kA1 {A : Nat → Prop} {w : World} {vm vv : Value} (h : Cm A w vm vv hillsC) : Calls Tryd.prog 7 #[.agg #[vm, vv], .int .i64 8] w fun e w' => ∃ v', e = .returned (.tuple #[v', .int .i64 0]) ∧ Ints (fun b => w.heap.size ≤ b) w' v' [4, 3, 1] ∧ Below w.heap.size w w' := by
  have := allotF_c h 8
  rw [kAllot1.1, kAllot1.2] at this
  exact this
theorem kA2 {A : Nat → Prop} {w : World} {vm vv : Value} (h : Cm A w vm vv hillsC) : Calls Tryd.prog 7 #[.agg #[vm, vv], .int .i64 60] w fun e w' => ∃ v', e = .returned (.tuple #[v', .int .i64 0]) ∧ Ints (fun b => w.heap.size ≤ b) w' v' [25, 10, 14] ∧ Below w.heap.size w w' := by
  have := allotF_c h 60
  rw [kAllot2.1, kAllot2.2] at this
  exact this
theorem kN1 {A : Nat → Prop} {w : World} {vm vv : Value} (h : Cm A w vm vv hillsC) : Calls Tryd.prog 8 #[.agg #[vm, vv], .int .i64 8] w fun e w' => e = .returned (.tuple #[.int .i64 0, .int .i64 0]) ∧ Below w.heap.size w w' := by
  have := nextF_c h kok 8 (by decide)
  rw [kNext1.1, kNext1.2] at this
  exact this
theorem kN2 {A : Nat → Prop} {w : World} {vm vv : Value} (h : Cm A w vm vv hillsC) : Calls Tryd.prog 8 #[.agg #[vm, vv], .int .i64 49] w fun e w' => ∃ n, e = .returned (.tuple #[.int .i64 n, .int .i64 11]) ∧ Below w.heap.size w w' := by
  have := nextF_c h kok 49 (by decide)
  rw [kNext2] at this
  exact this.mono fun e w' hh => ⟨_, hh⟩
theorem kL1 {A : Nat → Prop} {w : World} {vm vv : Value} (h : Cm A w vm vv hillsC) : Calls Tryd.prog 9 #[.agg #[vm, vv], .int .i64 4, .int .i64 9, .int .i64 10] w fun e w' => ∃ v', e = .returned (.tuple #[v', .int .i64 2, .int .i64 0]) ∧ Ints (fun b => w.heap.size ≤ b) w' v' [1, 0, 1] ∧ Below w.heap.size w w' := by
  have := late_c h kok 4 9 (by decide) (by decide) 10 (by decide)
  rw [kLate.1, kLate.2] at this
  exact this
theorem kD1 {A : Nat → Prop} {w : World} {vm vv vd : Value} (h : Cm A w vm vv hillsC) {A' : Nat → Prop} (hd : Ints A' w vd [0, 1, 2]) : Calls Tryd.prog 11 #[.agg #[vm, vv], vd] w fun e w' => ∃ v', e = .returned (.tuple #[v', .int .i64 0]) ∧ Ints (fun b => w.heap.size ≤ b) w' v' [2, 0, 1] ∧ Below w.heap.size w w' := by
  have := drawR_c h hd
  rw [kDraw.1, kDraw.2] at this
  exact this
theorem kY1 {A : Nat → Prop} {w : World} {vm vv : Value} (h : Cm A w vm vv hillsC) : Calls Tryd.prog 12 #[.agg #[vm, vv], .int .i64 4] w fun e w' => ∃ v', e = .returned (.tuple #[v', .int .i64 0]) ∧ Grid (fun b => w.heap.size ≤ b) w' v' [[2, 0, 1], [2, 0, 1], [2, 1, 0], [2, 0, 1]] ∧ Below w.heap.size w w' := by
  have := years_c h 4
  rw [kYears.1, kYears.2] at this
  exact this
theorem kT1 {A : Nat → Prop} {w : World} {vm vv vd : Value} (h : Cm A w vm vv hillsC) {A' : Nat → Prop} (hd : Ints A' w vd [1, 2, 0]) : Calls Tryd.prog 13 #[.agg #[vm, vv], vd] w fun e w' => ∃ v', e = .returned (.tuple #[v', .int .i64 0]) ∧ Ints (fun b => w.heap.size ≤ b) w' v' [1, 2, 0] ∧ Below w.heap.size w w' := by
  have := tradeR_c h hd
  rw [kTrade.1, kTrade.2] at this
  exact this
theorem kS1 {A : Nat → Prop} {w : World} {vm vv vd : Value} (h : Cm A w vm vv hillsC) {A' : Nat → Prop} (hd : Ints A' w vd [0, 1, 2]) : Calls Tryd.prog 14 #[.agg #[vm, vv], vd] w fun e w' => ∃ v1 v2, e = .returned (.tuple #[v1, v2, .int .i64 0]) ∧ Grid (fun b => w.heap.size ≤ b) w' v1 [[0, 2]] ∧ Ints (fun b => w.heap.size ≤ b) w' v2 [2, 1, 0] ∧ Below w.heap.size w w' := by
  have := swapsR_c h hd
  rw [kDraw.1, kSwaps] at this
  exact this
theorem kE1 {A : Nat → Prop} {w : World} {vm vv vd : Value} (h : Cm A w vm vv hillsC) {A' : Nat → Prop} (hd : Ints A' w vd [0, 1, 2]) : Calls Tryd.prog 16 #[.agg #[vm, vv], vd] w fun e w' => ∃ v', e = .returned (.tuple #[v', .int .i64 0]) ∧ Ints (fun b => w.heap.size ≤ b) w' v' [1, 2, 2] ∧ Below w.heap.size w w' := by
  have := envyR_c h hd
  rw [kDraw.1, kEnvy] at this
  exact this
theorem kC1 {A : Nat → Prop} {w : World} {vm vv : Value} (h : Cm A w vm vv hillsC) : Calls Tryd.prog 17 #[.agg #[vm, vv]] w fun e w' => ∃ v', e = .returned (.tuple #[v', .int .i64 1, .int .i64 0]) ∧ Ints (fun b => w.heap.size ≤ b) w' v' [2, 0, 1] ∧ Below w.heap.size w w' := by
  have := calm_c h
  rw [kCalm.1, kCalm.2, kc1] at this
  exact this
theorem kG1 {A : Nat → Prop} {w : World} {vm vv vd : Value} (h : Cm A w vm vv hillsC) {A' : Nat → Prop} (hd : Ints A' w vd [0, 1, 2]) : Calls Tryd.prog 18 #[.agg #[vm, vv], vd] w fun e w' => ∃ v', e = .returned (.tuple #[v', .int .i64 0]) ∧ Ints (fun b => w.heap.size ≤ b) w' v' [0, 2] ∧ Below w.heap.size w w' := by
  have := groupA_c h hd
  rw [kGroup1.1, kGroup1.2] at this
  exact this
theorem kG2 {A : Nat → Prop} {w : World} {vm vv vd : Value} (h : Cm A w vm vv hillsC) {A' : Nat → Prop} (hd : Ints A' w vd [1, 0, 2]) : Calls Tryd.prog 18 #[.agg #[vm, vv], vd] w fun e w' => ∃ v', e = .returned (.tuple #[v', .int .i64 0]) ∧ Ints (fun b => w.heap.size ≤ b) w' v' [0, 2] ∧ Below w.heap.size w w' := by
  have := groupA_c h hd
  rw [kGroup2.1, kGroup2.2] at this
  exact this
theorem kG3 {A A' : Nat → Prop} {w : World} {vm vv vd : Value} (h : Cm A w vm vv hillsC) (hd : Ints A' w vd [2, 0, 1]) : Calls Tryd.prog 18 #[.agg #[vm, vv], vd] w fun e w' => ∃ v', e = .returned (.tuple #[v', .int .i64 11]) ∧ Below w.heap.size w w' := by
  have := groupA_c h hd
  rw [kGroup3] at this
  exact this.mono fun e w' ⟨v', h1, h2, h3⟩ => ⟨v', h1, h3⟩
theorem kO1 {A : Nat → Prop} {w : World} {vm vv vd : Value} (h : Cm A w vm vv hillsC) {A' : Nat → Prop} (hd : Ints A' w vd [0, 1, 2]) : Calls Tryd.prog 19 #[.agg #[vm, vv], vd] w fun e w' => ∃ v', e = .returned (.tuple #[v', .int .i64 0]) ∧ Ints (fun b => w.heap.size ≤ b) w' v' [0, 0, 2] ∧ Below w.heap.size w w' := by
  have := overR_c h hd
  rw [kDraw.1, kOver1] at this
  exact this
theorem kO2 {A : Nat → Prop} {w : World} {vm vv vd : Value} (h : Cm A w vm vv hillsC) {A' : Nat → Prop} (hd : Ints A' w vd [2, 0, 1]) : Calls Tryd.prog 19 #[.agg #[vm, vv], vd] w fun e w' => ∃ v', e = .returned (.tuple #[v', .int .i64 0]) ∧ Ints (fun b => w.heap.size ≤ b) w' v' [13, 0, 0] ∧ Below w.heap.size w w' := by
  have := overR_c h hd
  rw [kOver2.1, kOver2.2] at this
  exact this
theorem kR1 {A : Nat → Prop} {w : World} {vm vv : Value} (h : Cm A w vm vv hillsC) : Calls Tryd.prog 20 #[.agg #[vm, vv]] w fun e w' => ∃ v', e = .returned (.tuple #[v', .int .i64 0, .int .i64 0]) ∧ Ints (fun b => w.heap.size ≤ b) w' v' [0, 2, 1] ∧ Below w.heap.size w w' := by
  have := room_c h
  rw [kRoom.1, kRoom.2, kc1] at this
  exact this

set_option maxRecDepth 100000 in
set_option maxHeartbeats 16000000 in
theorem known_c (w : World) : Calls Tryd.prog 3 #[] w fun e w' => e = .returned (.bool true) ∧ Below w.heap.size w w' := by
  go_enter Tryd.func3, Tryd.ntmps3
  go_wp2_with fail
  refine (hills_b w).mono ?_
  rintro e w1 ⟨m1, x1, y1, z1, c1, rfl, h1, hB1⟩
  go_wp2_with fail
  refine (hills_b w1).mono ?_
  rintro e w2 ⟨m2, x2, y2, z2, c2, rfl, h2, hB2⟩
  go_wp2_with fail
  refine (hills_b w2).mono ?_
  rintro e w3 ⟨m3, x3, y3, z3, c3, rfl, h3, hB3⟩
  go_upto_region 2 with fail
  obtain ⟨b1, hb1⟩ : ∃ b, b = w3.heap.size := ⟨_, rfl⟩
  obtain ⟨b2, hb2⟩ : ∃ b, b = w3.heap.size + 1 := ⟨_, rfl⟩
  obtain ⟨b3, hb3⟩ : ∃ b, b = w3.heap.size + 1 + 1 := ⟨_, rfl⟩
  obtain ⟨w4, hw4⟩ : ∃ w4, w4 = ((w3.alloc (.cells #[.slice (some ⟨m1, 0, none⟩) 3 3, .slice (some ⟨c1, 0, none⟩) 3 3] 25)).alloc (.cells #[.slice (some ⟨m2, 0, none⟩) 3 3, .slice (some ⟨c2, 0, none⟩) 3 3] 25)).alloc (.cells #[.slice (some ⟨m3, 0, none⟩) 3 3, .slice (some ⟨c3, 0, none⟩) 3 3] 25) := ⟨_, rfl⟩
  have hB4 : Below w3.heap.size w3 w4 := by rw [hw4]; exact (((Below.refl _ w3).alloc (Nat.le_refl _) _).alloc (by simp) _).alloc (by simp; omega) _
  have hs4 : LS w b1 b2 b3 (.slice (some ⟨c3, 0, none⟩) 3 3) m1 x1 y1 z1 c1 m2 x2 y2 z2 c2 m3 x3 y3 z3 c3 (vcs 5 10 x1 y1 z1) (vcs 5 10 x2 y2 z2) none w4 := by
    have t1 := h1.fv.lt
    have t2 := h2.fv.lt
    have t3 := h3.fv.lt
    have s1 := hB1.size
    have s2 := hB2.size
    have s3 := hB3.size
    have o1 := h1.fo
    have o2 := h2.fo
    have o3 := h3.fo
    have g1 : HB w.heap.size m1 x1 y1 z1 c1 (vcs 5 10 x1 y1 z1) w4 := ((h1.call hB2).call hB3).call hB4
    have g2 : HB w.heap.size m2 x2 y2 z2 c2 (vcs 5 10 x2 y2 z2) w4 := by have h := (h2.call hB3).call hB4; exact ⟨h.fm, h.f1, h.f2, h.f3, h.fv, by have := h.fo; omega⟩
    have g3 : HB w.heap.size m3 x3 y3 z3 c3 (vcs 5 10 x3 y3 z3) w4 := by have h := h3.call hB4; exact ⟨h.fm, h.f1, h.f2, h.f3, h.fv, by have := h.fo; omega⟩
    refine ⟨⟨?_, ?_, ?_⟩, g1, g2, g3, fun n hn => (by cases hn), ?_, bnx (bnx (bnx hB1 hB2) hB3) hB4⟩
    · rw [hw4, hb1]; exact ((Blk.new _ _ _).alloc _).alloc _
    · rw [hw4]; exact (blk_at (by rw [hb2]; simp) _ _).alloc _
    · rw [hw4]; exact blk_at (by rw [hb3]; simp) _ _
    · have hz : w4.heap.size = w3.heap.size + 3 := by rw [hw4]; simp
      omega
  rw [← hw4, ← hb3, ← hb2, ← hb1]
  clear hw4 hb1 hb2 hb3 h1 h2 h3 hB1 hB2 hB3 hB4
  go_cut [1] from 18 (fun s1 wx => s1 = .pointer (some ⟨b1, 0, none⟩) ∧ ∃ n, LS w b1 b2 b3 (.slice (some ⟨c3, 0, none⟩) 2 3) m1 x1 y1 z1 c1 m2 x2 y2 z2 c2 m3 x3 y3 z3 c3 (vcs 31 61 x1 y1 z1) ((vcs 5 10 x2 y2 z2).setIfInBounds 8 (.slice (some ⟨n, 0, none⟩) 3 3)) (some n) wx)
  case first =>
    refine wp_region_mix2 (.pur 0 (.one 1 (.pur 2 (.one 3 (.pur 4 (.one 5 (.pur 7 (.one 8 (.pur 9 (.pur 10 (.pur 11 (.two 6 (.act 12 (.pur 13 (.pur 14 (.act 15 (.pur 16 (.pur 17 (.act 18 (.pur 19 (.act 20 .fin))))))))) 12 (.pur 13 (.pur 14 (.two 6 (.act 15 (.pur 16 (.pur 17 (.act 18 (.pur 19 (.act 20 .fin)))))) 15 (.act 6 (.pur 16 (.pur 17 (.act 18 (.pur 19 (.act 20 .fin))))))))))))))))))))) 20 (fun w' => BX b1 b2 b3 (.slice (some ⟨c1, 0, none⟩) 3 3) (.slice (some ⟨c2, 0, none⟩) 3 3) (.slice (some ⟨c3, 0, none⟩) 3 3) m1 m2 m3 w') (fun _ => True) (by kernel_rfl) (by kernel_rfl) rfl (by kernel_rfl) (hs4.qt ((Qt.refl _).drewN 1)).bx (fun wd hqd _ => ?_)
    have hs := hs4.qt hqd
    refine mix_pur2 rfl (fun K hK => ?_)
    go_simp
    first | refine ⟨_, fun _ => rfl, hK _ ?_⟩ | refine hK _ ?_
    clear hK K
    refine mix_load2 rfl rfl rfl (.slice (some ⟨c1, 0, none⟩) 3 3) (fun w' h => by have h : (fun w' => BX b1 b2 b3 (.slice (some ⟨c1, 0, none⟩) 3 3) (.slice (some ⟨c2, 0, none⟩) 3 3) (.slice (some ⟨c3, 0, none⟩) 3 3) m1 m2 m3 w') w' := h; have h1 := h.1.cell 1; go_simp) rfl ?_
    refine mix_pur2 rfl (fun K hK => ?_)
    go_simp
    first | refine ⟨_, fun _ => rfl, hK _ ?_⟩ | refine hK _ ?_
    clear hK K
    refine mix_load2 rfl rfl rfl (.slice (some ⟨c1, 0, none⟩) 3 3) (fun w' h => by have h : (fun w' => BX b1 b2 b3 (.slice (some ⟨c1, 0, none⟩) 3 3) (.slice (some ⟨c2, 0, none⟩) 3 3) (.slice (some ⟨c3, 0, none⟩) 3 3) m1 m2 m3 w') w' := h; have h1 := h.1.cell 1; go_simp) rfl ?_
    refine mix_pur2 rfl (fun K hK => ?_)
    go_simp
    first | refine ⟨_, fun _ => rfl, hK _ ?_⟩ | refine hK _ ?_
    clear hK K
    refine mix_load2 rfl rfl rfl (.slice (some ⟨c2, 0, none⟩) 3 3) (fun w' h => by have h : (fun w' => BX b1 b2 b3 (.slice (some ⟨c1, 0, none⟩) 3 3) (.slice (some ⟨c2, 0, none⟩) 3 3) (.slice (some ⟨c3, 0, none⟩) 3 3) m1 m2 m3 w') w' := h; have h1 := h.2.1.cell 1; go_simp) rfl ?_
    refine mix_pur2 rfl (fun K hK => ?_)
    go_simp
    first | refine ⟨_, fun _ => rfl, hK _ ?_⟩ | refine hK _ ?_
    clear hK K
    refine mix_load2 rfl rfl rfl (.slice (some ⟨c3, 0, none⟩) 3 3) (fun w' h => by have h : (fun w' => BX b1 b2 b3 (.slice (some ⟨c1, 0, none⟩) 3 3) (.slice (some ⟨c2, 0, none⟩) 3 3) (.slice (some ⟨c3, 0, none⟩) 3 3) m1 m2 m3 w') w' := h; have h1 := h.2.2.cell 1; go_simp) rfl ?_
    refine mix_pur2 rfl (fun K hK => ?_)
    go_simp
    first | refine ⟨_, fun _ => rfl, hK _ ?_⟩ | refine hK _ ?_
    clear hK K
    refine mix_pur2 rfl (fun K hK => ?_)
    go_simp
    first | refine ⟨_, fun _ => rfl, hK _ ?_⟩ | refine hK _ ?_
    clear hK K
    refine mix_pur2 rfl (fun K hK => ?_)
    go_simp
    first | refine ⟨_, fun _ => rfl, hK _ ?_⟩ | refine hK _ ?_
    clear hK K
    refine mix_two2 rfl rfl false false rfl rfl (fun K hK => ?_) (fun K hK => ?_)
    · go_simp
      have hs := LS.lit (n := wd.heap.size) (by first | rfl | simp [World.setCell]) hs
      refine hK _ _ hs.bx ?_
      clear hK K
      refine mix_eff2 rfl false rfl (fun K hK => ?_)
      have f0 := hs.h1.fv.free 3
      have q0 := hs.h1.fv.cell 3
      unfold vcs at q0
      go_simp
      have hs := hs.set1 3 (.int .i64 31)
      refine hK _ _ hs.bx ?_
      clear hK K f0 q0
      refine mix_pur2 rfl (fun K hK => ?_)
      go_simp
      first | refine ⟨_, fun _ => rfl, hK _ ?_⟩ | refine hK _ ?_
      clear hK K
      refine mix_pur2 rfl (fun K hK => ?_)
      go_simp
      first | refine ⟨_, fun _ => rfl, hK _ ?_⟩ | refine hK _ ?_
      clear hK K
      refine mix_eff2 rfl false rfl (fun K hK => ?_)
      have f0 := hs.h1.fv.free 4
      have q0 := hs.h1.fv.cell 4
      unfold vcs at q0
      go_simp
      have hs := hs.set1 4 (.int .i64 61)
      refine hK _ _ hs.bx ?_
      clear hK K f0 q0
      refine mix_pur2 rfl (fun K hK => ?_)
      go_simp
      first | refine ⟨_, fun _ => rfl, hK _ ?_⟩ | refine hK _ ?_
      clear hK K
      refine mix_pur2 rfl (fun K hK => ?_)
      go_simp
      first | refine ⟨_, fun _ => rfl, hK _ ?_⟩ | refine hK _ ?_
      clear hK K
      refine mix_eff2 rfl false rfl (fun K hK => ?_)
      have f0 := hs.h2.fv.free 8
      have q0 := hs.h2.fv.cell 8
      unfold vcs at q0
      go_simp
      have hs := hs.set2 8 (.slice (some ⟨wd.heap.size, 0, none⟩) 3 3)
      refine hK _ _ hs.bx ?_
      clear hK K f0 q0
      refine mix_pur2 rfl (fun K hK => ?_)
      go_simp
      first | refine ⟨_, fun _ => rfl, hK _ ?_⟩ | refine hK _ ?_
      clear hK K
      refine mix_eff2 rfl true rfl (fun K hK => ?_)
      have f0 := hs.bx.2.2.free 1
      have q0 := hs.bx.2.2.cell 1
      go_simp
      have hs := hs.set3 (.slice (some ⟨c3, 0, none⟩) 2 3)
      refine hK _ _ trivial ?_
      clear hK K f0 q0
      refine mix_done2 ?_
      go_wp2_with fail
      go_meet
      case rel => exact ⟨rfl, wd.heap.size, hs⟩
    · have f0 := hs.h1.fv.free 3
      have q0 := hs.h1.fv.cell 3
      unfold vcs at q0
      go_simp
      have hs := hs.set1 3 (.int .i64 31)
      refine hK _ _ hs.bx ?_
      clear hK K f0 q0
      refine mix_pur2 rfl (fun K hK => ?_)
      go_simp
      first | refine ⟨_, fun _ => rfl, hK _ ?_⟩ | refine hK _ ?_
      clear hK K
      refine mix_pur2 rfl (fun K hK => ?_)
      go_simp
      first | refine ⟨_, fun _ => rfl, hK _ ?_⟩ | refine hK _ ?_
      clear hK K
      refine mix_two2 rfl rfl false false rfl rfl (fun K hK => ?_) (fun K hK => ?_)
      · go_simp
        have hs := LS.lit (n := wd.heap.size) (by first | rfl | simp [World.setCell]) hs
        refine hK _ _ hs.bx ?_
        clear hK K
        refine mix_eff2 rfl false rfl (fun K hK => ?_)
        have f0 := hs.h1.fv.free 4
        have q0 := hs.h1.fv.cell 4
        unfold vcs at q0
        go_simp
        have hs := hs.set1 4 (.int .i64 61)
        refine hK _ _ hs.bx ?_
        clear hK K f0 q0
        refine mix_pur2 rfl (fun K hK => ?_)
        go_simp
        first | refine ⟨_, fun _ => rfl, hK _ ?_⟩ | refine hK _ ?_
        clear hK K
        refine mix_pur2 rfl (fun K hK => ?_)
        go_simp
        first | refine ⟨_, fun _ => rfl, hK _ ?_⟩ | refine hK _ ?_
        clear hK K
        refine mix_eff2 rfl false rfl (fun K hK => ?_)
        have f0 := hs.h2.fv.free 8
        have q0 := hs.h2.fv.cell 8
        unfold vcs at q0
        go_simp
        have hs := hs.set2 8 (.slice (some ⟨wd.heap.size, 0, none⟩) 3 3)
        refine hK _ _ hs.bx ?_
        clear hK K f0 q0
        refine mix_pur2 rfl (fun K hK => ?_)
        go_simp
        first | refine ⟨_, fun _ => rfl, hK _ ?_⟩ | refine hK _ ?_
        clear hK K
        refine mix_eff2 rfl true rfl (fun K hK => ?_)
        have f0 := hs.bx.2.2.free 1
        have q0 := hs.bx.2.2.cell 1
        go_simp
        have hs := hs.set3 (.slice (some ⟨c3, 0, none⟩) 2 3)
        refine hK _ _ trivial ?_
        clear hK K f0 q0
        refine mix_done2 ?_
        go_wp2_with fail
        go_meet
        case rel => exact ⟨rfl, wd.heap.size, hs⟩
      · have f0 := hs.h1.fv.free 4
        have q0 := hs.h1.fv.cell 4
        unfold vcs at q0
        go_simp
        have hs := hs.set1 4 (.int .i64 61)
        refine hK _ _ hs.bx ?_
        clear hK K f0 q0
        refine mix_eff2 rfl false rfl (fun K hK => ?_)
        go_simp
        have hs := LS.lit (n := wd.heap.size) (by first | rfl | simp [World.setCell]) hs
        refine hK _ _ hs.bx ?_
        clear hK K
        refine mix_pur2 rfl (fun K hK => ?_)
        go_simp
        first | refine ⟨_, fun _ => rfl, hK _ ?_⟩ | refine hK _ ?_
        clear hK K
        refine mix_pur2 rfl (fun K hK => ?_)
        go_simp
        first | refine ⟨_, fun _ => rfl, hK _ ?_⟩ | refine hK _ ?_
        clear hK K
        refine mix_eff2 rfl false rfl (fun K hK => ?_)
        have f0 := hs.h2.fv.free 8
        have q0 := hs.h2.fv.cell 8
        unfold vcs at q0
        go_simp
        have hs := hs.set2 8 (.slice (some ⟨wd.heap.size, 0, none⟩) 3 3)
        refine hK _ _ hs.bx ?_
        clear hK K f0 q0
        refine mix_pur2 rfl (fun K hK => ?_)
        go_simp
        first | refine ⟨_, fun _ => rfl, hK _ ?_⟩ | refine hK _ ?_
        clear hK K
        refine mix_eff2 rfl true rfl (fun K hK => ?_)
        have f0 := hs.bx.2.2.free 1
        have q0 := hs.bx.2.2.cell 1
        go_simp
        have hs := hs.set3 (.slice (some ⟨c3, 0, none⟩) 2 3)
        refine hK _ _ trivial ?_
        clear hK K f0 q0
        refine mix_done2 ?_
        go_wp2_with fail
        go_meet
        case rel => exact ⟨rfl, wd.heap.size, hs⟩
  case rest =>
    obtain ⟨rfl, n2, hs⟩ := hcut
    rename World => w5
    go_wp2_with fail
    refine (drawn_c _).mono ?_
    rintro e w6 ⟨rfl, hB6⟩
    go_wp2_with fail
    refine (hills_c _).mono ?_
    rintro e w7 ⟨vm7, vv7, rfl, h7, hB7⟩
    go_wp2_with fail
    refine (kChkA h7).mono ?_
    rintro e w8 ⟨rfl, hB8⟩
    have hs8 := hs.call (bnx hB6 (bnx hB7 hB8))
    clear hs hB6 hB7 hB8 h7
    have d0 := hs8.bx.1.cell 0
    have d1 := hs8.bx.1.cell 1
    go_wp2_with fail
    refine (kChkB hs8.h1.great).mono ?_
    rintro e w9 ⟨rfl, hB9⟩
    have hs9 := hs8.call hB9
    clear hs8 hB9 d0 d1
    have d0 := hs9.bx.2.1.cell 0
    have d1 := hs9.bx.2.1.cell 1
    go_wp2_with fail
    refine (kChkC (hs9.h2.twice (hs9.qq n2 rfl).1)).mono ?_
    rintro e w10 ⟨rfl, hB10⟩
    have hs10 := hs9.call hB10
    clear hs9 hB10 d0 d1
    have d0 := hs10.bx.2.2.cell 0
    have d1 := hs10.bx.2.2.cell 1
    go_wp2_with fail
    refine (kChkD hs10.h3.two).mono ?_
    rintro e w11 ⟨rfl, hB11⟩
    have hJ := bnx hs10.bl hB11
    clear hs10 hB11 d0 d1
    go_wp2_with fail
    refine (hills_c _).mono ?_
    rintro e w21 ⟨vm21, vv21, rfl, h21, hB21⟩
    go_wp2_with fail
    refine (kA1 h21).mono ?_
    rintro e w22 ⟨v22, rfl, i22, hB22⟩
    have hC23 := bnx hB21 (hB22)
    have hJ23 := bnx hJ hC23
    clear hJ
    have hJ := hJ23
    clear hJ23
    clear hC23 hB21 hB22
    clear h21
    go_wp2_with fail
    refine (hills_c _).mono ?_
    rintro e w24 ⟨vm24, vv24, rfl, h24, hB24⟩
    go_wp2_with fail
    refine (kA2 h24).mono ?_
    rintro e w25 ⟨v25, rfl, i25, hB25⟩
    have hC26 := bnx hB24 (hB25)
    have hJ26 := bnx hJ hC26
    clear hJ
    have hJ := hJ26
    clear hJ26
    have ia_26 := i22.call hC26
    clear i22
    clear hC26 hB24 hB25
    clear h24
    go_wp2_with fail
    refine (hills_c _).mono ?_
    rintro e w27 ⟨vm27, vv27, rfl, h27, hB27⟩
    go_wp2_with fail
    refine (kN1 h27).mono ?_
    rintro e w28 ⟨rfl, hB28⟩
    have hC29 := bnx hB27 (hB28)
    have hJ29 := bnx hJ hC29
    clear hJ
    have hJ := hJ29
    clear hJ29
    have ia_29 := ia_26.call hC29
    clear ia_26
    have ib_29 := i25.call hC29
    clear i25
    clear hC29 hB27 hB28
    clear h27
    go_wp2_with fail
    refine (hills_c _).mono ?_
    rintro e w30 ⟨vm30, vv30, rfl, h30, hB30⟩
    go_wp2_with fail
    refine (kN2 h30).mono ?_
    rintro e w31 ⟨n31, rfl, hB31⟩
    have hC32 := bnx hB30 (hB31)
    have hJ32 := bnx hJ hC32
    clear hJ
    have hJ := hJ32
    clear hJ32
    have ia_32 := ia_29.call hC32
    clear ia_29
    have ib_32 := ib_29.call hC32
    clear ib_29
    clear hC32 hB30 hB31
    clear h30
    go_wp2_with fail
    refine (hills_c _).mono ?_
    rintro e w33 ⟨vm33, vv33, rfl, h33, hB33⟩
    go_wp2_with fail
    refine (kL1 h33).mono ?_
    rintro e w34 ⟨v34, rfl, i34, hB34⟩
    have hC35 := bnx hB33 (hB34)
    have hJ35 := bnx hJ hC35
    clear hJ
    have hJ := hJ35
    clear hJ35
    have ia_35 := ia_32.call hC35
    clear ia_32
    have ib_35 := ib_32.call hC35
    clear ib_32
    clear hC35 hB33 hB34
    clear h33
    go_wp2_with fail
    have hA36 := (Below.refl w34.heap.size w34).alloc (Nat.le_refl _) (.cells #[.int .i64 4, .int .i64 3, .int .i64 1] 3)
    refine (sameInts_t (ia_35.call hA36) (lt3 w34 4 3 1)).mono ?_
    rintro e w36 ⟨rfl, hB36⟩
    clear ia_35
    have hC37 := bnx hA36 (hB36)
    have hJ37 := bnx hJ hC37
    clear hJ
    have hJ := hJ37
    clear hJ37
    have ib_37 := ib_35.call hC37
    clear ib_35
    have ic_37 := i34.call hC37
    clear i34
    clear hC37 hA36 hB36
    go_wp2_with fail
    have hA38 := (Below.refl w36.heap.size w36).alloc (Nat.le_refl _) (.cells #[.int .i64 25, .int .i64 10, .int .i64 14] 3)
    refine (sameInts_t (ib_37.call hA38) (lt3 w36 25 10 14)).mono ?_
    rintro e w38 ⟨rfl, hB38⟩
    clear ib_37
    have hC39 := bnx hA38 (hB38)
    have hJ39 := bnx hJ hC39
    clear hJ
    have hJ := hJ39
    clear hJ39
    have ic_39 := ic_37.call hC39
    clear ic_37
    clear hC39 hA38 hB38
    go_wp2_with fail
    have hA40 := (Below.refl w38.heap.size w38).alloc (Nat.le_refl _) (.cells #[.int .i64 1, .int .i64 0, .int .i64 1] 3)
    refine (sameInts_t (ic_39.call hA40) (lt3 w38 1 0 1)).mono ?_
    rintro e w40 ⟨rfl, hB40⟩
    clear ic_39
    have hC41 := bnx hA40 (hB40)
    have hJ41 := bnx hJ hC41
    clear hJ
    have hJ := hJ41
    clear hJ41
    clear hC41 hA40 hB40
    go_wp2_with fail
    refine (hills_c _).mono ?_
    rintro e w42 ⟨vm42, vv42, rfl, h42, hB42⟩
    go_wp2_with fail
    have hA43 := (Below.refl w42.heap.size w42).alloc (Nat.le_refl _) (.cells #[.int .i64 0, .int .i64 1, .int .i64 2] 3)
    refine (kD1 (h42.call hA43) (lt3 w42 0 1 2)).mono ?_
    rintro e w43 ⟨v43, rfl, i43, hB43⟩
    have hC44 := bnx hB42 (bnx hA43 (hB43))
    have hJ44 := bnx hJ hC44
    clear hJ
    have hJ := hJ44
    clear hJ44
    clear hC44 hB42 hA43 hB43
    clear h42
    go_wp2_with fail
    refine (hills_c _).mono ?_
    rintro e w45 ⟨vm45, vv45, rfl, h45, hB45⟩
    go_wp2_with fail
    refine (kY1 h45).mono ?_
    rintro e w46 ⟨v46, rfl, i46, hB46⟩
    have hC47 := bnx hB45 (hB46)
    have hJ47 := bnx hJ hC47
    clear hJ
    have hJ := hJ47
    clear hJ47
    have ia_47 := i43.call hC47
    clear i43
    clear hC47 hB45 hB46
    clear h45
    go_wp2_with fail
    refine (hills_c _).mono ?_
    rintro e w48 ⟨vm48, vv48, rfl, h48, hB48⟩
    go_wp2_with fail
    have hA49 := (Below.refl w48.heap.size w48).alloc (Nat.le_refl _) (.cells #[.int .i64 1, .int .i64 2, .int .i64 0] 3)
    refine (kT1 (h48.call hA49) (lt3 w48 1 2 0)).mono ?_
    rintro e w49 ⟨v49, rfl, i49, hB49⟩
    have hC50 := bnx hB48 (bnx hA49 (hB49))
    have hJ50 := bnx hJ hC50
    clear hJ
    have hJ := hJ50
    clear hJ50
    have ia_50 := ia_47.call hC50
    clear ia_47
    have gy_50 := i46.call hC50
    clear i46
    clear hC50 hB48 hA49 hB49
    clear h48
    go_wp2_with fail
    refine (hills_c _).mono ?_
    rintro e w51 ⟨vm51, vv51, rfl, h51, hB51⟩
    go_wp2_with fail
    have hA52 := (Below.refl w51.heap.size w51).alloc (Nat.le_refl _) (.cells #[.int .i64 0, .int .i64 1, .int .i64 2] 3)
    refine (kS1 (h51.call hA52) (lt3 w51 0 1 2)).mono ?_
    rintro e w52 ⟨v52, u52, rfl, g52, i52, hB52⟩
    have hC53 := bnx hB51 (bnx hA52 (hB52))
    have hJ53 := bnx hJ hC53
    clear hJ
    have hJ := hJ53
    clear hJ53
    have ia_53 := ia_50.call hC53
    clear ia_50
    have gy_53 := gy_50.call hC53
    clear gy_50
    have ib_53 := i49.call hC53
    clear i49
    clear hC53 hB51 hA52 hB52
    clear h51
    go_wp2_with fail
    have hA54 := (Below.refl w52.heap.size w52).alloc (Nat.le_refl _) (.cells #[.int .i64 2, .int .i64 0, .int .i64 1] 3)
    refine (sameInts_t (ia_53.call hA54) (lt3 w52 2 0 1)).mono ?_
    rintro e w54 ⟨rfl, hB54⟩
    clear ia_53
    have hC55 := bnx hA54 (hB54)
    have hJ55 := bnx hJ hC55
    clear hJ
    have hJ := hJ55
    clear hJ55
    have gy_55 := gy_53.call hC55
    clear gy_53
    have ib_55 := ib_53.call hC55
    clear ib_53
    have gs_55 := g52.call hC55
    clear g52
    have ic_55 := i52.call hC55
    clear i52
    clear hC55 hA54 hB54
    go_wp2_with fail
    refine (sameGrids_t (gy_55.call (bY w54)) (gY w54)).mono ?_
    rintro e w56 ⟨rfl, hB56⟩
    have hA56 := bY w54
    clear gy_55
    have hC57 := bnx hA56 (hB56)
    have hJ57 := bnx hJ hC57
    clear hJ
    have hJ := hJ57
    clear hJ57
    have ib_57 := ib_55.call hC57
    clear ib_55
    have gs_57 := gs_55.call hC57
    clear gs_55
    have ic_57 := ic_55.call hC57
    clear ic_55
    clear hC57 hA56 hB56
    go_wp2_with fail
    have hA58 := (Below.refl w56.heap.size w56).alloc (Nat.le_refl _) (.cells #[.int .i64 1, .int .i64 2, .int .i64 0] 3)
    refine (sameInts_t (ib_57.call hA58) (lt3 w56 1 2 0)).mono ?_
    rintro e w58 ⟨rfl, hB58⟩
    clear ib_57
    have hC59 := bnx hA58 (hB58)
    have hJ59 := bnx hJ hC59
    clear hJ
    have hJ := hJ59
    clear hJ59
    have gs_59 := gs_57.call hC59
    clear gs_57
    have ic_59 := ic_57.call hC59
    clear ic_57
    clear hC59 hA58 hB58
    go_wp2_with fail
    refine (sameGrids_t (gs_59.call (bS w58)) (gS w58)).mono ?_
    rintro e w60 ⟨rfl, hB60⟩
    have hA60 := bS w58
    clear gs_59
    have hC61 := bnx hA60 (hB60)
    have hJ61 := bnx hJ hC61
    clear hJ
    have hJ := hJ61
    clear hJ61
    have ic_61 := ic_59.call hC61
    clear ic_59
    clear hC61 hA60 hB60
    go_wp2_with fail
    have hA62 := (Below.refl w60.heap.size w60).alloc (Nat.le_refl _) (.cells #[.int .i64 2, .int .i64 1, .int .i64 0] 3)
    refine (sameInts_t (ic_61.call hA62) (lt3 w60 2 1 0)).mono ?_
    rintro e w62 ⟨rfl, hB62⟩
    clear ic_61
    have hC63 := bnx hA62 (hB62)
    have hJ63 := bnx hJ hC63
    clear hJ
    have hJ := hJ63
    clear hJ63
    clear hC63 hA62 hB62
    go_wp2_with fail
    refine (hills_c _).mono ?_
    rintro e w64 ⟨vm64, vv64, rfl, h64, hB64⟩
    go_wp2_with fail
    have hA65 := (Below.refl w64.heap.size w64).alloc (Nat.le_refl _) (.cells #[.int .i64 0, .int .i64 1, .int .i64 2] 3)
    refine (kE1 (h64.call hA65) (lt3 w64 0 1 2)).mono ?_
    rintro e w65 ⟨v65, rfl, i65, hB65⟩
    have hC66 := bnx hB64 (bnx hA65 (hB65))
    have hJ66 := bnx hJ hC66
    clear hJ
    have hJ := hJ66
    clear hJ66
    clear hC66 hB64 hA65 hB65
    clear h64
    go_wp2_with fail
    refine (hills_c _).mono ?_
    rintro e w67 ⟨vm67, vv67, rfl, h67, hB67⟩
    go_wp2_with fail
    refine (kC1 h67).mono ?_
    rintro e w68 ⟨v68, rfl, i68, hB68⟩
    have hC69 := bnx hB67 (hB68)
    have hJ69 := bnx hJ hC69
    clear hJ
    have hJ := hJ69
    clear hJ69
    have ia_69 := i65.call hC69
    clear i65
    clear hC69 hB67 hB68
    clear h67
    go_wp2_with fail
    have hA70 := (Below.refl w68.heap.size w68).alloc (Nat.le_refl _) (.cells #[.int .i64 1, .int .i64 2, .int .i64 2] 3)
    refine (sameInts_t (ia_69.call hA70) (lt3 w68 1 2 2)).mono ?_
    rintro e w70 ⟨rfl, hB70⟩
    clear ia_69
    have hC71 := bnx hA70 (hB70)
    have hJ71 := bnx hJ hC71
    clear hJ
    have hJ := hJ71
    clear hJ71
    have ib_71 := i68.call hC71
    clear i68
    clear hC71 hA70 hB70
    go_wp2_with fail
    have hA72 := (Below.refl w70.heap.size w70).alloc (Nat.le_refl _) (.cells #[.int .i64 2, .int .i64 0, .int .i64 1] 3)
    refine (sameInts_t (ib_71.call hA72) (lt3 w70 2 0 1)).mono ?_
    rintro e w72 ⟨rfl, hB72⟩
    clear ib_71
    have hC73 := bnx hA72 (hB72)
    have hJ73 := bnx hJ hC73
    clear hJ
    have hJ := hJ73
    clear hJ73
    clear hC73 hA72 hB72
    go_wp2_with fail
    refine (hills_c _).mono ?_
    rintro e w74 ⟨vm74, vv74, rfl, h74, hB74⟩
    go_wp2_with fail
    have hA75 := (Below.refl w74.heap.size w74).alloc (Nat.le_refl _) (.cells #[.int .i64 0, .int .i64 1, .int .i64 2] 3)
    refine (kG1 (h74.call hA75) (lt3 w74 0 1 2)).mono ?_
    rintro e w75 ⟨v75, rfl, i75, hB75⟩
    have hC76 := bnx hB74 (bnx hA75 (hB75))
    have hJ76 := bnx hJ hC76
    clear hJ
    have hJ := hJ76
    clear hJ76
    clear hC76 hB74 hA75 hB75
    clear h74
    go_wp2_with fail
    refine (hills_c _).mono ?_
    rintro e w77 ⟨vm77, vv77, rfl, h77, hB77⟩
    go_wp2_with fail
    have hA78 := (Below.refl w77.heap.size w77).alloc (Nat.le_refl _) (.cells #[.int .i64 1, .int .i64 0, .int .i64 2] 3)
    refine (kG2 (h77.call hA78) (lt3 w77 1 0 2)).mono ?_
    rintro e w78 ⟨v78, rfl, i78, hB78⟩
    have hC79 := bnx hB77 (bnx hA78 (hB78))
    have hJ79 := bnx hJ hC79
    clear hJ
    have hJ := hJ79
    clear hJ79
    have ia_79 := i75.call hC79
    clear i75
    clear hC79 hB77 hA78 hB78
    clear h77
    go_wp2_with fail
    refine (hills_c _).mono ?_
    rintro e w80 ⟨vm80, vv80, rfl, h80, hB80⟩
    go_wp2_with fail
    have hA81 := (Below.refl w80.heap.size w80).alloc (Nat.le_refl _) (.cells #[.int .i64 2, .int .i64 0, .int .i64 1] 3)
    refine (kG3 (h80.call hA81) (lt3 w80 2 0 1)).mono ?_
    rintro e w81 ⟨v81, rfl, hB81⟩
    have hC82 := bnx hB80 (bnx hA81 (hB81))
    have hJ82 := bnx hJ hC82
    clear hJ
    have hJ := hJ82
    clear hJ82
    have ia_82 := ia_79.call hC82
    clear ia_79
    have ib_82 := i78.call hC82
    clear i78
    clear hC82 hB80 hA81 hB81
    clear h80
    go_wp2_with fail
    have hA83 := (Below.refl w81.heap.size w81).alloc (Nat.le_refl _) (.cells #[.int .i64 0, .int .i64 2] 3)
    refine (sameInts_t (ia_82.call hA83) (lt2 w81 0 2)).mono ?_
    rintro e w83 ⟨rfl, hB83⟩
    clear ia_82
    have hC84 := bnx hA83 (hB83)
    have hJ84 := bnx hJ hC84
    clear hJ
    have hJ := hJ84
    clear hJ84
    have ib_84 := ib_82.call hC84
    clear ib_82
    clear hC84 hA83 hB83
    go_wp2_with fail
    have hA85 := (Below.refl w83.heap.size w83).alloc (Nat.le_refl _) (.cells #[.int .i64 0, .int .i64 2] 3)
    refine (sameInts_t (ib_84.call hA85) (lt2 w83 0 2)).mono ?_
    rintro e w85 ⟨rfl, hB85⟩
    clear ib_84
    have hC86 := bnx hA85 (hB85)
    have hJ86 := bnx hJ hC86
    clear hJ
    have hJ := hJ86
    clear hJ86
    clear hC86 hA85 hB85
    go_wp2_with fail
    refine (hills_c _).mono ?_
    rintro e w87 ⟨vm87, vv87, rfl, h87, hB87⟩
    go_wp2_with fail
    have hA88 := (Below.refl w87.heap.size w87).alloc (Nat.le_refl _) (.cells #[.int .i64 0, .int .i64 1, .int .i64 2] 3)
    refine (kO1 (h87.call hA88) (lt3 w87 0 1 2)).mono ?_
    rintro e w88 ⟨v88, rfl, i88, hB88⟩
    have hC89 := bnx hB87 (bnx hA88 (hB88))
    have hJ89 := bnx hJ hC89
    clear hJ
    have hJ := hJ89
    clear hJ89
    clear hC89 hB87 hA88 hB88
    clear h87
    go_wp2_with fail
    refine (hills_c _).mono ?_
    rintro e w90 ⟨vm90, vv90, rfl, h90, hB90⟩
    go_wp2_with fail
    have hA91 := (Below.refl w90.heap.size w90).alloc (Nat.le_refl _) (.cells #[.int .i64 2, .int .i64 0, .int .i64 1] 3)
    refine (kO2 (h90.call hA91) (lt3 w90 2 0 1)).mono ?_
    rintro e w91 ⟨v91, rfl, i91, hB91⟩
    have hC92 := bnx hB90 (bnx hA91 (hB91))
    have hJ92 := bnx hJ hC92
    clear hJ
    have hJ := hJ92
    clear hJ92
    have ia_92 := i88.call hC92
    clear i88
    clear hC92 hB90 hA91 hB91
    clear h90
    go_wp2_with fail
    refine (hills_c _).mono ?_
    rintro e w93 ⟨vm93, vv93, rfl, h93, hB93⟩
    go_wp2_with fail
    refine (kR1 h93).mono ?_
    rintro e w94 ⟨v94, rfl, i94, hB94⟩
    have hC95 := bnx hB93 (hB94)
    have hJ95 := bnx hJ hC95
    clear hJ
    have hJ := hJ95
    clear hJ95
    have ia_95 := ia_92.call hC95
    clear ia_92
    have ib_95 := i91.call hC95
    clear i91
    clear hC95 hB93 hB94
    clear h93
    go_wp2_with fail
    refine (hills_c _).mono ?_
    rintro e w96 ⟨vm96, vv96, rfl, h96, hB96⟩
    go_wp2_with fail
    refine (kWrite h96).mono ?_
    rintro e w97 ⟨rfl, hB97⟩
    have hC98 := bnx hB96 (hB97)
    have hJ98 := bnx hJ hC98
    clear hJ
    have hJ := hJ98
    clear hJ98
    have ia_98 := ia_95.call hC98
    clear ia_95
    have ib_98 := ib_95.call hC98
    clear ib_95
    have ic_98 := i94.call hC98
    clear i94
    clear hC98 hB96 hB97
    clear h96
    go_wp2_with fail
    have hA99 := (Below.refl w97.heap.size w97).alloc (Nat.le_refl _) (.cells #[.int .i64 0, .int .i64 0, .int .i64 2] 3)
    refine (sameInts_t (ia_98.call hA99) (lt3 w97 0 0 2)).mono ?_
    rintro e w99 ⟨rfl, hB99⟩
    clear ia_98
    have hC100 := bnx hA99 (hB99)
    have hJ100 := bnx hJ hC100
    clear hJ
    have hJ := hJ100
    clear hJ100
    have ib_100 := ib_98.call hC100
    clear ib_98
    have ic_100 := ic_98.call hC100
    clear ic_98
    clear hC100 hA99 hB99
    go_wp2_with fail
    have hA101 := (Below.refl w99.heap.size w99).alloc (Nat.le_refl _) (.cells #[.int .i64 13, .int .i64 0, .int .i64 0] 3)
    refine (sameInts_t (ib_100.call hA101) (lt3 w99 13 0 0)).mono ?_
    rintro e w101 ⟨rfl, hB101⟩
    clear ib_100
    have hC102 := bnx hA101 (hB101)
    have hJ102 := bnx hJ hC102
    clear hJ
    have hJ := hJ102
    clear hJ102
    have ic_102 := ic_100.call hC102
    clear ic_100
    clear hC102 hA101 hB101
    go_wp2_with fail
    have hA103 := (Below.refl w101.heap.size w101).alloc (Nat.le_refl _) (.cells #[.int .i64 0, .int .i64 2, .int .i64 1] 3)
    refine (sameInts_t (ic_102.call hA103) (lt3 w101 0 2 1)).mono ?_
    rintro e w103 ⟨rfl, hB103⟩
    clear ic_102
    have hC104 := bnx hA103 (hB103)
    have hJ104 := bnx hJ hC104
    clear hJ
    have hJ := hJ104
    clear hJ104
    clear hC104 hA103 hB103
    go_wp2
    go_ret
    refine ⟨?_, hJ⟩
    show Ending.returned (.bool ((str txK).toList == txK)) = _
    rw [show (str txK).toList = txK from ByteArray.toList_mk txK, beq_self_eq_true]

end Go.Proofs.YtmlikgjfpmjdcaaDoor
