/- Blocks known whole, and what is kept by acts on blocks of one's own; conditions: none. -/
import Derived.Test.YtgdifckmjdjcpaaMix2
import Derived.Test.YtgdifckmjdjcpaaHand2
import Derived.RangeFuncNested
import Derived.RangeFuncBound
import Derived.RangeFuncCalls
import Derived.RangeFuncLeaves
import Derived.Recover
import Derived.IntWalk
import Derived.Deep.DeepCutAuto
namespace Go.Proofs.Ytgdifckmjdjcpaa
open Go.RowKit

/-- A block known whole. -/
def Blk (b : Nat) (c : Array Value) (t : TypeId) (w : World) : Prop := w.heap[b]? = some (.cells c t (0, 0))
theorem Blk.keep {b : Nat} {c : Array Value} {t : TypeId} {w w' : World} (h : Blk b c t w) (hb : w'.heap[b]? = w.heap[b]?) : Blk b c t w' := hb.trans h
theorem Blk.cell {b : Nat} {c : Array Value} {t : TypeId} {w : World} (h : Blk b c t w) (j : Nat) : w.cell? ⟨b, j, none⟩ = c[j]? := by
  unfold Blk at h
  rw [World.cell?, h]
  rfl
theorem Blk.free {b : Nat} {c : Array Value} {t : TypeId} {w : World} (h : Blk b c t w) (j : Nat) : w.frozen? ⟨b, j, none⟩ = false := by
  unfold Blk at h
  rw [World.frozen?, h]
  simp
theorem Blk.set {b : Nat} {c : Array Value} {t : TypeId} {w : World} (h : Blk b c t w) (j : Nat) (v : Value) : Blk b (c.setIfInBounds j v) t (w.setCell ⟨b, j, none⟩ v) := by
  unfold Blk at *
  simp only [World.setCell, Array.getElem?_modify, h]
  simp
theorem Blk.new (w : World) (c : Array Value) (t : TypeId) : Blk w.heap.size c t (w.alloc (.cells c t)) := heap_alloc_new w _
theorem Blk.lt {b : Nat} {c : Array Value} {t : TypeId} {w : World} (h : Blk b c t w) : b < w.heap.size := (Array.getElem?_eq_some_iff.1 h).1
theorem Blk.below {b B : Nat} {c : Array Value} {t : TypeId} {w w' : World} (h : Blk b c t w) (hB : Below B w w') (hb : b < B) : Blk b c t w' := h.keep (hB.block b hb)
theorem Blk.call {b : Nat} {c : Array Value} {t : TypeId} {w w' : World} (h : Blk b c t w) (hB : Below w.heap.size w w') : Blk b c t w' := h.below hB h.lt
theorem Blk.other {b : Nat} {c : Array Value} {t : TypeId} {w : World} (h : Blk b c t w) {a : Addr} (ha : b ≠ a.block) (u : Value) : Blk b c t (w.setCell a u) := h.keep (Below.heap_setCell w a u b ha)
theorem Blk.alloc {b : Nat} {c : Array Value} {t : TypeId} {w : World} (h : Blk b c t w) (o : Obj) : Blk b c t (w.alloc o) := h.keep (Below.heap_alloc w o b h.lt)

/-- Storing three cells. -/
theorem Blk.set3 {b : Nat} {x y z x' y' z' : Value} {t : TypeId} {w : World} (h : Blk b #[x, y, z] t w) : Blk b #[x', y', z'] t (((w.setCell ⟨b, 0, none⟩ x').setCell ⟨b, 1, none⟩ y').setCell ⟨b, 2, none⟩ z') :=
  ((h.set 0 x').set 1 y').set 2 z'

/-- Only own blocks may have turned; and there may be new ones. -/
structure Keep (own : Nat → Prop) (w w' : World) : Prop where
  os : w'.os = w.os
  tape : w'.tape = w.tape
  output : w'.output = w.output
  size : w.heap.size ≤ w'.heap.size
  block : ∀ k, k < w.heap.size → ¬ own k → w'.heap[k]? = w.heap[k]?

theorem Keep.refl (own : Nat → Prop) (w : World) : Keep own w w := ⟨rfl, rfl, rfl, Nat.le_refl _, fun _ _ _ => rfl⟩
theorem Keep.trans {own : Nat → Prop} {a b c : World} (h : Keep own a b) (k : Keep own b c) : Keep own a c :=
  ⟨k.os.trans h.os, k.tape.trans h.tape, k.output.trans h.output, Nat.le_trans h.size k.size, fun i hi ho => (k.block i (Nat.lt_of_lt_of_le hi h.size) ho).trans (h.block i hi ho)⟩
theorem Keep.mono {own own' : Nat → Prop} {a b : World} (h : Keep own a b) (hm : ∀ k, k < a.heap.size → own k → own' k) : Keep own' a b :=
  ⟨h.os, h.tape, h.output, h.size, fun i hi ho => h.block i hi (fun e => ho (hm i hi e))⟩
theorem Keep.of_below {B : Nat} {own : Nat → Prop} {a b : World} (h : Below B a b) (hB : ∀ k, k < a.heap.size → ¬ own k → k < B) : Keep own a b :=
  ⟨h.os, h.tape, h.output, h.size, fun k hk ho => h.block k (hB k hk ho)⟩
theorem Keep.call {own : Nat → Prop} {a b : World} (h : Below a.heap.size a b) : Keep own a b := Keep.of_below h fun _ hk _ => hk
theorem Keep.qt {own : Nat → Prop} {a b : World} (h : Qt a b) : Keep own a b := Keep.call (h.below _)
theorem Keep.drewN {own : Nat → Prop} {a b : World} (h : Keep own a b) (n : Nat) : Keep own a (b.drewN n) := ⟨h.os, h.tape, h.output, h.size, h.block⟩
theorem Keep.alloc {own : Nat → Prop} (w : World) (o : Obj) : Keep own w (w.alloc o) := Keep.call ((Below.refl _ w).alloc (Nat.le_refl _) o)
theorem Keep.setCell {own : Nat → Prop} (w : World) (a : Addr) (u : Value) (h : own a.block) : Keep own w (w.setCell a u) :=
  ⟨rfl, rfl, rfl, by simp [World.setCell], fun k _ ho => Below.heap_setCell w a u k (fun e => ho (e ▸ h))⟩
theorem Keep.turned {own : Nat → Prop} {w w' : World} {v v' : Value} (h : Turned w w' v v') (ho : ∀ k, v.ownBlock = some k → own k) : Keep own w w' :=
  ⟨h.os, h.tape, h.output, h.size, fun k hk hn => h.block k hk (fun e => hn (ho k e))⟩
theorem Keep.putObj {own : Nat → Prop} (w : World) (r : Nat) (o : Obj) (h : own r) : Keep own w (w.putObj r o) :=
  ⟨rfl, rfl, rfl, by simp, fun k _ ho => World.putObj_heap_other (fun e => ho (e ▸ h))⟩
theorem Keep.below {own : Nat → Prop} {B : Nat} {a b : World} (h : Keep own a b) (hB : B ≤ a.heap.size) (ho : ∀ k, k < B → ¬ own k) : Below B a b :=
  ⟨h.os, h.tape, h.output, h.size, fun k hk => h.block k (by omega) (ho k hk)⟩

theorem blk_at {w : World} {k : Nat} (h : k = w.heap.size) (c : Array Value) (t : TypeId) : Blk k c t (w.alloc (.cells c t)) := by
  subst h
  exact Blk.new w c t
theorem bnx {a b c : World} (h : Below a.heap.size a b) (k : Below b.heap.size b c) : Below a.heap.size a c := h.trans (k.mono h.size)
theorem Blk.hand {b hb : Nat} {cs : Array Value} {t : TypeId} {w w' : World} (h : Blk b cs t w) (ho : w.grownBy w' (some hb)) (hB : b ≠ hb) : Blk b cs t w' := h.keep (ho.block b h.lt (fun e => hB (by injection e)))
theorem Blk.qt {b : Nat} {cs : Array Value} {t : TypeId} {w w' : World} (h : Blk b cs t w) (q : Qt w w') : Blk b cs t w' := by
  obtain ⟨n, rfl⟩ := q
  exact h
theorem bhand {a w w' : World} {hb : Nat} (h : Below a.heap.size a w) (ho : w.grownBy w' (some hb)) (hB : a.heap.size ≤ hb) : Below a.heap.size a w' := h.grown ho h.size (fun k e => by injection e with e; omega)

end Go.Proofs.Ytgdifckmjdjcpaa
