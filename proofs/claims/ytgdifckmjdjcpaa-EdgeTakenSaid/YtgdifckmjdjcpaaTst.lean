/- What stands while EdgeFines and EdgeTaken deal their inputs: the hand, two edges in boxes, two lists of furrows, literals; conditions: none. -/
import Derived.Test.YtgdifckmjdjcpaaFst
import Derived.Test.YtgdifckmjdjcpaaCpf
import Derived.Test.YtgdifckmjdjcpaaFof
namespace Go.Proofs.Ytgdifckmjdjcpaa
open Go.RowKit

/-- The hand, an edge that was given, one that was made, a list of furrows of each; literals of edges, of lists of furrows, of numbers. -/
structure FuC (w : World) (hb bx : Nat) (x : Edg) (vx : Value) (bm : Nat) (m : Edg) (vm vl : Value) (l : List Fu) (vf : Value) (f : List Fu) (e s i : Option (Nat × Array Value)) (K : Nat) (u : World) : Prop where
  hnd : ∃ k, k ≤ K ∧ Hnd u hb k
  hX : Blk bx #[.int .i64 x.points, .int .i64 x.bend, vx] 24 u
  hM : Blk bm #[.int .i64 m.points, .int .i64 m.bend, vm] 24 u
  rx : ClsM (fun q => q ≠ hb) u vx x.claims
  rm : ClsM (fun q => q ≠ hb) u vm m.claims
  rl : FusM (fun q => q ≠ hb) u vl l
  rf : FusM (fun q => q ≠ hb) u vf f
  he : ∀ q cs, e = some (q, cs) → Blk q cs 24 u
  hs : ∀ q cs, s = some (q, cs) → Blk q cs 44 u
  hi : ∀ q cs, i = some (q, cs) → Blk q cs 3 u
  below : Below w.heap.size w u
  hw : w.heap.size ≤ hb
section
variable {w u u' : World} {hb bx bm K K' : Nat} {x m : Edg} {vx vm vl vf : Value} {l f : List Fu} {e s i : Option (Nat × Array Value)}
theorem FuC.call (h : FuC w hb bx x vx bm m vm vl l vf f e s i K u) (hB : Below u.heap.size u u') : FuC w hb bx x vx bm m vm vl l vf f e s i K u' :=
  ⟨by obtain ⟨k, h1, h2⟩ := h.hnd; exact ⟨k, h1, h2.call hB⟩, h.hX.call hB, h.hM.call hB, h.rx.call hB, h.rm.call hB, h.rl.call hB, h.rf.call hB, fun q cs e => (h.he q cs e).call hB, fun q cs e => (h.hs q cs e).call hB, fun q cs e => (h.hi q cs e).call hB, bnx h.below hB, h.hw⟩
theorem FuC.qt (h : FuC w hb bx x vx bm m vm vl l vf f e s i K u) (q : Qt u u') : FuC w hb bx x vx bm m vm vl l vf f e s i K u' := h.call (q.below _)
theorem FuC.hand (h : FuC w hb bx x vx bm m vm vl l vf f e s i K u) (hk : ∃ k', k' ≤ K' ∧ Hnd u' hb k') (hG : u.grownBy u' (some hb)) : FuC w hb bx x vx bm m vm vl l vf f e s i K' u' :=
  ⟨hk, h.hX.hand hG (h.hX.ne_hnd h.hnd (by decide)), h.hM.hand hG (h.hM.ne_hnd h.hnd (by decide)), h.rx.only hG (fun e => e rfl), h.rm.only hG (fun e => e rfl), h.rl.only hG (fun e => e rfl), h.rf.only hG (fun e => e rfl),
    fun q cs e => (h.he q cs e).hand hG ((h.he q cs e).ne_hnd h.hnd (by decide)), fun q cs e => (h.hs q cs e).hand hG ((h.hs q cs e).ne_hnd h.hnd (by decide)), fun q cs e => (h.hi q cs e).hand hG ((h.hi q cs e).ne_hnd h.hnd (by decide)), bhand h.below hG h.hw, h.hw⟩
theorem FuC.lite (h : FuC w hb bx x vx bm m vm vl l vf f none s i K u) (cs : Array Value) : FuC w hb bx x vx bm m vm vl l vf f (some (u.heap.size, cs)) s i K (u.alloc (.cells cs 24)) := by
  have h1 := h.call ((Below.refl u.heap.size u).alloc (Nat.le_refl _) (.cells cs 24))
  refine ⟨h1.hnd, h1.hX, h1.hM, h1.rx, h1.rm, h1.rl, h1.rf, fun q cs' e => ?_, h1.hs, h1.hi, h1.below, h1.hw⟩
  cases e
  exact Blk.new _ _ _
theorem FuC.lits (h : FuC w hb bx x vx bm m vm vl l vf f e none i K u) (cs : Array Value) : FuC w hb bx x vx bm m vm vl l vf f e (some (u.heap.size, cs)) i K (u.alloc (.cells cs 44)) := by
  have h1 := h.call ((Below.refl u.heap.size u).alloc (Nat.le_refl _) (.cells cs 44))
  refine ⟨h1.hnd, h1.hX, h1.hM, h1.rx, h1.rm, h1.rl, h1.rf, h1.he, fun q cs' e => ?_, h1.hi, h1.below, h1.hw⟩
  cases e
  exact Blk.new _ _ _
theorem FuC.liti (h : FuC w hb bx x vx bm m vm vl l vf f e s none K u) (cs : Array Value) : FuC w hb bx x vx bm m vm vl l vf f e s (some (u.heap.size, cs)) K (u.alloc (.cells cs 3)) := by
  have h1 := h.call ((Below.refl u.heap.size u).alloc (Nat.le_refl _) (.cells cs 3))
  refine ⟨h1.hnd, h1.hX, h1.hM, h1.rx, h1.rm, h1.rl, h1.rf, h1.he, h1.hs, fun q cs' e => ?_, h1.below, h1.hw⟩
  cases e
  exact Blk.new _ _ _
end
end Go.Proofs.Ytgdifckmjdjcpaa
