/- What stands while a law deals its inputs: the hand, the edge in its block, a box in which a claim will lie; conditions: none. -/
import Derived.Test.YtgdifckmjdjcpaaIdl
import Derived.Test.YtgdifckmjdjcpaaEof
namespace Go.Proofs.Ytgdifckmjdjcpaa
open Go.RowKit

/-- The hand, the edge, perhaps a box; all grown since the world w. -/
structure HXA (w : World) (bx N2 n : Nat) (B : Int) (v : Value) (l : List Cl) (bo : Option Nat) (K : Nat) (c : World) : Prop where
  hnd : ∃ k, k ≤ K ∧ Hnd c w.heap.size k
  xr : XR bx (n : Int) B v c
  cl : ClsM (fun q => w.heap.size < q ∧ q < N2) c v l
  al : ∀ b, bo = some b → Blk b #[.int .i64 0, .int .i64 0, .int .i64 0, .int .i64 0, .int .i64 0] 26 c ∧ N2 ≤ b
  below : Below w.heap.size w c
  hz : N2 ≤ c.heap.size
  hN : w.heap.size < N2
  hbx : w.heap.size < bx ∧ bx < N2
section
variable {w c c' : World} {bx N2 n K K' : Nat} {B : Int} {v : Value} {l : List Cl} {bo : Option Nat}
theorem HXA.hlt (h : HXA w bx N2 n B v l bo K c) : w.heap.size < c.heap.size := Nat.lt_of_lt_of_le h.hN h.hz
theorem HXA.call (h : HXA w bx N2 n B v l bo K c) (hB : Below c.heap.size c c') : HXA w bx N2 n B v l bo K c' :=
  ⟨by obtain ⟨k, h1, h2⟩ := h.hnd; exact ⟨k, h1, h2.call hB⟩, Blk.call h.xr hB, h.cl.call hB, fun b e => ⟨(h.al b e).1.call hB, (h.al b e).2⟩, bnx h.below hB, Nat.le_trans h.hz hB.size, h.hN, h.hbx⟩
theorem HXA.qt (h : HXA w bx N2 n B v l bo K c) (q : Qt c c') : HXA w bx N2 n B v l bo K c' := h.call (q.below _)
theorem HXA.hand (h : HXA w bx N2 n B v l bo K c) (hk : ∃ k', k' ≤ K' ∧ Hnd c' w.heap.size k') (hG : c.grownBy c' (some w.heap.size)) : HXA w bx N2 n B v l bo K' c' :=
  ⟨hk, Blk.hand h.xr hG (by have := h.hbx; omega), Elems.only h.cl hG (by omega), fun b e => ⟨(h.al b e).1.hand hG (by have := (h.al b e).2; have := h.hN; omega), (h.al b e).2⟩, bhand h.below hG (Nat.le_refl _), Nat.le_trans h.hz hG.size, h.hN, h.hbx⟩
theorem HXA.box (h : HXA w bx N2 n B v l none K c) : HXA w bx N2 n B v l (some c.heap.size) K (c.alloc (.cells #[.int .i64 0, .int .i64 0, .int .i64 0, .int .i64 0, .int .i64 0] 26)) := by
  have h1 := h.call ((Below.refl c.heap.size c).alloc (Nat.le_refl _) (.cells #[.int .i64 0, .int .i64 0, .int .i64 0, .int .i64 0, .int .i64 0] 26))
  refine ⟨h1.hnd, h1.xr, h1.cl, fun b e => ?_, h1.below, h1.hz, h1.hN, h1.hbx⟩
  injection e with e
  subst e
  exact ⟨Blk.new _ _ _, h.hz⟩
theorem HXA.mono (h : HXA w bx N2 n B v l bo K c) (hk : K ≤ K') : HXA w bx N2 n B v l bo K' c := ⟨by obtain ⟨k, h1, h2⟩ := h.hnd; exact ⟨k, by omega, h2⟩, h.xr, h.cl, h.al, h.below, h.hz, h.hN, h.hbx⟩
/-- Acts on blocks from N2 on. -/
theorem HXA.far (h : HXA w bx N2 n B v l bo K c) (hB : Below N2 c c') : HXA w bx N2 n B v l none K c' :=
  ⟨by obtain ⟨k, h1, h2⟩ := h.hnd; exact ⟨k, h1, h2.below hB h.hN⟩, Blk.below h.xr hB h.hbx.2, h.cl.below hB fun q hq _ => hq.2, fun b e => (by cases e), h.below.trans (hB.mono (Nat.le_of_lt h.hN)), Nat.le_trans h.hz hB.size, h.hN, h.hbx⟩
theorem HXA.put {ba : Nat} (h : HXA w bx N2 n B v l (some ba) K c) (d : Cl) :
    HXA w bx N2 n B v l none K (((((c.setCell ⟨ba, 0, none⟩ (.int .i64 d.kind)).setCell ⟨ba, 1, none⟩ (.int .i64 d.point)).setCell ⟨ba, 2, none⟩ (.int .i64 d.other)).setCell ⟨ba, 3, none⟩ (.int .i64 d.off)).setCell ⟨ba, 4, none⟩ (.int .i64 d.err)) ∧
    Blk ba #[.int .i64 d.kind, .int .i64 d.point, .int .i64 d.other, .int .i64 d.off, .int .i64 d.err] 26 (((((c.setCell ⟨ba, 0, none⟩ (.int .i64 d.kind)).setCell ⟨ba, 1, none⟩ (.int .i64 d.point)).setCell ⟨ba, 2, none⟩ (.int .i64 d.other)).setCell ⟨ba, 3, none⟩ (.int .i64 d.off)).setCell ⟨ba, 4, none⟩ (.int .i64 d.err)) := by
  obtain ⟨h1, h2⟩ := h.al ba rfl
  refine ⟨h.far (((((((Below.refl _ c).setCell (p := ⟨ba, 0, none⟩) h2 _).setCell (p := ⟨ba, 1, none⟩) h2 _).setCell (p := ⟨ba, 2, none⟩) h2 _).setCell (p := ⟨ba, 3, none⟩) h2 _).setCell (p := ⟨ba, 4, none⟩) h2 _)), ?_⟩
  exact ((((h1.set 0 _).set 1 _).set 2 _).set 3 _).set 4 _
end

theorem rg_gs {s : Bs} {p : Nat} (hp : p < s.length) : s[p].1 = gl s p ∧ s[p].2 = gh s p := by
  have e : s.getD p (0, 0) = s[p] := by rw [List.getD_eq_getElem?_getD, List.getElem?_eq_getElem hp]; rfl
  unfold gl gh
  rw [e]
  exact ⟨rfl, rfl⟩
theorem own_ne_t {B n b sz : Nat} {e t : TypeId} {w : World} {v : Value} {xs : List Value} {c : Array Value} (h : Own B w e sz v n xs) (hX : Blk b c t w) (hn : e ≠ t) : v.ownBlock ≠ some b := by
  rcases h.2 with ⟨rfl, _⟩ | ⟨g, cap, cur, rfl, hb, hg, -⟩
  · simp [Value.ownBlock]
  · simp only [Value.ownBlock]
    intro hq
    injection hq with hq
    subst hq
    unfold Blk at hX
    rw [hX] at hg
    simp at hg
    exact hn hg.2.symm
theorem own_apart {B B' n n' sz sz' : Nat} {e e' : TypeId} {w : World} {v v' : Value} {xs xs' : List Value} (h : Own B w e sz v n xs) (h' : Own B' w e' sz' v' n' xs') (hn : e ≠ e') (q : Nat) (hq : v'.ownBlock = some q) : v.ownBlock ≠ some q := by
  rcases h'.2 with ⟨rfl, _⟩ | ⟨g, cap, cur, rfl, hb, hg, -⟩
  · simp [Value.ownBlock] at hq
  · simp only [Value.ownBlock] at hq
    injection hq with hq
    subst hq
    exact own_ne_t h (c := cur) hg hn
/-- Two rows in the making: claims, whose slice lies in a block, and offsets; literals apart from them. -/
structure StS (N : Nat) (w0 : World) (by0 : Nat) (P B : Int) (vb vy : Value) (Ly : List Cl) (vi : Value) (Li : List Int) (li : Option (Nat × Int)) (lc : Option (Nat × Cl)) (c : World) : Prop where
  below : Below N w0 c
  big : N ≤ c.heap.size
  hN : N ≤ by0
  y : Blk by0 #[.int .i64 P, .int .i64 B, vb] 24 c
  ro : Own N c 26 5 vy Ly.length (Ly.flatMap ccells)
  ri : Own N c 3 1 vi Li.length (I64 Li)
  li : ∀ b a, li = some (b, a) → Blk b #[.int .i64 a] 3 c ∧ vi.ownBlock ≠ some b
  lc : ∀ b d, lc = some (b, d) → Blk b (ccells d).toArray 26 c ∧ vy.ownBlock ≠ some b
section
variable {N by0 : Nat} {w0 c c' : World} {P B : Int} {vb vy vi v' : Value} {Ly : List Cl} {Li : List Int} {li : Option (Nat × Int)} {lc : Option (Nat × Cl)}
theorem StS.call (h : StS N w0 by0 P B vb vy Ly vi Li li lc c) (hB : Below c.heap.size c c') : StS N w0 by0 P B vb vy Ly vi Li li lc c' :=
  ⟨h.below.trans (hB.mono h.big), Nat.le_trans h.big hB.size, h.hN, h.y.call hB, h.ro.call hB, h.ri.call hB, fun b a e => ⟨(h.li b a e).1.call hB, (h.li b a e).2⟩, fun b a e => ⟨(h.lc b a e).1.call hB, (h.lc b a e).2⟩⟩
theorem StS.qt (h : StS N w0 by0 P B vb vy Ly vi Li li lc c) (q : Qt c c') : StS N w0 by0 P B vb vy Ly vi Li li lc c' := h.call (q.below _)
theorem StS.liti (h : StS N w0 by0 P B vb vy Ly vi Li none lc c) (a : Int) : StS N w0 by0 P B vb vy Ly vi Li (some (c.heap.size, a)) lc (c.alloc (.cells #[.int .i64 a] 3)) := by
  have h1 := h.call ((Below.refl c.heap.size c).alloc (Nat.le_refl _) (.cells #[.int .i64 a] 3))
  refine ⟨h1.below, h1.big, h1.hN, h1.y, h1.ro, h1.ri, fun b d e => ?_, h1.lc⟩
  injection e with e
  injection e with e1 e2
  subst e1
  subst e2
  exact ⟨Blk.new _ _ _, fun e => by have := (World.ownsRow.lt h.ri _ e).2; omega⟩
theorem StS.litc (h : StS N w0 by0 P B vb vy Ly vi Li li none c) (d : Cl) {W : World} (hW : W = c.alloc (.cells (ccells d).toArray 26)) : StS N w0 by0 P B vb vy Ly vi Li li (some (c.heap.size, d)) W := by
  subst hW
  have h1 := h.call ((Below.refl c.heap.size c).alloc (Nat.le_refl _) (.cells (ccells d).toArray 26))
  refine ⟨h1.below, h1.big, h1.hN, h1.y, h1.ro, h1.ri, h1.li, fun b d' e => ?_⟩
  injection e with e
  injection e with e1 e2
  subst e1
  subst e2
  exact ⟨Blk.new _ _ _, fun e => by have := (World.ownsRow.lt h.ro _ e).2; omega⟩
theorem StS.turnY {lx : Option (Nat × Cl)} (h : StS N w0 by0 P B vb vy Ly vi Li li lx c) {d : Cl} (hO : Own N c' 26 5 v' (Ly.length + 1) (Ly.flatMap ccells ++ ccells d)) (hT : Turned c c' vy v') : StS N w0 by0 P B vb v' (Ly ++ [d]) vi Li li none c' :=
  ⟨hT.below2 h.ro h.below h.big (Nat.le_refl _), Nat.le_trans h.big hT.size, h.hN, h.y.keep (hT.block _ h.y.lt (own_ne_t h.ro h.y (by decide))), by
    rw [List.length_append, List.length_singleton, cls_snoc]; exact hO, h.ri.step fun q hq _ hl => hT.block q hl (own_apart h.ro h.ri (by decide) q hq),
    fun b a e => ⟨(h.li b a e).1.keep (hT.block _ (h.li b a e).1.lt (own_ne_t h.ro (h.li b a e).1 (by decide))), (h.li b a e).2⟩, fun b d e => (by cases e)⟩
theorem StS.turnI {lx : Option (Nat × Int)} (h : StS N w0 by0 P B vb vy Ly vi Li lx lc c) {a : Int} (hO : Own N c' 3 1 v' (Li.length + 1) (I64 Li ++ [.int .i64 a])) (hT : Turned c c' vi v') : StS N w0 by0 P B vb vy Ly v' (Li ++ [a]) none lc c' :=
  ⟨hT.below2 h.ri h.below h.big (Nat.le_refl _), Nat.le_trans h.big hT.size, h.hN, h.y.keep (hT.block _ h.y.lt (own_ne_t h.ri h.y (by decide))), h.ro.step fun q hq _ hl => hT.block q hl (own_apart h.ri h.ro (by decide) q hq), by
    rw [List.length_append, List.length_singleton, I64_append]; exact hO, fun b a e => (by cases e),
    fun b d e => ⟨(h.lc b d e).1.keep (hT.block _ (h.lc b d e).1.lt (own_ne_t h.ri (h.lc b d e).1 (by decide))), (h.lc b d e).2⟩⟩
theorem StS.done (h : StS N w0 by0 P B vb vy Ly vi Li none none c) : StS N w0 by0 P B vy vy Ly vi Li none none (c.setCell ⟨by0, 2, none⟩ vy) :=
  ⟨h.below.setCell (p := ⟨by0, 2, none⟩) h.hN _, by simpa [World.setCell] using h.big, h.hN, h.y.set 2 vy, h.ro.step fun q hq _ _ => Below.heap_setCell _ _ _ _ (fun e => own_ne_t h.ro h.y (by decide) (by rw [hq, e])),
    h.ri.step fun q hq _ _ => Below.heap_setCell _ _ _ _ (fun e => own_ne_t h.ri h.y (by decide) (by rw [hq, e])), fun b a e => (by cases e), fun b a e => (by cases e)⟩
end

end Go.Proofs.Ytgdifckmjdjcpaa
