/- What stands while EdgeFollows and EdgeMore deal their inputs: the hand, three edges, a claim, boxes, literals; conditions: none. -/
import Derived.Test.YtgdifckmjdjcpaaEds
namespace Go.Proofs.Ytgdifckmjdjcpaa
open Go.RowKit

theorem Blk.ne_hnd {u : World} {b hb k : Nat} {cs : Array Value} {t : TypeId} (h : Blk b cs t u) (hh : ∃ k', k' ≤ k ∧ Hnd u hb k') (ht : t ≠ 93) : b ≠ hb := by
  rintro rfl
  obtain ⟨k', -, vn, l, s, h1, -⟩ := hh
  unfold Blk at h
  rw [h] at h1
  injection h1 with h1
  injection h1 with h1 h2
  exact ht h2
/-- A claim's cells. -/
def Cl.cs (c : Cl) : Array Value := #[.int .i64 c.kind, .int .i64 c.point, .int .i64 c.other, .int .i64 c.off, .int .i64 c.err]
/-- The hand, the three edges with their claims, a claim in a block; all grown since the world w; what is dealt later lies from N2 on. -/
structure FoC (w : World) (hb N2 b : Nat) (x y z : Edg) (vx vy vz : Value) (bc : Nat) (c : Cl) (bo : Option Nat) (K : Nat) (u : World) : Prop where
  hnd : ∃ k, k ≤ K ∧ Hnd u hb k
  e : E3 b x y z vx vy vz u
  c : Blk bc #[.int .i64 c.kind, .int .i64 c.point, .int .i64 c.other, .int .i64 c.off, .int .i64 c.err] 26 u
  rx : ClsM (fun q => q ≠ hb ∧ q < N2) u vx x.claims
  ry : ClsM (fun q => q ≠ hb ∧ q < N2) u vy y.claims
  rz : ClsM (fun q => q ≠ hb ∧ q < N2) u vz z.claims
  bo : ∀ a, bo = some a → Blk a #[.int .i64 0, .int .i64 0, .int .i64 0, .int .i64 0, .int .i64 0] 26 u ∧ N2 ≤ a
  below : Below w.heap.size w u
  hw : w.heap.size ≤ hb
  hN : hb < N2 ∧ b < N2 ∧ bc < N2
  hz : N2 ≤ u.heap.size
section
variable {w u u' : World} {hb N2 b bc K K' : Nat} {x y z : Edg} {vx vy vz : Value} {c : Cl} {bo : Option Nat}
theorem FoC.hlt (h : FoC w hb N2 b x y z vx vy vz bc c bo K u) : hb < u.heap.size := Nat.lt_of_lt_of_le h.hN.1 h.hz
theorem FoC.call (h : FoC w hb N2 b x y z vx vy vz bc c bo K u) (hB : Below u.heap.size u u') : FoC w hb N2 b x y z vx vy vz bc c bo K u' :=
  ⟨by obtain ⟨k, h1, h2⟩ := h.hnd; exact ⟨k, h1, h2.call hB⟩, Blk.call h.e hB, h.c.call hB, h.rx.call hB, h.ry.call hB, h.rz.call hB, fun a e => ⟨(h.bo a e).1.call hB, (h.bo a e).2⟩, bnx h.below hB, h.hw, h.hN, Nat.le_trans h.hz hB.size⟩
theorem FoC.qt (h : FoC w hb N2 b x y z vx vy vz bc c bo K u) (q : Qt u u') : FoC w hb N2 b x y z vx vy vz bc c bo K u' := h.call (q.below _)
theorem FoC.hand (h : FoC w hb N2 b x y z vx vy vz bc c bo K u) (hk : ∃ k', k' ≤ K' ∧ Hnd u' hb k') (hG : u.grownBy u' (some hb)) : FoC w hb N2 b x y z vx vy vz bc c bo K' u' :=
  ⟨hk, Blk.hand h.e hG (Blk.ne_hnd h.e h.hnd (by decide)), h.c.hand hG (h.c.ne_hnd h.hnd (by decide)), h.rx.only hG (fun e => e.1 rfl), h.ry.only hG (fun e => e.1 rfl), h.rz.only hG (fun e => e.1 rfl),
    fun a e => ⟨(h.bo a e).1.hand hG (by have := (h.bo a e).2; have := h.hN.1; omega), (h.bo a e).2⟩, bhand h.below hG h.hw, h.hw, h.hN, Nat.le_trans h.hz hG.size⟩
theorem FoC.far (h : FoC w hb N2 b x y z vx vy vz bc c bo K u) (hB : Below N2 u u') : FoC w hb N2 b x y z vx vy vz bc c none K u' :=
  ⟨by obtain ⟨k, h1, h2⟩ := h.hnd; exact ⟨k, h1, h2.below hB h.hN.1⟩, Blk.below h.e hB h.hN.2.1, h.c.below hB h.hN.2.2, h.rx.below hB fun q hq _ => hq.2, h.ry.below hB fun q hq _ => hq.2, h.rz.below hB fun q hq _ => hq.2,
    fun a e => (by cases e), h.below.trans (hB.mono (by have := h.hw; have := h.hN.1; omega)), h.hw, h.hN, Nat.le_trans h.hz hB.size⟩
theorem FoC.mono (h : FoC w hb N2 b x y z vx vy vz bc c bo K u) (hk : K ≤ K') : FoC w hb N2 b x y z vx vy vz bc c bo K' u :=
  ⟨by obtain ⟨k, h1, h2⟩ := h.hnd; exact ⟨k, by omega, h2⟩, h.e, h.c, h.rx, h.ry, h.rz, h.bo, h.below, h.hw, h.hN, h.hz⟩
theorem FoC.box (h : FoC w hb N2 b x y z vx vy vz bc c none K u) : FoC w hb N2 b x y z vx vy vz bc c (some u.heap.size) K (u.alloc (.cells #[.int .i64 0, .int .i64 0, .int .i64 0, .int .i64 0, .int .i64 0] 26)) := by
  have h1 := h.call ((Below.refl u.heap.size u).alloc (Nat.le_refl _) (.cells #[.int .i64 0, .int .i64 0, .int .i64 0, .int .i64 0, .int .i64 0] 26))
  refine ⟨h1.hnd, h1.e, h1.c, h1.rx, h1.ry, h1.rz, fun a e => ?_, h1.below, h1.hw, h1.hN, h1.hz⟩
  injection e with e
  subst e
  exact ⟨Blk.new _ _ _, h.hz⟩
theorem FoC.put {ba : Nat} (h : FoC w hb N2 b x y z vx vy vz bc c (some ba) K u) (d : Cl) :
    FoC w hb N2 b x y z vx vy vz bc c none K (((((u.setCell ⟨ba, 0, none⟩ (.int .i64 d.kind)).setCell ⟨ba, 1, none⟩ (.int .i64 d.point)).setCell ⟨ba, 2, none⟩ (.int .i64 d.other)).setCell ⟨ba, 3, none⟩ (.int .i64 d.off)).setCell ⟨ba, 4, none⟩ (.int .i64 d.err)) ∧
    Blk ba #[.int .i64 d.kind, .int .i64 d.point, .int .i64 d.other, .int .i64 d.off, .int .i64 d.err] 26 (((((u.setCell ⟨ba, 0, none⟩ (.int .i64 d.kind)).setCell ⟨ba, 1, none⟩ (.int .i64 d.point)).setCell ⟨ba, 2, none⟩ (.int .i64 d.other)).setCell ⟨ba, 3, none⟩ (.int .i64 d.off)).setCell ⟨ba, 4, none⟩ (.int .i64 d.err)) := by
  obtain ⟨h1, h2⟩ := h.bo ba rfl
  exact ⟨h.far (((((((Below.refl _ u).setCell (p := ⟨ba, 0, none⟩) h2 _).setCell (p := ⟨ba, 1, none⟩) h2 _).setCell (p := ⟨ba, 2, none⟩) h2 _).setCell (p := ⟨ba, 3, none⟩) h2 _).setCell (p := ⟨ba, 4, none⟩) h2 _)), ((((h1.set 0 _).set 1 _).set 2 _).set 3 _).set 4 _⟩
end

/-- The same, with a second claim, and the literals made so far. -/
structure FoS (w : World) (hb N2 b : Nat) (x y z : Edg) (vx vy vz : Value) (bc : Nat) (c : Cl) (ba : Nat) (d : Cl) (i1 i2 : Option (Nat × Int × Int × Int)) (i3 : Option (Nat × Cl × Cl × Cl)) (K : Nat) (u : World) : Prop where
  s : FoC w hb N2 b x y z vx vy vz bc c none K u
  a : Blk ba #[.int .i64 d.kind, .int .i64 d.point, .int .i64 d.other, .int .i64 d.off, .int .i64 d.err] 26 u
  i1 : ∀ q p r t, i1 = some (q, p, r, t) → Blk q #[.int .i64 p, .int .i64 r, .int .i64 t] 3 u
  i2 : ∀ q p r t, i2 = some (q, p, r, t) → Blk q #[.int .i64 p, .int .i64 r, .int .i64 t] 3 u
  i3 : ∀ q p r t, i3 = some (q, p, r, t) → Blk q #[.int .i64 p.kind, .int .i64 p.point, .int .i64 p.other, .int .i64 p.off, .int .i64 p.err, .int .i64 r.kind, .int .i64 r.point, .int .i64 r.other, .int .i64 r.off, .int .i64 r.err, .int .i64 t.kind, .int .i64 t.point, .int .i64 t.other, .int .i64 t.off, .int .i64 t.err] 26 u
section
variable {w u u' : World} {hb N2 b bc ba K K' : Nat} {x y z : Edg} {vx vy vz : Value} {c d : Cl} {i1 i2 : Option (Nat × Int × Int × Int)} {i3 : Option (Nat × Cl × Cl × Cl)}
theorem FoS.call (h : FoS w hb N2 b x y z vx vy vz bc c ba d i1 i2 i3 K u) (hB : Below u.heap.size u u') : FoS w hb N2 b x y z vx vy vz bc c ba d i1 i2 i3 K u' :=
  ⟨h.s.call hB, h.a.call hB, fun q p r t e => (h.i1 q p r t e).call hB, fun q p r t e => (h.i2 q p r t e).call hB, fun q p r t e => (h.i3 q p r t e).call hB⟩
theorem FoS.qt (h : FoS w hb N2 b x y z vx vy vz bc c ba d i1 i2 i3 K u) (q : Qt u u') : FoS w hb N2 b x y z vx vy vz bc c ba d i1 i2 i3 K u' := h.call (q.below _)
theorem FoS.hand (h : FoS w hb N2 b x y z vx vy vz bc c ba d i1 i2 i3 K u) (hk : ∃ k', k' ≤ K' ∧ Hnd u' hb k') (hG : u.grownBy u' (some hb)) : FoS w hb N2 b x y z vx vy vz bc c ba d i1 i2 i3 K' u' :=
  ⟨h.s.hand hk hG, h.a.hand hG (h.a.ne_hnd h.s.hnd (by decide)), fun q p r t e => (h.i1 q p r t e).hand hG ((h.i1 q p r t e).ne_hnd h.s.hnd (by decide)), fun q p r t e => (h.i2 q p r t e).hand hG ((h.i2 q p r t e).ne_hnd h.s.hnd (by decide)), fun q p r t e => (h.i3 q p r t e).hand hG ((h.i3 q p r t e).ne_hnd h.s.hnd (by decide))⟩
theorem FoS.lit1 (h : FoS w hb N2 b x y z vx vy vz bc c ba d none i2 i3 K u) (p r t : Int) : FoS w hb N2 b x y z vx vy vz bc c ba d (some (u.heap.size, p, r, t)) i2 i3 K (u.alloc (.cells #[.int .i64 p, .int .i64 r, .int .i64 t] 3)) := by
  have h1 := h.call ((Below.refl u.heap.size u).alloc (Nat.le_refl _) (.cells #[.int .i64 p, .int .i64 r, .int .i64 t] 3))
  refine ⟨h1.s, h1.a, fun q p' r' t' e => ?_, h1.i2, h1.i3⟩
  cases e
  exact Blk.new _ _ _
theorem FoS.lit2 (h : FoS w hb N2 b x y z vx vy vz bc c ba d i1 none i3 K u) (p r t : Int) : FoS w hb N2 b x y z vx vy vz bc c ba d i1 (some (u.heap.size, p, r, t)) i3 K (u.alloc (.cells #[.int .i64 p, .int .i64 r, .int .i64 t] 3)) := by
  have h1 := h.call ((Below.refl u.heap.size u).alloc (Nat.le_refl _) (.cells #[.int .i64 p, .int .i64 r, .int .i64 t] 3))
  refine ⟨h1.s, h1.a, h1.i1, fun q p' r' t' e => ?_, h1.i3⟩
  cases e
  exact Blk.new _ _ _
theorem FoS.lit3 (h : FoS w hb N2 b x y z vx vy vz bc c ba d i1 i2 none K u) (p r t : Cl) : FoS w hb N2 b x y z vx vy vz bc c ba d i1 i2 (some (u.heap.size, p, r, t)) K (u.alloc (.cells #[.int .i64 p.kind, .int .i64 p.point, .int .i64 p.other, .int .i64 p.off, .int .i64 p.err, .int .i64 r.kind, .int .i64 r.point, .int .i64 r.other, .int .i64 r.off, .int .i64 r.err, .int .i64 t.kind, .int .i64 t.point, .int .i64 t.other, .int .i64 t.off, .int .i64 t.err] 26)) := by
  have h1 := h.call ((Below.refl u.heap.size u).alloc (Nat.le_refl _) (.cells #[.int .i64 p.kind, .int .i64 p.point, .int .i64 p.other, .int .i64 p.off, .int .i64 p.err, .int .i64 r.kind, .int .i64 r.point, .int .i64 r.other, .int .i64 r.off, .int .i64 r.err, .int .i64 t.kind, .int .i64 t.point, .int .i64 t.other, .int .i64 t.off, .int .i64 t.err] 26))
  refine ⟨h1.s, h1.a, h1.i1, h1.i2, fun q p' r' t' e => ?_⟩
  cases e
  exact Blk.new _ _ _
end
/-- A literal of three claims. -/
theorem step_build22 {ops : Array Oper} {o : Oper} {a : Act} {w : World} {K : Act → World → Prop} {Q : Exit → Act → World → Prop} {E : Prop} (hg : o.guard = none) {y0 y1 y2 : Operand} (ho : o.op = .buildSlice 22 3 #[(0, y0), (1, y1), (2, y2)])
    {p r t : Cl} (h0 : a.eval y0 = p.val) (h1 : a.eval y1 = r.val) (h2 : a.eval y2 = t.val)
    (h : K (a.put o.dst (.slice (some ⟨w.heap.size, 0, none⟩) 3 3)) (w.alloc (.cells #[.int .i64 p.kind, .int .i64 p.point, .int .i64 p.other, .int .i64 p.off, .int .i64 p.err, .int .i64 r.kind, .int .i64 r.point, .int .i64 r.other, .int .i64 r.off, .int .i64 r.err, .int .i64 t.kind, .int .i64 t.point, .int .i64 t.other, .int .i64 t.off, .int .i64 t.err] 26))) : if Region.wanted o (yielded ops a.tmps) = true then Oper.wp Try.prog o a w K Q else E := by
  rw [if_pos (by simp [Region.wanted, hg])]
  obtain ⟨i, hi, hz, hs, -⟩ := info_parts Try.info26
  exact wp_buildSlice 22 26 3 _ ho #[.int .i64 p.kind, .int .i64 p.point, .int .i64 p.other, .int .i64 p.off, .int .i64 p.err, .int .i64 r.kind, .int .i64 r.point, .int .i64 r.other, .int .i64 r.off, .int .i64 r.err, .int .i64 t.kind, .int .i64 t.point, .int .i64 t.other, .int .i64 t.off, .int .i64 t.err] i _ Try.underlying22 hi hz (by rw [hs]; decide) (by rw [hs]; decide) (by rw [hs]; simp only [List.map_toArray, List.map_cons, List.map_nil, h0, h1, h2, Cl.val]; kernel_rfl) h

end Go.Proofs.Ytgdifckmjdjcpaa
