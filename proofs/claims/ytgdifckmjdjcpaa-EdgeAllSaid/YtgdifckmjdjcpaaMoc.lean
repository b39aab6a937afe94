/- What stands while claims are dealt (EdgeMore, EdgeAll): the hand, an edge in a box, a list of numbers; answers for valid edges; conditions: none. -/
import Derived.Test.YtgdifckmjdjcpaaStx
import Derived.Test.YtgdifckmjdjcpaaFst
import Derived.Test.YtgdifckmjdjcpaaFof
import Derived.Test.YtgdifckmjdjcpaaClm
namespace Go.Proofs.Ytgdifckmjdjcpaa
open Go.RowKit

/-- What stands while two claims are dealt: the hand, an edge in a box, a list of numbers. -/
structure MoC (w : World) (bx : Nat) (x : Edg) (vx : Value) (N2 : Nat) (vl : Value) (L : List Int) (K : Nat) (u : World) : Prop where
  hnd : ∃ k, k ≤ K ∧ Hnd u w.heap.size k
  hX : Blk bx #[.int .i64 x.points, .int .i64 x.bend, vx] 24 u
  rx : ClsM (fun q => q ≠ w.heap.size ∧ q < N2) u vx x.claims
  hL : Ints (fun q => q ≠ w.heap.size ∧ q < N2) u vl L
  below : Below w.heap.size w u
  hN : w.heap.size < N2 ∧ bx < N2 ∧ bx ≠ w.heap.size
  hz : N2 ≤ u.heap.size
section
variable {w u u' : World} {bx N2 K K' : Nat} {x : Edg} {vx vl : Value} {L : List Int}
theorem MoC.call (h : MoC w bx x vx N2 vl L K u) (hB : Below u.heap.size u u') : MoC w bx x vx N2 vl L K u' :=
  ⟨by obtain ⟨k, h1, h2⟩ := h.hnd; exact ⟨k, h1, h2.call hB⟩, h.hX.call hB, h.rx.call hB, h.hL.call hB, bnx h.below hB, h.hN, Nat.le_trans h.hz hB.size⟩
theorem MoC.qt (h : MoC w bx x vx N2 vl L K u) (q : Qt u u') : MoC w bx x vx N2 vl L K u' := h.call (q.below _)
theorem MoC.mono (h : MoC w bx x vx N2 vl L K u) (hk : K ≤ K') : MoC w bx x vx N2 vl L K' u :=
  ⟨by obtain ⟨k, h1, h2⟩ := h.hnd; exact ⟨k, by omega, h2⟩, h.hX, h.rx, h.hL, h.below, h.hN, h.hz⟩
theorem MoC.hand (h : MoC w bx x vx N2 vl L K u) (hk : ∃ k', k' ≤ K' ∧ Hnd u' w.heap.size k') (hG : u.grownBy u' (some w.heap.size)) : MoC w bx x vx N2 vl L K' u' :=
  ⟨hk, h.hX.hand hG h.hN.2.2, h.rx.only hG (fun e => e.1 rfl), h.hL.only hG (fun e => e.1 rfl), bhand h.below hG (Nat.le_refl _), h.hN, Nat.le_trans h.hz hG.size⟩
theorem MoC.far (h : MoC w bx x vx N2 vl L K u) (hB : Below N2 u u') : MoC w bx x vx N2 vl L K u' :=
  ⟨by obtain ⟨k, h1, h2⟩ := h.hnd; exact ⟨k, h1, h2.below hB h.hN.1⟩, h.hX.below hB h.hN.2.1, h.rx.below hB fun q hq _ => hq.2, h.hL.below hB fun q hq _ => hq.2, h.below.trans (hB.mono (by have := h.hN; omega)), h.hN, Nat.le_trans h.hz hB.size⟩
theorem MoC.put {ba bd : Nat} {cs ds : Array Value} (h : MoC w bx x vx N2 vl L K u) (hA : Blk ba cs 26 u) (hN : N2 ≤ ba) (hD : Blk bd ds 26 u) (hne : ba ≠ bd) (hcs : cs = #[.int .i64 0, .int .i64 0, .int .i64 0, .int .i64 0, .int .i64 0]) (d : Cl) :
    MoC w bx x vx N2 vl L K (((((u.setCell ⟨ba, 0, none⟩ (.int .i64 d.kind)).setCell ⟨ba, 1, none⟩ (.int .i64 d.point)).setCell ⟨ba, 2, none⟩ (.int .i64 d.other)).setCell ⟨ba, 3, none⟩ (.int .i64 d.off)).setCell ⟨ba, 4, none⟩ (.int .i64 d.err)) ∧
    Blk ba #[.int .i64 d.kind, .int .i64 d.point, .int .i64 d.other, .int .i64 d.off, .int .i64 d.err] 26 (((((u.setCell ⟨ba, 0, none⟩ (.int .i64 d.kind)).setCell ⟨ba, 1, none⟩ (.int .i64 d.point)).setCell ⟨ba, 2, none⟩ (.int .i64 d.other)).setCell ⟨ba, 3, none⟩ (.int .i64 d.off)).setCell ⟨ba, 4, none⟩ (.int .i64 d.err)) ∧
    Blk bd ds 26 (((((u.setCell ⟨ba, 0, none⟩ (.int .i64 d.kind)).setCell ⟨ba, 1, none⟩ (.int .i64 d.point)).setCell ⟨ba, 2, none⟩ (.int .i64 d.other)).setCell ⟨ba, 3, none⟩ (.int .i64 d.off)).setCell ⟨ba, 4, none⟩ (.int .i64 d.err)) := by
  subst hcs
  refine ⟨h.far (((((((Below.refl _ u).setCell (p := ⟨ba, 0, none⟩) hN _).setCell (p := ⟨ba, 1, none⟩) hN _).setCell (p := ⟨ba, 2, none⟩) hN _).setCell (p := ⟨ba, 3, none⟩) hN _).setCell (p := ⟨ba, 4, none⟩) hN _)), ((((hA.set 0 _).set 1 _).set 2 _).set 3 _).set 4 _, ?_⟩
  have go : ∀ (j : Nat) (v : Value) (u : World), Blk bd ds 26 u → Blk bd ds 26 (u.setCell ⟨ba, j, none⟩ v) := fun j v u h => h.keep (Below.heap_setCell _ _ _ _ (fun e => hne e.symm))
  exact go _ _ _ (go _ _ _ (go _ _ _ (go _ _ _ (go _ _ _ hD))))
end
/-- What is read of bounds and verdicts. -/
def MoR (gb o1 : Nat) (V2 : Int × Int) (ga o2 : Nat) (V1 : Int × Int) (gp o3 : Nat) (e1 : Int) (gq o4 : Nat) (e2 : Int) (w : World) : Prop :=
  (w.cell? ⟨gb, o1, none⟩ = some (.int .i64 V2.1) ∧ w.cell? ⟨gb, o1 + 1, none⟩ = some (.int .i64 V2.2)) ∧ (w.cell? ⟨ga, o2, none⟩ = some (.int .i64 V1.1) ∧ w.cell? ⟨ga, o2 + 1, none⟩ = some (.int .i64 V1.2)) ∧ w.cell? ⟨gp, o3, none⟩ = some (.int .i64 e1) ∧ w.cell? ⟨gq, o4, none⟩ = some (.int .i64 e2)
theorem ent66 : Ent 66 := ⟨_, Try.func66, rfl, by kernel_rfl⟩
theorem count_ok {x : Edg} (hx : x.Ok) : countX x = (((truthsF x).length : Int), 0) := by unfold countX; rw [if_neg (not_not_intro (checkX_zero.2 hx))]
theorem bounds_ok {x : Edg} (hx : x.Ok) {s : Bs} (h : bndF x = some s) : boundsX x = (s, 0) := by unfold boundsX; rw [if_neg (not_not_intro (checkX_zero.2 hx)), h]
theorem asked_ok {x : Edg} (hx : x.Ok) {c : Cl} (hc : c.Ok x.points) : askedX x c = 0 := by unfold askedX; rw [if_neg (not_not_intro (checkX_zero.2 hx))]; exact claimE_zero.2 hc
theorem follows_ok {x : Edg} (hx : x.Ok) {c : Cl} (hc : c.Ok x.points) (ht : hasT x = true) : followsX x c = (verdF ((truthsF x).filter fun t => c.holds (atL t)).length (truthsF x).length, 0) := by
  unfold followsX; rw [if_neg (not_not_intro (asked_ok hx hc)), if_neg (by rw [ht]; decide)]
theorem taken_ok {x : Edg} (hx : x.Ok) {l : List Fu} (hf : furX x.points l = 0) {s : Bs} (hb : bndF x = some s) {y : Int} (hy : 0 ≤ y ∧ y ≤ 30) : takenX x l y = (tkL l s y x.n, 0) := by
  have hbo : bothX x l = 0 := by
    unfold bothX
    rw [if_neg (not_not_intro (checkX_zero.2 hx))]
    exact hf
  unfold takenX
  rw [if_neg (not_not_intro hbo), btwB_iff.2 hy, if_neg (by decide), hb]
  rfl
theorem encr_ok {x : Edg} (hx : x.Ok) {l : List Fu} (hf : furX x.points l = 0) {s : Bs} (hb : bndF x = some s) {y : Int} (hy : 0 ≤ y ∧ y ≤ 30) : encrX x l y = ((tkL l s y x.n).map verdE, 0) := by
  unfold encrX
  rw [taken_ok hx hf hb hy]
  rfl
theorem add_okX {x : Edg} (hx : x.Ok) {c : Cl} (hc : c.Ok x.points) (hl : x.claims.length < 7) : (x.add c).Ok :=
  ⟨hx.p, hx.b, by unfold Edg.add; simp; omega, fun d hd => by
    rcases List.mem_append.1 hd with h | h
    · exact hx.c d h
    · rw [List.mem_singleton] at h
      rw [h]
      exact hc⟩


end Go.Proofs.Ytgdifckmjdjcpaa
