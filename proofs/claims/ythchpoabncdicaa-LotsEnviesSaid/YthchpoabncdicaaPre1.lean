/- What stands while a law deals its inputs: the hand, the boxes, the commons made; conditions: none. -/
import Derived.Test.YthchpoabncdicaaLNext
namespace Go.Proofs.Ythchpoabncdicaa
open Go.RowKit

/-- The hand at hb, two boxes, the commons made in blocks from B on, all grown since the world a. -/
structure Pre (a : World) (hb B bX bM : Nat) (cX cM : Array Value) (vm vv : Value) (md : Com) (K : Nat) (w : World) : Prop where
  hnd : ∃ k, k ≤ K ∧ Hnd w hb k
  ax : a.heap.size ≤ hb
  hB : hb < B
  hBM : B ≤ bM
  bx : Blk bX cX 25 w
  bxl : bX < a.heap.size
  bm : Blk bM cM 25 w
  md : Cm (fun b => B ≤ b) w vm vv md
  below : Below a.heap.size a w
section
variable {a w w' : World} {hb B bX bM K K' : Nat} {cX cM : Array Value} {vm vv : Value} {md : Com}
theorem Pre.call (h : Pre a hb B bX bM cX cM vm vv md K w) (hc : Below w.heap.size w w') : Pre a hb B bX bM cX cM vm vv md K w' :=
  ⟨by obtain ⟨k, h1, h2⟩ := h.hnd; exact ⟨k, h1, h2.call hc⟩, h.ax, h.hB, h.hBM, h.bx.call hc, h.bxl, h.bm.call hc, h.md.call hc, h.below.trans (hc.mono h.below.size)⟩
theorem Pre.alloc (h : Pre a hb B bX bM cX cM vm vv md K w) (o : Obj) : Pre a hb B bX bM cX cM vm vv md K (w.alloc o) := h.call ((Below.refl _ w).alloc (Nat.le_refl _) o)
theorem Pre.qt (h : Pre a hb B bX bM cX cM vm vv md K w) (q : Qt w w') : Pre a hb B bX bM cX cM vm vv md K w' := h.call (q.below _)
theorem Pre.drew (h : Pre a hb B bX bM cX cM vm vv md K w) : Pre a hb B bX bM cX cM vm vv md K w.drew := h.qt ((Qt.refl w).drewN 1)
theorem Pre.hand (h : Pre a hb B bX bM cX cM vm vv md K w) (hk : ∃ k', k' ≤ K' ∧ Hnd w' hb k') (hG : w.grownBy w' (some hb)) : Pre a hb B bX bM cX cM vm vv md K' w' :=
  ⟨hk, h.ax, h.hB, h.hBM, h.bx.hand hG (by have := h.ax; have := h.bxl; omega), h.bxl, h.bm.hand hG (by have := h.hB; have := h.hBM; omega), h.md.hand hG h.hB, bhand h.below hG h.ax⟩
theorem Pre.mono (h : Pre a hb B bX bM cX cM vm vv md K w) (hk : K ≤ K') : Pre a hb B bX bM cX cM vm vv md K' w :=
  ⟨by obtain ⟨k, h1, h2⟩ := h.hnd; exact ⟨k, by omega, h2⟩, h.ax, h.hB, h.hBM, h.bx, h.bxl, h.bm, h.md, h.below⟩
theorem Pre.hlt (h : Pre a hb B bX bM cX cM vm vv md K w) : hb < w.heap.size := by obtain ⟨k, _, h2⟩ := h.hnd; exact h2.lt
theorem Pre.row (h : Pre a hb B bX bM cX cM vm vv md K w) (n : Nat) (hn : n ≤ 100) (hK : K < 800000) : Calls Try.prog 24 #[.pointer (some ⟨hb, 0, none⟩), .int .i64 n] w fun e w' => (∃ v, e = .returned v ∧ ∃ l, Ints (fun k => w.heap.size ≤ k) w' v l ∧ PermOf n l) ∧ Pre a hb B bX bM cX cM vm vv md (K + n) w' ∧ w.grownBy w' (some hb) := by
  obtain ⟨k, h1, h2⟩ := h.hnd
  refine (row_c h2 n hn (by omega)).mono ?_
  rintro e w' ⟨h3, ⟨k', h4, h5⟩, h6⟩
  exact ⟨h3, h.hand ⟨k', by omega, h5⟩ h6, h6⟩
theorem Pre.upto (h : Pre a hb B bX bM cX cM vm vv md K w) (m : Int) (hm : m ≤ 1000000) (hm0 : -1000000 ≤ m) (hK : K < 800000) : Calls Try.prog 37 #[.pointer (some ⟨hb, 0, none⟩), .int .i64 m] w fun e w' => (∃ u : Int, e = .returned (.int .i64 u) ∧ 0 ≤ u ∧ u ≤ max m 0) ∧ Pre a hb B bX bM cX cM vm vv md (K + 1) w' ∧ w.grownBy w' (some hb) := by
  obtain ⟨k, h1, h2⟩ := h.hnd
  refine (upto_c h2 (by omega) m hm hm0).mono ?_
  rintro e w' ⟨h3, ⟨k', h4, h5⟩, h6⟩
  exact ⟨h3, h.hand ⟨k', by omega, h5⟩ h6, h6⟩
theorem Pre.among (h : Pre a hb B bX bM cX cM vm vv md K w) (l m : Int) (hm : m ≤ 500000) (hm0 : -500000 ≤ m) (hl : l ≤ 500000) (hl0 : -500000 ≤ l) (hK : K < 800000) : Calls Try.prog 58 #[.pointer (some ⟨hb, 0, none⟩), .int .i64 l, .int .i64 m] w fun e w' => (∃ u : Int, e = .returned (.int .i64 u) ∧ l ≤ u ∧ u ≤ max m l) ∧ Pre a hb B bX bM cX cM vm vv md (K + 1) w' ∧ w.grownBy w' (some hb) := by
  obtain ⟨k, h1, h2⟩ := h.hnd
  refine (among_c h2 (by omega) l m hm hm0 hl hl0).mono ?_
  rintro e w' ⟨h3, ⟨k', h4, h5⟩, h6⟩
  exact ⟨h3, h.hand ⟨k', by omega, h5⟩ h6, h6⟩
end
end Go.Proofs.Ythchpoabncdicaa
