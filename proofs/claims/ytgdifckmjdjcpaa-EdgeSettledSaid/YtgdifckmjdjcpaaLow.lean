/- Contracts of low and high, the closures of bounds (edge); conditions: the ends lie in a block of the call's own. -/
import Derived.Test.YtgdifckmjdjcpaaRep
namespace Go.Proofs.Ytgdifckmjdjcpaa
open Go.RowKit

/-- Ends in a block. -/
def EB (g : Nat) (s : Bs) (w : World) : Prop := Blk g (s.flatMap rcells).toArray 99 w
theorem EB.cells {g : Nat} {s : Bs} {w : World} (h : EB g s w) {p : Nat} (hp : p < s.length) : w.cell? ⟨g, p * 2, none⟩ = some (.int .i64 (gl s p)) ∧ w.cell? ⟨g, p * 2 + 1, none⟩ = some (.int .i64 (gh s p)) := by
  have e : s.getD p (0, 0) = s[p] := by rw [List.getD_eq_getElem?_getD, List.getElem?_eq_getElem hp]; rfl
  constructor
  · rw [Blk.cell h]
    have := flat_at rcells_len s p hp 0 (by decide)
    rw [List.getElem?_toArray, gl, e]
    exact this
  · rw [Blk.cell h]
    have := flat_at rcells_len s p hp 1 (by decide)
    rw [List.getElem?_toArray, gh, e]
    exact this
theorem EB.free {g : Nat} {s : Bs} {w : World} (h : EB g s w) (j : Nat) : w.frozen? ⟨g, j, none⟩ = false := Blk.free h j
theorem flat_set : ∀ (s : Bs) (p : Nat), p < s.length → ∀ (v : Int), (s.flatMap rcells).set (p * 2) (.int .i64 v) = (s.set p (v, gh s p)).flatMap rcells ∧ (s.flatMap rcells).set (p * 2 + 1) (.int .i64 v) = (s.set p (gl s p, v)).flatMap rcells
  | [], p, hp, _ => by simp at hp
  | a :: s, 0, _, v => by simp [rcells, gl, gh]
  | a :: s, p + 1, hp, v => by
    obtain ⟨h1, h2⟩ := flat_set s p (by simpa using hp) v
    constructor
    · rw [show (p + 1) * 2 = p * 2 + 2 by omega]
      simp only [List.flatMap_cons, rcells, List.cons_append, List.nil_append, List.set_cons_succ]
      rw [h1]
      simp [gh]
    · rw [show (p + 1) * 2 + 1 = (p * 2 + 1) + 2 by omega]
      simp only [List.flatMap_cons, rcells, List.cons_append, List.nil_append, List.set_cons_succ]
      rw [h2]
      simp [gl]
theorem EB.setLo {g : Nat} {s : Bs} {w : World} (h : EB g s w) {p : Nat} (hp : p < s.length) (v : Int) : EB g (s.set p (v, gh s p)) (w.setCell ⟨g, p * 2, none⟩ (.int .i64 v)) := by
  have := Blk.set h (p * 2) (.int .i64 v)
  rw [List.setIfInBounds_toArray, (flat_set s p hp v).1] at this
  exact this
theorem EB.setHi {g : Nat} {s : Bs} {w : World} (h : EB g s w) {p : Nat} (hp : p < s.length) (v : Int) : EB g (s.set p (gl s p, v)) (w.setCell ⟨g, p * 2 + 1, none⟩ (.int .i64 v)) := by
  have := Blk.set h (p * 2 + 1) (.int .i64 v)
  rw [List.setIfInBounds_toArray, (flat_set s p hp v).2] at this
  exact this

set_option maxHeartbeats 1000000 in
theorem low_c {g bo bc n cap : Nat} {s : Bs × Bool} {w : World} (hO : Blk bo #[.slice (some ⟨g, 0, none⟩) n cap] 95 w) (hE : EB g s.1 w) (hC : Blk bc #[.bool s.2] 4 w) (hl : n = s.1.length) (hgc : g ≠ bc) {p : Nat} (hp : p < s.1.length) (k : Int) :
    Calls Try.prog 107 #[.int .i64 p, .int .i64 k, .pointer (some ⟨bo, 0, none⟩), .pointer (some ⟨bc, 0, none⟩)] w fun e w' => e = .returned (.tuple #[]) ∧ EB g (lowS s p k).1 w' ∧ Blk bc #[.bool (lowS s p k).2] 4 w' ∧ Keep (fun q => q = g ∨ q = bc) w w' := by
  obtain ⟨s, b⟩ := s
  simp only at hE hC hl hp ⊢
  subst hl
  have c0 := hO.cell 0
  have c1 := hC.cell 0
  obtain ⟨d0, d1⟩ := hE.cells hp
  have f0 := hE.free (p * 2)
  have f1 := hC.free 0
  by_cases h : gl s p < k
  · have e : lowS (s, b) p k = (s.set p (k, gh s p), true) := by unfold lowS; rw [if_pos h]
    have hE2 := hE.setLo hp k
    have hC2 := (hC.other (a := ⟨g, p * 2, none⟩) (fun e => hgc e.symm) (.int .i64 k)).set 0 (.bool true)
    have hE3 : EB g (s.set p (k, gh s p)) ((w.setCell ⟨g, p * 2, none⟩ (.int .i64 k)).setCell ⟨bc, 0, none⟩ (.bool true)) := Blk.other hE2 hgc _
    have hk : Keep (fun q => q = g ∨ q = bc) w ((w.setCell ⟨g, p * 2, none⟩ (.int .i64 k)).setCell ⟨bc, 0, none⟩ (.bool true)) := (Keep.setCell _ _ _ (.inl rfl)).trans (Keep.setCell _ _ _ (.inr rfl))
    have HE := Lib.hid e
    clear e hE2
    go_enter Try.func107, Try.ntmps107
    go_wp2
    go_end0
    rw [HE.out]
    exact ⟨rfl, hE3, hC2, hk⟩
  · have e : lowS (s, b) p k = (s, b) := by unfold lowS; rw [if_neg h]
    have HE := Lib.hid e
    clear e
    go_enter Try.func107, Try.ntmps107
    go_wp2
    go_end0
    rw [HE.out]
    exact ⟨rfl, hE, hC, Keep.refl _ _⟩

set_option maxHeartbeats 1000000 in
theorem high_c {g bo bc n cap : Nat} {s : Bs × Bool} {w : World} (hO : Blk bo #[.slice (some ⟨g, 0, none⟩) n cap] 95 w) (hE : EB g s.1 w) (hC : Blk bc #[.bool s.2] 4 w) (hl : n = s.1.length) (hgc : g ≠ bc) {p : Nat} (hp : p < s.1.length) (k : Int) :
    Calls Try.prog 108 #[.int .i64 p, .int .i64 k, .pointer (some ⟨bo, 0, none⟩), .pointer (some ⟨bc, 0, none⟩)] w fun e w' => e = .returned (.tuple #[]) ∧ EB g (highS s p k).1 w' ∧ Blk bc #[.bool (highS s p k).2] 4 w' ∧ Keep (fun q => q = g ∨ q = bc) w w' := by
  obtain ⟨s, b⟩ := s
  simp only at hE hC hl hp ⊢
  subst hl
  have c0 := hO.cell 0
  have c1 := hC.cell 0
  obtain ⟨d0, d1⟩ := hE.cells hp
  have f0 := hE.free (p * 2 + 1)
  have f1 := hC.free 0
  by_cases h : k < gh s p
  · have e : highS (s, b) p k = (s.set p (gl s p, k), true) := by unfold highS; rw [if_pos h]
    have hE2 := hE.setHi hp k
    have hC2 := (hC.other (a := ⟨g, p * 2 + 1, none⟩) (fun e => hgc e.symm) (.int .i64 k)).set 0 (.bool true)
    have hE3 : EB g (s.set p (gl s p, k)) ((w.setCell ⟨g, p * 2 + 1, none⟩ (.int .i64 k)).setCell ⟨bc, 0, none⟩ (.bool true)) := Blk.other hE2 hgc _
    have hk : Keep (fun q => q = g ∨ q = bc) w ((w.setCell ⟨g, p * 2 + 1, none⟩ (.int .i64 k)).setCell ⟨bc, 0, none⟩ (.bool true)) := (Keep.setCell _ _ _ (.inl rfl)).trans (Keep.setCell _ _ _ (.inr rfl))
    have HE := Lib.hid e
    clear e hE2
    go_enter Try.func108, Try.ntmps108
    go_wp2
    go_end0
    rw [HE.out]
    exact ⟨rfl, hE3, hC2, hk⟩
  · have e : highS (s, b) p k = (s, b) := by unfold highS; rw [if_neg h]
    have HE := Lib.hid e
    clear e
    go_enter Try.func108, Try.ntmps108
    go_wp2
    go_end0
    rw [HE.out]
    exact ⟨rfl, hE, hC, Keep.refl _ _⟩

end Go.Proofs.Ytgdifckmjdjcpaa
