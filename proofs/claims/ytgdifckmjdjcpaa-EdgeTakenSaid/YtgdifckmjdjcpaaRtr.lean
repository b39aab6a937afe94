/- The reference's True (edge): whether a claim is true of offsets; conditions: a valid claim, offsets for all points. -/
import Derived.Test.YtgdifckmjdjcpaaRch
namespace Go.Proofs.Ytgdifckmjdjcpaa
open Go.RowKit

set_option maxHeartbeats 2000000 in
theorem rtrue_c {A : Nat → Prop} {w : World} {v : Value} {l : List Int} {c : Cl} {P : Int} (hl : Ints A w v l) (hP : P ≤ (l.length : Int)) (hc : c.Ok P) (h9 : ∀ u ∈ l, 0 ≤ u ∧ u ≤ 9) :
    Calls Try.prog 103 #[c.val, v] w fun e w' => e = .returned (.bool (c.holds (atL l))) ∧ Below w.heap.size w w' := by
  obtain ⟨kd, pp, ot, co, er⟩ := c
  have hk := hc.k
  have hp := hc.p
  have ho := hc.o
  have ha := hc.a
  have he := hc.e
  simp only at hk hp ho ha he
  unfold Cl.val
  simp only
  obtain ⟨pt, rfl⟩ : ∃ pt : Nat, pp = (pt : Int) := ⟨pp.toNat, by omega⟩
  have hpl : pt < l.length := by omega
  obtain ⟨a1, cp, rfl, hcp, _⟩ := hl.shape
  obtain ⟨gl, off, rfl, hAg, hgl⟩ := hl.addr (by omega)
  have hlen := hl.len
  obtain ⟨w1, hw1⟩ : ∃ w1, w1 = w.alloc (.cells #[.int .i64 kd, .int .i64 (pt : Int), .int .i64 ot, .int .i64 co, .int .i64 er] 26) := ⟨_, rfl⟩
  obtain ⟨b2, hb2⟩ : ∃ b, b = w.heap.size := ⟨_, rfl⟩
  have hX : Blk b2 #[.int .i64 kd, .int .i64 (pt : Int), .int .i64 ot, .int .i64 co, .int .i64 er] 26 w1 := by rw [hw1, hb2]; exact blk_at rfl _ _
  have hB : Below w.heap.size w w1 := by rw [hw1]; exact (Below.refl _ w).alloc (Nat.le_refl _) _
  have hl1 := hl.call hB
  have e0 := hX.cell 0
  have e1 := hX.cell 1
  have e2 := hX.cell 2
  have e3 := hX.cell 3
  have e4 := hX.cell 4
  have hcl := hl1.cell pt hpl
  obtain ⟨a0, ha0⟩ : ∃ a, a = l[pt] := ⟨_, rfl⟩
  have ha9 : 0 ≤ a0 ∧ a0 ≤ 9 := by rw [ha0]; exact h9 _ (List.getElem_mem _)
  have hat : atL l pt = a0 := by rw [ha0]; exact atL_at hpl
  rw [← ha0] at hcl
  have HAT := Lib.hid hat
  have HLN := Lib.hid hlen
  clear hlen ha0 hat
  have hkk : kd = 1 ∨ kd = 2 ∨ kd = 3 ∨ kd = 4 ∨ kd = 5 := by omega
  rcases hkk with rfl | rfl | rfl | rfl | rfl
  · simp at ho ha he
    subst ho
    subst he
    have hh : Cl.holds ⟨1, (pt : Int), 0, co, 0⟩ (atL l) = decide (a0 = co) := by unfold Cl.holds; simp [HAT.out]
    have HH := Lib.hid hh
    clear hh
    go_enter Try.func103, Try.ntmps103
    go_upto_region 1 with fail
    rw [← hw1, ← hb2]
    clear hw1 hb2
    go_wp2_with (go_at_call 82; refine (inside_c _ _ _ _).mono ?_; rintro e w' ⟨rfl, rfl⟩)
    go_ret
    rw [HH.out]
    exact ⟨rfl, hB⟩
  · simp at ho ha he
    subst ho
    have hh : Cl.holds ⟨2, (pt : Int), 0, co, er⟩ (atL l) = btwB a0 (co - er) (co + er) := by unfold Cl.holds; simp [HAT.out]
    have HH := Lib.hid hh
    clear hh
    have bw1 : IntKind.i64.wrap (co - er) = co - er := IntWalk.i64_in _ (by omega)
    have bw2 : IntKind.i64.wrap (co + er) = co + er := IntWalk.i64_in _ (by omega)
    go_enter Try.func103, Try.ntmps103
    go_upto_region 1 with fail
    rw [← hw1, ← hb2]
    clear hw1 hb2
    go_wp2_with (go_at_call 82; refine (inside_c _ _ _ _).mono ?_; rintro e w' ⟨rfl, rfl⟩)
    go_ret
    rw [HH.out]
    exact ⟨rfl, hB⟩
  · simp at ho ha he
    subst ho
    subst he
    have hh : Cl.holds ⟨3, (pt : Int), 0, co, 0⟩ (atL l) = decide (a0 ≤ co) := by unfold Cl.holds; simp [HAT.out]
    have HH := Lib.hid hh
    clear hh
    go_enter Try.func103, Try.ntmps103
    go_upto_region 1 with fail
    rw [← hw1, ← hb2]
    clear hw1 hb2
    go_wp2_with (go_at_call 82; refine (inside_c _ _ _ _).mono ?_; rintro e w' ⟨rfl, rfl⟩)
    go_ret
    rw [HH.out]
    exact ⟨rfl, hB⟩
  · simp at ho ha he
    subst ho
    subst he
    have hh : Cl.holds ⟨4, (pt : Int), 0, co, 0⟩ (atL l) = decide (co ≤ a0) := by unfold Cl.holds; simp [HAT.out]
    have HH := Lib.hid hh
    clear hh
    go_enter Try.func103, Try.ntmps103
    go_upto_region 1 with fail
    rw [← hw1, ← hb2]
    clear hw1 hb2
    go_wp2_with (go_at_call 82; refine (inside_c _ _ _ _).mono ?_; rintro e w' ⟨rfl, rfl⟩)
    go_ret
    rw [HH.out]
    exact ⟨rfl, hB⟩
  · simp at ho ha he
    subst he
    obtain ⟨qt, rfl⟩ : ∃ qt : Nat, ot = (qt : Int) := ⟨ot.toNat, by omega⟩
    have hql : qt < l.length := by omega
    have hcq := hl1.cell qt hql
    obtain ⟨d0, hd0⟩ : ∃ a, a = l[qt] := ⟨_, rfl⟩
    have hd9 : 0 ≤ d0 ∧ d0 ≤ 9 := by rw [hd0]; exact h9 _ (List.getElem_mem _)
    have hat2 : atL l qt = d0 := by rw [hd0]; exact atL_at hql
    rw [← hd0] at hcq
    have hh : Cl.holds ⟨5, (pt : Int), (qt : Int), co, 0⟩ (atL l) = decide (a0 ≤ d0 + co) := by
      unfold Cl.holds
      simp [HAT.out, hat2]
    have HH := Lib.hid hh
    clear hh hd0 hat2
    have bw1 : IntKind.i64.wrap (d0 + co) = d0 + co := IntWalk.i64_in _ (by omega)
    have h' := (Qt.refl w1).drewN 1
    have hcd := (hl1.qt h').cell qt hql
    have e2' := (hX.qt h').cell 2
    have e3' := (hX.qt h').cell 3
    have hBd := hB.trans (h'.below _)
    go_enter Try.func103, Try.ntmps103
    go_upto_region 1 with fail
    rw [← hw1, ← hb2]
    clear hw1 hb2
    go_wp2_with (go_at_call 82; refine (inside_c _ _ _ _).mono ?_; rintro e w' ⟨rfl, rfl⟩)
    go_quiet (fail)
    go_wp2
    go_ret
    rw [HH.out]
    exact ⟨rfl, below_drewN hB _⟩

end Go.Proofs.Ytgdifckmjdjcpaa
