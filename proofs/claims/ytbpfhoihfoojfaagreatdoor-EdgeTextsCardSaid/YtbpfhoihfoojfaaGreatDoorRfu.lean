/- Contracts of the reference's field, Furrows, checkFurrows, ready (edge); conditions: furrows and claims read as lists. -/
import Derived.Test.YtbpfhoihfoojfaaGreatDoorRch
import Derived.Test.YtbpfhoihfoojfaaGreatDoorFq
namespace Go.Proofs.YtbpfhoihfoojfaaGreatDoor
open Go.RowKit

def sinceO : Option Fu → Int
  | none => -1
  | some f => f.year
theorem newG_take {p y : Int} {l : List Fu} {k : Nat} (hk : k < l.length) : newG p y (l.take (k + 1)) = if newB p y (newG p y (l.take k)) l[k] = true then some l[k] else newG p y (l.take k) := by
  rw [List.take_succ_eq_append_getElem hk, newG_snoc]
theorem newB_since {p y : Int} {o : Option Fu} {f : Fu} (hf : 0 ≤ f.year) : newB p y o f = (decide (f.point = p) && decide (f.year ≤ y) && decide (sinceO o < f.year)) := by
  unfold newB mtch sinceO
  cases o with
  | none => rw [show decide ((-1 : Int) < f.year) = true from decide_eq_true (by omega)]
  | some g => rfl

set_option maxHeartbeats 2000000 in
theorem rfurX_c {A : Nat → Prop} {w : World} {P : Int} (hP : 1 ≤ P ∧ P ≤ 4) (B : Int) (vx : Value) {v : Value} {l : List Fu} (h : FusM A w v l) :
    Calls Tryz.prog 58 #[.agg #[.int .i64 P, .int .i64 B, vx], v] w fun e w' => e = .returned (.int .i64 (furX P l)) ∧ Below w.heap.size w w' := by
  obtain ⟨a1, c1, rfl, hc1, hm1⟩ := h.shape
  have n1 := h.len
  obtain ⟨w1, hw1⟩ : ∃ w1, w1 = w.alloc (.cells #[.int .i64 P, .int .i64 B, vx] 24) := ⟨_, rfl⟩
  obtain ⟨b0, hb0⟩ : ∃ b, b = w.heap.size := ⟨_, rfl⟩
  have hX : Blk b0 #[.int .i64 P, .int .i64 B, vx] 24 w1 := by rw [hw1, hb0]; exact blk_at rfl _ _
  have hB1 : Below w.heap.size w w1 := by rw [hw1]; exact (Below.refl _ w).alloc (Nat.le_refl _) _
  have h1 := h.call hB1
  have bw1 : IntKind.i64.wrap (P - 1) = P - 1 := IntWalk.i64_in _ (by omega)
  clear hP
  by_cases h8 : 8 < l.length
  · have HE := Lib.hid (show furX P l = 6 by unfold furX; rw [if_pos h8])
    go_enter Tryz.func58, Tryz.ntmps58
    go_wp2_with fail
    go_ret
    rw [← hw1]
    exact ⟨ret_int HE.out.symm, hB1⟩
  · have HE := Lib.hid (show furX P l = furE P [] l by unfold furX; rw [if_neg h8])
    go_enter Tryz.func58, Tryz.ntmps58
    go_upto_region 1 with fail
    rw [← hw1, ← hb0]
    clear hw1 hb0
    go_wp2_with fail
    go_loopw [5] (fun i wr => ∃ k : Nat, k ≤ l.length ∧ i = .int .i64 k ∧ Hid (furX P l = furE P (l.take k) (l.drop k)) ∧ Qt w1 wr) (fun i _ => l.length - (intOf i).toNat)
    case atStart => exact ⟨0, Nat.zero_le _, rfl, Lib.hid HE.out, Qt.refl _⟩
    case round =>
      obtain ⟨k, hk, rfl, HR, hQ⟩ := hrel
      by_cases hlt : k < l.length
      · obtain ⟨g, o, rfl, -, -⟩ := fus_addr h1 (by omega)
        obtain ⟨d0, d1, d2⟩ := fus_at (h1.qt hQ) k hlt
        obtain ⟨d3, d4, d5⟩ := fus_at (h1.qt (hQ.drewN 1)) k hlt
        have c0 := (hX.qt hQ).cell 0
        have c1' := (hX.qt (hQ.drewN 1)).cell 0
        have HD := Lib.hid (furE_drop (P := P) hlt)
        obtain ⟨f, hf⟩ : ∃ f, f = l[k] := ⟨_, rfl⟩
        rw [← hf] at d0 d1 d2 d3 d4 d5 HD
        have HF := Lib.hid hf
        clear hf
        cases b1 : btwB f.point 0 (P - 1) with
        | false =>
          have B1 := Lib.hid (show ¬ (0 ≤ f.point ∧ f.point ≤ P - 1) from fun hh => by rw [btwB_iff.2 hh] at b1; exact absurd b1 (by decide))
          go_wp2_with fail
          go_quiet ((go_at_call 81; refine qt_of (inside_q _ _ _ _)))
          have hq8 : Qt wr (wr.drewN nq) := ⟨nq, rfl⟩
          generalize wr.drewN nq = wq at hq8 ⊢
          go_wp2_with fail
          go_ret
          exact ⟨ret_int (by rw [HR.out, HD.out, if_pos B1.out]), bnx hB1 ((hQ.trans hq8).below _)⟩
        | true =>
          have B1 := Lib.hid (btwB_iff.1 b1)
          go_wp2_with fail
          go_quiet ((go_at_call 81; refine qt_of (inside_q _ _ _ _)))
          have hq8 : Qt wr (wr.drewN nq) := ⟨nq, rfl⟩
          generalize wr.drewN nq = wq at hq8 ⊢
          have hQq := hQ.trans hq8
          obtain ⟨x0, x1, x2⟩ := fus_at (h1.qt hQq) k hlt
          rw [← HF.out] at x0 x1 x2
          clear d0 d1 d2 d3 d4 d5 c0 c1' b1
          cases b3 : btwB f.year 0 30 with
          | false =>
            have B2 := Lib.hid (show ¬ ((0 ≤ f.year ∧ f.year ≤ 30) ∧ (0 ≤ f.off ∧ f.off ≤ 9)) from fun hh => by rw [btwB_iff.2 hh.1] at b3; exact absurd b3 (by decide))
            go_wp2_with (go_at_call 81; refine (inside_c _ _ _ _).mono ?_; rintro e w' ⟨rfl, rfl⟩)
            go_ret
            exact ⟨ret_int (by rw [HR.out, HD.out, if_neg (not_not_intro B1.out), if_pos B2.out]), bnx hB1 (hQq.below _)⟩
          | true =>
            cases b4 : btwB f.off 0 9 with
            | false =>
              have B2 := Lib.hid (show ¬ ((0 ≤ f.year ∧ f.year ≤ 30) ∧ (0 ≤ f.off ∧ f.off ≤ 9)) from fun hh => by rw [btwB_iff.2 hh.2] at b4; exact absurd b4 (by decide))
              go_wp2_with (go_at_call 81; refine (inside_c _ _ _ _).mono ?_; rintro e w' ⟨rfl, rfl⟩)
              go_ret
              exact ⟨ret_int (by rw [HR.out, HD.out, if_neg (not_not_intro B1.out), if_pos B2.out]), bnx hB1 (hQq.below _)⟩
            | true =>
              have B2 := Lib.hid (And.intro (btwB_iff.1 b3) (btwB_iff.1 b4))
              go_wp2_with (go_at_call 81; refine (inside_c _ _ _ _).mono ?_; rintro e w' ⟨rfl, rfl⟩)
              clear x0 x1 x2 b3 b4
              go_loopw [6] (fun vj wj => ∃ j : Nat, j ≤ k ∧ vj = .int .i64 j ∧ Hid ((l.take j).any (meetB f) = false) ∧ Qt w1 wj) (fun vj _ => k - (intOf vj).toNat)
              case atStart => exact ⟨0, Nat.zero_le _, rfl, Lib.hid rfl, hQq⟩
              case round =>
                rename World => wj
                obtain ⟨j, hj, rfl, HJ, hQj⟩ := hrel
                by_cases hjk : j < k
                · have hjl : j < l.length := by omega
                  obtain ⟨y0, y1, y2⟩ := fus_at (h1.qt hQj) j hjl
                  obtain ⟨y3, y4, y5⟩ := fus_at (h1.qt (hQj.drewN 1)) j hjl
                  obtain ⟨z0, z1, z2⟩ := fus_at (h1.qt hQj) k hlt
                  obtain ⟨z3, z4, z5⟩ := fus_at (h1.qt (hQj.drewN 1)) k hlt
                  rw [← HF.out] at z0 z1 z2 z3 z4 z5
                  have HSN := Lib.hid (List.take_succ_eq_append_getElem hjl)
                  have HTK := Lib.hid (show l[j] ∈ l.take k from List.mem_take_iff_getElem.2 ⟨j, by omega, rfl⟩)
                  obtain ⟨gj, hgj⟩ : ∃ gj, gj = l[j] := ⟨_, rfl⟩
                  rw [← hgj] at y0 y1 y2 y3 y4 y5 HSN HTK
                  clear hgj
                  by_cases e1 : gj.point = f.point
                  · have q1 : (gj.point == f.point) = true := by rw [beq_iff_eq]; exact e1
                    have E1 := Lib.hid e1
                    clear e1
                    by_cases e2 : gj.year = f.year
                    · have q2 : (gj.year == f.year) = true := by rw [beq_iff_eq]; exact e2
                      have E2 := Lib.hid e2
                      clear e2
                      have HM := Lib.hid (show (l.take k).any (meetB f) = true from List.any_eq_true.2 ⟨gj, HTK.out, by unfold meetB; rw [decide_eq_true E1.out, decide_eq_true E2.out]; rfl⟩)
                      go_wp2_with fail
                      go_quiet (fail)
                      have hq8 : Qt wj (wj.drewN nq) := ⟨nq, rfl⟩
                      generalize wj.drewN nq = wq at hq8 ⊢
                      go_wp2_with fail
                      go_ret
                      exact ⟨ret_int (by rw [HR.out, HD.out, if_neg (not_not_intro B1.out), if_neg (not_not_intro B2.out), if_pos HM.out]), bnx hB1 ((hQj.trans hq8).below _)⟩
                    · have q2 : (gj.year == f.year) = false := by rw [beq_eq_false_iff_ne]; exact e2
                      have HM := Lib.hid (show meetB f gj = false by unfold meetB; rw [decide_eq_false e2, Bool.and_false])
                      clear e2
                      go_wp2_with fail
                      go_quiet (fail)
                      have hq8 : Qt wj (wj.drewN nq) := ⟨nq, rfl⟩
                      generalize wj.drewN nq = wq at hq8 ⊢
                      go_wp2_with fail
                      go_roundw
                      case rel => exact ⟨j + 1, by omega, by go_num, Lib.hid (by rw [HSN.out, List.any_append, HJ.out, List.any_cons, HM.out]; rfl), hQj.trans hq8⟩
                      case measure => simp [intOf]; omega
                  · have q1 : (gj.point == f.point) = false := by rw [beq_eq_false_iff_ne]; exact e1
                    have HM := Lib.hid (show meetB f gj = false by unfold meetB; rw [decide_eq_false e1, Bool.false_and])
                    clear e1
                    go_wp2_with fail
                    go_quiet (fail)
                    have hq8 : Qt wj (wj.drewN nq) := ⟨nq, rfl⟩
                    generalize wj.drewN nq = wq at hq8 ⊢
                    go_wp2_with fail
                    go_roundw
                    case rel => exact ⟨j + 1, by omega, by go_num, Lib.hid (by rw [HSN.out, List.any_append, HJ.out, List.any_cons, HM.out]; rfl), hQj.trans hq8⟩
                    case measure => simp [intOf]; omega
                · obtain rfl : k = j := by omega
                  go_wp2_with fail
                  go_roundw
                  case rel => exact ⟨k + 1, by omega, by go_num, Lib.hid (by rw [HR.out, HD.out, if_neg (not_not_intro B1.out), if_neg (not_not_intro B2.out), if_neg (by rw [HJ.out]; decide)]), hQj⟩
                  case measure => simp [intOf]; omega
      · obtain rfl : k = l.length := by omega
        go_wp2_with fail
        go_ret
        exact ⟨ret_int (by rw [HR.out, List.drop_length]; rfl), bnx hB1 (hQ.below _)⟩

set_option maxHeartbeats 1000000 in
theorem rready_c {A A' : Nat → Prop} {w : World} {x : Edg} {v vl : Value} {l : List Fu} (h : ClsM A w v x.claims) (hl : FusM A' w vl l) :
    Calls Tryz.prog 34 #[.agg #[.int .i64 x.points, .int .i64 x.bend, v], vl] w fun e w' => e = .returned (.int .i64 (bothX x l)) ∧ Below w.heap.size w w' := by
  obtain ⟨a1, c1, rfl, _, _⟩ := h.shape
  obtain ⟨al, cl, rfl, _, _⟩ := hl.shape
  obtain ⟨w1, hw1⟩ : ∃ w1, w1 = w.alloc (.cells #[.int .i64 x.points, .int .i64 x.bend, .slice a1 x.claims.length c1] 24) := ⟨_, rfl⟩
  obtain ⟨b1, hb1⟩ : ∃ b, b = w.heap.size := ⟨_, rfl⟩
  have hX1 : Blk b1 #[.int .i64 x.points, .int .i64 x.bend, .slice a1 x.claims.length c1] 24 w1 := by rw [hw1, hb1]; exact Blk.new w _ _
  have hB1 : Below w.heap.size w w1 := by rw [hw1]; exact (Below.refl _ w).alloc (Nat.le_refl _) _
  have h1 := h.call hB1
  have hl1 := hl.call hB1
  go_enter Tryz.func34, Tryz.ntmps34
  go_upto_region 1 with fail
  rw [← hw1, ← hb1]
  clear hw1 hb1
  have c0 := hX1.cell 0
  have c1' := hX1.cell 1
  have c2 := hX1.cell 2
  go_wp2_with fail
  refine (rcheck_c h1).mono ?_
  rintro e w2 ⟨rfl, hB2⟩
  have hX2 := hX1.call hB2
  have hl2 := hl1.call hB2
  have hBw2 := bnx hB1 hB2
  clear c0 c1' c2 hX1 h1 hB1 hB2 hl1
  by_cases hck : checkX x = 0
  · have hx := checkX_zero.1 hck
    have hb : (checkX x != 0) = false := by rw [hck]; rfl
    have has : bothX x l = furX x.points l := by unfold bothX; rw [if_neg (not_not_intro hck)]
    have HAS := Lib.hid has
    have hxp := hx.p
    clear has hck
    have c0 := hX2.cell 0
    have c1' := hX2.cell 1
    have c2 := hX2.cell 2
    go_wp2_with fail
    refine (rfurX_c hxp x.bend _ hl2).mono ?_
    rintro e w3 ⟨rfl, hB3⟩
    go_wp2_with fail
    go_ret
    exact ⟨ret_int HAS.out.symm, bnx hBw2 hB3⟩
  · have hb : (checkX x != 0) = true := by simpa using hck
    have has : bothX x l = checkX x := by unfold bothX; rw [if_pos hck]
    have HAS := Lib.hid has
    clear has hck
    go_wp2_with fail
    go_ret
    exact ⟨ret_int HAS.out.symm, hBw2⟩

end Go.Proofs.YtbpfhoihfoojfaaGreatDoor
