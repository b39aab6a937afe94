/- What is checked of claims and edges; claims that hold; lists that are the same; conditions: as said. -/
import Derived.Test.YtbpfhoihfoojfaaGreatDoorMem
import Derived.Test.YtbpfhoihfoojfaaGreatDoorPla
namespace Go.Proofs.YtbpfhoihfoojfaaGreatDoor
open Go.RowKit

theorem between_c (n lo hi : Int) (w : World) :
    Calls Tryz.prog 51 #[.int .i64 n, .int .i64 lo, .int .i64 hi] w fun e w' => e = .returned (.bool (btwB n lo hi)) ∧ w = w' := by
  by_cases h : lo ≤ n
  · go_enter Tryz.func51, Tryz.ntmps51
    go_wp2
    go_ret
    exact ⟨ret_bool (by simp [btwB, h]), rfl⟩
  · go_enter Tryz.func51, Tryz.ntmps51
    go_wp2
    go_ret
    exact ⟨ret_bool (by simp [btwB]; omega), rfl⟩

/-- A claim as the value that an interface holds. -/
def clV (c : Cl) : Value :=
  if c.kind = 1 then .iface 80 (.agg #[.int .i64 c.point, .int .i64 c.off])
  else if c.kind = 2 then .iface 82 (.agg #[.int .i64 c.point, .int .i64 c.off, .int .i64 c.err])
  else if c.kind = 3 then .iface 83 (.agg #[.int .i64 c.point, .int .i64 c.off])
  else if c.kind = 4 then .iface 84 (.agg #[.int .i64 c.point, .int .i64 c.off])
  else .iface 86 (.agg #[.int .i64 c.point, .int .i64 c.other, .int .i64 c.off])

theorem ofCl_c (c : Cl) (w : World) : Calls Tryz.prog 33 #[.agg #[.int .i64 c.kind, .int .i64 c.point, .int .i64 c.other, .int .i64 c.off, .int .i64 c.err]] w fun e w' => e = .returned (clV c) ∧ Below w.heap.size w w' := by
  have hB := (Below.refl w.heap.size w).alloc (Nat.le_refl _) (.cells #[.int .i64 c.kind, .int .i64 c.point, .int .i64 c.other, .int .i64 c.off, .int .i64 c.err] 54)
  by_cases h1 : c.kind = 1
  · have b1 : (c.kind == 1) = true := by simpa using h1
    have H := Lib.hid h1
    clear h1
    go_enter Tryz.func33, Tryz.ntmps33
    go_wp2
    go_ret
    exact ⟨by rw [clV, if_pos H.out]; rfl, hB⟩
  · have b1 : (c.kind == 1) = false := by simpa using h1
    by_cases h2 : c.kind = 2
    · have b2 : (c.kind == 2) = true := by simpa using h2
      have H := Lib.hid h2
      have H1 := Lib.hid h1
      clear h1 h2
      go_enter Tryz.func33, Tryz.ntmps33
      go_wp2
      go_ret
      exact ⟨by rw [clV, if_neg H1.out, if_pos H.out]; rfl, hB⟩
    · have b2 : (c.kind == 2) = false := by simpa using h2
      by_cases h3 : c.kind = 3
      · have b3 : (c.kind == 3) = true := by simpa using h3
        have H := Lib.hid h3
        have H1 := Lib.hid h1
        have H2 := Lib.hid h2
        clear h1 h2 h3
        go_enter Tryz.func33, Tryz.ntmps33
        go_wp2
        go_ret
        exact ⟨by rw [clV, if_neg H1.out, if_neg H2.out, if_pos H.out]; rfl, hB⟩
      · have b3 : (c.kind == 3) = false := by simpa using h3
        by_cases h4 : c.kind = 4
        · have b4 : (c.kind == 4) = true := by simpa using h4
          have H := Lib.hid h4
          have H1 := Lib.hid h1
          have H2 := Lib.hid h2
          have H3 := Lib.hid h3
          clear h1 h2 h3 h4
          go_enter Tryz.func33, Tryz.ntmps33
          go_wp2
          go_ret
          exact ⟨by rw [clV, if_neg H1.out, if_neg H2.out, if_neg H3.out, if_pos H.out]; rfl, hB⟩
        · have b4 : (c.kind == 4) = false := by simpa using h4
          have H1 := Lib.hid h1
          have H2 := Lib.hid h2
          have H3 := Lib.hid h3
          have H4 := Lib.hid h4
          clear h1 h2 h3 h4
          go_enter Tryz.func33, Tryz.ntmps33
          go_wp2
          go_ret
          exact ⟨by rw [clV, if_neg H1.out, if_neg H2.out, if_neg H3.out, if_neg H4.out]; rfl, hB⟩

/-- Offsets as the truth that the program keeps: four places, what is not used is 0. -/
def tvA (t : List Int) : Array Value := #[.int .i64 (atL t 0), .int .i64 (atL t 1), .int .i64 (atL t 2), .int .i64 (atL t 3)]

theorem below_drew {B : Nat} {a w : World} (h : Below B a w) : Below B a w.drew := ⟨h.os, h.tape, h.output, h.size, h.block⟩

set_option maxHeartbeats 1000000 in
theorem stone_c {p : Nat} (hp : p < 4) (a : Int) (t : List Int) (w : World) : Calls Tryz.prog 184 #[.agg #[.int .i64 p, .int .i64 a], .agg (tvA t)] w fun e w' => e = .returned (.bool (atL t p == a)) ∧ Below w.heap.size w w' := by
  have hB := ((Below.refl w.heap.size w).alloc (Nat.le_refl _) (.cells #[.int .i64 (p : Int), .int .i64 a] 80)).alloc (by simp) (.cells (tvA t) 146)
  unfold tvA at *
  rcases p with _ | _ | _ | _ | p
  all_goals first
    | omega
    | (go_enter Tryz.func184, Tryz.ntmps184
       go_wp2
       go_quiet (fail)
       go_wp2
       go_ret
       exact ⟨rfl, below_drewN hB _⟩)

set_option maxHeartbeats 1000000 in
theorem within_c {p : Nat} (hp : p < 4) (a : Int) (t : List Int) (w : World) : Calls Tryz.prog 186 #[.agg #[.int .i64 p, .int .i64 a], .agg (tvA t)] w fun e w' => e = .returned (.bool (decide (atL t p ≤ a))) ∧ Below w.heap.size w w' := by
  have hB := ((Below.refl w.heap.size w).alloc (Nat.le_refl _) (.cells #[.int .i64 (p : Int), .int .i64 a] 83)).alloc (by simp) (.cells (tvA t) 146)
  unfold tvA at *
  rcases p with _ | _ | _ | _ | p
  all_goals first
    | omega
    | (go_enter Tryz.func186, Tryz.ntmps186
       go_wp2
       go_quiet (fail)
       go_wp2
       go_ret
       exact ⟨rfl, below_drewN hB _⟩)

set_option maxHeartbeats 1000000 in
theorem beyond_c {p : Nat} (hp : p < 4) (a : Int) (t : List Int) (w : World) : Calls Tryz.prog 187 #[.agg #[.int .i64 p, .int .i64 a], .agg (tvA t)] w fun e w' => e = .returned (.bool (decide (a ≤ atL t p))) ∧ Below w.heap.size w w' := by
  have hB := ((Below.refl w.heap.size w).alloc (Nat.le_refl _) (.cells #[.int .i64 (p : Int), .int .i64 a] 84)).alloc (by simp) (.cells (tvA t) 146)
  unfold tvA at *
  rcases p with _ | _ | _ | _ | p
  all_goals first
    | omega
    | (go_enter Tryz.func187, Tryz.ntmps187
       go_wp2
       go_quiet (fail)
       go_wp2
       go_ret
       exact ⟨rfl, below_drewN hB _⟩)

theorem between_q (n lo hi : Int) (w : World) : Calls Tryz.prog 51 #[.int .i64 n, .int .i64 lo, .int .i64 hi] w fun e w' => e = .returned (.bool (btwB n lo hi)) ∧ Qt w w' := (between_c n lo hi w).mono fun _ _ ⟨h1, h2⟩ => ⟨h1, h2 ▸ Qt.refl w⟩

set_option maxHeartbeats 1000000 in
theorem measure_c {p : Nat} (hp : p < 4) {a b : Int} (ha : 0 ≤ a ∧ a ≤ 9) (hb : 0 ≤ b ∧ b ≤ 9) (t : List Int) (w : World) : Calls Tryz.prog 185 #[.agg #[.int .i64 p, .int .i64 a, .int .i64 b], .agg (tvA t)] w fun e w' => e = .returned (.bool (btwB (atL t p) (a - b) (a + b))) ∧ Below w.heap.size w w' := by
  have hB := ((Below.refl w.heap.size w).alloc (Nat.le_refl _) (.cells #[.int .i64 (p : Int), .int .i64 a, .int .i64 b] 82)).alloc (by simp) (.cells (tvA t) 146)
  unfold tvA at *
  have bw1 : IntKind.i64.wrap (a - b) = a - b := IntWalk.i64_in _ (by omega)
  have bw2 : IntKind.i64.wrap (a + b) = a + b := IntWalk.i64_in _ (by omega)
  rcases p with _ | _ | _ | _ | p
  all_goals first
    | omega
    | (go_enter Tryz.func185, Tryz.ntmps185
       go_wp2
       go_quiet ((go_at_call 51; refine qt_of (between_q _ _ _ _)))
       go_wp2
       go_ret
       exact ⟨rfl, below_drewN hB _⟩)

end Go.Proofs.YtbpfhoihfoojfaaGreatDoor

namespace Go.Proofs.YtbpfhoihfoojfaaGreatDoor
open Go.RowKit

set_option maxHeartbeats 1000000 in
theorem abreast_c {p q : Nat} (hp : p < 4) (hq : q < 4) {a : Int} (ha : -9 ≤ a ∧ a ≤ 9) {t : List Int} (ht : ∀ i < 4, 0 ≤ atL t i ∧ atL t i ≤ 9) (w : World) : Calls Tryz.prog 188 #[.agg #[.int .i64 p, .int .i64 q, .int .i64 a], .agg (tvA t)] w fun e w' => e = .returned (.bool (decide (atL t p ≤ atL t q + a))) ∧ Below w.heap.size w w' := by
  have hB := ((Below.refl w.heap.size w).alloc (Nat.le_refl _) (.cells #[.int .i64 (p : Int), .int .i64 (q : Int), .int .i64 a] 86)).alloc (by simp) (.cells (tvA t) 146)
  have bw1 : IntKind.i64.wrap (atL t q + a) = atL t q + a := IntWalk.i64_in _ (by have := ht q hq; omega)
  unfold tvA at *
  clear ht
  rcases p with _ | _ | _ | _ | p
  all_goals first
    | omega
    | (rcases q with _ | _ | _ | _ | q
       all_goals first
         | omega
         | (go_enter Tryz.func188, Tryz.ntmps188
            go_wp2
            go_quiet (fail)
            go_wp2
            go_ret
            exact ⟨rfl, below_drewN hB _⟩))

set_option maxHeartbeats 2000000 in
theorem claimErr_c {P : Int} (hP : 1 ≤ P ∧ P ≤ 4) (B : Int) (v : Value) (c : Cl) (w : World) : Calls Tryz.prog 67 #[.agg #[.int .i64 P, .int .i64 B, v], .agg #[.int .i64 c.kind, .int .i64 c.point, .int .i64 c.other, .int .i64 c.off, .int .i64 c.err]] w fun e w' => e = .returned (.int .i64 (claimE P c)) ∧ Below w.heap.size w w' := by
  have hB := ((Below.refl w.heap.size w).alloc (Nat.le_refl _) (.cells #[.int .i64 P, .int .i64 B, v] 24)).alloc (by simp) (.cells #[.int .i64 c.kind, .int .i64 c.point, .int .i64 c.other, .int .i64 c.off, .int .i64 c.err] 54)
  have bw1 : IntKind.i64.wrap (P - 1) = P - 1 := IntWalk.i64_in _ (by omega)
  have HP := Lib.hid hP
  clear hP
  go_enter Tryz.func67, Tryz.ntmps67
  go_wp2_with (go_at_call 51; refine (between_c _ _ _ _).mono ?_; rintro e w' ⟨rfl, rfl⟩)
  all_goals go_ret
  all_goals refine ⟨ret_int ?_, hB⟩
  all_goals
    clear hB bw1
    simp [btwB] at *
    unfold claimE
    (repeat' split) <;> omega

end Go.Proofs.YtbpfhoihfoojfaaGreatDoor

namespace Go.Proofs.YtbpfhoihfoojfaaGreatDoor
open Go.RowKit

theorem claimsE_drop {P : Int} {l : List Cl} {k : Nat} (hk : k < l.length) : claimsE P (l.drop k) = if claimE P l[k] ≠ 0 then claimE P l[k] else claimsE P (l.drop (k + 1)) := by
  rw [List.drop_eq_getElem_cons hk]; rfl

set_option maxHeartbeats 2000000 in
theorem check_c {A : Nat → Prop} {w : World} {x : Edg} {v : Value} (h : ClsM A w v x.claims) :
    Calls Tryz.prog 42 #[.agg #[.int .i64 x.points, .int .i64 x.bend, v]] w fun e w' => e = .returned (.int .i64 (checkX x)) ∧ Below w.heap.size w w' := by
  obtain ⟨a1, c1, rfl, hc1, hm1⟩ := h.shape
  have n1 := h.len
  have hB := (Below.refl w.heap.size w).alloc (Nat.le_refl _) (.cells #[.int .i64 x.points, .int .i64 x.bend, .slice a1 x.claims.length c1] 24)
  by_cases hx : (1 ≤ x.points ∧ x.points ≤ 4) ∧ (0 ≤ x.bend ∧ x.bend ≤ 9)
  · have b1 : btwB x.points 1 4 = true := btwB_iff.2 hx.1
    have b2 : btwB x.bend 0 9 = true := btwB_iff.2 hx.2
    have hxe : checkX x = if 7 < x.claims.length then 6 else claimsE x.points x.claims := by unfold checkX; rw [if_neg (not_not_intro hx)]
    have HX := Lib.hid hx
    have HXE := Lib.hid hxe
    clear hx hxe
    by_cases h7 : 7 < x.claims.length
    · go_enter Tryz.func42, Tryz.ntmps42
      go_wp2_with (go_at_call 51; refine (between_c _ _ _ _).mono ?_; rintro e w' ⟨rfl, rfl⟩)
      go_ret
      exact ⟨ret_int (by rw [HXE.out, if_pos h7]), hB⟩
    · obtain ⟨w1, hw1⟩ : ∃ w1, w1 = w.alloc (.cells #[.int .i64 x.points, .int .i64 x.bend, .slice a1 x.claims.length c1] 24) := ⟨_, rfl⟩
      obtain ⟨b0, hb0⟩ : ∃ b, b = w.heap.size := ⟨_, rfl⟩
      have hX : Blk b0 #[.int .i64 x.points, .int .i64 x.bend, .slice a1 x.claims.length c1] 24 w1 := by rw [hw1, hb0]; exact blk_at rfl _ _
      have h1 : ClsM A w1 (.slice a1 x.claims.length c1) x.claims := by rw [hw1]; exact h.call ((Below.refl _ w).alloc (Nat.le_refl _) _)
      rw [← hw1] at hB
      go_enter Tryz.func42, Tryz.ntmps42
      go_upto_region 1 with fail
      rw [← hw1, ← hb0]
      have hl1 := hX.lt
      clear hw1 hb0
      have c0 := hX.cell 0
      have c1' := hX.cell 1
      have c2 := hX.cell 2
      go_wp2_with (go_at_call 51; refine (between_c _ _ _ _).mono ?_; rintro e w' ⟨rfl, rfl⟩)
      clear c0 c1' c2
      go_loopw [23] (fun i wr => ∃ k : Nat, k ≤ x.claims.length ∧ i = .int .i64 k ∧ claimsE x.points x.claims = claimsE x.points (x.claims.drop k) ∧ Below w1.heap.size w1 wr) (fun i _ => x.claims.length - (intOf i).toNat)
      case atStart => exact ⟨0, Nat.zero_le _, rfl, rfl, Below.refl _ _⟩
      case round =>
        obtain ⟨k, hk, rfl, he, hBr⟩ := hrel
        have HE := Lib.hid he
        clear he
        by_cases hlt : k < x.claims.length
        · obtain ⟨g, o, rfl, hA, hg⟩ := cls_addr h1 (by omega)
          obtain ⟨d0, d1, d2, d3, d4⟩ := cls_at (h1.call hBr) k hlt
          have hXr := hX.call hBr
          have c0 := hXr.cell 0
          have c1' := hXr.cell 1
          have c2 := hXr.cell 2
          have hBs := hXr.lt
          have hal := (hBr.alloc (o := .cells #[.int .i64 x.claims[k].kind, .int .i64 x.claims[k].point, .int .i64 x.claims[k].other, .int .i64 x.claims[k].off, .int .i64 x.claims[k].err] 54) hBr.size)
          by_cases h0 : claimE x.points x.claims[k] = 0
          · have H0 := Lib.hid h0
            go_wp2_with (go_at_call 67; refine (claimErr_c HX.out.1 _ _ x.claims[k] _).mono ?_; rintro e w' ⟨rfl, hB'⟩)
            go_roundw
            case rel => exact ⟨k + 1, by omega, by go_num, by rw [HE.out, claimsE_drop hlt, if_neg (not_not_intro H0.out)], bnx hal hB'⟩
            case measure => simp [intOf]; omega
          · have h0' : (claimE x.points x.claims[k] != 0) = true := by simpa using h0
            have H0 := Lib.hid h0
            clear h0
            go_wp2_with (go_at_call 67; refine (claimErr_c HX.out.1 _ _ x.claims[k] _).mono ?_; rintro e w' ⟨rfl, hB'⟩)
            go_ret
            exact ⟨ret_int (by rw [HXE.out, if_neg h7, HE.out, claimsE_drop hlt, if_pos H0.out]), hB.trans ((bnx hal hB').mono hB.size)⟩
        · go_wp2
          go_ret
          exact ⟨ret_int (by rw [HXE.out, if_neg h7, HE.out, List.drop_eq_nil_of_le (by omega)]; rfl), hB.trans (hBr.mono hB.size)⟩
  · have hxe : checkX x = 1 := by unfold checkX; rw [if_pos hx]
    have HX := Lib.hid hx
    have HXE := Lib.hid hxe
    clear hx hxe
    cases b1 : btwB x.points 1 4 with
    | false =>
      go_enter Tryz.func42, Tryz.ntmps42
      go_wp2_with (go_at_call 51; refine (between_c _ _ _ _).mono ?_; rintro e w' ⟨rfl, rfl⟩)
      go_ret
      exact ⟨ret_int HXE.out.symm, hB⟩
    | true =>
      have b2 : btwB x.bend 0 9 = false := by
        cases b2 : btwB x.bend 0 9 with
        | false => rfl
        | true => exact absurd ⟨btwB_iff.1 b1, btwB_iff.1 b2⟩ HX.out
      go_enter Tryz.func42, Tryz.ntmps42
      go_wp2_with (go_at_call 51; refine (between_c _ _ _ _).mono ?_; rintro e w' ⟨rfl, rfl⟩)
      go_ret
      exact ⟨ret_int HXE.out.symm, hB⟩

end Go.Proofs.YtbpfhoihfoojfaaGreatDoor

namespace Go.Proofs.YtbpfhoihfoojfaaGreatDoor
open Go.RowKit

theorem ne52 (r s : Int × Int) {b : Bool} (h : (r != s) = b) (w : World) : (binOp .neq 59 (.agg #[.int .i64 r.1, .int .i64 r.2]) (.agg #[.int .i64 s.1, .int .i64 s.2])).run Tryz.prog w = .ok (.bool b) w := by
  subst h
  obtain ⟨a, b⟩ := r
  obtain ⟨c, d⟩ := s
  by_cases h1 : a = c <;> by_cases h2 : b = d <;> simp [go_sem, h1, h2, bne]
theorem ne76 (r s : Fu) {b : Bool} (h : (!(r.point == s.point && (r.year == s.year && r.off == s.off))) = b) (w : World) : (binOp .neq 73 (.agg #[.int .i64 r.point, .int .i64 r.year, .int .i64 r.off]) (.agg #[.int .i64 s.point, .int .i64 s.year, .int .i64 s.off])).run Tryz.prog w = .ok (.bool b) w := by
  subst h
  by_cases h1 : r.point = s.point <;> by_cases h2 : r.year = s.year <;> by_cases h3 : r.off = s.off <;> simp [go_sem, h1, h2, h3]
theorem fu_ext {r s : Fu} (h : (r.point == s.point && (r.year == s.year && r.off == s.off)) = true) : r = s := by
  simp only [Bool.and_eq_true, beq_iff_eq] at h
  obtain ⟨a, b, c⟩ := r
  obtain ⟨d, e, f⟩ := s
  simp only at h
  rw [h.1, h.2.1, h.2.2]
theorem fu_refl (r : Fu) : (r.point == r.point && (r.year == r.year && r.off == r.off)) = true := by simp
theorem rg_ext {r s : Int × Int} (h : (r == s) = true) : r = s := eq_of_beq h
theorem rg_refl (r : Int × Int) : (r == r) = true := beq_self_eq_true r

set_option maxHeartbeats 1000000 in
theorem sameRanges_q {A A' : Nat → Prop} {w : World} {v1 v2 : Value} {l1 l2 : List (Int × Int)} (h1 : RgsM A w v1 l1) (h2 : RgsM A' w v2 l2) :
    Calls Tryz.prog 25 #[v1, v2] w fun e w' => (∃ b : Bool, e = .returned (.bool b) ∧ (b = true ↔ l1 = l2)) ∧ Qt w w' := by
  obtain ⟨a1, c1, rfl, hc1, hm1⟩ := h1.shape
  obtain ⟨a2, c2, rfl, hc2, hm2⟩ := h2.shape
  have n1 := h1.len
  have n2 := h2.len
  by_cases hl : l1.length = l2.length
  · go_enter Tryz.func25, Tryz.ntmps25
    have hd : (((l1.length : Int)) != (l2.length : Int)) = false := by simp; omega
    have HL := Lib.hid hl; clear hl
    go_wp2
    go_loopw [5] (fun v wr => ∃ k : Nat, k ≤ l1.length ∧ v = .int .i64 k ∧ (∀ j (a : j < l1.length) (b : j < l2.length), j < k → l1[j] = l2[j]) ∧ Qt w wr) (fun v _ => l1.length - (intOf v).toNat)
    case atStart => exact ⟨0, Nat.zero_le _, rfl, by omega, Qt.refl _⟩
    case round =>
      obtain ⟨k, hk, rfl, hpre, hQ⟩ := hrel
      have HP := Lib.hid hpre; clear hpre
      by_cases hlt : k < l1.length
      · have hlt2 : k < l2.length := by have := HL.out; omega
        obtain ⟨b1, o1, rfl, _, _⟩ := rgs_addr h1 (by omega)
        obtain ⟨b2, o2, rfl, _, _⟩ := rgs_addr h2 (by omega)
        obtain ⟨x0, x1⟩ := rgs_at (h1.qt (hQ.drewN 1)) k hlt
        obtain ⟨y0, y1⟩ := rgs_at (h2.qt (hQ.drewN 1)) k hlt2
        obtain ⟨p0, p1⟩ := rgs_at (h1.qt hQ) k hlt
        obtain ⟨q0, q1⟩ := rgs_at (h2.qt hQ) k hlt2
        cases hb : (l1[k] == l2[k]) with
        | true =>
          have HE := Lib.hid (rg_ext hb)
          have hn := ne52 l1[k] l2[k] (b := false) (by first | (rw [hb]; rfl) | (simp only [bne, hb, Bool.not_true]))
          clear hb
          go_wp2
          go_quiet (fail)
          go_wp2
          go_roundw
          case rel =>
            refine ⟨k + 1, by omega, by go_num, fun j a b hj => ?_, hQ.drewN _⟩
            by_cases e : j = k
            · subst e; exact HE.out
            · exact HP.out j a b (by omega)
          case measure => simp [intOf]; omega
        | false =>
          have hne : l1 ≠ l2 := fun e => by
            subst e
            rw [rg_refl] at hb
            exact absurd hb (by decide)
          have hn := ne52 l1[k] l2[k] (b := true) (by first | (rw [hb]; rfl) | (simp only [bne, hb, Bool.not_false]))
          have HE := Lib.hid hne
          clear hb hne
          go_wp2
          go_quiet (fail)
          go_wp2
          go_ret
          exact ⟨⟨false, rfl, by simp [HE.out]⟩, hQ.drewN _⟩
      · go_wp2
        go_ret
        exact ⟨⟨true, rfl, by simp only [true_iff]; exact List.ext_getElem HL.out fun j a b => HP.out j a b (by omega)⟩, hQ⟩
  · go_enter Tryz.func25, Tryz.ntmps25
    have hd : (((l1.length : Int)) != (l2.length : Int)) = true := by simp; omega
    have hne : l1 ≠ l2 := fun e => hl (by rw [e])
    have HE := Lib.hid hne
    clear hne
    go_wp2
    go_ret
    exact ⟨⟨false, rfl, by simp [HE.out]⟩, Qt.refl _⟩

set_option maxHeartbeats 1000000 in
theorem sameFurrows_q {A A' : Nat → Prop} {w : World} {v1 v2 : Value} {l1 l2 : List Fu} (h1 : FusM A w v1 l1) (h2 : FusM A' w v2 l2) :
    Calls Tryz.prog 15 #[v1, v2] w fun e w' => (∃ b : Bool, e = .returned (.bool b) ∧ (b = true ↔ l1 = l2)) ∧ Qt w w' := by
  obtain ⟨a1, c1, rfl, hc1, hm1⟩ := h1.shape
  obtain ⟨a2, c2, rfl, hc2, hm2⟩ := h2.shape
  have n1 := h1.len
  have n2 := h2.len
  by_cases hl : l1.length = l2.length
  · go_enter Tryz.func15, Tryz.ntmps15
    have hd : (((l1.length : Int)) != (l2.length : Int)) = false := by simp; omega
    have HL := Lib.hid hl; clear hl
    go_wp2
    go_loopw [5] (fun v wr => ∃ k : Nat, k ≤ l1.length ∧ v = .int .i64 k ∧ (∀ j (a : j < l1.length) (b : j < l2.length), j < k → l1[j] = l2[j]) ∧ Qt w wr) (fun v _ => l1.length - (intOf v).toNat)
    case atStart => exact ⟨0, Nat.zero_le _, rfl, by omega, Qt.refl _⟩
    case round =>
      obtain ⟨k, hk, rfl, hpre, hQ⟩ := hrel
      have HP := Lib.hid hpre; clear hpre
      by_cases hlt : k < l1.length
      · have hlt2 : k < l2.length := by have := HL.out; omega
        obtain ⟨b1, o1, rfl, _, _⟩ := fus_addr h1 (by omega)
        obtain ⟨b2, o2, rfl, _, _⟩ := fus_addr h2 (by omega)
        obtain ⟨x0, x1, x2⟩ := fus_at (h1.qt (hQ.drewN 1)) k hlt
        obtain ⟨y0, y1, y2⟩ := fus_at (h2.qt (hQ.drewN 1)) k hlt2
        obtain ⟨p0, p1, p2⟩ := fus_at (h1.qt hQ) k hlt
        obtain ⟨q0, q1, q2⟩ := fus_at (h2.qt hQ) k hlt2
        cases hb : (l1[k].point == l2[k].point && (l1[k].year == l2[k].year && l1[k].off == l2[k].off)) with
        | true =>
          have HE := Lib.hid (fu_ext hb)
          have hn := ne76 l1[k] l2[k] (b := false) (by first | (rw [hb]; rfl) | (simp only [bne, hb, Bool.not_true]))
          clear hb
          go_wp2
          go_quiet (fail)
          go_wp2
          go_roundw
          case rel =>
            refine ⟨k + 1, by omega, by go_num, fun j a b hj => ?_, hQ.drewN _⟩
            by_cases e : j = k
            · subst e; exact HE.out
            · exact HP.out j a b (by omega)
          case measure => simp [intOf]; omega
        | false =>
          have hne : l1 ≠ l2 := fun e => by
            subst e
            rw [fu_refl] at hb
            exact absurd hb (by decide)
          have hn := ne76 l1[k] l2[k] (b := true) (by first | (rw [hb]; rfl) | (simp only [bne, hb, Bool.not_false]))
          have HE := Lib.hid hne
          clear hb hne
          go_wp2
          go_quiet (fail)
          go_wp2
          go_ret
          exact ⟨⟨false, rfl, by simp [HE.out]⟩, hQ.drewN _⟩
      · go_wp2
        go_ret
        exact ⟨⟨true, rfl, by simp only [true_iff]; exact List.ext_getElem HL.out fun j a b => HP.out j a b (by omega)⟩, hQ⟩
  · go_enter Tryz.func15, Tryz.ntmps15
    have hd : (((l1.length : Int)) != (l2.length : Int)) = true := by simp; omega
    have hne : l1 ≠ l2 := fun e => hl (by rw [e])
    have HE := Lib.hid hne
    clear hne
    go_wp2
    go_ret
    exact ⟨⟨false, rfl, by simp [HE.out]⟩, Qt.refl _⟩

end Go.Proofs.YtbpfhoihfoojfaaGreatDoor

