/- Contracts of the reference's inside, checkClaim, Check, asked, verdict, wider (edge); conditions: the claims read as a list. -/
import Derived.Test.YtbpfhoihfoojfaaGreatDoorIdl
namespace Go.Proofs.YtbpfhoihfoojfaaGreatDoor
open Go.RowKit

theorem inside_c (n lo hi : Int) (w : World) :
    Calls Tryz.prog 81 #[.int .i64 n, .int .i64 lo, .int .i64 hi] w fun e w' => e = .returned (.bool (btwB n lo hi)) ∧ w = w' := by
  by_cases h : lo ≤ n
  · go_enter Tryz.func81, Tryz.ntmps81
    go_wp2
    go_ret
    exact ⟨ret_bool (by simp [btwB, h]), rfl⟩
  · go_enter Tryz.func81, Tryz.ntmps81
    go_wp2
    go_ret
    exact ⟨ret_bool (by simp [btwB]; omega), rfl⟩
theorem inside_q (n lo hi : Int) (w : World) : Calls Tryz.prog 81 #[.int .i64 n, .int .i64 lo, .int .i64 hi] w fun e w' => e = .returned (.bool (btwB n lo hi)) ∧ Qt w w' := (inside_c n lo hi w).mono fun _ _ ⟨h1, h2⟩ => ⟨h1, h2 ▸ Qt.refl w⟩

set_option maxHeartbeats 4000000 in
theorem rclaimErr_c {P : Int} (hP : 1 ≤ P ∧ P ≤ 4) (c : Cl) (w : World) : Calls Tryz.prog 82 #[.int .i64 P, .agg #[.int .i64 c.kind, .int .i64 c.point, .int .i64 c.other, .int .i64 c.off, .int .i64 c.err]] w fun e w' => e = .returned (.int .i64 (claimE P c)) ∧ Below w.heap.size w w' := by
  have bw1 : IntKind.i64.wrap (P - 1) = P - 1 := IntWalk.i64_in _ (by omega)
  have HP := Lib.hid hP
  clear hP
  go_enter Tryz.func82, Tryz.ntmps82
  go_wp2_with (go_at_call 81; refine (inside_c _ _ _ _).mono ?_; rintro e w' ⟨rfl, rfl⟩)
  all_goals go_ret
  all_goals refine ⟨ret_int ?_, (Below.refl w.heap.size w).alloc (Nat.le_refl _) _⟩
  all_goals
    clear bw1
    simp [btwB] at *
    unfold claimE
    (repeat' split) <;> omega

/-- What wider hands back. -/
def widF (r : Int × Int) (n : Int) (first : Bool) : Int × Int := if first = true then (n, n) else (min r.1 n, max r.2 n)
/-- What the region that checks a claim reads. -/
def RcS (b : Nat) (P B : Int) (v : Value) (l : List Cl) (w : World) : Prop := XR b P B v w ∧ ClsM (fun _ => True) w v l

set_option maxHeartbeats 2000000 in
theorem rcheck_c {A : Nat → Prop} {w : World} {x : Edg} {v : Value} (h : ClsM A w v x.claims) :
    Calls Tryz.prog 57 #[.agg #[.int .i64 x.points, .int .i64 x.bend, v]] w fun e w' => e = .returned (.int .i64 (checkX x)) ∧ Below w.heap.size w w' := by
  obtain ⟨a1, c1, rfl, hc1, hm1⟩ := h.shape
  have n1 := h.len
  have hB := (Below.refl w.heap.size w).alloc (Nat.le_refl _) (.cells #[.int .i64 x.points, .int .i64 x.bend, .slice a1 x.claims.length c1] 24)
  by_cases hx : (1 ≤ x.points ∧ x.points ≤ 4) ∧ (0 ≤ x.bend ∧ x.bend ≤ 9)
  · have b1 : btwB x.points 1 4 = true := btwB_iff.2 hx.1
    have b2 : btwB x.bend 0 9 = true := btwB_iff.2 hx.2
    have hxe : checkX x = if 7 < x.claims.length then 6 else claimsE x.points x.claims := by unfold checkX; rw [if_neg (not_not_intro hx)]
    have HX := Lib.hid hx
    have HXE := Lib.hid hxe
    clear hx hxe
    by_cases h7 : 7 < x.claims.length
    · go_enter Tryz.func57, Tryz.ntmps57
      go_wp2_with (go_at_call 81; refine (inside_c _ _ _ _).mono ?_; rintro e w' ⟨rfl, rfl⟩)
      go_ret
      exact ⟨ret_int (by rw [HXE.out, if_pos h7]), hB⟩
    · obtain ⟨w1, hw1⟩ : ∃ w1, w1 = w.alloc (.cells #[.int .i64 x.points, .int .i64 x.bend, .slice a1 x.claims.length c1] 24) := ⟨_, rfl⟩
      obtain ⟨b0, hb0⟩ : ∃ b, b = w.heap.size := ⟨_, rfl⟩
      have hX : Blk b0 #[.int .i64 x.points, .int .i64 x.bend, .slice a1 x.claims.length c1] 24 w1 := by rw [hw1, hb0]; exact blk_at rfl _ _
      have h1 : ClsM A w1 (.slice a1 x.claims.length c1) x.claims := by rw [hw1]; exact h.call ((Below.refl _ w).alloc (Nat.le_refl _) _)
      rw [← hw1] at hB
      go_enter Tryz.func57, Tryz.ntmps57
      go_upto_region 1 with fail
      rw [← hw1, ← hb0]
      have hl1 := hX.lt
      clear hw1 hb0
      have c0 := hX.cell 0
      have c1' := hX.cell 1
      have c2 := hX.cell 2
      go_wp2_with (go_at_call 81; refine (inside_c _ _ _ _).mono ?_; rintro e w' ⟨rfl, rfl⟩)
      clear c0 c1' c2
      go_loopw [3] (fun i wr => ∃ k : Nat, k ≤ x.claims.length ∧ i = .int .i64 k ∧ Hid (claimsE x.points x.claims = claimsE x.points (x.claims.drop k)) ∧ Below w1.heap.size w1 wr) (fun i _ => x.claims.length - (intOf i).toNat)
      case atStart => exact ⟨0, Nat.zero_le _, rfl, Lib.hid rfl, Below.refl _ _⟩
      case round =>
        obtain ⟨k, hk, rfl, HE, hBr⟩ := hrel
        have hXr := hX.call hBr
        have hCr := (h1.call hBr).wide (A' := fun _ => True) fun _ _ _ => trivial
        have c2 := hXr.cell 2
        by_cases hlt : k < x.claims.length
        · obtain ⟨g, o, rfl, hA, hg⟩ := cls_addr hCr (by omega)
          have hce : ∀ w, Calls Tryz.prog 82 #[.int .i64 x.points, .agg #[.int .i64 x.claims[k].kind, .int .i64 x.claims[k].point, .int .i64 x.claims[k].other, .int .i64 x.claims[k].off, .int .i64 x.claims[k].err]] w fun e w' => e = .returned (.int .i64 (claimE x.points x.claims[k])) ∧ Below w.heap.size w w' := fun w => rclaimErr_c HX.out.1 x.claims[k] w
          have HCE := Lib.hid hce
          clear hce
          go_wp2_with fail
          refine wp_region_mix2 (.pur 0 (.one 1 (.pur 2 (.one 3 (.pur 4 (.pur 5 (.one 6 (.act 7 (.pur 8 .fin))))))))) 7 (RcS b0 x.points x.bend (.slice (some ⟨g, o, none⟩) x.claims.length c1) x.claims) (fun _ => True) (by kernel_rfl) (by kernel_rfl) rfl (by kernel_rfl) ⟨hXr.qt ((Qt.refl _).drewN 1), hCr.qt ((Qt.refl _).drewN 1)⟩ (fun wd hqd _ => ?_)
          refine mix_pur2 rfl (fun K hK => ?_)
          go_simp
          first | refine ⟨_, fun _ => rfl, hK _ ?_⟩ | refine hK _ ?_
          clear hK K
          refine mix_load2 rfl rfl rfl (.int .i64 x.points) (fun w' h => by have h : (RcS b0 x.points x.bend (.slice (some ⟨g, o, none⟩) x.claims.length c1) x.claims) w' := h; have h2 := XR.c0 h.1; go_simp) rfl ?_
          refine mix_pur2 rfl (fun K hK => ?_)
          go_simp
          first | refine ⟨_, fun _ => rfl, hK _ ?_⟩ | refine hK _ ?_
          clear hK K
          refine mix_load2 rfl rfl rfl (.slice (some ⟨g, o, none⟩) x.claims.length c1) (fun w' h => by have h : (RcS b0 x.points x.bend (.slice (some ⟨g, o, none⟩) x.claims.length c1) x.claims) w' := h; have h2 := XR.c2 h.1; go_simp) rfl ?_
          refine mix_pur2 rfl (fun K hK => ?_)
          go_simp
          first | refine ⟨_, fun _ => rfl, hK _ ?_⟩ | refine hK _ ?_
          clear hK K
          refine mix_pur2 rfl (fun K hK => ?_)
          go_simp
          first | refine ⟨_, fun _ => rfl, hK _ ?_⟩ | refine hK _ ?_
          clear hK K
          refine mix_load2 rfl rfl rfl (.agg #[.int .i64 x.claims[k].kind, .int .i64 x.claims[k].point, .int .i64 x.claims[k].other, .int .i64 x.claims[k].off, .int .i64 x.claims[k].err]) (fun w' h => by have h : (RcS b0 x.points x.bend (.slice (some ⟨g, o, none⟩) x.claims.length c1) x.claims) w' := h; obtain ⟨d0, d1, d2, d3, d4⟩ := cls_at h.2 k hlt; go_simp) rfl ?_
          refine mix_eff2 rfl true rfl (fun K hK => ?_)
          go_simp
          refine (HCE.out wd).mono ?_
          rintro e w5 ⟨rfl, hB5⟩
          have hB5r := hBr.trans ((bnx (hqd.below _) hB5).mono hBr.size)
          refine hK _ _ trivial ?_
          clear hK K
          refine mix_pur2 rfl (fun K hK => ?_)
          go_simp
          first | refine ⟨_, fun _ => rfl, hK _ ?_⟩ | refine hK _ ?_
          clear hK K
          refine mix_done2 ?_
          by_cases h0 : claimE x.points x.claims[k] = 0
          · have hb : (claimE x.points x.claims[k] != 0) = false := by rw [h0]; rfl
            have H0 := Lib.hid h0
            clear h0
            go_wp2_with fail
            go_roundw
            case rel => exact ⟨k + 1, by omega, by go_num, Lib.hid (by rw [HE.out, claimsE_drop hlt, if_neg (not_not_intro H0.out)]), hB5r⟩
            case measure => simp [intOf]; omega
          · have hb : (claimE x.points x.claims[k] != 0) = true := by simpa using h0
            have H0 := Lib.hid h0
            clear h0
            go_wp2_with fail
            go_ret
            exact ⟨ret_int (by rw [HXE.out, if_neg h7, HE.out, claimsE_drop hlt, if_pos H0.out]), hB.trans (hB5r.mono hB.size)⟩
        · go_wp2
          go_ret
          exact ⟨ret_int (by rw [HXE.out, if_neg h7, HE.out, List.drop_eq_nil_of_le (by omega)]; rfl), hB.trans (hBr.mono hB.size)⟩
  · have hxe : checkX x = 1 := by unfold checkX; rw [if_pos hx]
    have HX := Lib.hid hx
    have HXE := Lib.hid hxe
    clear hx hxe
    cases b1 : btwB x.points 1 4 with
    | false =>
      go_enter Tryz.func57, Tryz.ntmps57
      go_wp2_with (go_at_call 81; refine (inside_c _ _ _ _).mono ?_; rintro e w' ⟨rfl, rfl⟩)
      go_ret
      exact ⟨ret_int HXE.out.symm, hB⟩
    | true =>
      have b2 : btwB x.bend 0 9 = false := by
        cases b2 : btwB x.bend 0 9 with
        | false => rfl
        | true => exact absurd ⟨btwB_iff.1 b1, btwB_iff.1 b2⟩ HX.out
      go_enter Tryz.func57, Tryz.ntmps57
      go_wp2_with (go_at_call 81; refine (inside_c _ _ _ _).mono ?_; rintro e w' ⟨rfl, rfl⟩)
      go_ret
      exact ⟨ret_int HXE.out.symm, hB⟩

end Go.Proofs.YtbpfhoihfoojfaaGreatDoor
