/- Contract of Check (edge); conditions: the claims read as a list. -/
import Derived.Test.YtgdifckmjdjcpaaChk2
namespace Go.Proofs.Ytgdifckmjdjcpaa
open Go.RowKit

theorem claimsE_drop {P : Int} {l : List Cl} {k : Nat} (hk : k < l.length) : claimsE P (l.drop k) = if claimE P l[k] ≠ 0 then claimE P l[k] else claimsE P (l.drop (k + 1)) := by
  rw [List.drop_eq_getElem_cons hk]; rfl

set_option maxHeartbeats 2000000 in
theorem check_c {A : Nat → Prop} {w : World} {x : Edg} {v : Value} (h : ClsM A w v x.claims) :
    Calls Try.prog 29 #[.agg #[.int .i64 x.points, .int .i64 x.bend, v]] w fun e w' => e = .returned (.int .i64 (checkX x)) ∧ Below w.heap.size w w' := by
  obtain ⟨a1, c1, rfl, hc1, hm1⟩ := h.shape
  have n1 := h.len
  have hB := (Below.refl w.heap.size w).alloc (Nat.le_refl _) (.cells #[.int .i64 x.points, .int .i64 x.bend, .slice a1 x.claims.length c1] 24)
  by_cases hx : (1 ≤ x.points ∧ x.points ≤ 4) ∧ (0 ≤ x.bend ∧ x.bend ≤ 9)
  · have b1 : btwB x.points 1 4 = true := btwB_iff.2 hx.1
    have b2 : btwB x.bend 0 9 = true := btwB_iff.2 hx.2
    have hxe : checkX x = if 7 < x.claims.length then 6 else claimsE x.points x.claims := by unfold checkX; rw [if_neg (not_not_intro hx)]
    have HX := Lib.hid hx
    have HXE := Lib.hid hxe
    clear hx hxe
    by_cases h7 : 7 < x.claims.length
    · go_enter Try.func29, Try.ntmps29
      go_wp2_with (go_at_call 80; refine (between_c _ _ _ _).mono ?_; rintro e w' ⟨rfl, rfl⟩)
      go_ret
      exact ⟨ret_int (by rw [HXE.out, if_pos h7]), hB⟩
    · obtain ⟨w1, hw1⟩ : ∃ w1, w1 = w.alloc (.cells #[.int .i64 x.points, .int .i64 x.bend, .slice a1 x.claims.length c1] 24) := ⟨_, rfl⟩
      obtain ⟨b0, hb0⟩ : ∃ b, b = w.heap.size := ⟨_, rfl⟩
      have hX : Blk b0 #[.int .i64 x.points, .int .i64 x.bend, .slice a1 x.claims.length c1] 24 w1 := by rw [hw1, hb0]; exact blk_at rfl _ _
      have h1 : ClsM A w1 (.slice a1 x.claims.length c1) x.claims := by rw [hw1]; exact h.call ((Below.refl _ w).alloc (Nat.le_refl _) _)
      rw [← hw1] at hB
      go_enter Try.func29, Try.ntmps29
      go_upto_region 1 with fail
      rw [← hw1, ← hb0]
      have hl1 := hX.lt
      clear hw1 hb0
      have c0 := hX.cell 0
      have c1' := hX.cell 1
      have c2 := hX.cell 2
      go_wp2_with (go_at_call 80; refine (between_c _ _ _ _).mono ?_; rintro e w' ⟨rfl, rfl⟩)
      clear c0 c1' c2
      go_loopw [23] (fun i wr => ∃ k : Nat, k ≤ x.claims.length ∧ i = .int .i64 k ∧ claimsE x.points x.claims = claimsE x.points (x.claims.drop k) ∧ Below w1.heap.size w1 wr) (fun i _ => x.claims.length - (intOf i).toNat)
      case atStart => exact ⟨0, Nat.zero_le _, rfl, rfl, Below.refl _ _⟩
      case round =>
        obtain ⟨k, hk, rfl, he, hBr⟩ := hrel
        have HE := Lib.hid he
        clear he
        by_cases hlt : k < x.claims.length
        · obtain ⟨g, o, rfl, hA, hg⟩ := cls_addr h1 (by omega)
          obtain ⟨d0, d1, d2, d3, d4⟩ := cls_at (h1.call hBr) k hlt
          have hXr := hX.call hBr
          have c0 := hXr.cell 0
          have c1' := hXr.cell 1
          have c2 := hXr.cell 2
          have hBs := hXr.lt
          have hal := (hBr.alloc (o := .cells #[.int .i64 x.claims[k].kind, .int .i64 x.claims[k].point, .int .i64 x.claims[k].other, .int .i64 x.claims[k].off, .int .i64 x.claims[k].err] 26) hBr.size)
          by_cases h0 : claimE x.points x.claims[k] = 0
          · have H0 := Lib.hid h0
            go_wp2_with (go_at_call 81; refine (claimErr_c HX.out.1 _ _ x.claims[k] _).mono ?_; rintro e w' ⟨rfl, hB'⟩)
            go_roundw
            case rel => exact ⟨k + 1, by omega, by go_num, by rw [HE.out, claimsE_drop hlt, if_neg (not_not_intro H0.out)], bnx hal hB'⟩
            case measure => simp [intOf]; omega
          · have h0' : (claimE x.points x.claims[k] != 0) = true := by simpa using h0
            have H0 := Lib.hid h0
            clear h0
            go_wp2_with (go_at_call 81; refine (claimErr_c HX.out.1 _ _ x.claims[k] _).mono ?_; rintro e w' ⟨rfl, hB'⟩)
            go_ret
            exact ⟨ret_int (by rw [HXE.out, if_neg h7, HE.out, claimsE_drop hlt, if_pos H0.out]), hB.trans ((bnx hal hB').mono hB.size)⟩
        · go_wp2
          go_ret
          exact ⟨ret_int (by rw [HXE.out, if_neg h7, HE.out, List.drop_eq_nil_of_le (by omega)]; rfl), hB.trans (hBr.mono hB.size)⟩
  · have hxe : checkX x = 1 := by unfold checkX; rw [if_pos hx]
    have HX := Lib.hid hx
    have HXE := Lib.hid hxe
    clear hx hxe
    cases b1 : btwB x.points 1 4 with
    | false =>
      go_enter Try.func29, Try.ntmps29
      go_wp2_with (go_at_call 80; refine (between_c _ _ _ _).mono ?_; rintro e w' ⟨rfl, rfl⟩)
      go_ret
      exact ⟨ret_int HXE.out.symm, hB⟩
    | true =>
      have b2 : btwB x.bend 0 9 = false := by
        cases b2 : btwB x.bend 0 9 with
        | false => rfl
        | true => exact absurd ⟨btwB_iff.1 b1, btwB_iff.1 b2⟩ HX.out
      go_enter Try.func29, Try.ntmps29
      go_wp2_with (go_at_call 80; refine (between_c _ _ _ _).mono ?_; rintro e w' ⟨rfl, rfl⟩)
      go_ret
      exact ⟨ret_int HXE.out.symm, hB⟩

end Go.Proofs.Ytgdifckmjdjcpaa
