/- EdgeSettled: what its walk hands back; conditions: the argument reads as a list of numbers. -/
import Derived.Test.YtgdifckmjdjcpaaDea
import Derived.Test.YtgdifckmjdjcpaaFol
import Derived.Test.YtgdifckmjdjcpaaAdd
import Derived.Test.YtgdifckmjdjcpaaCpe
import Derived.Test.YtgdifckmjdjcpaaSo
namespace Go.Proofs.Ytgdifckmjdjcpaa
open Go.RowKit

def pinX (x : Edg) (s : Bs) : Edg := { x with claims := x.claims ++ pins s x.n }
theorem settled_law {x : Edg} (hx : x.Ok) (hm : x.claims.length ≤ 3) {s : Bs} (h : IsBnd x s) {c : Cl} (hc : c.Ok x.points) : countX (pinX x s) = (1, 0) ∧ followsX (pinX x s) c = (if c.holds (atL (s.map Prod.fst)) = true then 1 else 2, 0) := by
  have ht : truthsF (pinX x s) = [s.map Prod.fst] := pins_truths h
  have hok : (pinX x s).Ok := pins_ok hx hm h
  have hck : ¬ checkX (pinX x s) ≠ 0 := not_not_intro (checkX_zero.2 hok)
  refine ⟨by unfold countX; rw [if_neg hck, ht]; rfl, ?_⟩
  have has : askedX (pinX x s) c = 0 := by unfold askedX; rw [if_neg hck]; exact claimE_zero.2 hc
  unfold followsX
  rw [if_neg (not_not_intro has), if_neg (by rw [hasT_iff.2 (by rw [ht]; simp)]; decide), ht]
  by_cases hh : c.holds (atL (s.map Prod.fst)) = true
  · rw [if_pos hh, List.filter_cons_of_pos (p := fun t => c.holds (atL t)) hh]; rfl
  · rw [if_neg hh, List.filter_cons_of_neg (p := fun t => c.holds (atL t)) hh]; rfl
/-- What a round that puts a stone reads. -/
def SeS (b : Nat) (P B : Int) (v : Value) (gl0 ol p : Nat) (a : Int) (w : World) : Prop := Blk b #[.int .i64 P, .int .i64 B, v] 24 w ∧ w.cell? ⟨gl0, ol + p * 2, none⟩ = some (.int .i64 a)

set_option maxRecDepth 100000 in
set_option maxHeartbeats 4000000 in
theorem edgeSettled_c {A : Nat → Prop} {w : World} {v : Value} {l : List Int} (h : Ints A w v l) : Calls Try.prog 17 #[v] w fun e w' => e = .returned (.bool true) ∧ Below w.heap.size w w' := by
  obtain ⟨a0, c0, rfl, _, _⟩ := h.shape
  go_enter Try.func17, Try.ntmps17
  go_wp2_with fail
  refine (newHand_c h).mono ?_
  rintro e w1 ⟨rfl, hH1, hB1⟩
  have hsz1 := hH1.lt
  go_wp2_with fail
  refine (edgeOf_c hH1 (by omega) (pts := 4) (cl := 3) (by omega) (by omega)).mono ?_
  rintro e w2 ⟨⟨x, vx, rfl, hx, hx4, hx7, hO2⟩, ⟨k2, hk2, hH2⟩, hG2⟩
  have hB2 := bhand hB1 hG2 (Nat.le_refl _)
  obtain ⟨ax, cx, rfl⟩ := own_slice hO2
  have hgr := World.ownsRow.lt hO2
  obtain ⟨w3, hw3⟩ : ∃ w3, w3 = w2.alloc (.cells #[.int .i64 x.points, .int .i64 x.bend, .slice ax x.claims.length cx] 24) := ⟨_, rfl⟩
  obtain ⟨bx, hbx⟩ : ∃ b, b = w2.heap.size := ⟨_, rfl⟩
  have hX3 : Blk bx #[.int .i64 x.points, .int .i64 x.bend, .slice ax x.claims.length cx] 24 w3 := by rw [hw3, hbx]; exact Blk.new _ _ _
  have hB3 : Below w.heap.size w w3 := by rw [hw3]; exact bal2 hB2
  have hO3 : Own w1.heap.size w3 26 5 (.slice ax x.claims.length cx) x.claims.length (x.claims.flatMap ccells) := by rw [hw3]; exact hO2.alloc _
  have hH3 : Hnd w3 w.heap.size k2 := by rw [hw3]; exact hH2.call ((Below.refl _ _).alloc (Nat.le_refl _) _)
  have hbw : w1.heap.size ≤ bx := by rw [hbx]; exact hG2.size
  have hz1 : w.heap.size < w1.heap.size := hsz1
  go_upto_region 3 with fail
  rw [← hw3, ← hbx]
  rw [← hbx] at hgr
  clear hw3 hbx hO2 hG2 hH1 hB1 hB2 hH2 hsz1
  have hxp := hx.p
  obtain ⟨n, hn⟩ : ∃ n : Nat, x.points = (n : Int) := ⟨x.points.toNat, by omega⟩
  have hn4 : 1 ≤ n ∧ n ≤ 4 := by omega
  rw [hn] at hX3 ⊢
  have hxl := hX3.lt
  have hs0 : HXA w bx w3.heap.size n x.bend (.slice ax x.claims.length cx) x.claims none 100 w3 := ⟨⟨k2, by omega, hH3⟩, hX3, (Own.cls hO3).wide fun q hq hl => ⟨by omega, hl⟩, fun b e => (by cases e), hB3, Nat.le_refl _, by omega, by omega, hxl⟩
  have HN := Lib.hid hn
  clear hX3 hO3 hB3 hH3 hgr hn hxl
  go_cut [5] from 16 (fun s5 wx => ∃ (c : Cl) (ba : Nat), s5 = .pointer (some ⟨ba, 0, none⟩) ∧ c.Ok (n : Int) ∧ HXA w bx w3.heap.size n x.bend (.slice ax x.claims.length cx) x.claims none 120 wx ∧ Blk ba #[.int .i64 c.kind, .int .i64 c.point, .int .i64 c.other, .int .i64 c.off, .int .i64 c.err] 26 wx)
  case first =>
    refine wp_region_mix2 (.pur 0 (.pur 1 (.one 2 (.pur 3 (.pur 5 (.pur 7 (.pur 9 (.two 4 (.two 6 (.two 8 (.two 10 (.two 11 (.two 12 (.act 13 (.act 14 .fin)) 13 (.act 12 (.act 14 .fin))) 13 (.act 11 (.act 12 (.act 14 .fin)))) 13 (.act 10 (.act 11 (.act 12 (.act 14 .fin))))) 13 (.act 8 (.act 10 (.act 11 (.act 12 (.act 14 .fin)))))) 13 (.act 6 (.act 8 (.act 10 (.act 11 (.act 12 (.act 14 .fin))))))) 13 (.act 4 (.act 6 (.act 8 (.act 10 (.act 11 (.act 12 (.act 14 .fin))))))))))))))) 14 (XR bx (n : Int) x.bend (.slice ax x.claims.length cx)) (fun _ => True) (by kernel_rfl) (by kernel_rfl) rfl (by kernel_rfl) ((hs0.qt ((Qt.refl _).drewN 1)).xr) (fun wd hqd _ => ?_)
    have hs := hs0.qt hqd
    refine mix_pur2 rfl (fun K hK => ?_)
    go_simp
    first | refine ⟨_, fun _ => rfl, hK _ ?_⟩ | refine hK _ ?_
    clear hK K
    refine mix_pur2 rfl (fun K hK => ?_)
    go_simp
    first | refine ⟨_, fun _ => rfl, hK _ ?_⟩ | refine hK _ ?_
    clear hK K
    refine mix_load2 rfl rfl rfl (.int .i64 (n : Int)) (fun w' h => by have h : (XR bx (n : Int) x.bend (.slice ax x.claims.length cx)) w' := h; have h2 := XR.c0 h; go_simp) rfl ?_
    refine mix_pur2 rfl (fun K hK => ?_)
    go_simp
    first | refine ⟨_, fun _ => rfl, hK _ ?_⟩ | refine hK _ ?_
    clear hK K
    refine mix_pur2 rfl (fun K hK => ?_)
    go_simp
    first | refine ⟨_, fun _ => rfl, hK _ ?_⟩ | refine hK _ ?_
    clear hK K
    refine mix_pur2 rfl (fun K hK => ?_)
    go_simp
    first | refine ⟨_, fun _ => rfl, hK _ ?_⟩ | refine hK _ ?_
    clear hK K
    refine mix_pur2 rfl (fun K hK => ?_)
    go_simp
    first | refine ⟨_, fun _ => rfl, hK _ ?_⟩ | refine hK _ ?_
    clear hK K
    refine mix_two2 rfl rfl false false rfl rfl (fun K hK => ?_) (fun K hK => ?_)
    · go_simp
      obtain ⟨kk, hkk, hHH⟩ := hs.hnd
      refine (upto_c hHH (by omega) 9 (by omega) (by omega)).mono ?_
      rintro e wa1 ⟨⟨u1, rfl, hu1, hu1b⟩, ⟨k9, hk9, hH9⟩, hG9⟩
      have hs := hs.hand (K' := 101) ⟨k9, by omega, hH9⟩ hG9
      refine hK _ _ hs.xr ?_
      clear hK K hHH hH9 hG9 hkk hk9 kk k9
      refine mix_two2 rfl rfl false false rfl rfl (fun K hK => ?_) (fun K hK => ?_)
      · go_simp
        obtain ⟨kk, hkk, hHH⟩ := hs.hnd
        refine (upto_c hHH (by omega) 9 (by omega) (by omega)).mono ?_
        rintro e wa2 ⟨⟨u2, rfl, hu2, hu2b⟩, ⟨k9, hk9, hH9⟩, hG9⟩
        have hs := hs.hand (K' := 102) ⟨k9, by omega, hH9⟩ hG9
        refine hK _ _ hs.xr ?_
        clear hK K hHH hH9 hG9 hkk hk9 kk k9
        refine mix_two2 rfl rfl false false rfl rfl (fun K hK => ?_) (fun K hK => ?_)
        · go_simp
          obtain ⟨kk, hkk, hHH⟩ := hs.hnd
          refine (upto_c hHH (by omega) 9 (by omega) (by omega)).mono ?_
          rintro e wa3 ⟨⟨u3, rfl, hu3, hu3b⟩, ⟨k9, hk9, hH9⟩, hG9⟩
          have hs := hs.hand (K' := 103) ⟨k9, by omega, hH9⟩ hG9
          refine hK _ _ hs.xr ?_
          clear hK K hHH hH9 hG9 hkk hk9 kk k9
          refine mix_two2 rfl rfl false false rfl rfl (fun K hK => ?_) (fun K hK => ?_)
          · go_simp
            obtain ⟨kk, hkk, hHH⟩ := hs.hnd
            refine (upto_c hHH (by omega) 9 (by omega) (by omega)).mono ?_
            rintro e wa4 ⟨⟨u4, rfl, hu4, hu4b⟩, ⟨k9, hk9, hH9⟩, hG9⟩
            have hs := hs.hand (K' := 104) ⟨k9, by omega, hH9⟩ hG9
            refine hK _ _ hs.xr ?_
            clear hK K hHH hH9 hG9 hkk hk9 kk k9
            refine mix_two2 rfl rfl false false rfl rfl (fun K hK => ?_) (fun K hK => ?_)
            · go_simp
              have hI : Ints (fun q => wa4.heap.size ≤ q) (wa4.alloc (.cells #[.int .i64 u1, .int .i64 u2, .int .i64 u3, .int .i64 u4] 3)) (.slice (some ⟨wa4.heap.size, 0, none⟩) 4 4) [u1, u2, u3, u4] := Own.ints (own_lit wa4 3 1 #[.int .i64 u1, .int .i64 u2, .int .i64 u3, .int .i64 u4] 4 rfl (by omega))
              have hlt := hs.hlt
              have hI := hI.wide (A' := fun q => q ≠ w.heap.size) fun q hq _ => by omega
              have hs := hs.call ((Below.refl wa4.heap.size wa4).alloc (Nat.le_refl _) (.cells #[.int .i64 u1, .int .i64 u2, .int .i64 u3, .int .i64 u4] 3))
              refine hK _ _ hs.xr ?_
              clear hK K hlt
              obtain ⟨bl, hbl⟩ : ∃ b, b = wa4.heap.size := ⟨_, rfl⟩
              rw [← hbl] at hI ⊢
              generalize wa4.alloc (.cells #[.int .i64 u1, .int .i64 u2, .int .i64 u3, .int .i64 u4] 3) = wa5 at hs hI ⊢
              clear hbl
              refine mix_two2 rfl rfl false false rfl rfl (fun K hK => ?_) (fun K hK => ?_)
              · go_simp
                obtain ⟨kk, hkk, hHH⟩ := hs.hnd
                refine (claimOf_c hHH (by omega) hn4 hI (fun h => h rfl) (by show n ≤ 4; omega) (by intro u hu; simp only [List.mem_cons, List.not_mem_nil, or_false] at hu; omega)).mono ?_
                rintro e wa6 ⟨⟨c, rfl, hcok⟩, ⟨k9, hk9, hH9⟩, hG9⟩
                have hs := hs.hand (K' := 120) ⟨k9, by omega, hH9⟩ hG9
                refine hK _ _ hs.xr ?_
                clear hK K hHH hH9 hG9 hkk hk9 kk k9 hI
                refine mix_eff2 rfl false rfl (fun K hK => ?_)
                go_simp
                have hs := hs.box
                refine hK _ _ hs.xr ?_
                clear hK K
                obtain ⟨ba, hba⟩ : ∃ b, b = wa6.heap.size := ⟨_, rfl⟩
                rw [← hba] at hs ⊢
                generalize wa6.alloc (.cells #[.int .i64 0, .int .i64 0, .int .i64 0, .int .i64 0, .int .i64 0] 26) = wa7 at hs ⊢
                clear hba
                refine mix_eff2 rfl true rfl (fun K hK => ?_)
                obtain ⟨hA9, hA9b⟩ := hs.al ba rfl
                have q0 := hA9.cell 0
                have q1 := hA9.cell 1
                have q2 := hA9.cell 2
                have q3 := hA9.cell 3
                have q4 := hA9.cell 4
                have fq0 := hA9.free 0
                have fq1 := hA9.free 1
                have fq2 := hA9.free 2
                have fq3 := hA9.free 3
                have fq4 := hA9.free 4
                unfold Cl.val
                go_simp
                refine hK _ _ trivial ?_
                clear hK K
                refine mix_done2 ?_
                go_wp2_with fail
                go_meet
                case rel => exact ⟨c, ba, rfl, hcok, hs.put c⟩
              · go_simp
                have hs := hs.box
                have hI := hI.call ((Below.refl wa5.heap.size wa5).alloc (Nat.le_refl _) (.cells #[.int .i64 0, .int .i64 0, .int .i64 0, .int .i64 0, .int .i64 0] 26))
                refine hK _ _ hs.xr ?_
                clear hK K
                obtain ⟨ba, hba⟩ : ∃ b, b = wa5.heap.size := ⟨_, rfl⟩
                rw [← hba] at hs ⊢
                generalize wa5.alloc (.cells #[.int .i64 0, .int .i64 0, .int .i64 0, .int .i64 0, .int .i64 0] 26) = wa6 at hs hI ⊢
                clear hba
                refine mix_eff2 rfl false rfl (fun K hK => ?_)
                go_simp
                obtain ⟨kk, hkk, hHH⟩ := hs.hnd
                refine (claimOf_c hHH (by omega) hn4 hI (fun h => h rfl) (by show n ≤ 4; omega) (by intro u hu; simp only [List.mem_cons, List.not_mem_nil, or_false] at hu; omega)).mono ?_
                rintro e wa7 ⟨⟨c, rfl, hcok⟩, ⟨k9, hk9, hH9⟩, hG9⟩
                have hs := hs.hand (K' := 120) ⟨k9, by omega, hH9⟩ hG9
                refine hK _ _ hs.xr ?_
                clear hK K hHH hH9 hG9 hkk hk9 kk k9 hI
                refine mix_eff2 rfl true rfl (fun K hK => ?_)
                obtain ⟨hA9, hA9b⟩ := hs.al ba rfl
                have q0 := hA9.cell 0
                have q1 := hA9.cell 1
                have q2 := hA9.cell 2
                have q3 := hA9.cell 3
                have q4 := hA9.cell 4
                have fq0 := hA9.free 0
                have fq1 := hA9.free 1
                have fq2 := hA9.free 2
                have fq3 := hA9.free 3
                have fq4 := hA9.free 4
                unfold Cl.val
                go_simp
                refine hK _ _ trivial ?_
                clear hK K
                refine mix_done2 ?_
                go_wp2_with fail
                go_meet
                case rel => exact ⟨c, ba, rfl, hcok, hs.put c⟩
            · go_simp
              have hs := hs.box
              refine hK _ _ hs.xr ?_
              clear hK K
              obtain ⟨ba, hba⟩ : ∃ b, b = wa4.heap.size := ⟨_, rfl⟩
              rw [← hba] at hs ⊢
              generalize wa4.alloc (.cells #[.int .i64 0, .int .i64 0, .int .i64 0, .int .i64 0, .int .i64 0] 26) = wa5 at hs ⊢
              clear hba
              refine mix_eff2 rfl false rfl (fun K hK => ?_)
              go_simp
              have hI : Ints (fun q => wa5.heap.size ≤ q) (wa5.alloc (.cells #[.int .i64 u1, .int .i64 u2, .int .i64 u3, .int .i64 u4] 3)) (.slice (some ⟨wa5.heap.size, 0, none⟩) 4 4) [u1, u2, u3, u4] := Own.ints (own_lit wa5 3 1 #[.int .i64 u1, .int .i64 u2, .int .i64 u3, .int .i64 u4] 4 rfl (by omega))
              have hlt := hs.hlt
              have hI := hI.wide (A' := fun q => q ≠ w.heap.size) fun q hq _ => by omega
              have hs := hs.call ((Below.refl wa5.heap.size wa5).alloc (Nat.le_refl _) (.cells #[.int .i64 u1, .int .i64 u2, .int .i64 u3, .int .i64 u4] 3))
              refine hK _ _ hs.xr ?_
              clear hK K hlt
              obtain ⟨bl, hbl⟩ : ∃ b, b = wa5.heap.size := ⟨_, rfl⟩
              rw [← hbl] at hI ⊢
              generalize wa5.alloc (.cells #[.int .i64 u1, .int .i64 u2, .int .i64 u3, .int .i64 u4] 3) = wa6 at hs hI ⊢
              clear hbl
              refine mix_eff2 rfl false rfl (fun K hK => ?_)
              go_simp
              obtain ⟨kk, hkk, hHH⟩ := hs.hnd
              refine (claimOf_c hHH (by omega) hn4 hI (fun h => h rfl) (by show n ≤ 4; omega) (by intro u hu; simp only [List.mem_cons, List.not_mem_nil, or_false] at hu; omega)).mono ?_
              rintro e wa7 ⟨⟨c, rfl, hcok⟩, ⟨k9, hk9, hH9⟩, hG9⟩
              have hs := hs.hand (K' := 120) ⟨k9, by omega, hH9⟩ hG9
              refine hK _ _ hs.xr ?_
              clear hK K hHH hH9 hG9 hkk hk9 kk k9 hI
              refine mix_eff2 rfl true rfl (fun K hK => ?_)
              obtain ⟨hA9, hA9b⟩ := hs.al ba rfl
              have q0 := hA9.cell 0
              have q1 := hA9.cell 1
              have q2 := hA9.cell 2
              have q3 := hA9.cell 3
              have q4 := hA9.cell 4
              have fq0 := hA9.free 0
              have fq1 := hA9.free 1
              have fq2 := hA9.free 2
              have fq3 := hA9.free 3
              have fq4 := hA9.free 4
              unfold Cl.val
              go_simp
              refine hK _ _ trivial ?_
              clear hK K
              refine mix_done2 ?_
              go_wp2_with fail
              go_meet
              case rel => exact ⟨c, ba, rfl, hcok, hs.put c⟩
          · go_simp
            have hs := hs.box
            refine hK _ _ hs.xr ?_
            clear hK K
            obtain ⟨ba, hba⟩ : ∃ b, b = wa3.heap.size := ⟨_, rfl⟩
            rw [← hba] at hs ⊢
            generalize wa3.alloc (.cells #[.int .i64 0, .int .i64 0, .int .i64 0, .int .i64 0, .int .i64 0] 26) = wa4 at hs ⊢
            clear hba
            refine mix_eff2 rfl false rfl (fun K hK => ?_)
            go_simp
            obtain ⟨kk, hkk, hHH⟩ := hs.hnd
            refine (upto_c hHH (by omega) 9 (by omega) (by omega)).mono ?_
            rintro e wa5 ⟨⟨u4, rfl, hu4, hu4b⟩, ⟨k9, hk9, hH9⟩, hG9⟩
            have hs := hs.hand (K' := 104) ⟨k9, by omega, hH9⟩ hG9
            refine hK _ _ hs.xr ?_
            clear hK K hHH hH9 hG9 hkk hk9 kk k9
            refine mix_eff2 rfl false rfl (fun K hK => ?_)
            go_simp
            have hI : Ints (fun q => wa5.heap.size ≤ q) (wa5.alloc (.cells #[.int .i64 u1, .int .i64 u2, .int .i64 u3, .int .i64 u4] 3)) (.slice (some ⟨wa5.heap.size, 0, none⟩) 4 4) [u1, u2, u3, u4] := Own.ints (own_lit wa5 3 1 #[.int .i64 u1, .int .i64 u2, .int .i64 u3, .int .i64 u4] 4 rfl (by omega))
            have hlt := hs.hlt
            have hI := hI.wide (A' := fun q => q ≠ w.heap.size) fun q hq _ => by omega
            have hs := hs.call ((Below.refl wa5.heap.size wa5).alloc (Nat.le_refl _) (.cells #[.int .i64 u1, .int .i64 u2, .int .i64 u3, .int .i64 u4] 3))
            refine hK _ _ hs.xr ?_
            clear hK K hlt
            obtain ⟨bl, hbl⟩ : ∃ b, b = wa5.heap.size := ⟨_, rfl⟩
            rw [← hbl] at hI ⊢
            generalize wa5.alloc (.cells #[.int .i64 u1, .int .i64 u2, .int .i64 u3, .int .i64 u4] 3) = wa6 at hs hI ⊢
            clear hbl
            refine mix_eff2 rfl false rfl (fun K hK => ?_)
            go_simp
            obtain ⟨kk, hkk, hHH⟩ := hs.hnd
            refine (claimOf_c hHH (by omega) hn4 hI (fun h => h rfl) (by show n ≤ 4; omega) (by intro u hu; simp only [List.mem_cons, List.not_mem_nil, or_false] at hu; omega)).mono ?_
            rintro e wa7 ⟨⟨c, rfl, hcok⟩, ⟨k9, hk9, hH9⟩, hG9⟩
            have hs := hs.hand (K' := 120) ⟨k9, by omega, hH9⟩ hG9
            refine hK _ _ hs.xr ?_
            clear hK K hHH hH9 hG9 hkk hk9 kk k9 hI
            refine mix_eff2 rfl true rfl (fun K hK => ?_)
            obtain ⟨hA9, hA9b⟩ := hs.al ba rfl
            have q0 := hA9.cell 0
            have q1 := hA9.cell 1
            have q2 := hA9.cell 2
            have q3 := hA9.cell 3
            have q4 := hA9.cell 4
            have fq0 := hA9.free 0
            have fq1 := hA9.free 1
            have fq2 := hA9.free 2
            have fq3 := hA9.free 3
            have fq4 := hA9.free 4
            unfold Cl.val
            go_simp
            refine hK _ _ trivial ?_
            clear hK K
            refine mix_done2 ?_
            go_wp2_with fail
            go_meet
            case rel => exact ⟨c, ba, rfl, hcok, hs.put c⟩
        · go_simp
          have hs := hs.box
          refine hK _ _ hs.xr ?_
          clear hK K
          obtain ⟨ba, hba⟩ : ∃ b, b = wa2.heap.size := ⟨_, rfl⟩
          rw [← hba] at hs ⊢
          generalize wa2.alloc (.cells #[.int .i64 0, .int .i64 0, .int .i64 0, .int .i64 0, .int .i64 0] 26) = wa3 at hs ⊢
          clear hba
          refine mix_eff2 rfl false rfl (fun K hK => ?_)
          go_simp
          obtain ⟨kk, hkk, hHH⟩ := hs.hnd
          refine (upto_c hHH (by omega) 9 (by omega) (by omega)).mono ?_
          rintro e wa4 ⟨⟨u3, rfl, hu3, hu3b⟩, ⟨k9, hk9, hH9⟩, hG9⟩
          have hs := hs.hand (K' := 103) ⟨k9, by omega, hH9⟩ hG9
          refine hK _ _ hs.xr ?_
          clear hK K hHH hH9 hG9 hkk hk9 kk k9
          refine mix_eff2 rfl false rfl (fun K hK => ?_)
          go_simp
          obtain ⟨kk, hkk, hHH⟩ := hs.hnd
          refine (upto_c hHH (by omega) 9 (by omega) (by omega)).mono ?_
          rintro e wa5 ⟨⟨u4, rfl, hu4, hu4b⟩, ⟨k9, hk9, hH9⟩, hG9⟩
          have hs := hs.hand (K' := 104) ⟨k9, by omega, hH9⟩ hG9
          refine hK _ _ hs.xr ?_
          clear hK K hHH hH9 hG9 hkk hk9 kk k9
          refine mix_eff2 rfl false rfl (fun K hK => ?_)
          go_simp
          have hI : Ints (fun q => wa5.heap.size ≤ q) (wa5.alloc (.cells #[.int .i64 u1, .int .i64 u2, .int .i64 u3, .int .i64 u4] 3)) (.slice (some ⟨wa5.heap.size, 0, none⟩) 4 4) [u1, u2, u3, u4] := Own.ints (own_lit wa5 3 1 #[.int .i64 u1, .int .i64 u2, .int .i64 u3, .int .i64 u4] 4 rfl (by omega))
          have hlt := hs.hlt
          have hI := hI.wide (A' := fun q => q ≠ w.heap.size) fun q hq _ => by omega
          have hs := hs.call ((Below.refl wa5.heap.size wa5).alloc (Nat.le_refl _) (.cells #[.int .i64 u1, .int .i64 u2, .int .i64 u3, .int .i64 u4] 3))
          refine hK _ _ hs.xr ?_
          clear hK K hlt
          obtain ⟨bl, hbl⟩ : ∃ b, b = wa5.heap.size := ⟨_, rfl⟩
          rw [← hbl] at hI ⊢
          generalize wa5.alloc (.cells #[.int .i64 u1, .int .i64 u2, .int .i64 u3, .int .i64 u4] 3) = wa6 at hs hI ⊢
          clear hbl
          refine mix_eff2 rfl false rfl (fun K hK => ?_)
          go_simp
          obtain ⟨kk, hkk, hHH⟩ := hs.hnd
          refine (claimOf_c hHH (by omega) hn4 hI (fun h => h rfl) (by show n ≤ 4; omega) (by intro u hu; simp only [List.mem_cons, List.not_mem_nil, or_false] at hu; omega)).mono ?_
          rintro e wa7 ⟨⟨c, rfl, hcok⟩, ⟨k9, hk9, hH9⟩, hG9⟩
          have hs := hs.hand (K' := 120) ⟨k9, by omega, hH9⟩ hG9
          refine hK _ _ hs.xr ?_
          clear hK K hHH hH9 hG9 hkk hk9 kk k9 hI
          refine mix_eff2 rfl true rfl (fun K hK => ?_)
          obtain ⟨hA9, hA9b⟩ := hs.al ba rfl
          have q0 := hA9.cell 0
          have q1 := hA9.cell 1
          have q2 := hA9.cell 2
          have q3 := hA9.cell 3
          have q4 := hA9.cell 4
          have fq0 := hA9.free 0
          have fq1 := hA9.free 1
          have fq2 := hA9.free 2
          have fq3 := hA9.free 3
          have fq4 := hA9.free 4
          unfold Cl.val
          go_simp
          refine hK _ _ trivial ?_
          clear hK K
          refine mix_done2 ?_
          go_wp2_with fail
          go_meet
          case rel => exact ⟨c, ba, rfl, hcok, hs.put c⟩
      · go_simp
        have hs := hs.box
        refine hK _ _ hs.xr ?_
        clear hK K
        obtain ⟨ba, hba⟩ : ∃ b, b = wa1.heap.size := ⟨_, rfl⟩
        rw [← hba] at hs ⊢
        generalize wa1.alloc (.cells #[.int .i64 0, .int .i64 0, .int .i64 0, .int .i64 0, .int .i64 0] 26) = wa2 at hs ⊢
        clear hba
        refine mix_eff2 rfl false rfl (fun K hK => ?_)
        go_simp
        obtain ⟨kk, hkk, hHH⟩ := hs.hnd
        refine (upto_c hHH (by omega) 9 (by omega) (by omega)).mono ?_
        rintro e wa3 ⟨⟨u2, rfl, hu2, hu2b⟩, ⟨k9, hk9, hH9⟩, hG9⟩
        have hs := hs.hand (K' := 102) ⟨k9, by omega, hH9⟩ hG9
        refine hK _ _ hs.xr ?_
        clear hK K hHH hH9 hG9 hkk hk9 kk k9
        refine mix_eff2 rfl false rfl (fun K hK => ?_)
        go_simp
        obtain ⟨kk, hkk, hHH⟩ := hs.hnd
        refine (upto_c hHH (by omega) 9 (by omega) (by omega)).mono ?_
        rintro e wa4 ⟨⟨u3, rfl, hu3, hu3b⟩, ⟨k9, hk9, hH9⟩, hG9⟩
        have hs := hs.hand (K' := 103) ⟨k9, by omega, hH9⟩ hG9
        refine hK _ _ hs.xr ?_
        clear hK K hHH hH9 hG9 hkk hk9 kk k9
        refine mix_eff2 rfl false rfl (fun K hK => ?_)
        go_simp
        obtain ⟨kk, hkk, hHH⟩ := hs.hnd
        refine (upto_c hHH (by omega) 9 (by omega) (by omega)).mono ?_
        rintro e wa5 ⟨⟨u4, rfl, hu4, hu4b⟩, ⟨k9, hk9, hH9⟩, hG9⟩
        have hs := hs.hand (K' := 104) ⟨k9, by omega, hH9⟩ hG9
        refine hK _ _ hs.xr ?_
        clear hK K hHH hH9 hG9 hkk hk9 kk k9
        refine mix_eff2 rfl false rfl (fun K hK => ?_)
        go_simp
        have hI : Ints (fun q => wa5.heap.size ≤ q) (wa5.alloc (.cells #[.int .i64 u1, .int .i64 u2, .int .i64 u3, .int .i64 u4] 3)) (.slice (some ⟨wa5.heap.size, 0, none⟩) 4 4) [u1, u2, u3, u4] := Own.ints (own_lit wa5 3 1 #[.int .i64 u1, .int .i64 u2, .int .i64 u3, .int .i64 u4] 4 rfl (by omega))
        have hlt := hs.hlt
        have hI := hI.wide (A' := fun q => q ≠ w.heap.size) fun q hq _ => by omega
        have hs := hs.call ((Below.refl wa5.heap.size wa5).alloc (Nat.le_refl _) (.cells #[.int .i64 u1, .int .i64 u2, .int .i64 u3, .int .i64 u4] 3))
        refine hK _ _ hs.xr ?_
        clear hK K hlt
        obtain ⟨bl, hbl⟩ : ∃ b, b = wa5.heap.size := ⟨_, rfl⟩
        rw [← hbl] at hI ⊢
        generalize wa5.alloc (.cells #[.int .i64 u1, .int .i64 u2, .int .i64 u3, .int .i64 u4] 3) = wa6 at hs hI ⊢
        clear hbl
        refine mix_eff2 rfl false rfl (fun K hK => ?_)
        go_simp
        obtain ⟨kk, hkk, hHH⟩ := hs.hnd
        refine (claimOf_c hHH (by omega) hn4 hI (fun h => h rfl) (by show n ≤ 4; omega) (by intro u hu; simp only [List.mem_cons, List.not_mem_nil, or_false] at hu; omega)).mono ?_
        rintro e wa7 ⟨⟨c, rfl, hcok⟩, ⟨k9, hk9, hH9⟩, hG9⟩
        have hs := hs.hand (K' := 120) ⟨k9, by omega, hH9⟩ hG9
        refine hK _ _ hs.xr ?_
        clear hK K hHH hH9 hG9 hkk hk9 kk k9 hI
        refine mix_eff2 rfl true rfl (fun K hK => ?_)
        obtain ⟨hA9, hA9b⟩ := hs.al ba rfl
        have q0 := hA9.cell 0
        have q1 := hA9.cell 1
        have q2 := hA9.cell 2
        have q3 := hA9.cell 3
        have q4 := hA9.cell 4
        have fq0 := hA9.free 0
        have fq1 := hA9.free 1
        have fq2 := hA9.free 2
        have fq3 := hA9.free 3
        have fq4 := hA9.free 4
        unfold Cl.val
        go_simp
        refine hK _ _ trivial ?_
        clear hK K
        refine mix_done2 ?_
        go_wp2_with fail
        go_meet
        case rel => exact ⟨c, ba, rfl, hcok, hs.put c⟩
    · go_simp
      have hs := hs.box
      refine hK _ _ hs.xr ?_
      clear hK K
      obtain ⟨ba, hba⟩ : ∃ b, b = wd.heap.size := ⟨_, rfl⟩
      rw [← hba] at hs ⊢
      generalize wd.alloc (.cells #[.int .i64 0, .int .i64 0, .int .i64 0, .int .i64 0, .int .i64 0] 26) = wa1 at hs ⊢
      clear hba
      refine mix_eff2 rfl false rfl (fun K hK => ?_)
      go_simp
      obtain ⟨kk, hkk, hHH⟩ := hs.hnd
      refine (upto_c hHH (by omega) 9 (by omega) (by omega)).mono ?_
      rintro e wa2 ⟨⟨u1, rfl, hu1, hu1b⟩, ⟨k9, hk9, hH9⟩, hG9⟩
      have hs := hs.hand (K' := 101) ⟨k9, by omega, hH9⟩ hG9
      refine hK _ _ hs.xr ?_
      clear hK K hHH hH9 hG9 hkk hk9 kk k9
      refine mix_eff2 rfl false rfl (fun K hK => ?_)
      go_simp
      obtain ⟨kk, hkk, hHH⟩ := hs.hnd
      refine (upto_c hHH (by omega) 9 (by omega) (by omega)).mono ?_
      rintro e wa3 ⟨⟨u2, rfl, hu2, hu2b⟩, ⟨k9, hk9, hH9⟩, hG9⟩
      have hs := hs.hand (K' := 102) ⟨k9, by omega, hH9⟩ hG9
      refine hK _ _ hs.xr ?_
      clear hK K hHH hH9 hG9 hkk hk9 kk k9
      refine mix_eff2 rfl false rfl (fun K hK => ?_)
      go_simp
      obtain ⟨kk, hkk, hHH⟩ := hs.hnd
      refine (upto_c hHH (by omega) 9 (by omega) (by omega)).mono ?_
      rintro e wa4 ⟨⟨u3, rfl, hu3, hu3b⟩, ⟨k9, hk9, hH9⟩, hG9⟩
      have hs := hs.hand (K' := 103) ⟨k9, by omega, hH9⟩ hG9
      refine hK _ _ hs.xr ?_
      clear hK K hHH hH9 hG9 hkk hk9 kk k9
      refine mix_eff2 rfl false rfl (fun K hK => ?_)
      go_simp
      obtain ⟨kk, hkk, hHH⟩ := hs.hnd
      refine (upto_c hHH (by omega) 9 (by omega) (by omega)).mono ?_
      rintro e wa5 ⟨⟨u4, rfl, hu4, hu4b⟩, ⟨k9, hk9, hH9⟩, hG9⟩
      have hs := hs.hand (K' := 104) ⟨k9, by omega, hH9⟩ hG9
      refine hK _ _ hs.xr ?_
      clear hK K hHH hH9 hG9 hkk hk9 kk k9
      refine mix_eff2 rfl false rfl (fun K hK => ?_)
      go_simp
      have hI : Ints (fun q => wa5.heap.size ≤ q) (wa5.alloc (.cells #[.int .i64 u1, .int .i64 u2, .int .i64 u3, .int .i64 u4] 3)) (.slice (some ⟨wa5.heap.size, 0, none⟩) 4 4) [u1, u2, u3, u4] := Own.ints (own_lit wa5 3 1 #[.int .i64 u1, .int .i64 u2, .int .i64 u3, .int .i64 u4] 4 rfl (by omega))
      have hlt := hs.hlt
      have hI := hI.wide (A' := fun q => q ≠ w.heap.size) fun q hq _ => by omega
      have hs := hs.call ((Below.refl wa5.heap.size wa5).alloc (Nat.le_refl _) (.cells #[.int .i64 u1, .int .i64 u2, .int .i64 u3, .int .i64 u4] 3))
      refine hK _ _ hs.xr ?_
      clear hK K hlt
      obtain ⟨bl, hbl⟩ : ∃ b, b = wa5.heap.size := ⟨_, rfl⟩
      rw [← hbl] at hI ⊢
      generalize wa5.alloc (.cells #[.int .i64 u1, .int .i64 u2, .int .i64 u3, .int .i64 u4] 3) = wa6 at hs hI ⊢
      clear hbl
      refine mix_eff2 rfl false rfl (fun K hK => ?_)
      go_simp
      obtain ⟨kk, hkk, hHH⟩ := hs.hnd
      refine (claimOf_c hHH (by omega) hn4 hI (fun h => h rfl) (by show n ≤ 4; omega) (by intro u hu; simp only [List.mem_cons, List.not_mem_nil, or_false] at hu; omega)).mono ?_
      rintro e wa7 ⟨⟨c, rfl, hcok⟩, ⟨k9, hk9, hH9⟩, hG9⟩
      have hs := hs.hand (K' := 120) ⟨k9, by omega, hH9⟩ hG9
      refine hK _ _ hs.xr ?_
      clear hK K hHH hH9 hG9 hkk hk9 kk k9 hI
      refine mix_eff2 rfl true rfl (fun K hK => ?_)
      obtain ⟨hA9, hA9b⟩ := hs.al ba rfl
      have q0 := hA9.cell 0
      have q1 := hA9.cell 1
      have q2 := hA9.cell 2
      have q3 := hA9.cell 3
      have q4 := hA9.cell 4
      have fq0 := hA9.free 0
      have fq1 := hA9.free 1
      have fq2 := hA9.free 2
      have fq3 := hA9.free 3
      have fq4 := hA9.free 4
      unfold Cl.val
      go_simp
      refine hK _ _ trivial ?_
      clear hK K
      refine mix_done2 ?_
      go_wp2_with fail
      go_meet
      case rel => exact ⟨c, ba, rfl, hcok, hs.put c⟩
  case rest =>
    obtain ⟨c, ba, rfl, hcok, hs4, hA4⟩ := hcut
    rename World => w4
    have hX4 := hs4.xr
    have hC4 := hs4.cl
    have hB4 := hs4.below
    clear hs0 hs4
    have c0 := XR.c0 hX4
    have c1 := XR.c1 hX4
    have c2 := XR.c2 hX4
    have hbn := bounds27_c (x := x) hC4
    rw [HN.out] at hbn
    have HBN := Lib.hid hbn
    clear hbn
    go_wp2_with fail
    refine HBN.out.mono ?_
    rintro e w5 ⟨vl, rfl, hR5, hE5⟩
    have hX5 := Blk.call hX4 hE5
    have hC5 := hC4.call hE5
    have hA5 := hA4.call hE5
    have hB5 := bnx hB4 hE5
    clear c0 c1 c2 HBN hX4 hC4 hA4 hB4 hE5
    obtain ⟨al, cl, rfl, _, _⟩ := hR5.shape
    have hck : ¬ checkX x ≠ 0 := not_not_intro (checkX_zero.2 hx)
    rcases bnd_cases hx with ⟨-, hb, -⟩ | ⟨s, hs, hb, -⟩
    · have e1 : boundsX x = ([], 12) := by unfold boundsX; rw [if_neg hck, hb]
      rw [e1] at hR5 ⊢
      clear e1 hb hck
      go_wp2_with fail
      refine (surveyed_c _).mono ?_
      rintro e w6 ⟨rfl, hB6⟩
      go_wp2_with fail
      go_ret
      exact ⟨rfl, bnx hB5 hB6⟩
    · have e1 : boundsX x = (s, 0) := by unfold boundsX; rw [if_neg hck, hb]
      rw [e1] at hR5 ⊢
      have hsl := hs.len
      have hxn : x.n = n := by unfold Edg.n; have := HN.out; omega
      rw [hxn] at hsl
      have hs1 : s.length ≤ n := Nat.le_of_eq hsl
      have hs2 : n ≤ s.length := Nat.le_of_eq hsl.symm
      have hd0 : ((s.length : Int) != (n : Int)) = false := by simp; omega
      have HXN := Lib.hid hxn
      have HSL := Lib.hid hsl
      clear e1 hb hck hsl hxn
      have c0 := Blk.cell hX5 0
      have c1 := Blk.cell hX5 1
      have c2 := Blk.cell hX5 2
      have hcp := copyEdge_c (x := x) hC5 (by omega)
      rw [HN.out] at hcp
      have HCP := Lib.hid hcp
      clear hcp
      go_wp2_with fail
      refine HCP.out.mono ?_
      rintro e w6 ⟨vy, rfl, hO6, hE6⟩
      clear HCP c0 c1 c2
      obtain ⟨ay, cy, rfl⟩ := own_slice hO6
      obtain ⟨w7, hw7⟩ : ∃ w7, w7 = w6.alloc (.cells #[.int .i64 (n : Int), .int .i64 x.bend, .slice ay x.claims.length cy] 24) := ⟨_, rfl⟩
      obtain ⟨by0, hby⟩ : ∃ b, b = w6.heap.size := ⟨_, rfl⟩
      have hY7 : Blk by0 #[.int .i64 (n : Int), .int .i64 x.bend, .slice ay x.claims.length cy] 24 w7 := by rw [hw7, hby]; exact Blk.new _ _ _
      have hO7 : Own w5.heap.size w7 26 5 (.slice ay x.claims.length cy) x.claims.length (x.claims.flatMap ccells) := by rw [hw7]; exact (own_from hO6 (by omega)).alloc _
      have hE7 : Below w5.heap.size w5 w7 := by rw [hw7]; exact bal2 hE6
      have hby5 : w5.heap.size ≤ by0 := by rw [hby]; exact hE6.size
      have hz7 : StS w5.heap.size w5 by0 (n : Int) x.bend (.slice ay x.claims.length cy) (.slice ay x.claims.length cy) (x.claims ++ pins s 0) (.slice none 0 0) ((s.map Prod.fst).take 0) none none w7 :=
        ⟨hE7, hE7.size, hby5, hY7, by rw [show pins s 0 = [] from rfl, List.append_nil]; exact hO7, Own.nil, fun b a e => (by cases e), fun b a e => (by cases e)⟩
      go_upto_region 10 with fail
      rw [← hw7, ← hby]
      clear hw7 hby hY7 hO7 hE7 hO6 hE6
      go_wp2_with fail
      go_loopw [9, 10] (fun vo vp wr => ∃ (p : Nat) (vy : Value), p ≤ n ∧ vp = .int .i64 p ∧ StS w5.heap.size w5 by0 (n : Int) x.bend vy vy (x.claims ++ pins s p) vo ((s.map Prod.fst).take p) none none wr) (fun _ vp _ => n - (intOf vp).toNat)
      case atStart => exact ⟨0, _, Nat.zero_le _, rfl, hz7⟩
      case round =>
        obtain ⟨p, vy, hp, rfl, hz0⟩ := hrel
        have hXr := Blk.call hX5 hz0.below
        have x0 := Blk.cell hXr 0
        by_cases hlt : p < n
        · obtain ⟨gl0, ol, rfl, hgA, hgl⟩ := rgs_addr hR5 (by omega)
          obtain ⟨d0, d1⟩ := rgs_at hR5 p (by omega)
          obtain ⟨g1, g2⟩ := rg_gs (s := s) (p := p) (by omega)
          rw [g1] at d0
          obtain ⟨a, ha⟩ : ∃ a, a = gl s p := ⟨_, rfl⟩
          rw [← ha] at d0
          have hly : (x.claims ++ pins s p).length ≤ 7 := by rw [List.length_append]; unfold pins; rw [List.length_map, List.length_range]; omega
          have hli : ((s.map Prod.fst).take p).length ≤ 7 := by rw [List.length_take]; omega
          have e1 : x.claims ++ pins s (p + 1) = (x.claims ++ pins s p) ++ [pinC p a] := by rw [pins_succ, ← List.append_assoc, ha]
          have e2 : (s.map Prod.fst).take (p + 1) = (s.map Prod.fst).take p ++ [a] := by
            rw [List.take_succ_eq_append_getElem (by rw [List.length_map]; omega), List.getElem_map, g1, ha]
          obtain ⟨Ly, hLy⟩ : ∃ Ly, Ly = x.claims ++ pins s p := ⟨_, rfl⟩
          obtain ⟨Li, hLi⟩ : ∃ Li, Li = (s.map Prod.fst).take p := ⟨_, rfl⟩
          rw [← hLy] at hz0 hly e1
          rw [← hLi] at hz0 hli e2
          have E1 := Lib.hid e1
          have E2 := Lib.hid e2
          clear hLy hLi e1 e2 ha g1 g2
          obtain ⟨ay, cy, rfl⟩ := own_slice hz0.ro
          obtain ⟨ai, ci, rfl⟩ := own_slice hz0.ri
          have hE : ∀ (vy' : Value) (Ly' : List Cl) (vi' : Value) (Li' : List Int) (li' : Option (Nat × Int)) (lc' : Option (Nat × Cl)) (w' : World), StS w5.heap.size w5 by0 (n : Int) x.bend (.slice ay Ly.length cy) vy' Ly' vi' Li' li' lc' w' → SeS by0 (n : Int) x.bend (.slice ay Ly.length cy) gl0 ol p a w' := fun _ _ _ _ _ _ w' hz => ⟨hz.y, (cell_same (hz.below.block gl0 hgl)).trans d0⟩
          have HEE := Lib.hid hE
          have hps : p < s.length := by omega
          clear hE d0 d1 hs2
          go_wp2_with fail
          clear x0
          refine wp_region_mix2 (.pur 0 (.one 1 (.pur 2 (.pur 3 (.pur 4 (.pur 5 (.pur 6 (.one 7 (.pur 11 (.pur 12 (.pur 13 (.pur 14 (.pur 15 (.one 16 (.two 8 (.two 9 (.two 10 (.pur 19 (.act 17 (.act 18 (.act 20 (.pur 21 .fin))))) 17 (.act 10 (.pur 19 (.act 18 (.act 20 (.pur 21 .fin)))))) 17 (.act 9 (.act 10 (.pur 19 (.act 18 (.act 20 (.pur 21 .fin))))))) 17 (.act 8 (.act 9 (.act 10 (.pur 19 (.act 18 (.act 20 (.pur 21 .fin)))))))))))))))))))))) 18 (SeS by0 (n : Int) x.bend (.slice ay Ly.length cy) gl0 ol p a) (fun _ => True) (by kernel_rfl) (by kernel_rfl) rfl (by kernel_rfl) (HEE.out _ _ _ _ _ _ _ (hz0.qt ((Qt.refl _).drewN 1))) (fun wd hqd _ => ?_)
          have hz := hz0.qt hqd
          refine mix_pur2 rfl (fun K hK => ?_)
          go_simp
          first | refine ⟨_, fun _ => rfl, hK _ ?_⟩ | refine hK _ ?_
          clear hK K
          refine mix_load2 rfl rfl rfl (.slice ay Ly.length cy) (fun w' h => by have h : (SeS by0 (n : Int) x.bend (.slice ay Ly.length cy) gl0 ol p a) w' := h; have h2 := h.1.cell 2; go_simp) rfl ?_
          refine mix_pur2 rfl (fun K hK => ?_)
          go_simp
          first | refine ⟨_, fun _ => rfl, hK _ ?_⟩ | refine hK _ ?_
          clear hK K
          refine mix_pur2 rfl (fun K hK => ?_)
          go_simp
          first | refine ⟨_, fun _ => rfl, hK _ ?_⟩ | refine hK _ ?_
          clear hK K
          refine mix_pur2 rfl (fun K hK => ?_)
          go_simp
          first | refine ⟨_, fun _ => rfl, hK _ ?_⟩ | refine hK _ ?_
          clear hK K
          refine mix_pur2 rfl (fun K hK => ?_)
          go_simp
          first | refine ⟨_, fun _ => rfl, hK _ ?_⟩ | refine hK _ ?_
          clear hK K
          refine mix_pur2 rfl (fun K hK => ?_)
          go_simp
          first | refine ⟨_, fun _ => rfl, hK _ ?_⟩ | refine hK _ ?_
          clear hK K
          refine mix_load2 rfl rfl rfl (.int .i64 a) (fun w' h => by have h : (SeS by0 (n : Int) x.bend (.slice ay Ly.length cy) gl0 ol p a) w' := h; have h2 := h.2; go_simp) rfl ?_
          refine mix_pur2 rfl (fun K hK => ?_)
          go_simp
          first | refine ⟨_, fun _ => rfl, hK _ ?_⟩ | refine hK _ ?_
          clear hK K
          refine mix_pur2 rfl (fun K hK => ?_)
          go_simp
          first | refine ⟨_, fun _ => rfl, hK _ ?_⟩ | refine hK _ ?_
          clear hK K
          refine mix_pur2 rfl (fun K hK => ?_)
          go_simp
          first | refine ⟨_, fun _ => rfl, hK _ ?_⟩ | refine hK _ ?_
          clear hK K
          refine mix_pur2 rfl (fun K hK => ?_)
          go_simp
          first | refine ⟨_, fun _ => rfl, hK _ ?_⟩ | refine hK _ ?_
          clear hK K
          refine mix_pur2 rfl (fun K hK => ?_)
          go_simp
          first | refine ⟨_, fun _ => rfl, hK _ ?_⟩ | refine hK _ ?_
          clear hK K
          refine mix_load2 rfl rfl rfl (.int .i64 a) (fun w' h => by have h : (SeS by0 (n : Int) x.bend (.slice ay Ly.length cy) gl0 ol p a) w' := h; have h2 := h.2; go_simp) rfl ?_
          refine mix_two2 rfl rfl false false rfl rfl (fun K hK => ?_) (fun K hK => ?_)
          · go_simp
            refine (claim_c 1 (p : Int) a _).mono ?_
            rintro e wa1 ⟨rfl, hB8⟩
            have hz := hz.call hB8
            refine hK _ _ (HEE.out _ _ _ _ _ _ _ hz) ?_
            clear hK K hB8
            refine mix_two2 rfl rfl false false rfl rfl (fun K hK => ?_) (fun K hK => ?_)
            · go_simp
              have hz := hz.litc (pinC p a) (W := wa1.alloc (.cells #[.int .i64 1, .int .i64 (p : Int), .int .i64 0, .int .i64 a, .int .i64 0] 26)) rfl
              refine hK _ _ (HEE.out _ _ _ _ _ _ _ hz) ?_
              clear hK K
              obtain ⟨bc, hbc⟩ : ∃ b, b = wa1.heap.size := ⟨_, rfl⟩
              rw [← hbc] at hz ⊢
              generalize wa1.alloc (.cells #[.int .i64 1, .int .i64 (p : Int), .int .i64 0, .int .i64 a, .int .i64 0] 26) = wa2 at hz ⊢
              clear hbc
              refine mix_two2 rfl rfl false false rfl rfl (fun K hK => ?_) (fun K hK => ?_)
              · refine step_append_arr rfl _ _ 22 rfl 26 _ 5 40 Try.underlying22 Try.info26 rfl (by decide) (by decide) hz.big hz.ro rfl (blk_arr (hz.lc _ _ rfl).1 1 (by omega)) rfl rfl (ccells_one (pinC p a)) (by omega) ?_
                intro v7 wa3 hO7 hT7
                obtain ⟨a7, c7, rfl⟩ := own_slice hO7
                have hz := hz.turnY (d := pinC p a) hO7 hT7
                refine hK _ _ (HEE.out _ _ _ _ _ _ _ hz) ?_
                clear hK K hO7 hT7
                refine mix_pur2 rfl (fun K hK => ?_)
                go_simp
                first | refine ⟨_, fun _ => rfl, hK _ ?_⟩ | refine hK _ ?_
                clear hK K
                refine mix_eff2 rfl false rfl (fun K hK => ?_)
                go_simp
                have hz := hz.liti a
                refine hK _ _ (HEE.out _ _ _ _ _ _ _ hz) ?_
                clear hK K
                obtain ⟨bi, hbi⟩ : ∃ b, b = wa3.heap.size := ⟨_, rfl⟩
                rw [← hbi] at hz ⊢
                generalize wa3.alloc (.cells #[.int .i64 a] 3) = wa4 at hz ⊢
                clear hbi
                refine mix_eff2 rfl true rfl (fun K hK => ?_)
                refine step_append_arr rfl _ _ 27 rfl 3 (.int .i64 0) 1 8 Try.underlying27 Try.info3 rfl (by decide) (by decide) hz.big hz.ri rfl (blk_arr (hz.li _ _ rfl).1 1 (by omega)) rfl rfl (one_int _) (by omega) ?_
                intro v9 wa5 hO9 hT9
                have hz := hz.turnI hO9 hT9
                have y2 := hz.y.cell 2
                have fy2 := hz.y.free 2
                refine hK _ _ trivial ?_
                clear hK K hO9 hT9
                refine mix_eff2 rfl true rfl (fun K hK => ?_)
                go_simp
                refine hK _ _ trivial ?_
                clear hK K
                refine mix_pur2 rfl (fun K hK => ?_)
                go_simp
                first | refine ⟨_, fun _ => rfl, hK _ ?_⟩ | refine hK _ ?_
                clear hK K
                refine mix_done2 ?_
                go_wp2_with fail
                go_roundw
                case rel => exact ⟨p + 1, _, by omega, by go_num, by rw [E1.out, E2.out]; exact hz.done⟩
                case measure => simp [intOf]; omega
              · go_simp
                have hz := hz.liti a
                refine hK _ _ (HEE.out _ _ _ _ _ _ _ hz) ?_
                clear hK K
                obtain ⟨bi, hbi⟩ : ∃ b, b = wa2.heap.size := ⟨_, rfl⟩
                rw [← hbi] at hz ⊢
                generalize wa2.alloc (.cells #[.int .i64 a] 3) = wa3 at hz ⊢
                clear hbi
                refine mix_eff2 rfl false rfl (fun K hK => ?_)
                refine step_append_arr rfl _ _ 22 rfl 26 _ 5 40 Try.underlying22 Try.info26 rfl (by decide) (by decide) hz.big hz.ro rfl (blk_arr (hz.lc _ _ rfl).1 1 (by omega)) rfl rfl (ccells_one (pinC p a)) (by omega) ?_
                intro v7 wa4 hO7 hT7
                obtain ⟨a7, c7, rfl⟩ := own_slice hO7
                have hz := hz.turnY (d := pinC p a) hO7 hT7
                refine hK _ _ (HEE.out _ _ _ _ _ _ _ hz) ?_
                clear hK K hO7 hT7
                refine mix_pur2 rfl (fun K hK => ?_)
                go_simp
                first | refine ⟨_, fun _ => rfl, hK _ ?_⟩ | refine hK _ ?_
                clear hK K
                refine mix_eff2 rfl true rfl (fun K hK => ?_)
                refine step_append_arr rfl _ _ 27 rfl 3 (.int .i64 0) 1 8 Try.underlying27 Try.info3 rfl (by decide) (by decide) hz.big hz.ri rfl (blk_arr (hz.li _ _ rfl).1 1 (by omega)) rfl rfl (one_int _) (by omega) ?_
                intro v9 wa5 hO9 hT9
                have hz := hz.turnI hO9 hT9
                have y2 := hz.y.cell 2
                have fy2 := hz.y.free 2
                refine hK _ _ trivial ?_
                clear hK K hO9 hT9
                refine mix_eff2 rfl true rfl (fun K hK => ?_)
                go_simp
                refine hK _ _ trivial ?_
                clear hK K
                refine mix_pur2 rfl (fun K hK => ?_)
                go_simp
                first | refine ⟨_, fun _ => rfl, hK _ ?_⟩ | refine hK _ ?_
                clear hK K
                refine mix_done2 ?_
                go_wp2_with fail
                go_roundw
                case rel => exact ⟨p + 1, _, by omega, by go_num, by rw [E1.out, E2.out]; exact hz.done⟩
                case measure => simp [intOf]; omega
            · go_simp
              have hz := hz.liti a
              refine hK _ _ (HEE.out _ _ _ _ _ _ _ hz) ?_
              clear hK K
              obtain ⟨bi, hbi⟩ : ∃ b, b = wa1.heap.size := ⟨_, rfl⟩
              rw [← hbi] at hz ⊢
              generalize wa1.alloc (.cells #[.int .i64 a] 3) = wa2 at hz ⊢
              clear hbi
              refine mix_eff2 rfl false rfl (fun K hK => ?_)
              go_simp
              have hz := hz.litc (pinC p a) (W := wa2.alloc (.cells #[.int .i64 1, .int .i64 (p : Int), .int .i64 0, .int .i64 a, .int .i64 0] 26)) rfl
              refine hK _ _ (HEE.out _ _ _ _ _ _ _ hz) ?_
              clear hK K
              obtain ⟨bc, hbc⟩ : ∃ b, b = wa2.heap.size := ⟨_, rfl⟩
              rw [← hbc] at hz ⊢
              generalize wa2.alloc (.cells #[.int .i64 1, .int .i64 (p : Int), .int .i64 0, .int .i64 a, .int .i64 0] 26) = wa3 at hz ⊢
              clear hbc
              refine mix_eff2 rfl false rfl (fun K hK => ?_)
              refine step_append_arr rfl _ _ 22 rfl 26 _ 5 40 Try.underlying22 Try.info26 rfl (by decide) (by decide) hz.big hz.ro rfl (blk_arr (hz.lc _ _ rfl).1 1 (by omega)) rfl rfl (ccells_one (pinC p a)) (by omega) ?_
              intro v7 wa4 hO7 hT7
              obtain ⟨a7, c7, rfl⟩ := own_slice hO7
              have hz := hz.turnY (d := pinC p a) hO7 hT7
              refine hK _ _ (HEE.out _ _ _ _ _ _ _ hz) ?_
              clear hK K hO7 hT7
              refine mix_pur2 rfl (fun K hK => ?_)
              go_simp
              first | refine ⟨_, fun _ => rfl, hK _ ?_⟩ | refine hK _ ?_
              clear hK K
              refine mix_eff2 rfl true rfl (fun K hK => ?_)
              refine step_append_arr rfl _ _ 27 rfl 3 (.int .i64 0) 1 8 Try.underlying27 Try.info3 rfl (by decide) (by decide) hz.big hz.ri rfl (blk_arr (hz.li _ _ rfl).1 1 (by omega)) rfl rfl (one_int _) (by omega) ?_
              intro v9 wa5 hO9 hT9
              have hz := hz.turnI hO9 hT9
              have y2 := hz.y.cell 2
              have fy2 := hz.y.free 2
              refine hK _ _ trivial ?_
              clear hK K hO9 hT9
              refine mix_eff2 rfl true rfl (fun K hK => ?_)
              go_simp
              refine hK _ _ trivial ?_
              clear hK K
              refine mix_pur2 rfl (fun K hK => ?_)
              go_simp
              first | refine ⟨_, fun _ => rfl, hK _ ?_⟩ | refine hK _ ?_
              clear hK K
              refine mix_done2 ?_
              go_wp2_with fail
              go_roundw
              case rel => exact ⟨p + 1, _, by omega, by go_num, by rw [E1.out, E2.out]; exact hz.done⟩
              case measure => simp [intOf]; omega
          · go_simp
            have hz := hz.liti a
            refine hK _ _ (HEE.out _ _ _ _ _ _ _ hz) ?_
            clear hK K
            obtain ⟨bi, hbi⟩ : ∃ b, b = wd.heap.size := ⟨_, rfl⟩
            rw [← hbi] at hz ⊢
            generalize wd.alloc (.cells #[.int .i64 a] 3) = wa1 at hz ⊢
            clear hbi
            refine mix_eff2 rfl false rfl (fun K hK => ?_)
            go_simp
            refine (claim_c 1 (p : Int) a _).mono ?_
            rintro e wa2 ⟨rfl, hB8⟩
            have hz := hz.call hB8
            refine hK _ _ (HEE.out _ _ _ _ _ _ _ hz) ?_
            clear hK K hB8
            refine mix_eff2 rfl false rfl (fun K hK => ?_)
            go_simp
            have hz := hz.litc (pinC p a) (W := wa2.alloc (.cells #[.int .i64 1, .int .i64 (p : Int), .int .i64 0, .int .i64 a, .int .i64 0] 26)) rfl
            refine hK _ _ (HEE.out _ _ _ _ _ _ _ hz) ?_
            clear hK K
            obtain ⟨bc, hbc⟩ : ∃ b, b = wa2.heap.size := ⟨_, rfl⟩
            rw [← hbc] at hz ⊢
            generalize wa2.alloc (.cells #[.int .i64 1, .int .i64 (p : Int), .int .i64 0, .int .i64 a, .int .i64 0] 26) = wa3 at hz ⊢
            clear hbc
            refine mix_eff2 rfl false rfl (fun K hK => ?_)
            refine step_append_arr rfl _ _ 22 rfl 26 _ 5 40 Try.underlying22 Try.info26 rfl (by decide) (by decide) hz.big hz.ro rfl (blk_arr (hz.lc _ _ rfl).1 1 (by omega)) rfl rfl (ccells_one (pinC p a)) (by omega) ?_
            intro v7 wa4 hO7 hT7
            obtain ⟨a7, c7, rfl⟩ := own_slice hO7
            have hz := hz.turnY (d := pinC p a) hO7 hT7
            refine hK _ _ (HEE.out _ _ _ _ _ _ _ hz) ?_
            clear hK K hO7 hT7
            refine mix_pur2 rfl (fun K hK => ?_)
            go_simp
            first | refine ⟨_, fun _ => rfl, hK _ ?_⟩ | refine hK _ ?_
            clear hK K
            refine mix_eff2 rfl true rfl (fun K hK => ?_)
            refine step_append_arr rfl _ _ 27 rfl 3 (.int .i64 0) 1 8 Try.underlying27 Try.info3 rfl (by decide) (by decide) hz.big hz.ri rfl (blk_arr (hz.li _ _ rfl).1 1 (by omega)) rfl rfl (one_int _) (by omega) ?_
            intro v9 wa5 hO9 hT9
            have hz := hz.turnI hO9 hT9
            have y2 := hz.y.cell 2
            have fy2 := hz.y.free 2
            refine hK _ _ trivial ?_
            clear hK K hO9 hT9
            refine mix_eff2 rfl true rfl (fun K hK => ?_)
            go_simp
            refine hK _ _ trivial ?_
            clear hK K
            refine mix_pur2 rfl (fun K hK => ?_)
            go_simp
            first | refine ⟨_, fun _ => rfl, hK _ ?_⟩ | refine hK _ ?_
            clear hK K
            refine mix_done2 ?_
            go_wp2_with fail
            go_roundw
            case rel => exact ⟨p + 1, _, by omega, by go_num, by rw [E1.out, E2.out]; exact hz.done⟩
            case measure => simp [intOf]; omega
        · obtain rfl : n = p := by omega
          rw [List.take_of_length_le (by rw [List.length_map]; exact hs1)] at hz0
          have hyc : ClsM (fun q => w5.heap.size ≤ q) wr vy (pinX x s).claims := by
            have := Own.cls hz0.ro
            unfold pinX
            rw [HXN.out]
            exact this
          have hown : Ints (fun q => w5.heap.size ≤ q) wr u9 (s.map Prod.fst) := Own.ints hz0.ri
          have hY := hz0.y
          have hBr := hB5.trans (hz0.below.mono hB5.size)
          have hAr := hA5.call hz0.below
          obtain ⟨l1, l2⟩ := settled_law hx (by omega) hs (c := c) (by rw [HN.out]; exact hcok)
          have hlo := hs.lo
          obtain ⟨L, hL⟩ : ∃ L, L = s.map Prod.fst := ⟨_, rfl⟩
          rw [← hL] at hown hlo l2
          have hLl : L.length = n := by rw [hL, List.length_map]; exact HSL.out
          have HLL := Lib.hid hLl
          clear hL hLl
          clear hz0 hX5 hC5 hA5 hB5 hR5 hs1 hs2
          obtain ⟨ay, cy, rfl, _, _⟩ := hyc.shape
          obtain ⟨ai, ci, rfl, _, _⟩ := hown.shape
          obtain ⟨m, hm⟩ : ∃ m, m = (pinX x s).claims.length := ⟨_, rfl⟩
          rw [← hm] at hyc hY
          have hcn := count25_c (x := pinX x s) hyc
          rw [l1, show (pinX x s).points = x.points from rfl, show (pinX x s).bend = x.bend from rfl, HN.out] at hcn
          have HCN := Lib.hid hcn
          have HL2 := Lib.hid l2
          clear hm hcn l1 l2
          have c0 := hY.cell 0
          have c1 := hY.cell 1
          have c2 := hY.cell 2
          go_wp2_with fail
          refine HCN.out.mono ?_
          rintro e u1 ⟨rfl, hU1⟩
          have hY1 := hY.call hU1
          have hyc1 := hyc.call hU1
          have hA1 := hAr.call hU1
          have ho1 := hown.call hU1
          have hBu1 := bnx hBr hU1
          clear c0 c1 c2 HCN hY hyc hAr hown hBr hU1
          have hfo := follows_c (x := pinX x s) hyc1 c
          rw [HL2.out, show (pinX x s).points = x.points from rfl, show (pinX x s).bend = x.bend from rfl, HN.out] at hfo
          have HFO := Lib.hid hfo
          clear hfo
          have c0 := hY1.cell 0
          have c1 := hY1.cell 1
          have c2 := hY1.cell 2
          have a0 := hA1.cell 0
          have a1 := hA1.cell 1
          have a2 := hA1.cell 2
          have a3 := hA1.cell 3
          have a4 := hA1.cell 4
          go_wp2_with fail
          refine HFO.out.mono ?_
          rintro e u2 ⟨rfl, hU2⟩
          have hA2 := hA1.call hU2
          have ho2 := ho1.call hU2
          have hBu2 := bnx hBu1 hU2
          clear c0 c1 c2 a0 a1 a2 a3 a4 HFO hY1 hyc1 hA1 ho1 hBu1 hU2
          have hso := so_c (c := c) ho2 (P := (n : Int)) (by have := HLL.out; omega) hcok (fun u hu => by
            obtain ⟨i, hi, rfl⟩ := List.getElem_of_mem hu
            have := hlo.reach i (by rw [← hlo.len]; exact hi)
            rwa [atL_at hi] at this)
          have HSO := Lib.hid hso
          clear hso
          have a0 := hA2.cell 0
          have a1 := hA2.cell 1
          have a2 := hA2.cell 2
          have a3 := hA2.cell 3
          have a4 := hA2.cell 4
          cases hh : c.holds (atL L) with
          | true =>
            rw [if_pos rfl]
            rw [hh] at HSO
            clear hh
            go_wp2_with fail
            refine HSO.out.mono ?_
            rintro e u3 ⟨rfl, hU3⟩
            go_wp2_with fail
            refine (surveyed_c _).mono ?_
            rintro e u4 ⟨rfl, hU4⟩
            go_wp2_with fail
            go_ret
            exact ⟨rfl, bnx (bnx hBu2 hU3) hU4⟩
          | false =>
            rw [if_neg (by decide)]
            rw [hh] at HSO
            clear hh
            go_wp2_with fail
            refine HSO.out.mono ?_
            rintro e u3 ⟨rfl, hU3⟩
            go_wp2_with fail
            refine (surveyed_c _).mono ?_
            rintro e u4 ⟨rfl, hU4⟩
            go_wp2_with fail
            go_ret
            exact ⟨rfl, bnx (bnx hBu2 hU3) hU4⟩

end Go.Proofs.Ytgdifckmjdjcpaa
