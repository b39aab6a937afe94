/- Contract of Idle (edge); conditions: the claims read as a list. -/
import Derived.Test.YtgljiabmfcobiaaDoorTq
import Derived.Test.YtgljiabmfcobiaaDoorCw
namespace Go.Proofs.YtgljiabmfcobiaaDoor
open Go.RowKit

/-- An edge in its block. -/
def XR (b : Nat) (P B : Int) (v : Value) (w : World) : Prop := Blk b #[.int .i64 P, .int .i64 B, v] 24 w
theorem XR.c0 {b : Nat} {P B : Int} {v : Value} {w : World} (h : XR b P B v w) : w.cell? ⟨b, 0, none⟩ = some (.int .i64 P) := Blk.cell h 0
theorem XR.c1 {b : Nat} {P B : Int} {v : Value} {w : World} (h : XR b P B v w) : w.cell? ⟨b, 1, none⟩ = some (.int .i64 B) := Blk.cell h 1
theorem XR.c2 {b : Nat} {P B : Int} {v : Value} {w : World} (h : XR b P B v w) : w.cell? ⟨b, 2, none⟩ = some v := Blk.cell h 2

/-- Idle claims among the first. -/
def idleB (x : Edg) (i : Nat) : Bool := (truthsF (partF x fun j => decide (j ≠ i))).length == (truthsF x).length
def idleK (x : Edg) (k : Nat) : List Nat := (List.range k).filter (idleB x)
theorem idleK_succ (x : Edg) (k : Nat) : idleK x (k + 1) = idleK x k ++ if idleB x k = true then [k] else [] := by
  unfold idleK
  rw [List.range_succ, List.filter_append]
  congr 1
  by_cases h : idleB x k = true
  · rw [if_pos h, List.filter_cons_of_pos h]; rfl
  · rw [if_neg h, List.filter_cons_of_neg h]; rfl
theorem idleK_len (x : Edg) (k : Nat) : (idleK x k).length ≤ k := by
  unfold idleK
  have := List.length_filter_le (idleB x) (List.range k)
  rwa [List.length_range] at this
theorem castN_snoc (l : List Nat) (k : Nat) : castN (l ++ [k]) = castN l ++ [(k : Int)] := by unfold castN; rw [List.map_append]; rfl
theorem castN_len (l : List Nat) : (castN l).length = l.length := by unfold castN; rw [List.length_map]
/-- All claims but one, as the code asks for them. -/
theorem but_mask {x : Edg} (hx : x.Ok) {k : Nat} (hk : k < x.claims.length) : ∃ M : Nat, M < 128 ∧ bits BinOp.andNot IntKind.u16 ((2 ^ x.claims.length - 1 : Nat) : Int) ((2 ^ k : Nat) : Int) = (M : Int) ∧ partF x (fun j => M.testBit j) = partF x fun j => decide (j ≠ k) := by
  have hm := hx.m
  have hp := pow_le_128 hm
  have hg : 2 ^ k < 2 ^ x.claims.length := Nat.pow_lt_pow_right (by decide) hk
  refine ⟨(2 ^ x.claims.length - 1) &&& (65535 - 2 ^ k), ?_, andNot_fact ⟨x.claims.length, by omega⟩ ⟨2 ^ k, by omega⟩, part_less hx hk⟩
  have := (but_bits ⟨x.claims.length, by omega⟩ ⟨2 ^ k, by omega⟩ hg).1
  simp only at this
  omega

set_option maxRecDepth 100000 in
set_option maxHeartbeats 1000000 in
theorem idle_c {A : Nat → Prop} {w : World} {x : Edg} {v : Value} (h : ClsM A w v x.claims) :
    Calls Tryd.prog 14 #[.agg #[.int .i64 x.points, .int .i64 x.bend, v]] w fun e w' => ∃ v', e = .returned (.tuple #[v', .int .i64 (idleX x).2]) ∧ Ints (fun k => w.heap.size ≤ k) w' v' (castN (idleX x).1) ∧ Below w.heap.size w w' := by
  obtain ⟨a1, c1, rfl, hc1, hm1⟩ := h.shape
  have n1 := h.len
  obtain ⟨w1, hw1⟩ : ∃ w1, w1 = w.alloc (.cells #[.int .i64 x.points, .int .i64 x.bend, .slice a1 x.claims.length c1] 24) := ⟨_, rfl⟩
  obtain ⟨b1, hb1⟩ : ∃ b, b = w.heap.size := ⟨_, rfl⟩
  have hX : Blk b1 #[.int .i64 x.points, .int .i64 x.bend, .slice a1 x.claims.length c1] 24 w1 := by rw [hw1, hb1]; exact blk_at rfl _ _
  have hB : Below w.heap.size w w1 := by rw [hw1]; exact (Below.refl _ w).alloc (Nat.le_refl _) _
  have h1 := h.call (hB)
  go_enter Tryd.func14, Tryd.ntmps14
  go_upto_region 1 with fail
  rw [← hw1, ← hb1]
  clear hw1 hb1
  have c0 := hX.cell 0
  have c1' := hX.cell 1
  have c2 := hX.cell 2
  go_wp2_with fail
  refine (check_c h1).mono ?_
  rintro e w2 ⟨rfl, hB2⟩
  have hX2 := hX.call hB2
  have h2 := h1.call hB2
  clear c0 c1' c2
  by_cases hck : checkX x = 0
  · have hx := checkX_zero.1 hck
    have hb : (checkX x != 0) = false := by rw [hck]; rfl
    have he : idleX x = (idleF x, 0) := by unfold idleX; rw [if_neg (not_not_intro hck)]
    have HE := Lib.hid he
    clear he hck
    have hm := hx.m
    have hp := pow_le_128 hm
    have hsh : IntKind.u16.wrap (2 ^ x.claims.length) = ((2 ^ x.claims.length : Nat) : Int) := shl_fact ⟨x.claims.length, by omega⟩
    obtain ⟨N, hN⟩ : ∃ N : Nat, N = 2 ^ x.claims.length := ⟨_, rfl⟩
    have hN0 : 1 ≤ N := by rw [hN]; exact Nat.one_le_two_pow
    rw [← hN] at hsh hp
    have hsub : IntKind.u16.wrap ((N : Int) - 1) = ((N - 1 : Nat) : Int) := by rw [IntWalk.u16_in _ (by omega)]; omega
    have hfull : IntKind.u16.wrap (IntKind.u16.wrap (2 ^ min (IntKind.u64.wrap (x.claims.length : Int)).toNat 16) - 1) = ((N - 1 : Nat) : Int) := by
      rw [IntWalk.u64_in _ (by omega), Int.toNat_natCast, Nat.min_eq_left (by omega), hsh, hsub]
    have HFULL := Lib.hid hfull
    have HN := Lib.hid hN
    have hcn : ∀ wz, ClsM A wz (.slice a1 x.claims.length c1) x.claims → Calls Tryd.prog 31 #[.agg #[.int .i64 x.points, .int .i64 x.bend, .slice a1 x.claims.length c1]] wz fun e w' => e = .returned (.int .i64 ((truthsF x).length : Int)) ∧ Below wz.heap.size wz w' := fun wz hz => count_c hz hx
    have HCN := Lib.hid hcn
    clear hN hcn hfull
    go_wp2_with fail
    refine wp_region_mix2 (.pur 0 (.pur 1 (.pur 2 (.pur 3 (.pur 4 (.pur 5 (.one 6 (.act 7 (.pur 8 (.pur 9 .fin)))))))))) 7 (XR b1 x.points x.bend (.slice a1 x.claims.length c1)) (XR b1 x.points x.bend (.slice a1 x.claims.length c1)) (by kernel_rfl) (by kernel_rfl) rfl (by kernel_rfl) (Blk.qt hX2 ((Qt.refl _).drewN 1)) (fun wd hqd _ => ?_)
    refine mix_pur2 rfl (fun K hK => ?_)
    go_simp
    first | refine ⟨_, fun _ => rfl, hK _ ?_⟩ | refine hK _ ?_
    clear hK K
    refine mix_pload2 rfl rfl rfl (.slice a1 x.claims.length c1) (fun w' h => by have h : (XR b1 x.points x.bend (.slice a1 x.claims.length c1)) w' ∨ (XR b1 x.points x.bend (.slice a1 x.claims.length c1)) w' := h; obtain h | h := h <;> (have h2 := XR.c2 h; go_simp)) rfl ?_
    refine mix_pur2 rfl (fun K hK => ?_)
    go_simp
    first | refine ⟨_, fun _ => rfl, hK _ ?_⟩ | refine hK _ ?_
    clear hK K
    refine mix_pur2 rfl (fun K hK => ?_)
    go_simp
    first | refine ⟨_, fun _ => rfl, hK _ ?_⟩ | refine hK _ ?_
    clear hK K
    refine mix_pur2 rfl (fun K hK => ?_)
    go_simp
    first | refine ⟨_, fun _ => rfl, hK _ ?_⟩ | refine hK _ ?_
    clear hK K
    refine mix_pur2 rfl (fun K hK => ?_)
    go_simp
    first | refine ⟨_, fun _ => rfl, hK _ ?_⟩ | refine hK _ ?_
    clear hK K
    refine mix_load2 rfl rfl rfl (.agg #[.int .i64 x.points, .int .i64 x.bend, (.slice a1 x.claims.length c1)]) (fun w' h => by have h : (XR b1 x.points x.bend (.slice a1 x.claims.length c1)) w' := h; have e0 := XR.c0 h; have e1 := XR.c1 h; have e2 := XR.c2 h; go_simp) rfl ?_
    refine mix_eff2 rfl true rfl (fun K hK => ?_)
    go_simp
    refine (HCN.out wd (h2.qt hqd)).mono ?_
    rintro e w3 ⟨rfl, hB3⟩
    have hX3 := (Blk.qt hX2 hqd).call hB3
    have h3 := (h2.qt hqd).call hB3
    have hBd3 := bnx (bnx hB hB2) (bnx (hqd.below _) hB3)
    refine hK _ _ hX3 ?_
    clear hK K
    refine mix_pur2 rfl (fun K hK => ?_)
    go_simp
    first | refine ⟨_, fun _ => rfl, hK _ ?_⟩ | refine hK _ ?_
    clear hK K
    refine mix_pur2 rfl (fun K hK => ?_)
    go_simp
    first | refine ⟨_, fun _ => rfl, hK _ ?_⟩ | refine hK _ ?_
    clear hK K
    refine mix_done2 ?_
    simp only [HFULL.out]
    simp only [show IntKind.u64.wrap (x.claims.length : Int) = (x.claims.length : Int) from IntWalk.u64_in _ (by omega), Int.toNat_natCast]
    obtain ⟨n0, hn0⟩ : ∃ n0 : Int, n0 = ((truthsF x).length : Int) := ⟨_, rfl⟩
    rw [← hn0]
    have HN0 := Lib.hid hn0
    clear hn0
    have HSH := Lib.hid hsh
    have HSUB := Lib.hid hsub
    have d2 := XR.c2 hX3
    clear hsh hsub
    obtain ⟨N0, hN0'⟩ : ∃ N0, N0 = w3.heap.size := ⟨_, rfl⟩
    have hz0 : N0 ≤ w3.heap.size := Nat.le_of_eq hN0'
    have hz1 : w3.heap.size ≤ N0 := Nat.le_of_eq hN0'.symm
    have hX3l := Blk.lt hX3
    clear hN0'
    go_wp2_with fail
    go_loopw [7, 25] (fun vo vi wr => ∃ k : Nat, k ≤ x.claims.length ∧ vi = .int .i64 k ∧ Own N0 wr 3 1 vo (idleK x k).length (I64 (castN (idleK x k))) ∧ Below N0 w3 wr ∧ N0 ≤ wr.heap.size) (fun _ vi _ => x.claims.length - (intOf vi).toNat)
    case atStart => exact ⟨0, Nat.zero_le _, rfl, Own.nil, Below.refl _ _, hz0⟩
    case round =>
      obtain ⟨k, hk, rfl, hO, hBr, hzr⟩ := hrel
      clear d2
      have hXr := Blk.below hX3 hBr (by omega)
      have hr := Elems.below (h3.wide (A' := fun q => q < w3.heap.size) fun q _ hq => hq) hBr fun q hq _ => by omega
      have d0 := Blk.cell hXr 0
      have d1 := Blk.cell hXr 1
      have d2 := Blk.cell hXr 2
      by_cases hlt : k < x.claims.length
      · have hil := idleK_len x k
        obtain ⟨L, hL⟩ : ∃ L, L = idleK x k := ⟨_, rfl⟩
        rw [← hL] at hO hil
        have HL := Lib.hid hL
        obtain ⟨av, cv, rfl⟩ := own_slice hO
        obtain ⟨M, hM1, hM2, hM3⟩ := but_mask hx hlt
        have hshk : IntKind.u16.wrap (2 ^ k) = ((2 ^ k : Nat) : Int) := shl_fact ⟨k, by omega⟩
        rw [← HN.out] at hM2
        obtain ⟨G, hG⟩ : ∃ G : Nat, G = 2 ^ k := ⟨_, rfl⟩
        rw [← hG] at hM2 hshk
        have HM := Lib.hid hM3
        have hon := only_c hM1 hr (by omega)
        have HON := Lib.hid hon
        clear hG hL hM3 hon
        go_wp2_with fail
        refine HON.out.mono ?_
        rintro e w5 ⟨v5, rfl, h5, hB5⟩
        rw [HM.out] at h5
        have hcm := count_c (x := partF x fun j => decide (j ≠ k)) h5 (partF_ok hx _)
        obtain ⟨n1, hn1⟩ : ∃ n1 : Int, n1 = ((truthsF (partF x fun j => decide (j ≠ k))).length : Int) := ⟨_, rfl⟩
        rw [← hn1] at hcm
        have HN1 := Lib.hid hn1
        have HCM := Lib.hid hcm
        clear hcm hn1
        go_wp2_with fail
        refine HCM.out.mono ?_
        rintro e w6 ⟨rfl, hB6⟩
        have hO6 := (hO.call hB5).call hB6
        have hB36 : Below N0 w3 w6 := (hBr.trans (hB5.mono hzr)).trans (hB6.mono (by have := hB5.size; omega))
        have hz6 : N0 ≤ w6.heap.size := by have := hB5.size; have := hB6.size; omega
        cases hib : idleB x k with
        | true =>
          have hq : (n1 == n0) = true := by
            rw [beq_iff_eq, HN1.out, HN0.out]; unfold idleB at hib; rw [beq_iff_eq] at hib; omega
          have ho8 := hO6.alloc (.cells #[.int .i64 k] 3)
          go_wp2_with (at_builtin; refine wpList_append_arr rfl _ _ 37 rfl 3 (.int .i64 0) 1 8 Tryd.underlying37 Tryd.info3 rfl (by decide) (by decide) (by simp; omega) ho8 rfl (arr_one w6 3 (.int .i64 k)) rfl rfl (one_int _) (by omega) ?_; intro v9 w9 hown hT9)
          have hB9 := hT9.below2 (B' := N0) ho8 (hB36.alloc hz6 _) (by simp; omega) (Nat.le_refl _)
          have hz9 := hT9.size
          go_roundw
          case rel =>
            refine ⟨k + 1, by omega, by go_num, ?_, hB9, by simp at hz9; omega⟩
            rw [idleK_succ, if_pos hib, ← HL.out, castN_snoc, I64_append, List.length_append]
            exact hown
          case measure => simp [intOf]; omega
        | false =>
          have hq : (n1 == n0) = false := by
            rw [beq_eq_false_iff_ne, HN1.out, HN0.out]; unfold idleB at hib; rw [beq_eq_false_iff_ne] at hib; omega
          go_wp2_with fail
          go_roundw
          case rel =>
            refine ⟨k + 1, by omega, by go_num, ?_, hB36, hz6⟩
            rw [idleK_succ, hib, ← HL.out]
            simpa using hO6
          case measure => simp [intOf]; omega
      · obtain rfl : k = x.claims.length := by omega
        have hBe := hBd3.trans (hBr.mono (by have := hBd3.size; omega))
        have hi : Ints (fun q => N0 ≤ q) wr u7 (castN (idleK x x.claims.length)) := by
          have := Own.arr hO
          show Arr _ _ _ (castN _).length _
          rw [castN_len]
          exact this
        go_wp2_with fail
        go_ret2
        rw [HE.out]
        exact ⟨_, rfl, hi.wide fun q hq _ => by have := hBd3.size; omega, hBe⟩
  · have hb : (checkX x != 0) = true := by simpa using hck
    have he : idleX x = ([], checkX x) := by unfold idleX; rw [if_pos hck]
    have HE := Lib.hid he
    clear he hck
    go_wp2_with fail
    go_ret2
    rw [HE.out]
    exact ⟨_, rfl, ints_nil _ _, bnx hB hB2⟩

end Go.Proofs.YtgljiabmfcobiaaDoor
