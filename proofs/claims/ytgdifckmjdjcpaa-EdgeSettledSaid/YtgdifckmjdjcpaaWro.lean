/- Contract of Wrong (edge); conditions: the claims read as a list. -/
import Derived.Test.YtgdifckmjdjcpaaCla2
namespace Go.Proofs.Ytgdifckmjdjcpaa
open Go.RowKit

set_option maxHeartbeats 1000000 in
theorem wrong_c {A : Nat → Prop} {w : World} {x : Edg} {v : Value} (h : ClsM A w v x.claims) :
    Calls Try.prog 54 #[.agg #[.int .i64 x.points, .int .i64 x.bend, v]] w fun e w' => ∃ v', e = .returned (.tuple #[v', .int .i64 (wrongX x).2]) ∧ Ints (fun k => w.heap.size ≤ k) w' v' (castN (wrongX x).1) ∧ Below w.heap.size w w' := by
  obtain ⟨a1, c1, rfl, hc1, hm1⟩ := h.shape
  have n1 := h.len
  obtain ⟨w1, hw1⟩ : ∃ w1, w1 = w.alloc (.cells #[.int .i64 x.points, .int .i64 x.bend, .slice a1 x.claims.length c1] 24) := ⟨_, rfl⟩
  obtain ⟨b1, hb1⟩ : ∃ b, b = w.heap.size := ⟨_, rfl⟩
  have hX : Blk b1 #[.int .i64 x.points, .int .i64 x.bend, .slice a1 x.claims.length c1] 24 w1 := by rw [hw1, hb1]; exact blk_at rfl _ _
  have hB : Below w.heap.size w w1 := by rw [hw1]; exact (Below.refl _ w).alloc (Nat.le_refl _) _
  have h1 := h.call (hB)
  go_enter Try.func54, Try.ntmps54
  go_upto_region 1 with fail
  rw [← hw1, ← hb1]
  clear hw1 hb1
  have c0 := hX.cell 0
  have c1' := hX.cell 1
  have c2 := hX.cell 2
  go_wp2_with fail
  refine (check_c h1).mono ?_
  rintro e w2 ⟨rfl, hB2⟩
  have hX2 := hX.call hB2
  have h2 := h1.call hB2
  clear c0 c1' c2
  have c2 := hX2.cell 2
  have hl2 := hX2.lt
  by_cases hck : checkX x = 0
  · have hx := checkX_zero.1 hck
    have hb : (checkX x != 0) = false := by rw [hck]; rfl
    have HCK := Lib.hid hck
    clear hck
    have hm := hx.m
    have hp := pow_le_128 hm
    have hsh : IntKind.u16.wrap (2 ^ x.claims.length) = ((2 ^ x.claims.length : Nat) : Int) := shl_fact ⟨x.claims.length, by omega⟩
    obtain ⟨N, hN⟩ : ∃ N : Nat, N = 2 ^ x.claims.length := ⟨_, rfl⟩
    have hN0 : 1 ≤ N := by rw [hN]; exact Nat.one_le_two_pow
    rw [← hN] at hsh hp
    have hsub : IntKind.u16.wrap ((N : Int) - 1) = ((N - 1 : Nat) : Int) := by rw [IntWalk.u16_in _ (by omega)]; omega
    have HN := Lib.hid hN
    clear hN
    go_wp2_with fail
    have hM : Blk w2.heap.size #[.int .u16 ((N - 1 : Nat) : Int)] 109 (w2.alloc (.cells #[.int .u16 ((N - 1 : Nat) : Int)] 109)) := Blk.new _ _ _
    have hB3 := (Below.refl w2.heap.size w2).alloc (Nat.le_refl _) (.cells #[.int .u16 ((N - 1 : Nat) : Int)] 109)
    have hT : Blk (w2.heap.size + 1) #[.func (.func 95) #[] #[.pointer (some ⟨b1, 0, none⟩), .pointer (some ⟨w2.heap.size, 0, none⟩)]] 113 ((w2.alloc (.cells #[.int .u16 ((N - 1 : Nat) : Int)] 109)).alloc (.cells #[.func (.func 95) #[] #[.pointer (some ⟨b1, 0, none⟩), .pointer (some ⟨w2.heap.size, 0, none⟩)]] 113)) := blk_at (by simp) _ _
    have hB4 := (Below.refl (w2.alloc (.cells #[.int .u16 ((N - 1 : Nat) : Int)] 109)).heap.size (w2.alloc (.cells #[.int .u16 ((N - 1 : Nat) : Int)] 109))).alloc (Nat.le_refl _) (.cells #[.func (.func 95) #[] #[.pointer (some ⟨b1, 0, none⟩), .pointer (some ⟨w2.heap.size, 0, none⟩)]] 113)
    have hBy := bnx hB3 hB4
    have hX4 := hX2.call hBy
    have h4 := h2.call hBy
    have hM4 := hM.call hB4
    refine (fewest95_c (test := fun g => hasT (partF x fun i => !g.testBit i)) hm hT (fun g hg w' hw => ?_)).mono ?_
    · exact wrongT_c (h4.call hw) hx (hX4.call hw) (by have t := hM4.call hw; rw [HN.out] at t; exact t) hg
    · rintro e w5 ⟨b, s, rfl, hbest, hB5⟩
      have hd := hbest.done hm
      have hs : s = true := by
        cases s with
        | true => rfl
        | false =>
          obtain ⟨g, hg⟩ := wrong_some hx
          rw [show fewF x.claims.length (fun g => hasT (partF x fun i => !g.testBit i)) = some g from hg] at hd
          exact absurd hd (by simp)
      subst hs
      rw [if_pos rfl] at hd
      have hb128 : b < 128 := by
        have := (few_test hm hd).1
        have hp := pow_le_128 hm
        omega
      have he : wrongX x = (maskL b, 0) := by
        unfold wrongX
        rw [if_neg (not_not_intro HCK.out), show wrongF x = some b from hd]
        rfl
      have HE := Lib.hid he
      clear he hd
      go_wp2_with fail
      refine (list_c hb128 _).mono ?_
      rintro e w6 ⟨v6, rfl, ho6, hB6⟩
      go_wp2_with fail
      go_ret2
      rw [HE.out]
      have hBx := bnx (bnx (bnx hB hB2) hBy) hB5
      exact ⟨_, rfl, (list_ints ho6).wide fun k hk _ => Nat.le_trans hBx.size hk, bnx hBx hB6⟩
  · have hb : (checkX x != 0) = true := by simpa using hck
    have he : wrongX x = ([], checkX x) := by unfold wrongX; rw [if_pos hck]
    have HE := Lib.hid he
    clear he hck
    go_wp2_with fail
    go_ret2
    rw [HE.out]
    exact ⟨_, rfl, ints_nil _ _, bnx hB hB2⟩

end Go.Proofs.Ytgdifckmjdjcpaa
