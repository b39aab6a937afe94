/- Clash and Wrong; conditions: as said. -/
import Derived.Test.YtbpfhoihfoojfaaGreatDoorBn
import Derived.Test.YtbpfhoihfoojfaaGreatDoorGp
namespace Go.Proofs.YtbpfhoihfoojfaaGreatDoor
open Go.RowKit

theorem ints_nil (A : Nat → Prop) (w : World) : Ints A w (.slice none 0 0) [] := ⟨none, 0, rfl, Nat.le_refl _, ⟨by unfold maxLen; omega, fun _ => rfl⟩, .inl rfl⟩

theorem bound_c {A : Nat → Prop} {w : World} {x : Edg} {v : Value} (h : ClsM A w v x.claims) (hx : x.Ok) :
    Calls Tryz.prog 44 #[.agg #[.int .i64 x.points, .int .i64 x.bend, v]] w fun e w' => ∃ v', e = .returned (.tuple #[v', .bool (hasT x)]) ∧ Below w.heap.size w w' := by
  refine (bounds_c h hx).mono ?_
  rintro e w' ⟨v', b, rfl, hB, (⟨rfl, h1⟩ | ⟨rfl, s, g, h1, -⟩)⟩
  · have : hasT x = false := by
      cases ht : hasT x with
      | false => rfl
      | true => exact absurd (bndF_none.1 h1) (hasT_iff.1 ht)
    exact ⟨v', by rw [this], hB⟩
  · have : hasT x = true := hasT_iff.2 (bndF_some h1.eq)
    exact ⟨v', by rw [this], hB⟩

theorem clashT_c {A : Nat → Prop} {w : World} {x : Edg} {v : Value} (h : ClsM A w v x.claims) (hx : x.Ok) {b1 : Nat} (hX : Blk b1 #[.int .i64 x.points, .int .i64 x.bend, v] 24 w) {g : Nat} (hg : g < 128) :
    Calls Tryz.prog 46 #[.int .u16 g, .pointer (some ⟨b1, 0, none⟩)] w fun e w' => e = .returned (.bool (!hasT (partF x fun i => g.testBit i))) ∧ Below w.heap.size w w' := by
  have c0 := hX.cell 0
  have c1 := hX.cell 1
  have c2 := hX.cell 2
  have hm := hx.m
  go_enter Tryz.func46, Tryz.ntmps46
  go_wp2_with fail
  refine (only_c hg h (by omega)).mono ?_
  rintro e w1 ⟨v1, rfl, h1, hB1⟩
  go_wp2_with fail
  refine (bound_c (x := partF x fun i => g.testBit i) h1 (partF_ok hx _)).mono ?_
  rintro e w2 ⟨v2, rfl, hB2⟩
  go_wp2_with fail
  go_ret
  exact ⟨rfl, bnx hB1 hB2⟩

theorem andNot_fact : ∀ n : Fin 8, ∀ g : Fin 128, bits BinOp.andNot IntKind.u16 (((2 ^ n.1 - 1 : Nat)) : Int) ((g.1 : Nat) : Int) = (((2 ^ n.1 - 1) &&& (65535 - g.1) : Nat) : Int) := by decide +kernel

end Go.Proofs.YtbpfhoihfoojfaaGreatDoor

namespace Go.Proofs.YtbpfhoihfoojfaaGreatDoor
open Go.RowKit

def castN (l : List Nat) : List Int := l.map fun i : Nat => (i : Int)
theorem list_ints {g : Nat} {w w' : World} {v : Value} (h : Own w.heap.size w' 3 1 v (bitsL g 16).length (I64 (bitsL g 16))) : Ints (fun k => w.heap.size ≤ k) w' v (castN (maskL g)) := h.ints

set_option maxHeartbeats 1000000 in
theorem clash_c {A : Nat → Prop} {w : World} {x : Edg} {v : Value} (h : ClsM A w v x.claims) :
    Calls Tryz.prog 19 #[.agg #[.int .i64 x.points, .int .i64 x.bend, v]] w fun e w' => ∃ v', e = .returned (.tuple #[v', .int .i64 (clashX x).2]) ∧ Ints (fun k => w.heap.size ≤ k) w' v' (castN (clashX x).1) ∧ Below w.heap.size w w' := by
  obtain ⟨a1, c1, rfl, hc1, hm1⟩ := h.shape
  have n1 := h.len
  obtain ⟨w1, hw1⟩ : ∃ w1, w1 = w.alloc (.cells #[.int .i64 x.points, .int .i64 x.bend, .slice a1 x.claims.length c1] 24) := ⟨_, rfl⟩
  obtain ⟨b1, hb1⟩ : ∃ b, b = w.heap.size := ⟨_, rfl⟩
  have hX : Blk b1 #[.int .i64 x.points, .int .i64 x.bend, .slice a1 x.claims.length c1] 24 w1 := by rw [hw1, hb1]; exact blk_at rfl _ _
  have hB : Below w.heap.size w w1 := by rw [hw1]; exact (Below.refl _ w).alloc (Nat.le_refl _) _
  have h1 := h.call (hB)
  go_enter Tryz.func19, Tryz.ntmps19
  go_upto_region 1 with fail
  rw [← hw1, ← hb1]
  clear hw1 hb1
  have c0 := hX.cell 0
  have c1' := hX.cell 1
  have c2 := hX.cell 2
  go_wp2_with fail
  refine (check_c h1).mono ?_
  rintro e w2 ⟨rfl, hB2⟩
  have hX2 := hX.call hB2
  have h2 := h1.call hB2
  clear c0 c1' c2
  have c0 := hX2.cell 0
  have c1' := hX2.cell 1
  have c2 := hX2.cell 2
  by_cases hck : checkX x = 0
  · have hx := checkX_zero.1 hck
    have hb : (checkX x != 0) = false := by rw [hck]; rfl
    have HCK := Lib.hid hck
    clear hck
    go_wp2_with fail
    refine (bound_c h2 hx).mono ?_
    rintro e w3 ⟨v3, rfl, hB3⟩
    have hX3 := hX2.call hB3
    have h3 := h2.call hB3
    have hm := hx.m
    cases ht : hasT x with
    | true =>
      have he : clashX x = ([], 11) := by
        unfold clashX
        rw [if_neg (not_not_intro HCK.out), (clash_none hx).2 ht]
      have HE := Lib.hid he
      clear he
      go_wp2_with fail
      go_ret2
      rw [HE.out]
      exact ⟨_, rfl, ints_nil _ _, bnx (bnx hB hB2) hB3⟩
    | false =>
      clear c0 c1' c2
      have c2 := hX3.cell 2
      go_wp2_with fail
      have hT : Blk w3.heap.size #[.func (.func 46) #[] #[.pointer (some ⟨b1, 0, none⟩)]] 113 (w3.alloc (.cells #[.func (.func 46) #[] #[.pointer (some ⟨b1, 0, none⟩)]] 113)) := Blk.new _ _ _
      have hB4 := (Below.refl w3.heap.size w3).alloc (Nat.le_refl _) (.cells #[.func (.func 46) #[] #[.pointer (some ⟨b1, 0, none⟩)]] 113)
      refine (fewest90_c (test := fun g => !hasT (partF x fun i => g.testBit i)) hm hT (fun g hg w' hw => ?_)).mono ?_
      · have hp := pow_le_128 hm
        exact clashT_c ((h3.call hB4).call hw) hx ((hX3.call hB4).call hw) (by omega)
      · rintro e w5 ⟨b, s, rfl, hbest, hB5⟩
        have hd := hbest.done hm
        have hs : s = true := by
          cases s with
          | true => rfl
          | false => exact absurd ((clash_none hx).1 hd) (by rw [ht]; decide)
        subst hs
        rw [if_pos rfl] at hd
        have hb128 : b < 128 := by
          have := (few_test hm hd).1
          have hp := pow_le_128 hm
          omega
        have he : clashX x = (maskL b, 0) := by
          unfold clashX
          rw [if_neg (not_not_intro HCK.out), show clashF x = some b from hd]
        have HE := Lib.hid he
        clear he hd
        go_wp2_with fail
        refine (list_c hb128 _).mono ?_
        rintro e w6 ⟨v6, rfl, ho6, hB6⟩
        go_wp2_with fail
        go_ret2
        rw [HE.out]
        have hBx := bnx (bnx (bnx (bnx hB hB2) hB3) hB4) hB5
        exact ⟨_, rfl, (list_ints ho6).wide fun k hk _ => Nat.le_trans hBx.size hk, bnx hBx hB6⟩
  · have hb : (checkX x != 0) = true := by simpa using hck
    have he : clashX x = ([], checkX x) := by unfold clashX; rw [if_pos hck]
    have HE := Lib.hid he
    clear he hck
    go_wp2_with fail
    go_ret2
    rw [HE.out]
    exact ⟨_, rfl, ints_nil _ _, bnx hB hB2⟩

end Go.Proofs.YtbpfhoihfoojfaaGreatDoor

namespace Go.Proofs.YtbpfhoihfoojfaaGreatDoor
open Go.RowKit

end Go.Proofs.YtbpfhoihfoojfaaGreatDoor

