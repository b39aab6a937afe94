/- Contracts of Clash and Wrong (edge), and of their tests; conditions: the claims read as a list. -/
import Derived.Test.YtgdifckmjdjcpaaBnd
import Derived.Test.YtgdifckmjdjcpaaGrp2
import Derived.Test.YtgdifckmjdjcpaaOnl
namespace Go.Proofs.Ytgdifckmjdjcpaa
open Go.RowKit

theorem ints_nil (A : Nat → Prop) (w : World) : Ints A w (.slice none 0 0) [] := ⟨none, 0, rfl, Nat.le_refl _, ⟨by unfold maxLen; omega, fun _ => rfl⟩, .inl rfl⟩

theorem bound_c {A : Nat → Prop} {w : World} {x : Edg} {v : Value} (h : ClsM A w v x.claims) (hx : x.Ok) :
    Calls Try.prog 78 #[.agg #[.int .i64 x.points, .int .i64 x.bend, v]] w fun e w' => ∃ v', e = .returned (.tuple #[v', .bool (hasT x)]) ∧ Below w.heap.size w w' := by
  refine (bounds_c h hx).mono ?_
  rintro e w' ⟨v', b, rfl, hB, (⟨rfl, h1⟩ | ⟨rfl, s, g, h1, -⟩)⟩
  · have : hasT x = false := by
      cases ht : hasT x with
      | false => rfl
      | true => exact absurd (bndF_none.1 h1) (hasT_iff.1 ht)
    exact ⟨v', by rw [this], hB⟩
  · have : hasT x = true := hasT_iff.2 (bndF_some h1.eq)
    exact ⟨v', by rw [this], hB⟩

theorem clashT_c {A : Nat → Prop} {w : World} {x : Edg} {v : Value} (h : ClsM A w v x.claims) (hx : x.Ok) {b1 : Nat} (hX : Blk b1 #[.int .i64 x.points, .int .i64 x.bend, v] 24 w) {g : Nat} (hg : g < 128) :
    Calls Try.prog 90 #[.int .u16 g, .pointer (some ⟨b1, 0, none⟩)] w fun e w' => e = .returned (.bool (!hasT (partF x fun i => g.testBit i))) ∧ Below w.heap.size w w' := by
  have c0 := hX.cell 0
  have c1 := hX.cell 1
  have c2 := hX.cell 2
  have hm := hx.m
  go_enter Try.func90, Try.ntmps90
  go_wp2_with fail
  refine (only_c hg h (by omega)).mono ?_
  rintro e w1 ⟨v1, rfl, h1, hB1⟩
  go_wp2_with fail
  refine (bound_c (x := partF x fun i => g.testBit i) h1 (partF_ok hx _)).mono ?_
  rintro e w2 ⟨v2, rfl, hB2⟩
  go_wp2_with fail
  go_ret
  exact ⟨rfl, bnx hB1 hB2⟩

theorem andNot_fact : ∀ n : Fin 8, ∀ g : Fin 128, bits BinOp.andNot IntKind.u16 (((2 ^ n.1 - 1 : Nat)) : Int) ((g.1 : Nat) : Int) = (((2 ^ n.1 - 1) &&& (65535 - g.1) : Nat) : Int) := by decide +kernel

theorem wrongT_c {A : Nat → Prop} {w : World} {x : Edg} {v : Value} (h : ClsM A w v x.claims) (hx : x.Ok) {b1 b2 : Nat} (hX : Blk b1 #[.int .i64 x.points, .int .i64 x.bend, v] 24 w) (hM : Blk b2 #[.int .u16 ((2 ^ x.claims.length - 1 : Nat) : Int)] 109 w) {g : Nat} (hg : g < 2 ^ x.claims.length) :
    Calls Try.prog 95 #[.int .u16 g, .pointer (some ⟨b1, 0, none⟩), .pointer (some ⟨b2, 0, none⟩)] w fun e w' => e = .returned (.bool (hasT (partF x fun i => !g.testBit i))) ∧ Below w.heap.size w w' := by
  have c0 := hX.cell 0
  have c1 := hX.cell 1
  have c2 := hX.cell 2
  have d0 := hM.cell 0
  have hm := hx.m
  have hp := pow_le_128 hm
  have hbits := but_bits ⟨x.claims.length, by omega⟩ ⟨g, by omega⟩ hg
  have hf := andNot_fact ⟨x.claims.length, by omega⟩ ⟨g, by omega⟩
  have hpb := part_but hx hg
  simp only at hf hbits
  obtain ⟨M, hM⟩ : ∃ M : Nat, M = 2 ^ x.claims.length - 1 := ⟨_, rfl⟩
  rw [← hM] at hf hbits d0 hpb
  obtain ⟨G, hG⟩ : ∃ G : Nat, G = M &&& (65535 - g) := ⟨_, rfl⟩
  rw [← hG] at hf hbits hpb
  have hG1 : G < 128 := by omega
  have HPB := Lib.hid hpb
  clear hM hG hbits hpb
  go_enter Try.func95, Try.ntmps95
  go_wp2_with fail
  refine (only_c hG1 h (by omega)).mono ?_
  rintro e w1 ⟨v1, rfl, h1, hB1⟩
  rw [HPB.out] at h1
  go_wp2_with fail
  refine (bound_c (x := partF x fun i => !g.testBit i) h1 (partF_ok hx _)).mono ?_
  rintro e w2 ⟨v2, rfl, hB2⟩
  go_wp2_with fail
  go_ret
  exact ⟨rfl, bnx hB1 hB2⟩

end Go.Proofs.Ytgdifckmjdjcpaa
