/- Contracts of groups of claims as bits (edge): has, list, size; conditions: at most seven claims. -/
import Derived.Test.YtgdifckmjdjcpaaEdgBlk
import Derived.Test.YtgdifckmjdjcpaaEdgT8
namespace Go.Proofs.Ytgdifckmjdjcpaa
open Go.RowKit

theorem has_fact : ∀ g : Fin 128, ∀ i : Fin 16, (bits BinOp.and IntKind.u16 (((g.1 : Nat) : Int) / 2 ^ i.1) 1 == 1) = g.1.testBit i.1 := by decide +kernel
theorem has_c {g i : Nat} (hg : g < 128) (hi : i < 16) (w : World) : Calls Try.prog 117 #[.int .u16 g, .int .i64 i] w fun e w' => e = .returned (.bool (g.testBit i)) ∧ w = w' := by
  go_enter Try.func117, Try.ntmps117
  go_wp2
  go_ret
  exact ⟨ret_bool (has_fact ⟨g, hg⟩ ⟨i, hi⟩), rfl⟩

theorem index_str (s : ByteArray) (k : Nat) (h : k < s.size) (w : World) : (Instr.index 9 (.string s) (.int .u16 k)).run Try.prog w = .ok (.int .u8 ((s.get k h).toNat : Int)) w := by
  rw [run_index_string (P := Try.prog) w 9 _ .u16 (k : Int) Try.underlying9, dif_pos (by omega)]
  rfl
theorem ones_hi : ∀ g : Fin 128, IntKind.u16.wrap (((g.1 : Nat) : Int) / 256) = 0 := by decide +kernel
theorem ones_lo : ∀ g : Fin 128, bits BinOp.and IntKind.u16 ((g.1 : Nat) : Int) 255 = ((g.1 : Nat) : Int) := by decide +kernel

theorem all_lt {P : ∀ g, g < 128 → Prop} (h : ∀ g : Fin 128, P g.1 g.2) (g : Nat) (hg : g < 128) : P g hg := h ⟨g, hg⟩
instance decAllProp {p : Prop} {q : p → Prop} [Decidable p] [∀ h, Decidable (q h)] : Decidable (∀ h, q h) :=
  if h : p then decidable_of_iff (q h) ⟨fun hq _ => hq, fun hq => hq h⟩ else isTrue fun h' => absurd h' h

set_option maxRecDepth 100000 in
theorem ones_c (g : Nat) (hg : g < 128) (w : World) : Calls Try.prog 127 #[.int .u16 g] w fun e w' => e = .returned (.int .i64 (sizeG g)) ∧ Qt w w' := by
  have f1 : bits BinOp.and IntKind.u16 (g : Int) 255 = (g : Int) := ones_lo ⟨g, hg⟩
  have f2 : (g : Int) / 256 = ((0 : Nat) : Int) := by omega
  have f3 : (g : Int) < 256 := by omega
  go_enter Try.func127, Try.ntmps127
  go_upto_region 1 with fail
  refine wp_region_mix2 (.pur 0 (.pur 1 (.pur 2 (.pur 3 (.pur 4 (.pur 5 (.pur 6 (.pur 7 (.pur 8 .fin))))))))) 99 (fun _ => True) (fun _ => True) (by kernel_rfl) (by kernel_rfl) rfl (by kernel_rfl) trivial (fun wd hqd _ => ?_)
  refine mix_pur2 rfl (fun K hK => ?_)
  go_simp
  first | refine ⟨_, fun _ => rfl, hK _ ?_⟩ | refine hK _ ?_
  clear hK K
  refine mix_pur2 rfl (fun K hK => ?_)
  go_simp
  first | refine ⟨_, fun _ => rfl, hK _ ?_⟩ | refine hK _ ?_
  clear hK K
  refine mix_pur2 rfl (fun K hK => ?_)
  go_simp
  first | refine ⟨_, fun _ => rfl, hK _ ?_⟩ | refine hK _ ?_
  clear hK K
  refine mix_pur2 rfl (fun K hK => ?_)
  go_simp
  first | refine ⟨_, fun _ => rfl, hK _ ?_⟩ | refine hK _ ?_
  clear hK K
  refine mix_pur2 rfl (fun K hK => ?_)
  go_simp
  first | refine ⟨_, fun _ => rfl, hK _ ?_⟩ | refine hK _ ?_
  clear hK K
  refine mix_pur2 rfl (fun K hK => ?_)
  go_simp
  first | refine ⟨_, fun _ => rfl, hK _ ?_⟩ | refine hK _ ?_
  clear hK K
  refine mix_pur2 rfl (fun K hK => ?_)
  go_simp
  first | refine ⟨_, fun _ => rfl, hK _ ?_⟩ | refine hK _ ?_
  clear hK K
  refine mix_pur2 rfl (fun K hK => ?_)
  go_simp
  first | refine ⟨_, fun _ => rfl, hK _ ?_⟩ | refine hK _ ?_
  clear hK K
  refine mix_pur2 rfl (fun K hK => ?_)
  go_simp
  first | refine ⟨_, fun _ => rfl, hK _ ?_⟩ | refine hK _ ?_
  clear hK K
  refine mix_done2 ?_
  go_wp2
  go_ret
  refine ⟨ret_int ?_, hqd⟩
  clear f1 f2 hqd wd w
  revert f3
  revert hg
  revert g
  exact all_lt (by decide +kernel)

/-- The members of a group among the first k. -/
def bitsL (g k : Nat) : List Int := ((List.range k).filter fun i => g.testBit i).map fun i : Nat => (i : Int)
theorem bitsL_succ (g k : Nat) : bitsL g (k + 1) = bitsL g k ++ if g.testBit k = true then [(k : Int)] else [] := by
  unfold bitsL
  rw [List.range_succ, List.filter_append, List.map_append]
  congr 1
  by_cases h : g.testBit k = true
  · rw [if_pos h, List.filter_cons_of_pos h]; rfl
  · rw [if_neg h, List.filter_cons_of_neg h]; rfl
theorem bitsL_all (g : Nat) : bitsL g 16 = (maskL g).map fun i : Nat => (i : Int) := rfl
theorem bitsL_len (g k : Nat) : (bitsL g k).length ≤ k := by
  unfold bitsL
  rw [List.length_map]
  exact Nat.le_trans (List.length_filter_le ..) (by simp)

set_option maxHeartbeats 1000000 in
theorem list_c {g : Nat} (hg : g < 128) (w : World) : Calls Try.prog 92 #[.int .u16 g] w fun e w' => ∃ v, e = .returned v ∧ Own w.heap.size w' 3 1 v (bitsL g 16).length (I64 (bitsL g 16)) ∧ Below w.heap.size w w' := by
  go_enter Try.func92, Try.ntmps92
  go_wp2
  go_loopw [3, 5] (fun v i wr => ∃ k : Nat, k ≤ 16 ∧ i = .int .i64 k ∧ Own w.heap.size wr 3 1 v (bitsL g k).length (I64 (bitsL g k)) ∧ Below w.heap.size w wr) (fun _ i _ => 16 - (intOf i).toNat)
  case atStart => exact ⟨0, Nat.zero_le _, rfl, Own.nil, Below.refl _ _⟩
  case round =>
    obtain ⟨k, hk, rfl, ho, hB⟩ := hrel
    have hsz := hB.size
    by_cases hlt : k < 16
    · have hlen := bitsL_len g k
      cases hb : g.testBit k with
      | true =>
        have HE := Lib.hid (show bitsL g (k + 1) = bitsL g k ++ [(k : Int)] by rw [bitsL_succ, if_pos hb])
        have ho' := Own.alloc ho (.cells #[.int .i64 (k : Int)] 3)
        have ha := arr_one wr 3 (.int .i64 (k : Int))
        go_wp2_with (first | (go_at_call 117; refine (has_c hg hlt _).mono ?_; rintro e w' ⟨rfl, rfl⟩) | (at_builtin; refine wpList_append_arr rfl _ _ 27 rfl 3 (.int .i64 0) 1 8 Try.underlying27 Try.info3 rfl (by decide) (by decide) (by simp; omega) ho' rfl ha rfl rfl (one_int _) (by omega) ?_; intro v' w' hown hT))
        go_roundw
        case rel =>
          refine ⟨k + 1, by omega, by go_num, ?_, hT.below ho' (hB.alloc (by omega) _) (by simp; omega)⟩
          rw [HE.out, I64_append, List.length_append]
          exact hown
        case measure => simp [intOf]; omega
      | false =>
        have HE := Lib.hid (show bitsL g (k + 1) = bitsL g k by rw [bitsL_succ, hb]; simp)
        go_wp2_with (go_at_call 117; refine (has_c hg hlt _).mono ?_; rintro e w' ⟨rfl, rfl⟩)
        go_roundw
        case rel => exact ⟨k + 1, by omega, by go_num, by rw [HE.out]; exact ho, hB⟩
        case measure => simp [intOf]; omega
    · obtain rfl : k = 16 := by omega
      go_wp2
      go_ret
      exact ⟨_, rfl, ho, hB⟩

theorem size_c {g : Nat} (hg : g < 128) (w : World) : Calls Try.prog 115 #[.int .u16 g] w fun e w' => e = .returned (.int .i64 (sizeG g)) ∧ Qt w w' := by
  go_enter Try.func115, Try.ntmps115
  go_wp2_with (go_at_call 127; refine (ones_c g hg w).mono ?_; rintro e w' ⟨rfl, hq⟩)
  go_ret
  exact ⟨rfl, hq⟩

end Go.Proofs.Ytgdifckmjdjcpaa
