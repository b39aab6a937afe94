/- A text with one byte blotted; conditions: its length is bounded. -/
import Derived.Test.YtbpfhoihfoojfaaGreatDoorR0
import Derived.Laws.IdiomStrings
namespace Go.Proofs.YtbpfhoihfoojfaaGreatDoor
open Go.RowKit

theorem conv_one (w : World) (c : UInt8) : (convert 88 9 (.slice (some ⟨w.heap.size, 0, none⟩) 1 1)).run Tryz.prog (w.alloc (.cells #[.int .u8 (c.toNat : Int)] 5)) = .ok (.string (str [c])) (w.alloc (.cells #[.int .u8 (c.toNat : Int)] 5)) :=
  run_convert_bytes_back (P := Tryz.prog) _ 88 9 5 ⟨w.heap.size, 0, none⟩ 1 [c] Tryz.underlying88 Tryz.underlying5 Tryz.underlying9 fun j hj => by
    have hj0 : j = 0 := by simp at hj; exact hj
    subst hj0
    exact (Blk.new w #[.int .u8 (c.toNat : Int)] 5).cell 0

set_option maxRecDepth 100000 in
set_option maxHeartbeats 2000000 in
theorem blot_r (s : List UInt8) (hs : s.length ≤ 100000) (ax hx : Int) (ha : -9223372036854775808 ≤ ax ∧ ax ≤ 9223372036854775807) (hh : -9223372036854775808 ≤ hx ∧ hx ≤ 9223372036854775807) (c : UInt8) (w : World) :
    Calls Tryz.prog 11 #[.string (str s), .int .i64 ax, .int .i64 hx, .int .u8 c.toNat] w fun e w' => (∃ r, e = .returned (.string (str r)) ∧ r.length ≤ s.length + 1) ∧ Below w.heap.size w w' := by
  have hz := str_size s
  by_cases h0 : s.length = 0
  · have e0 : ((s.length : Int) == 0) = true := by rw [beq_iff_eq]; omega
    have kc : (convert 88 9 (.slice (some ⟨w.heap.size, 0, none⟩) 1 1)).run Tryz.prog (w.alloc (.cells #[.int .u8 (c.toNat : Int)] 5)) = .ok (.string (str [c])) (w.alloc (.cells #[.int .u8 (c.toNat : Int)] 5)) := conv_one w c
    go_enter Tryz.func11, Tryz.ntmps11
    go_wp2_with fail
    go_ret
    exact ⟨⟨[c], rfl, by simp⟩, (Below.refl _ w).alloc (Nat.le_refl _) _⟩
  · have e0 : ((s.length : Int) == 0) = false := by rw [beq_eq_false_iff_ne]; omega
    have hb9 : ∀ n : Nat, n ≤ 100001 → (n : Int) ≤ 9223372036854775807 := fun n hn => by omega
    go_enter Tryz.func11, Tryz.ntmps11
    go_wp2_with fail
    refine (wrap_c ax ha s.length (by omega) (by omega) w).mono ?_
    rintro e w1 ⟨⟨k, hk, rfl⟩, rfl⟩
    have hw3 := wrap_c hx hh 3 (by decide) (by decide) w1
    have HW3 := Lib.hid hw3
    clear hw3
    go_wp2_with fail
    refine HW3.out.mono ?_
    rintro e w2 ⟨⟨j, hj, rfl⟩, hw⟩
    subst hw
    obtain ⟨p1, hp1⟩ : ∃ z, z = s.take k := ⟨_, rfl⟩
    obtain ⟨p2, hp2⟩ : ∃ z, z = s.drop (k + 1) := ⟨_, rfl⟩
    obtain ⟨p3, hp3⟩ : ∃ z, z = s.drop k := ⟨_, rfl⟩
    have x1 : (str s).extract 0 k = str p1 := by rw [str_ext, hp1]; simp
    have x2 : (str s).extract (k + 1) s.length = str p2 := by rw [str_ext, hp2, List.take_of_length_le (by simp)]
    have x3 : (str s).extract k s.length = str p3 := by rw [str_ext, hp3, List.take_of_length_le (by simp)]
    have l1 : p1.length ≤ k := by rw [hp1]; exact List.length_take_le k s
    have l2 : p2.length + (k + 1) ≤ s.length := by rw [hp2, List.length_drop]; omega
    have l3 : p3.length + k ≤ s.length := by rw [hp3, List.length_drop]; omega
    clear hp1 hp2 hp3
    have hk1 : (k : Int) + 1 ≤ s.length := by omega
    have hkl : k ≤ s.length := by omega
    have hkn : k + 1 ≤ s.length := by omega
    have hkc : (0 : Int) ≤ (k : Int) + 1 ∧ (k : Int) + 1 ≤ s.length := by omega
    have hwk : IntKind.i64.wrap ((k : Int) + 1) = (k : Int) + 1 := by rw [IntKind.wrap_i64]; omega
    have htk : ((k : Int) + 1).toNat = k + 1 := by omega
    have a1 : ∀ w, (Op.stringOp .add (str p1) (str [c])).run Tryz.prog w = .ok (.string (str (p1 ++ [c]))) w := fun w => sadd p1 [c] (by simp; omega) w
    have a2 : ∀ w, (Op.stringOp .add (str (p1 ++ [c])) (str p2)).run Tryz.prog w = .ok (.string (str ((p1 ++ [c]) ++ p2))) w := fun w => sadd (p1 ++ [c]) p2 (by simp; omega) w
    have a3 : ∀ w, (Op.stringOp .add (str (p1 ++ [c])) (str p3)).run Tryz.prog w = .ok (.string (str ((p1 ++ [c]) ++ p3))) w := fun w => sadd (p1 ++ [c]) p3 (by simp; omega) w
    have a4 : ∀ w, (Op.stringOp .add (str p1) (str p2)).run Tryz.prog w = .ok (.string (str (p1 ++ p2))) w := fun w => sadd p1 p2 (by omega) w
    rcases (show j = 0 ∨ j = 1 ∨ j = 2 by omega) with rfl | rfl | rfl
    · go_upto_region 6 with fail
      refine wp_region_mix2 (.pur 0 (.pur 1 (.pur 2 (.pur 3 (.pur 7 (.pur 8 (.pur 9 (.pur 10 (.act 4 (.act 5 (.pur 6 (.pur 11 (.act 12 .fin))))))))))))) 12 (fun _ => True) (fun _ => True) (by kernel_rfl) (by kernel_rfl) rfl (by kernel_rfl) trivial (fun wd hqd _ => ?_)
      have hBd : Below w2.heap.size w2 wd := hqd.below _
      have kc : (convert 88 9 (.slice (some ⟨wd.heap.size, 0, none⟩) 1 1)).run Tryz.prog (wd.alloc (.cells #[.int .u8 (c.toNat : Int)] 5)) = .ok (.string (str [c])) (wd.alloc (.cells #[.int .u8 (c.toNat : Int)] 5)) := conv_one wd c
      refine mix_pur2 rfl (fun K hK => ?_)
      go_simp
      first | refine ⟨_, fun _ => rfl, hK _ ?_⟩ | refine ⟨_, fun _ => if_pos hkl, hK _ ?_⟩ | refine ⟨_, fun _ => if_pos hkn, hK _ ?_⟩ | refine ⟨_, fun _ => if_pos hkc, hK _ ?_⟩ | refine hK _ ?_
      clear hK K
      refine mix_pur2 rfl (fun K hK => ?_)
      go_simp
      first | refine ⟨_, fun _ => rfl, hK _ ?_⟩ | refine ⟨_, fun _ => if_pos hkl, hK _ ?_⟩ | refine ⟨_, fun _ => if_pos hkn, hK _ ?_⟩ | refine ⟨_, fun _ => if_pos hkc, hK _ ?_⟩ | refine hK _ ?_
      clear hK K
      refine mix_pur2 rfl (fun K hK => ?_)
      go_simp
      first | refine ⟨_, fun _ => rfl, hK _ ?_⟩ | refine ⟨_, fun _ => if_pos hkl, hK _ ?_⟩ | refine ⟨_, fun _ => if_pos hkn, hK _ ?_⟩ | refine ⟨_, fun _ => if_pos hkc, hK _ ?_⟩ | refine hK _ ?_
      clear hK K
      refine mix_pur2 rfl (fun K hK => ?_)
      go_simp
      first | refine ⟨_, fun _ => rfl, hK _ ?_⟩ | refine ⟨_, fun _ => if_pos hkl, hK _ ?_⟩ | refine ⟨_, fun _ => if_pos hkn, hK _ ?_⟩ | refine ⟨_, fun _ => if_pos hkc, hK _ ?_⟩ | refine hK _ ?_
      clear hK K
      refine mix_pur2 rfl (fun K hK => ?_)
      go_simp
      first | refine ⟨_, fun _ => rfl, hK _ ?_⟩ | refine ⟨_, fun _ => if_pos hkl, hK _ ?_⟩ | refine ⟨_, fun _ => if_pos hkn, hK _ ?_⟩ | refine ⟨_, fun _ => if_pos hkc, hK _ ?_⟩ | refine hK _ ?_
      clear hK K
      refine mix_pur2 rfl (fun K hK => ?_)
      go_simp
      first | refine ⟨_, fun _ => rfl, hK _ ?_⟩ | refine ⟨_, fun _ => if_pos hkl, hK _ ?_⟩ | refine ⟨_, fun _ => if_pos hkn, hK _ ?_⟩ | refine ⟨_, fun _ => if_pos hkc, hK _ ?_⟩ | refine hK _ ?_
      clear hK K
      refine mix_pur2 rfl (fun K hK => ?_)
      go_simp
      first | refine ⟨_, fun _ => rfl, hK _ ?_⟩ | refine ⟨_, fun _ => if_pos hkl, hK _ ?_⟩ | refine ⟨_, fun _ => if_pos hkn, hK _ ?_⟩ | refine ⟨_, fun _ => if_pos hkc, hK _ ?_⟩ | refine hK _ ?_
      clear hK K
      refine mix_pur2 rfl (fun K hK => ?_)
      go_simp
      first | refine ⟨_, fun _ => rfl, hK _ ?_⟩ | refine ⟨_, fun _ => if_pos hkl, hK _ ?_⟩ | refine ⟨_, fun _ => if_pos hkn, hK _ ?_⟩ | refine ⟨_, fun _ => if_pos hkc, hK _ ?_⟩ | refine hK _ ?_
      clear hK K
      refine mix_eff2 rfl false rfl (fun K hK => ?_)
      go_simp
      refine hK _ _ trivial ?_
      clear hK K
      refine mix_eff2 rfl false rfl (fun K hK => ?_)
      go_simp
      refine hK _ _ trivial ?_
      clear hK K
      refine mix_pur2 rfl (fun K hK => ?_)
      go_simp
      first | refine ⟨_, fun _ => rfl, hK _ ?_⟩ | refine ⟨_, fun _ => if_pos hkl, hK _ ?_⟩ | refine ⟨_, fun _ => if_pos hkn, hK _ ?_⟩ | refine ⟨_, fun _ => if_pos hkc, hK _ ?_⟩ | refine hK _ ?_
      clear hK K
      refine mix_pur2 rfl (fun K hK => ?_)
      go_simp
      first | refine ⟨_, fun _ => rfl, hK _ ?_⟩ | refine ⟨_, fun _ => if_pos hkl, hK _ ?_⟩ | refine ⟨_, fun _ => if_pos hkn, hK _ ?_⟩ | refine ⟨_, fun _ => if_pos hkc, hK _ ?_⟩ | refine hK _ ?_
      clear hK K
      refine mix_eff2 rfl true rfl (fun K hK => ?_)
      go_simp
      refine hK _ _ trivial ?_
      clear hK K
      refine mix_done2 ?_
      go_wp2_with fail
      go_ret
      first | exact ⟨⟨(p1 ++ [c]) ++ p2, rfl, by simp; omega⟩, hBd.alloc hBd.size _⟩ | exact ⟨⟨p1 ++ c :: p2, rfl, by simp; omega⟩, hBd.alloc hBd.size _⟩
    · go_upto_region 8 with fail
      refine wp_region_mix2 (.pur 0 (.pur 1 (.pur 2 (.pur 3 (.pur 4 (.pur 5 (.pur 6 (.pur 7 (.act 8 .fin))))))))) 8 (fun _ => True) (fun _ => True) (by kernel_rfl) (by kernel_rfl) rfl (by kernel_rfl) trivial (fun wd hqd _ => ?_)
      have hBd : Below w2.heap.size w2 wd := hqd.below _
      refine mix_pur2 rfl (fun K hK => ?_)
      go_simp
      first | refine ⟨_, fun _ => rfl, hK _ ?_⟩ | refine ⟨_, fun _ => if_pos hkl, hK _ ?_⟩ | refine ⟨_, fun _ => if_pos hkn, hK _ ?_⟩ | refine ⟨_, fun _ => if_pos hkc, hK _ ?_⟩ | refine hK _ ?_
      clear hK K
      refine mix_pur2 rfl (fun K hK => ?_)
      go_simp
      first | refine ⟨_, fun _ => rfl, hK _ ?_⟩ | refine ⟨_, fun _ => if_pos hkl, hK _ ?_⟩ | refine ⟨_, fun _ => if_pos hkn, hK _ ?_⟩ | refine ⟨_, fun _ => if_pos hkc, hK _ ?_⟩ | refine hK _ ?_
      clear hK K
      refine mix_pur2 rfl (fun K hK => ?_)
      go_simp
      first | refine ⟨_, fun _ => rfl, hK _ ?_⟩ | refine ⟨_, fun _ => if_pos hkl, hK _ ?_⟩ | refine ⟨_, fun _ => if_pos hkn, hK _ ?_⟩ | refine ⟨_, fun _ => if_pos hkc, hK _ ?_⟩ | refine hK _ ?_
      clear hK K
      refine mix_pur2 rfl (fun K hK => ?_)
      go_simp
      first | refine ⟨_, fun _ => rfl, hK _ ?_⟩ | refine ⟨_, fun _ => if_pos hkl, hK _ ?_⟩ | refine ⟨_, fun _ => if_pos hkn, hK _ ?_⟩ | refine ⟨_, fun _ => if_pos hkc, hK _ ?_⟩ | refine hK _ ?_
      clear hK K
      refine mix_pur2 rfl (fun K hK => ?_)
      go_simp
      first | refine ⟨_, fun _ => rfl, hK _ ?_⟩ | refine ⟨_, fun _ => if_pos hkl, hK _ ?_⟩ | refine ⟨_, fun _ => if_pos hkn, hK _ ?_⟩ | refine ⟨_, fun _ => if_pos hkc, hK _ ?_⟩ | refine hK _ ?_
      clear hK K
      refine mix_pur2 rfl (fun K hK => ?_)
      go_simp
      first | refine ⟨_, fun _ => rfl, hK _ ?_⟩ | refine ⟨_, fun _ => if_pos hkl, hK _ ?_⟩ | refine ⟨_, fun _ => if_pos hkn, hK _ ?_⟩ | refine ⟨_, fun _ => if_pos hkc, hK _ ?_⟩ | refine hK _ ?_
      clear hK K
      refine mix_pur2 rfl (fun K hK => ?_)
      go_simp
      first | refine ⟨_, fun _ => rfl, hK _ ?_⟩ | refine ⟨_, fun _ => if_pos hkl, hK _ ?_⟩ | refine ⟨_, fun _ => if_pos hkn, hK _ ?_⟩ | refine ⟨_, fun _ => if_pos hkc, hK _ ?_⟩ | refine hK _ ?_
      clear hK K
      refine mix_pur2 rfl (fun K hK => ?_)
      go_simp
      first | refine ⟨_, fun _ => rfl, hK _ ?_⟩ | refine ⟨_, fun _ => if_pos hkl, hK _ ?_⟩ | refine ⟨_, fun _ => if_pos hkn, hK _ ?_⟩ | refine ⟨_, fun _ => if_pos hkc, hK _ ?_⟩ | refine hK _ ?_
      clear hK K
      refine mix_eff2 rfl true rfl (fun K hK => ?_)
      go_simp
      refine hK _ _ trivial ?_
      clear hK K
      refine mix_done2 ?_
      go_wp2_with fail
      go_ret
      exact ⟨⟨p1 ++ p2, rfl, by simp; omega⟩, hBd⟩
    · go_upto_region 9 with fail
      refine wp_region_mix2 (.pur 0 (.pur 1 (.pur 2 (.pur 3 (.pur 7 (.pur 8 (.pur 9 (.act 4 (.act 5 (.pur 6 (.pur 10 (.act 11 .fin)))))))))))) 11 (fun _ => True) (fun _ => True) (by kernel_rfl) (by kernel_rfl) rfl (by kernel_rfl) trivial (fun wd hqd _ => ?_)
      have hBd : Below w2.heap.size w2 wd := hqd.below _
      have kc : (convert 88 9 (.slice (some ⟨wd.heap.size, 0, none⟩) 1 1)).run Tryz.prog (wd.alloc (.cells #[.int .u8 (c.toNat : Int)] 5)) = .ok (.string (str [c])) (wd.alloc (.cells #[.int .u8 (c.toNat : Int)] 5)) := conv_one wd c
      refine mix_pur2 rfl (fun K hK => ?_)
      go_simp
      first | refine ⟨_, fun _ => rfl, hK _ ?_⟩ | refine ⟨_, fun _ => if_pos hkl, hK _ ?_⟩ | refine ⟨_, fun _ => if_pos hkn, hK _ ?_⟩ | refine ⟨_, fun _ => if_pos hkc, hK _ ?_⟩ | refine hK _ ?_
      clear hK K
      refine mix_pur2 rfl (fun K hK => ?_)
      go_simp
      first | refine ⟨_, fun _ => rfl, hK _ ?_⟩ | refine ⟨_, fun _ => if_pos hkl, hK _ ?_⟩ | refine ⟨_, fun _ => if_pos hkn, hK _ ?_⟩ | refine ⟨_, fun _ => if_pos hkc, hK _ ?_⟩ | refine hK _ ?_
      clear hK K
      refine mix_pur2 rfl (fun K hK => ?_)
      go_simp
      first | refine ⟨_, fun _ => rfl, hK _ ?_⟩ | refine ⟨_, fun _ => if_pos hkl, hK _ ?_⟩ | refine ⟨_, fun _ => if_pos hkn, hK _ ?_⟩ | refine ⟨_, fun _ => if_pos hkc, hK _ ?_⟩ | refine hK _ ?_
      clear hK K
      refine mix_pur2 rfl (fun K hK => ?_)
      go_simp
      first | refine ⟨_, fun _ => rfl, hK _ ?_⟩ | refine ⟨_, fun _ => if_pos hkl, hK _ ?_⟩ | refine ⟨_, fun _ => if_pos hkn, hK _ ?_⟩ | refine ⟨_, fun _ => if_pos hkc, hK _ ?_⟩ | refine hK _ ?_
      clear hK K
      refine mix_pur2 rfl (fun K hK => ?_)
      go_simp
      first | refine ⟨_, fun _ => rfl, hK _ ?_⟩ | refine ⟨_, fun _ => if_pos hkl, hK _ ?_⟩ | refine ⟨_, fun _ => if_pos hkn, hK _ ?_⟩ | refine ⟨_, fun _ => if_pos hkc, hK _ ?_⟩ | refine hK _ ?_
      clear hK K
      refine mix_pur2 rfl (fun K hK => ?_)
      go_simp
      first | refine ⟨_, fun _ => rfl, hK _ ?_⟩ | refine ⟨_, fun _ => if_pos hkl, hK _ ?_⟩ | refine ⟨_, fun _ => if_pos hkn, hK _ ?_⟩ | refine ⟨_, fun _ => if_pos hkc, hK _ ?_⟩ | refine hK _ ?_
      clear hK K
      refine mix_pur2 rfl (fun K hK => ?_)
      go_simp
      first | refine ⟨_, fun _ => rfl, hK _ ?_⟩ | refine ⟨_, fun _ => if_pos hkl, hK _ ?_⟩ | refine ⟨_, fun _ => if_pos hkn, hK _ ?_⟩ | refine ⟨_, fun _ => if_pos hkc, hK _ ?_⟩ | refine hK _ ?_
      clear hK K
      refine mix_eff2 rfl false rfl (fun K hK => ?_)
      go_simp
      refine hK _ _ trivial ?_
      clear hK K
      refine mix_eff2 rfl false rfl (fun K hK => ?_)
      go_simp
      refine hK _ _ trivial ?_
      clear hK K
      refine mix_pur2 rfl (fun K hK => ?_)
      go_simp
      first | refine ⟨_, fun _ => rfl, hK _ ?_⟩ | refine ⟨_, fun _ => if_pos hkl, hK _ ?_⟩ | refine ⟨_, fun _ => if_pos hkn, hK _ ?_⟩ | refine ⟨_, fun _ => if_pos hkc, hK _ ?_⟩ | refine hK _ ?_
      clear hK K
      refine mix_pur2 rfl (fun K hK => ?_)
      go_simp
      first | refine ⟨_, fun _ => rfl, hK _ ?_⟩ | refine ⟨_, fun _ => if_pos hkl, hK _ ?_⟩ | refine ⟨_, fun _ => if_pos hkn, hK _ ?_⟩ | refine ⟨_, fun _ => if_pos hkc, hK _ ?_⟩ | refine hK _ ?_
      clear hK K
      refine mix_eff2 rfl true rfl (fun K hK => ?_)
      go_simp
      refine hK _ _ trivial ?_
      clear hK K
      refine mix_done2 ?_
      go_wp2_with fail
      go_ret
      first | exact ⟨⟨(p1 ++ [c]) ++ p3, rfl, by simp; omega⟩, hBd.alloc hBd.size _⟩ | exact ⟨⟨p1 ++ c :: p3, rfl, by simp; omega⟩, hBd.alloc hBd.size _⟩

end Go.Proofs.YtbpfhoihfoojfaaGreatDoor
