/- mestalaw06.seen and verdict: the field that is seen last, a verdict on how many; conditions: the furrows read as a list. -/
import Derived.Test.YtgdifckmjdjcpaaFq
namespace Go.Proofs.Ytgdifckmjdjcpaa
open Go.RowKit

/-- What is read of a furrow. -/
def SeS (b o : Nat) (f : Fu) (w : World) : Prop := w.cell? ⟨b, o + 1, none⟩ = some (.int .i64 f.year) ∧ w.cell? ⟨b, o + 2, none⟩ = some (.int .i64 f.off)
set_option maxRecDepth 100000 in
set_option maxHeartbeats 4000000 in
theorem seen_c {A : Nat → Prop} {w : World} {v : Value} {l : List Fu} (h : FusM A w v l) (pp y : Int) : Calls Try.prog 51 #[v, .int .i64 pp, .int .i64 y] w fun e w' => e = .returned (.int .i64 (seenS (-1) pp y l).1) ∧ Qt w w' := by
  obtain ⟨al, cl, rfl, _, _⟩ := h.shape
  have n1 := h.len
  go_enter Try.func51, Try.ntmps51
  go_wp2_with fail
  go_loopw [7, 8, 9] (fun s7 s8 s9 wr => ∃ k : Nat, k ≤ l.length ∧ s9 = .int .i64 k ∧ s7 = .int .i64 (seenS (-1) pp y (l.take k)).1 ∧ s8 = .int .i64 (seenS (-1) pp y (l.take k)).2 ∧ Qt w wr) (fun _ _ s9 _ => l.length - (intOf s9).toNat)
  case atStart => exact ⟨0, Nat.zero_le _, rfl, rfl, rfl, Qt.refl _⟩
  case round =>
    obtain ⟨k, hk, rfl, rfl, rfl, hq⟩ := hrel
    by_cases hkl : k < l.length
    · have hb0 : decide ((k : Int) < (l.length : Int)) = true := decide_eq_true (by omega)
      have hs := seenS_snoc (-1) pp y (l.take k) l[k]
      rw [← List.take_succ_eq_append_getElem hkl] at hs
      obtain ⟨R, hR⟩ : ∃ R, R = seenS (-1) pp y (l.take k) := ⟨_, rfl⟩
      rw [← hR] at hs ⊢
      have HS := Lib.hid hs
      clear hs hR
      obtain ⟨bl, ol, rfl, -, hbl⟩ := fus_addr h (by omega)
      have hr := Elems.qt h hq
      obtain ⟨e0, e1, e2⟩ := fus_at hr k hkl
      have hss : ∀ w', Qt _ w' → (SeS bl (ol + k * 3) l[k]) w' := fun w' hq' => ⟨(fus_at (Elems.qt hr hq') k hkl).2.1, (fus_at (Elems.qt hr hq') k hkl).2.2⟩
      have HSS := Lib.hid hss
      clear hss
      unfold seenB at HS
      by_cases k1 : l[k].point = pp
      · have d1 : (l[k].point == pp) = true := by rw [beq_iff_eq]; exact k1
        have d1' : decide (l[k].point = pp) = true := decide_eq_true k1
        rw [d1', Bool.true_and] at HS
        by_cases k2 : R.2 < l[k].year
        · have d2 : decide (R.2 < l[k].year) = true := decide_eq_true k2
          rw [d2, Bool.true_and] at HS
          by_cases k3 : l[k].year ≤ y
          · have d3 : decide (l[k].year ≤ y) = true := decide_eq_true k3
            rw [if_pos d3] at HS
            clear d1' k1
            go_upto_region 6 with fail
            refine wp_region_mix2 (.pur 0 (.pur 1 (.pur 2 (.pur 3 (.one 4 (.pur 5 (.pur 6 (.pur 7 (.pur 8 (.one 9 (.pur 10 (.pur 11 .fin)))))))))))) 99 (SeS bl (ol + k * 3) l[k]) (fun _ => True) (by kernel_rfl) (by kernel_rfl) rfl (by kernel_rfl) (HSS.out _ ((Qt.refl _).drewN 1)) (fun wd hqd _ => ?_)
            refine mix_pur2 rfl (fun K hK => ?_)
            go_simp
            first | refine ⟨_, fun _ => rfl, hK _ ?_⟩ | refine hK _ ?_
            clear hK K
            refine mix_pur2 rfl (fun K hK => ?_)
            go_simp
            first | refine ⟨_, fun _ => rfl, hK _ ?_⟩ | refine hK _ ?_
            clear hK K
            refine mix_pur2 rfl (fun K hK => ?_)
            go_simp
            first | refine ⟨_, fun _ => rfl, hK _ ?_⟩ | refine hK _ ?_
            clear hK K
            refine mix_pur2 rfl (fun K hK => ?_)
            go_simp
            first | refine ⟨_, fun _ => rfl, hK _ ?_⟩ | refine hK _ ?_
            clear hK K
            refine mix_load2 rfl rfl rfl (.int .i64 l[k].off) (fun w' h => by have h : (SeS bl (ol + k * 3) l[k]) w' := h; have e0 := h.2; go_simp) rfl ?_
            refine mix_pur2 rfl (fun K hK => ?_)
            go_simp
            first | refine ⟨_, fun _ => rfl, hK _ ?_⟩ | refine hK _ ?_
            clear hK K
            refine mix_pur2 rfl (fun K hK => ?_)
            go_simp
            first | refine ⟨_, fun _ => rfl, hK _ ?_⟩ | refine hK _ ?_
            clear hK K
            refine mix_pur2 rfl (fun K hK => ?_)
            go_simp
            first | refine ⟨_, fun _ => rfl, hK _ ?_⟩ | refine hK _ ?_
            clear hK K
            refine mix_pur2 rfl (fun K hK => ?_)
            go_simp
            first | refine ⟨_, fun _ => rfl, hK _ ?_⟩ | refine hK _ ?_
            clear hK K
            refine mix_load2 rfl rfl rfl (.int .i64 l[k].year) (fun w' h => by have h : (SeS bl (ol + k * 3) l[k]) w' := h; have e0 := h.1; go_simp) rfl ?_
            refine mix_pur2 rfl (fun K hK => ?_)
            go_simp
            first | refine ⟨_, fun _ => rfl, hK _ ?_⟩ | refine hK _ ?_
            clear hK K
            refine mix_pur2 rfl (fun K hK => ?_)
            go_simp
            first | refine ⟨_, fun _ => rfl, hK _ ?_⟩ | refine hK _ ?_
            clear hK K
            refine mix_done2 ?_
            go_wp2_with fail
            go_roundw
            case rel => exact ⟨k + 1, by omega, by go_num, by rw [HS.out], by rw [HS.out], hq.trans hqd⟩
            case measure => simp [intOf]; omega
          · have d3 : decide (l[k].year ≤ y) = false := decide_eq_false k3
            rw [if_neg (by rw [d3]; decide)] at HS
            clear d1' k1
            go_wp2_with fail
            go_roundw
            case rel => exact ⟨k + 1, by omega, by go_num, by rw [HS.out], by rw [HS.out], hq⟩
            case measure => simp [intOf]; omega
        · have d2 : decide (R.2 < l[k].year) = false := decide_eq_false k2
          rw [d2, Bool.false_and, if_neg (by decide)] at HS
          clear d1' k1
          go_wp2_with fail
          go_roundw
          case rel => exact ⟨k + 1, by omega, by go_num, by rw [HS.out], by rw [HS.out], hq⟩
          case measure => simp [intOf]; omega
      · have d1 : (l[k].point == pp) = false := by rw [beq_eq_false_iff_ne]; exact k1
        have d1' : decide (l[k].point = pp) = false := decide_eq_false k1
        rw [d1', Bool.false_and, if_neg (by decide)] at HS
        clear d1' k1
        go_wp2_with fail
        go_roundw
        case rel => exact ⟨k + 1, by omega, by go_num, by rw [HS.out], by rw [HS.out], hq⟩
        case measure => simp [intOf]; omega
    · obtain rfl : k = l.length := by omega
      rw [List.take_length]
      have hb0 : decide ((l.length : Int) < (l.length : Int)) = false := decide_eq_false (by omega)
      go_wp2_with fail
      go_ret
      exact ⟨rfl, hq⟩

def verdM (some all : Int) : Int := if some = 0 then 2 else if some = all then 1 else 3
theorem verdictM_c (some all : Int) (w : World) : Calls Try.prog 53 #[.int .i64 some, .int .i64 all] w fun e w' => e = .returned (.int .i64 (verdM some all)) ∧ Qt w w' := by
  unfold verdM
  by_cases h1 : some = 0
  · have d1 : (some == 0) = true := by rw [beq_iff_eq]; exact h1
    rw [if_pos h1]
    clear h1
    go_enter Try.func53, Try.ntmps53
    go_wp2_with fail
    go_ret
    exact ⟨rfl, Qt.refl _⟩
  · have d1 : (some == 0) = false := by rw [beq_eq_false_iff_ne]; exact h1
    rw [if_neg h1]
    clear h1
    by_cases h2 : some = all
    · have d2 : (some == all) = true := by rw [beq_iff_eq]; exact h2
      rw [if_pos h2]
      clear h2
      go_enter Try.func53, Try.ntmps53
      go_wp2_with fail
      go_ret
      exact ⟨rfl, Qt.refl _⟩
    · have d2 : (some == all) = false := by rw [beq_eq_false_iff_ne]; exact h2
      rw [if_neg h2]
      clear h2
      go_enter Try.func53, Try.ntmps53
      go_wp2_with fail
      go_ret
      exact ⟨rfl, Qt.refl _⟩
end Go.Proofs.Ytgdifckmjdjcpaa
