/- The contracts of Fair and drawn; from a walk to a statement; conditions: as said at each. -/
import Derived.Test.YtmlikgjfpmjdcaaGreatDoorB2
import Derived.OwnWalkIn
import Derived.TacticsInMore
import Derived.Laws.EntriesVeiled
import Derived.ChangeSlices
import Derived.ChangeSame
import Derived.JoinedOf
import Derived.JoinedAt
import Derived.ProofKit
/- The contract of divisions; the first half of Fair's; conditions: as said. -/
namespace Go.Proofs.YtmlikgjfpmjdcaaGreatDoor
open Go.RowKit
attribute [local go_sem] Oper.semAt_some

theorem divisions_c (n : Nat) (w : World) : Calls Tryz.prog 49 #[.int .i64 n] w fun e w' => e = .returned (.func (.func 71) #[] #[.pointer (some ⟨w.heap.size, 0, none⟩)]) ∧ w' = w.alloc (.cells #[.int .i64 (n : Int)] 3) := by
  have hmf : ∀ (fn : Fn) (first cap : Array Value) (w : World), (Instr.makeFunc fn first cap).run Tryz.prog w = .ok (.func fn first cap) w := fun _ _ _ _ => rfl
  go_enter Tryz.func49, Tryz.ntmps49
  go_wp2
  go_ret
  exact ⟨rfl, rfl⟩

def FaS (b7 b8 b5 : Nat) (va vsl vp : Value) (w : World) : Prop := Blk b7 #[va] 48 w ∧ Blk b8 #[vsl] 22 w ∧ Blk b5 #[vp] 85 w
theorem FaS.alloc {b7 b8 b5 : Nat} {va vsl vp : Value} {w : World} (h : FaS b7 b8 b5 va vsl vp w) (o : Obj) : FaS b7 b8 b5 va vsl vp (w.alloc o) := ⟨h.1.alloc o, h.2.1.alloc o, h.2.2.alloc o⟩
theorem FaS.keep {b7 b8 b5 : Nat} {va vsl vp : Value} {w w' : World} (h : FaS b7 b8 b5 va vsl vp w) (hb : ∀ k, k = b7 ∨ k = b8 ∨ k = b5 → w'.heap[k]? = w.heap[k]?) : FaS b7 b8 b5 va vsl vp w' := ⟨h.1.keep (hb _ (.inl rfl)), h.2.1.keep (hb _ (.inr (.inl rfl))), h.2.2.keep (hb _ (.inr (.inr rfl)))⟩
theorem FaS.call {b7 b8 b5 : Nat} {va vsl vp : Value} {w w' : World} (h : FaS b7 b8 b5 va vsl vp w) (hB : Below w.heap.size w w') : FaS b7 b8 b5 va vsl vp w' := ⟨h.1.call hB, h.2.1.call hB, h.2.2.call hB⟩

set_option maxRecDepth 100000 in
set_option maxHeartbeats 1000000 in
theorem fair_good {A : Nat → Prop} {w : World} {vm vv : Value} {c : Com} (h : Cm A w vm vv c) (hok : c.Ok 4) :
    Calls Tryz.prog 20 #[.agg #[vm, vv]] w fun e w' => ∃ v, e = .returned (.tuple #[v, .int .i64 0]) ∧ Grid (fun k => w.heap.size ≤ k) w' v (fairF c) ∧ Below w.heap.size w w' := by
  obtain ⟨am, cpm, rfl, _, _⟩ := h.1.shape
  obtain ⟨av, cpv, rfl, _, _⟩ := h.2.shape
  have hB0 : Below w.heap.size w (w.alloc (.cells #[.slice am c.mountains.length cpm, .slice av c.villages.length cpv] 25)) := (Below.refl _ w).alloc (Nat.le_refl _) _
  have hx : Blk w.heap.size #[.slice am c.mountains.length cpm, .slice av c.villages.length cpv] 25 (w.alloc (.cells #[.slice am c.mountains.length cpm, .slice av c.villages.length cpv] 25)) := Blk.new w _ _
  have h0 := h.call hB0
  have he := (checkE_zero c).2 hok
  have hb : (checkE c != 0) = false := by simpa using he
  have HE := Lib.hid he
  clear he
  refine (callsIn_wide (n := 9)).1 (callsIn_of_wp_marks Tryz.func20 rfl trivial (wpIn_wide.2 ?_))
  simp only [Tryz.ntmps20, List.size_toArray, List.length_cons, List.length_nil, Nat.reduceAdd, Nat.reduceSub, Array.replicate_succ, Array.replicate_zero, List.push_toArray, List.append_toArray, List.nil_append, List.cons_append]
  go_wp2_with fail
  refine (check_c h0).mono ?_
  rintro e w1 ⟨rfl, hB1⟩
  have hx1 := hx.below hB1 (by simp)
  have hB2 := hB0.trans (hB1.mono hB0.size)
  have h1 := h0.call hB1
  have hs1 := hB1.size
  go_wp2_with fail
  go_cut [5, 6] from 20 to 25 (fun s5 s6 wx => ∃ bw b5 b6, s5 = .pointer (some ⟨b5, 0, none⟩) ∧ s6 = .pointer (some ⟨b6, 0, none⟩) ∧ RegF w1.heap.size bw b5 b6 (.slice am c.mountains.length cpm) (.slice av c.villages.length cpv) c.villages.length wx ∧ Below w1.heap.size w1 wx)
  case first =>
    refine wp_region_mix2 (.one 0 (.one 1 (.one 3 (.one 4 (.one 5 (.three 2 (.two 6 (.act 7 (.act 8 (.act 9 .fin))) 7 (.act 6 (.act 8 (.act 9 .fin)))) 6 (.two 2 (.act 7 (.act 8 (.act 9 .fin))) 7 (.act 2 (.act 8 (.act 9 .fin)))) 7 (.two 2 (.act 6 (.act 8 (.act 9 .fin))) 6 (.act 2 (.act 8 (.act 9 .fin)))))))))) 99 (Blk w.heap.size #[.slice am c.mountains.length cpm, .slice av c.villages.length cpv] 25) (fun _ => True) (by kernel_rfl) (by kernel_rfl) rfl (by kernel_rfl) hx1 (fun w2 hq2 hS2 => ?_)
    have hz2 : w1.heap.size ≤ w2.heap.size := by rw [hq2.size]; exact Nat.le_refl _
    refine mix_load2 rfl rfl rfl (.agg #[.slice am c.mountains.length cpm, .slice av c.villages.length cpv]) (fun w' h => by have h : (Blk w.heap.size #[.slice am c.mountains.length cpm, .slice av c.villages.length cpv] 25) w' := h; have h0 := h.cell 0; have h1 := h.cell 1; go_simp) rfl ?_
    refine mix_pure2 rfl (fun K hK => ?_)
    go_simp
    refine ⟨_, fun _ _ => rfl, hK _ ?_⟩
    clear hK K
    refine mix_pure2 rfl (fun K hK => ?_)
    go_simp
    refine ⟨_, fun _ _ => rfl, hK _ ?_⟩
    clear hK K
    refine mix_load2 rfl rfl rfl (.slice av c.villages.length cpv) (fun w' h => by have h : (Blk w.heap.size #[.slice am c.mountains.length cpm, .slice av c.villages.length cpv] 25) w' := h; have h0 := h.cell 1; go_simp) rfl ?_
    refine mix_pure2 rfl (fun K hK => ?_)
    go_simp
    refine ⟨_, fun _ _ => rfl, hK _ ?_⟩
    clear hK K
    refine mix_three2 rfl rfl rfl false false false rfl rfl rfl (fun K hK => ?_) (fun K hK => ?_) (fun K hK => ?_)
    · go_simp
      refine hK _ _ (by first | exact hS2 | exact hS2.alloc _ | exact (hS2.alloc _).alloc _ | exact ((hS2.alloc _).alloc _).alloc _) ?_
      clear hK K
      refine mix_two2 rfl rfl false false rfl rfl (fun K hK => ?_) (fun K hK => ?_)
      · go_simp
        refine hK _ _ (by first | exact hS2 | exact hS2.alloc _ | exact (hS2.alloc _).alloc _ | exact ((hS2.alloc _).alloc _).alloc _) ?_
        clear hK K
        refine mix_eff2 rfl false rfl (fun K hK => ?_)
        go_simp
        refine hK _ _ (by first | exact hS2 | exact hS2.alloc _ | exact (hS2.alloc _).alloc _ | exact ((hS2.alloc _).alloc _).alloc _) ?_
        clear hK K
        refine mix_eff2 rfl false rfl (fun K hK => ?_)
        go_simp
        refine hK _ _ (by first | exact hS2 | exact hS2.alloc _ | exact (hS2.alloc _).alloc _ | exact ((hS2.alloc _).alloc _).alloc _) ?_
        clear hK K
        refine mix_eff2 rfl false rfl (fun K hK => ?_)
        go_simp
        refine hK _ _ (by first | exact hS2 | exact hS2.alloc _ | exact (hS2.alloc _).alloc _ | exact ((hS2.alloc _).alloc _).alloc _) ?_
        clear hK K
        refine mix_done2 ?_
        go_wp2_with fail
        go_meet
        exact ⟨w2.heap.size, _, _, rfl, rfl, ⟨by omega, by omega, by omega, (by first | exact blk_at (by simp) _ _ | exact (blk_at (by simp) _ _).alloc _ | exact ((blk_at (by simp) _ _).alloc _).alloc _), (by first | exact blk_at (by simp) _ _ | exact (blk_at (by simp) _ _).alloc _ | exact ((blk_at (by simp) _ _).alloc _).alloc _), (by first | exact blk_at (by simp) _ _ | exact (blk_at (by simp) _ _).alloc _ | exact ((blk_at (by simp) _ _).alloc _).alloc _)⟩, (((hq2.below w1.heap.size).alloc (by omega) _).alloc (by simp; omega) _).alloc (by simp; omega) _⟩
      · go_simp
        refine hK _ _ (by first | exact hS2 | exact hS2.alloc _ | exact (hS2.alloc _).alloc _ | exact ((hS2.alloc _).alloc _).alloc _) ?_
        clear hK K
        refine mix_eff2 rfl false rfl (fun K hK => ?_)
        go_simp
        refine hK _ _ (by first | exact hS2 | exact hS2.alloc _ | exact (hS2.alloc _).alloc _ | exact ((hS2.alloc _).alloc _).alloc _) ?_
        clear hK K
        refine mix_eff2 rfl false rfl (fun K hK => ?_)
        go_simp
        refine hK _ _ (by first | exact hS2 | exact hS2.alloc _ | exact (hS2.alloc _).alloc _ | exact ((hS2.alloc _).alloc _).alloc _) ?_
        clear hK K
        refine mix_eff2 rfl false rfl (fun K hK => ?_)
        go_simp
        refine hK _ _ (by first | exact hS2 | exact hS2.alloc _ | exact (hS2.alloc _).alloc _ | exact ((hS2.alloc _).alloc _).alloc _) ?_
        clear hK K
        refine mix_done2 ?_
        go_wp2_with fail
        go_meet
        exact ⟨w2.heap.size, _, _, rfl, rfl, ⟨by omega, by omega, by omega, (by first | exact blk_at (by simp) _ _ | exact (blk_at (by simp) _ _).alloc _ | exact ((blk_at (by simp) _ _).alloc _).alloc _), (by first | exact blk_at (by simp) _ _ | exact (blk_at (by simp) _ _).alloc _ | exact ((blk_at (by simp) _ _).alloc _).alloc _), (by first | exact blk_at (by simp) _ _ | exact (blk_at (by simp) _ _).alloc _ | exact ((blk_at (by simp) _ _).alloc _).alloc _)⟩, (((hq2.below w1.heap.size).alloc (by omega) _).alloc (by simp; omega) _).alloc (by simp; omega) _⟩
    · go_simp
      refine hK _ _ (by first | exact hS2 | exact hS2.alloc _ | exact (hS2.alloc _).alloc _ | exact ((hS2.alloc _).alloc _).alloc _) ?_
      clear hK K
      refine mix_two2 rfl rfl false false rfl rfl (fun K hK => ?_) (fun K hK => ?_)
      · go_simp
        refine hK _ _ (by first | exact hS2 | exact hS2.alloc _ | exact (hS2.alloc _).alloc _ | exact ((hS2.alloc _).alloc _).alloc _) ?_
        clear hK K
        refine mix_eff2 rfl false rfl (fun K hK => ?_)
        go_simp
        refine hK _ _ (by first | exact hS2 | exact hS2.alloc _ | exact (hS2.alloc _).alloc _ | exact ((hS2.alloc _).alloc _).alloc _) ?_
        clear hK K
        refine mix_eff2 rfl false rfl (fun K hK => ?_)
        go_simp
        refine hK _ _ (by first | exact hS2 | exact hS2.alloc _ | exact (hS2.alloc _).alloc _ | exact ((hS2.alloc _).alloc _).alloc _) ?_
        clear hK K
        refine mix_eff2 rfl false rfl (fun K hK => ?_)
        go_simp
        refine hK _ _ (by first | exact hS2 | exact hS2.alloc _ | exact (hS2.alloc _).alloc _ | exact ((hS2.alloc _).alloc _).alloc _) ?_
        clear hK K
        refine mix_done2 ?_
        go_wp2_with fail
        go_meet
        exact ⟨w2.heap.size + 1, _, _, rfl, rfl, ⟨by omega, by omega, by omega, (by first | exact blk_at (by simp) _ _ | exact (blk_at (by simp) _ _).alloc _ | exact ((blk_at (by simp) _ _).alloc _).alloc _), (by first | exact blk_at (by simp) _ _ | exact (blk_at (by simp) _ _).alloc _ | exact ((blk_at (by simp) _ _).alloc _).alloc _), (by first | exact blk_at (by simp) _ _ | exact (blk_at (by simp) _ _).alloc _ | exact ((blk_at (by simp) _ _).alloc _).alloc _)⟩, (((hq2.below w1.heap.size).alloc (by omega) _).alloc (by simp; omega) _).alloc (by simp; omega) _⟩
      · go_simp
        refine hK _ _ (by first | exact hS2 | exact hS2.alloc _ | exact (hS2.alloc _).alloc _ | exact ((hS2.alloc _).alloc _).alloc _) ?_
        clear hK K
        refine mix_eff2 rfl false rfl (fun K hK => ?_)
        go_simp
        refine hK _ _ (by first | exact hS2 | exact hS2.alloc _ | exact (hS2.alloc _).alloc _ | exact ((hS2.alloc _).alloc _).alloc _) ?_
        clear hK K
        refine mix_eff2 rfl false rfl (fun K hK => ?_)
        go_simp
        refine hK _ _ (by first | exact hS2 | exact hS2.alloc _ | exact (hS2.alloc _).alloc _ | exact ((hS2.alloc _).alloc _).alloc _) ?_
        clear hK K
        refine mix_eff2 rfl false rfl (fun K hK => ?_)
        go_simp
        refine hK _ _ (by first | exact hS2 | exact hS2.alloc _ | exact (hS2.alloc _).alloc _ | exact ((hS2.alloc _).alloc _).alloc _) ?_
        clear hK K
        refine mix_done2 ?_
        go_wp2_with fail
        go_meet
        exact ⟨w2.heap.size + 1 + 1, _, _, rfl, rfl, ⟨by omega, by omega, by omega, (by first | exact blk_at (by simp) _ _ | exact (blk_at (by simp) _ _).alloc _ | exact ((blk_at (by simp) _ _).alloc _).alloc _), (by first | exact blk_at (by simp) _ _ | exact (blk_at (by simp) _ _).alloc _ | exact ((blk_at (by simp) _ _).alloc _).alloc _), (by first | exact blk_at (by simp) _ _ | exact (blk_at (by simp) _ _).alloc _ | exact ((blk_at (by simp) _ _).alloc _).alloc _)⟩, (((hq2.below w1.heap.size).alloc (by omega) _).alloc (by simp; omega) _).alloc (by simp; omega) _⟩
    · go_simp
      refine hK _ _ (by first | exact hS2 | exact hS2.alloc _ | exact (hS2.alloc _).alloc _ | exact ((hS2.alloc _).alloc _).alloc _) ?_
      clear hK K
      refine mix_two2 rfl rfl false false rfl rfl (fun K hK => ?_) (fun K hK => ?_)
      · go_simp
        refine hK _ _ (by first | exact hS2 | exact hS2.alloc _ | exact (hS2.alloc _).alloc _ | exact ((hS2.alloc _).alloc _).alloc _) ?_
        clear hK K
        refine mix_eff2 rfl false rfl (fun K hK => ?_)
        go_simp
        refine hK _ _ (by first | exact hS2 | exact hS2.alloc _ | exact (hS2.alloc _).alloc _ | exact ((hS2.alloc _).alloc _).alloc _) ?_
        clear hK K
        refine mix_eff2 rfl false rfl (fun K hK => ?_)
        go_simp
        refine hK _ _ (by first | exact hS2 | exact hS2.alloc _ | exact (hS2.alloc _).alloc _ | exact ((hS2.alloc _).alloc _).alloc _) ?_
        clear hK K
        refine mix_eff2 rfl false rfl (fun K hK => ?_)
        go_simp
        refine hK _ _ (by first | exact hS2 | exact hS2.alloc _ | exact (hS2.alloc _).alloc _ | exact ((hS2.alloc _).alloc _).alloc _) ?_
        clear hK K
        refine mix_done2 ?_
        go_wp2_with fail
        go_meet
        exact ⟨w2.heap.size + 1, _, _, rfl, rfl, ⟨by omega, by omega, by omega, (by first | exact blk_at (by simp) _ _ | exact (blk_at (by simp) _ _).alloc _ | exact ((blk_at (by simp) _ _).alloc _).alloc _), (by first | exact blk_at (by simp) _ _ | exact (blk_at (by simp) _ _).alloc _ | exact ((blk_at (by simp) _ _).alloc _).alloc _), (by first | exact blk_at (by simp) _ _ | exact (blk_at (by simp) _ _).alloc _ | exact ((blk_at (by simp) _ _).alloc _).alloc _)⟩, (((hq2.below w1.heap.size).alloc (by omega) _).alloc (by simp; omega) _).alloc (by simp; omega) _⟩
      · go_simp
        refine hK _ _ (by first | exact hS2 | exact hS2.alloc _ | exact (hS2.alloc _).alloc _ | exact ((hS2.alloc _).alloc _).alloc _) ?_
        clear hK K
        refine mix_eff2 rfl false rfl (fun K hK => ?_)
        go_simp
        refine hK _ _ (by first | exact hS2 | exact hS2.alloc _ | exact (hS2.alloc _).alloc _ | exact ((hS2.alloc _).alloc _).alloc _) ?_
        clear hK K
        refine mix_eff2 rfl false rfl (fun K hK => ?_)
        go_simp
        refine hK _ _ (by first | exact hS2 | exact hS2.alloc _ | exact (hS2.alloc _).alloc _ | exact ((hS2.alloc _).alloc _).alloc _) ?_
        clear hK K
        refine mix_eff2 rfl false rfl (fun K hK => ?_)
        go_simp
        refine hK _ _ (by first | exact hS2 | exact hS2.alloc _ | exact (hS2.alloc _).alloc _ | exact ((hS2.alloc _).alloc _).alloc _) ?_
        clear hK K
        refine mix_done2 ?_
        go_wp2_with fail
        go_meet
        exact ⟨w2.heap.size + 1 + 1, _, _, rfl, rfl, ⟨by omega, by omega, by omega, (by first | exact blk_at (by simp) _ _ | exact (blk_at (by simp) _ _).alloc _ | exact ((blk_at (by simp) _ _).alloc _).alloc _), (by first | exact blk_at (by simp) _ _ | exact (blk_at (by simp) _ _).alloc _ | exact ((blk_at (by simp) _ _).alloc _).alloc _), (by first | exact blk_at (by simp) _ _ | exact (blk_at (by simp) _ _).alloc _ | exact ((blk_at (by simp) _ _).alloc _).alloc _)⟩, (((hq2.below w1.heap.size).alloc (by omega) _).alloc (by simp; omega) _).alloc (by simp; omega) _⟩
  case rest =>
    obtain ⟨bw, b5, b6, rfl, rfl, hRF, hB3⟩ := hcut
    have c6 := ((hRF.w6.alloc (.cells #[.slice none 0 0] 48)).alloc (.cells #[.slice none 0 0] 22)).cell 0
    have hmf : ∀ (fn : Fn) (first cap : Array Value) (w : World), (Instr.makeFunc fn first cap).run Tryz.prog w = .ok (.func fn first cap) w := fun _ _ _ _ => rfl
    go_wp2_with (go_at_call 49; refine (divisions_c c.villages.length _).mono ?_; rintro e w4 ⟨rfl, hw4⟩; obtain rfl := hw4)
    have hW0 : Below wc.heap.size wc (((wc.alloc (.cells #[.slice none 0 0] 48)).alloc (.cells #[.slice none 0 0] 22)).alloc (.cells #[.int .i64 (c.villages.length : Int)] 3)) := (((Below.refl _ wc).alloc (Nat.le_refl _) _).alloc (by simp) _).alloc (by simp; omega) _
    have hF0 : FI w w1.heap.size (.slice am c.mountains.length cpm) (.slice av c.villages.length cpv) c bw b5 b6 wc.heap.size (fun k => k < wc.heap.size + 3 ∧ k ≠ wc.heap.size + 2) [] (((wc.alloc (.cells #[.slice none 0 0] 48)).alloc (.cells #[.slice none 0 0] 22)).alloc (.cells #[.int .i64 (c.villages.length : Int)] 3)) := by
      refine ⟨hB2.trans ((hB3.trans (hW0.mono hB3.size)).mono (by simp at hs1; omega)), hRF.keep fun k hk => hW0.block k ?_, by simp at hs1; omega, hRF.ww.lt, hRF.w5.lt, hRF.w6.lt, fun k h1 h2 => ⟨h1, h2⟩, fun k hk => by simp; omega, by simp, .slice none 0 0, .slice none 0 0, [],
        ((blk_at rfl _ _).alloc _).alloc _, (blk_at (by simp) _ _).alloc _, Own.nil, ⟨rfl, fun i a => by simp at a⟩, Own.nil, fun k e => (by cases e), fun k e => (by cases e)⟩
      rcases hk with rfl | rfl | rfl
      · exact hRF.ww.lt
      · exact hRF.w5.lt
      · exact hRF.w6.lt
    have hnb0 : Blk (wc.heap.size + 2) #[.int .i64 (c.villages.length : Int)] 3 (((wc.alloc (.cells #[.slice none 0 0] 48)).alloc (.cells #[.slice none 0 0] 22)).alloc (.cells #[.int .i64 (c.villages.length : Int)] 3)) := blk_at (by simp) _ _
    have hz0 : (((wc.alloc (.cells #[.slice none 0 0] 48)).alloc (.cells #[.slice none 0 0] 22)).alloc (.cells #[.int .i64 (c.villages.length : Int)] 3)).heap.size = wc.heap.size + 3 := by simp
    have hn4 : c.villages.length ≤ 4 := by have := hok.n2; have := hok.vl; omega
    obtain ⟨b7, hb7⟩ : ∃ b7, b7 = wc.heap.size := ⟨_, rfl⟩
    rw [← hb7] at hF0 hnb0 hz0 ⊢
    generalize ((wc.alloc (.cells #[.slice none 0 0] 48)).alloc (.cells #[.slice none 0 0] 22)).alloc (.cells #[.int .i64 (c.villages.length : Int)] 3) = w0 at hF0 hnb0 hz0 ⊢
    have HZ0 := Lib.hid hz0
    clear hz0 hW0 c6 hB3 hRF hb7 hB2 hB1 hx1 h1 hx h0
    refine wp_rangeDivs (n := c.villages.length) (nb := b7 + 2) (a₁ := ?a1) rfl rfl hn4 hnb0 (FI w w1.heap.size (.slice am c.mountains.length cpm) (.slice av c.villages.length cpv) c bw b5 b6 b7) (fun _ _ _ _ => False) (FI.side _ _ _ _ _ _ _ _ _) (fun _ => ⟨fun _ _ _ h => h.elim, fun _ _ _ _ h _ => h⟩) (fun h => h.2 rfl) hF0 ?assign ?body ?done ?stop
    case assign =>
      intro l v W K hK
      gi_wp2
      exact hK
    case body =>
      intro l own pre x v W h1 hF hoh hh hv hpre
      refine wpIn_block ?_
      obtain ⟨va, vsl, rs, s1, s2, s3, s4, s5, s6, s7⟩ := hF.st
      have hxm : x ∈ divs c.villages.length := hpre.subset (by simp)
      have hxl : x.length = c.villages.length := divs_row hxm
      have hpl : pre.length + 1 ≤ 24 := by
        have h1 := hpre.length_le
        have h2 := divs_len c.villages.length hn4
        simp at h1; omega
      obtain ⟨ax, cx, rfl, _, _⟩ := hv.shape
      have hbl := hF.low b7 (by omega) (by omega)
      have hbl1 := hF.low (b7 + 1) (by omega) (by omega)
      have hblt := hF.lt _ hbl
      have hblt1 := hF.lt _ hbl1
      have hbh := hoh _ hbl
      have hbh1 := hoh _ hbl1
      have hm1 := hF.m1
      have hm2 := hF.m2
      have hm3 := hF.m3
      have hwb := hF.wb
      have hl1 := hF.reg.l1
      have hdl := hF.bel.size
      have hbase := hF.big
      have HXM := Lib.hid hxm
      have HPR := Lib.hid hpre
      have HXL := Lib.hid hxl
      have hxl1 : x.length ≤ c.villages.length := by omega
      clear hxm hpre hxl
      have hSb : FaS b7 (b7 + 1) b5 va vsl (.pointer (some ⟨bw, 0, none⟩)) W.drew := ⟨s1, s2, hF.reg.w5⟩
      refine wpIn_region_mix2 (.one 0 (.one 4 (.one 5 (.pur 1 (.pur 6 (.pur 7 (.pur 8 (.act 2 (.act 3 (.act 9 (.act 10 (.act 11 (.act 12 (.act 13 .fin)))))))))))))) 12 (FaS b7 (b7 + 1) b5 va vsl (.pointer (some ⟨bw, 0, none⟩))) (fun _ => True) (by kernel_rfl) (by kernel_rfl) (by kernel_rfl) (fun a w h => by obtain ⟨o, _, _, h⟩ := h; exact h) rfl (by kernel_rfl) hSb (fun w1 hq1 hS1 => ?_)
      have hz1 : W.heap.size ≤ w1.heap.size := by rw [hq1.size]; exact Nat.le_refl _
      have hz1b : w1.heap.size ≤ W.heap.size := by rw [hq1.size]; exact Nat.le_refl _
      have hnb : b7 + 3 ≤ w1.heap.size := by have := hbase; omega
      refine mix_load2 rfl rfl rfl va (fun w' h => by have h : (FaS b7 (b7 + 1) b5 va vsl (.pointer (some ⟨bw, 0, none⟩))) w' := h; have h := h.1.cell 0; go_simp) rfl ?_
      refine mix_load2 rfl rfl rfl vsl (fun w' h => by have h : (FaS b7 (b7 + 1) b5 va vsl (.pointer (some ⟨bw, 0, none⟩))) w' := h; have h := h.2.1.cell 0; go_simp) rfl ?_
      refine mix_load2 rfl rfl rfl (.pointer (some ⟨bw, 0, none⟩)) (fun w' h => by have h : (FaS b7 (b7 + 1) b5 va vsl (.pointer (some ⟨bw, 0, none⟩))) w' := h; have h := h.2.2.cell 0; go_simp) rfl ?_
      refine mix_pur2 rfl (fun K hK => ?_)
      go_simp
      first | refine ⟨_, fun _ => rfl, hK _ ?_⟩ | refine hK _ ?_
      clear hK K
      refine mix_pur2 rfl (fun K hK => ?_)
      go_simp
      first | refine ⟨_, fun _ => rfl, hK _ ?_⟩ | refine hK _ ?_
      clear hK K
      refine mix_pur2 rfl (fun K hK => ?_)
      go_simp
      first | refine ⟨_, fun _ => rfl, hK _ ?_⟩ | refine hK _ ?_
      clear hK K
      refine mix_pur2 rfl (fun K hK => ?_)
      go_simp
      first | refine ⟨_, fun _ => rfl, hK _ ?_⟩ | refine hK _ ?_
      clear hK K
      refine mix_eff2 rfl false rfl (fun K hK => ?_)
      go_simp
      refine hK _ _ (hS1.alloc _) ?_
      clear hK K
      refine mix_eff2 rfl false rfl (fun K hK => ?_)
      refine step_append_arr rfl _ _ 48 rfl 22 (.slice none 0 0) 1 24 Tryz.under48 Tryz.info22 rfl (by decide) (by decide) (by simp; omega) ((s3.qt hq1).alloc _) rfl (arr_one w1 22 (.slice ax x.length cx)) rfl rfl (one_slice _ _ _) (by omega) (fun va' w3 ho3 hT3 => ?_)
      have hS3 : FaS b7 (b7 + 1) b5 va vsl (.pointer (some ⟨bw, 0, none⟩)) w3 := (hS1.alloc _).keep fun k hk => hT3.block k (by simp; omega) (fun e => by have := (s3.lt k e).1; omega)
      obtain ⟨g3, cp3, rfl⟩ := own_shape2 ho3 (by omega)
      have hz3 : W.heap.size + 1 ≤ w3.heap.size := by have := hT3.size; simp at this; omega
      have hk3 : Keep own W w3 := ((Keep.qt hq1).trans (Keep.alloc w1 _)).trans (Keep.turned hT3 fun k e => (s6 k e).1)
      refine hK _ _ hS3 ?_
      clear hK K
      refine mix_eff2 rfl false rfl (fun K hK => ?_)
      go_simp
      have hw3 : Blk bw #[.slice am c.mountains.length cpm, .slice av c.villages.length cpv] 93 w3 := hF.reg.ww.keep (by rw [hT3.block bw (by simp; omega) (fun e => by have := (s3.lt _ e).1; omega), Below.heap_alloc _ _ bw (by omega), hq1.heap])
      have hb3 : Below w.heap.size w w3 := hF.bel.trans ⟨hk3.os, hk3.tape, hk3.output, hk3.size, fun k hk => by rw [hT3.block k (by simp; omega) (fun e => by have := (s3.lt _ e).1; omega), Below.heap_alloc _ _ k (by omega), hq1.heap]⟩
      have hv3 : Ints (fun k => h1 ≤ k) w3 (.slice ax x.length cx) x := hv.step (by omega) fun k hk hl => by rw [hT3.block k (by simp; omega) (fun e => by have := hoh k (s6 k e).1; omega), Below.heap_alloc _ _ k (by omega), hq1.heap]
      refine (sum_c hw3 ((h.2.call hb3)) hv3 (by omega) (by omega)).mono ?_
      rintro e w4 ⟨rfl, hB4⟩
      have hz4 := hB4.size
      refine hK _ _ (hS3.call hB4) ?_
      clear hK K
      refine mix_eff2 rfl false rfl (fun K hK => ?_)
      have hS4 := hS3.call hB4
      go_simp
      refine hK _ _ (hS4.alloc _) ?_
      clear hK K
      refine mix_eff2 rfl false rfl (fun K hK => ?_)
      have s5' := ((s5.step (w' := w3) fun k e _ hl => by rw [hT3.block k (by simp; omega) (fun e2 => (s6 k e2).2 e), Below.heap_alloc _ _ k (by omega), hq1.heap]).call hB4).alloc (.cells #[.int .i64 (envySum c.villages x)] 3)
      refine step_append_arr rfl _ _ 22 rfl 3 (.int .i64 0) 1 8 Tryz.underlying22 Tryz.info3 rfl (by decide) (by decide) (by simp; omega) s5' rfl (arr_one w4 3 (.int .i64 (envySum c.villages x))) rfl rfl (one_int _) (by omega) (fun vsl' w5 ho5 hT5 => ?_)
      have hS5 : FaS b7 (b7 + 1) b5 va vsl (.pointer (some ⟨bw, 0, none⟩)) w5 := (hS4.alloc _).keep fun k hk => hT5.block k (by simp; omega) (fun e => by have := (s5.lt k e).1; omega)
      obtain ⟨g5, cp5, rfl⟩ := own_shape2 ho5 (by omega)
      refine hK _ _ hS5 ?_
      clear hK K
      refine mix_eff2 rfl true rfl (fun K hK => ?_)
      have d0 := hS5.1.cell 0
      have f0 := hS5.1.free 0
      go_simp
      refine hK _ _ trivial ?_
      clear hK K d0 f0
      refine mix_eff2 rfl true rfl (fun K hK => ?_)
      have hS6 := hS5.2.1.other (a := ⟨b7, 0, none⟩) (by simp) (.slice (some ⟨g3, 0, none⟩) (pre.length + 1) cp3)
      have d0 := hS6.cell 0
      have f0 := hS6.free 0
      go_simp
      refine hK _ _ trivial ?_
      clear hK K d0 f0
      refine mix_done2 ?_
      obtain ⟨r1, r2⟩ := fi_push hF hoh hh hv s1 s2 s3 s4 s5 s6 s7 hq1 hT3 ho3 hB4 hT5 ho5
      exact ⟨_, fun k hk ho => ho.elim id (fun h => by omega), r1, r2⟩

    case done =>
      intro D own W hF hD hDl hDo
      obtain ⟨va, vsl, rs, s1, s2, s3, s4, s5, s6, s7⟩ := hF.st
      have hmf : ∀ (fn : Fn) (first cap : Array Value) (w : World), (Instr.makeFunc fn first cap).run Tryz.prog w = .ok (.func fn first cap) w := fun _ _ _ _ => rfl
      clear HE hb hF0 hnb0
      have hwl : w.heap.size ≤ w1.heap.size := by simp at hs1; omega
      have hm1 := hF.m1
      have hm3 := hF.m3
      have hl1 := hF.reg.l1
      have hbig := hF.big
      have hAl : ∀ k, (w1.heap.size ≤ k ∧ own k) → k < W.heap.size := fun k h => hF.lt k h.2
      have hG : Grid (fun k => w1.heap.size ≤ k ∧ own k) W va (divs c.villages.length) := ⟨rs, s4.1, (Own.arr2 s3).wide fun k hk hl => ⟨by omega, (s6 k hk.1).1⟩, fun i a b => (s4.2 i a b).wide fun k hk _ => ⟨hk.1, hk.2.1⟩⟩
      have hBW : Below W.heap.size W ((W.alloc (.cells #[.slice none 0 0, .slice none 0 0, .bool false] 105)).alloc (.cells #[.func (.func 51) #[] #[.pointer (some ⟨b6, 0, none⟩), .pointer (some ⟨b7 + 1, 0, none⟩), .pointer (some ⟨W.heap.size, 0, none⟩), .pointer (some ⟨b7, 0, none⟩), .pointer (some ⟨W.heap.size + 1, 0, none⟩)]] 72)) := ((Below.refl _ W).alloc (Nat.le_refl _) _).alloc (by simp) _
      have hE : FEnv c.villages.length b6 (b7 + 1) W.heap.size b7 (W.heap.size + 1) (divs c.villages.length) (sumsF c) ((W.alloc (.cells #[.slice none 0 0, .slice none 0 0, .bool false] 105)).alloc (.cells #[.func (.func 51) #[] #[.pointer (some ⟨b6, 0, none⟩), .pointer (some ⟨b7 + 1, 0, none⟩), .pointer (some ⟨W.heap.size, 0, none⟩), .pointer (some ⟨b7, 0, none⟩), .pointer (some ⟨W.heap.size + 1, 0, none⟩)]] 72)) := by
        refine ⟨(hF.reg.w6.alloc _).alloc _, ⟨vsl, (s2.alloc _).alloc _, ?_⟩, ⟨va, (s1.alloc _).alloc _, (hG.wide fun k hk hl => by omega).call hBW⟩, blk_at (by simp) _ _, by have := hF.reg.w6.lt; omega, by omega, by omega, by omega⟩
        exact ((Own.ints (n := (divs c.villages.length).length) s5).wide fun k hk hl => by omega).call hBW
      have hKS0 : KS W.heap.size none ((W.alloc (.cells #[.slice none 0 0, .slice none 0 0, .bool false] 105)).alloc (.cells #[.func (.func 51) #[] #[.pointer (some ⟨b6, 0, none⟩), .pointer (some ⟨b7 + 1, 0, none⟩), .pointer (some ⟨W.heap.size, 0, none⟩), .pointer (some ⟨b7, 0, none⟩), .pointer (some ⟨W.heap.size + 1, 0, none⟩)]] 72)) :=
        ⟨.slice none 0 0, .slice none 0 0, (blk_at rfl _ _).alloc _⟩
      have hcall := years_all (nb := b6) (sb := b7 + 1) (kb := W.heap.size) (ab := b7) (gb := W.heap.size + 1) hn4 (divs_len _ hn4) (fun l hl => divs_row hl) (by simp [sumsF]) c.villages.length _ [] _ none hE hKS0 (ints_nil _ _) (fun y hy => by simp at hy) (by simp)
      have HC := Lib.hid hcall
      clear hcall hKS0
      go_wp2_with fail
      refine HC.out.mono ?_
      rintro e w4 ⟨rfl, hKp, hks⟩
      have hE4 := hE.keep hKp
      have hBk : ∀ k, k < W.heap.size → w4.heap[k]? = W.heap[k]? := fun k hk => (hKp.block k (by simp; omega) (by omega)).trans (hBW.block k hk)
      have hz4 : W.heap.size + 2 ≤ w4.heap.size := by have := hKp.size; simp at this; omega
      have hG4 : Grid (fun k => w1.heap.size ≤ k ∧ own k) w4 va (divs c.villages.length) := hG.step (by omega) fun k _ hl => hBk k hl
      have s14 : Blk b7 #[va] 48 w4 := s1.keep (hBk b7 (by omega))
      have hD4 : w4.heap[D]? = some (.deferred (some [])) := (hBk D (Array.getElem?_eq_some_iff.1 hD).1).trans hD
      have hDlt := (Array.getElem?_eq_some_iff.1 hD).1
      have hB4 : Below w.heap.size w w4 := hF.bel.trans ⟨hKp.os.trans hBW.os, hKp.tape.trans hBW.tape, hKp.output.trans hBW.output, by omega, fun k hk => hBk k (by omega)⟩
      obtain ⟨vb, vk, sb, hkb, hvb⟩ := hks.best
      have hyo := yearsF_ok c
      have hyl := yearsF_len c
      have hdl := divs_len _ hn4
      rw [show bestOf (growF (divs c.villages.length) (sumsF c) c.villages.length [] none) = yearsF c from rfl] at hvb
      have hfair : fairF c = (yearsF c).map fun y => (divs c.villages.length).getD y.toNat [] := rfl
      obtain ⟨yl, hyle⟩ : ∃ yl, yl = yearsF c := ⟨_, rfl⟩
      rw [← hyle] at hvb hyo hyl hfair
      obtain ⟨ds, hds⟩ : ∃ ds, ds = divs c.villages.length := ⟨_, rfl⟩
      rw [← hds] at hG4 hyo hdl hfair
      have HFA := Lib.hid hfair
      have HYO := Lib.hid hyo
      have HBK := Lib.hid hBk
      clear hyle hds hyo hfair hks hE4 hE HC hKp hBW s1 s2 s3 s4 s5 s6 s7 hG hBk
      obtain ⟨avb, cvb, rfl, _, _⟩ := hvb.shape
      obtain ⟨ava, cva, rfl, _, _⟩ := hG4.shape
      have nvb := hvb.len
      have nva := hG4.len
      have c0 := hkb.cell 0
      go_wp2_with fail
      clear c0
      go_loopw [12, 47] (fun o i wr => ∃ k : Nat, k ≤ yl.length ∧ i = .int .i64 k ∧ Below w4.heap.size w4 wr ∧ ∃ rs2, Own w4.heap.size wr 22 1 o k rs2 ∧ Rows2 (fun k => w1.heap.size ≤ k ∧ own k) wr rs2 ((yl.map fun y => ds.getD y.toNat []).take k)) (fun _ i _ => yl.length - (intOf i).toNat)
      case atStart => exact ⟨0, Nat.zero_le _, rfl, Below.refl _ _, [], Own.nil, rfl, fun i a => by simp at a⟩
      case round =>
        obtain ⟨k, hk, rfl, hBr, rs2, hor, hrr⟩ := hrel
        have hszr := hBr.size
        by_cases hlt : k < yl.length
        · have hvbr := hvb.call hBr
          have hGr := hG4.call hBr
          obtain ⟨b1, o1, rfl, -, -, -⟩ := hvbr.addr (by omega)
          have e1 := hvbr.cell k hlt
          have hy := HYO.out yl[k] (List.getElem_mem hlt)
          obtain ⟨y, hye⟩ : ∃ y : Nat, yl[k] = (y : Int) := ⟨yl[k].toNat, by omega⟩
          rw [hye] at e1 hy
          have hyd : y < ds.length := by omega
          obtain ⟨b2, o2, rfl, -, -⟩ := hGr.addr (by omega)
          obtain ⟨pr, dr, g1, i1⟩ := hGr.row y hyd
          have hsn : (yl.map fun y => ds.getD y.toNat []).take (k + 1) = (yl.map fun y => ds.getD y.toNat []).take k ++ [ds[y]] := by
            rw [List.take_succ_eq_append_getElem (by simpa using hlt), List.getElem_map, hye]
            simp [hyd]
          have HSN := Lib.hid hsn
          have cb := (s14.call hBr).cell 0
          clear hsn hye
          have hor' := Own.alloc hor (.cells #[.slice pr ds[y].length dr] 22)
          have ha := arr_one wr 22 (.slice pr ds[y].length dr)
          go_wp2_with (at_builtin; refine wpList_append_arr rfl _ _ 48 rfl 22 (.slice none 0 0) 1 24 Tryz.under48 Tryz.info22 rfl (by decide) (by decide) (by simp; omega) hor' rfl ha rfl rfl (one_slice _ _ _) (by omega) ?_; intro v' w5 hown hT)
          go_roundw
          case rel =>
            refine ⟨k + 1, by omega, by go_num, hT.below hor' (hBr.alloc (by omega) _) (by simp; omega), _, hown, ?_⟩
            rw [HSN.out]
            have hbk : ∀ k, (w1.heap.size ≤ k ∧ own k) → w5.heap[k]? = wr.heap[k]? := fun k hk => by
              have h1 := hAl k hk
              rw [hT.block k (by simp; omega) (fun e => by have := (hor'.lt k e).1; omega), Below.heap_alloc _ _ k (by omega)]
            have hs5 : wr.heap.size ≤ w5.heap.size := by have := hT.size; simp at this; omega
            exact (hrr.step hs5 fun k hk _ => ⟨hbk k hk, hk⟩).snoc (i1.step hs5 fun k hk _ => hbk k hk)
          case measure => simp [intOf]; omega
        · obtain rfl : k = yl.length := by omega
          rw [List.take_of_length_le (by simp)] at hrr
          have hDr : wr.heap[D]? = some (.deferred (some [])) := (hBr.block D (by omega)).trans hD4
          have hDn : wr.heap.size = (wr.putObj D (.deferred none)).heap.size := by simp
          have hmap : (yl.map fun y => ds.getD y.toNat []).length = yl.length := by simp
          have HM := Lib.hid hmap
          clear hmap
          go_wp2
          refine ⟨by simp, .inl ⟨_, _, rfl, run_takeDeferred hDr, ?_⟩⟩
          refine ⟨_, results_tmp2 rfl _ _ _, _, rfl, ?_, ?_⟩
          rw [HFA.out]
          refine ⟨rs2, hrr.1, ?_, ?_⟩
          · rw [HM.out]
            exact (Own.arr (hor.step fun k e h1 hl => World.putObj_heap_other (by omega))).wide fun k hk _ => by omega
          · intro i a b
            exact ((hrr.2 i a b).step (by rw [← hDn]; exact Nat.le_refl _) fun k hk hl => World.putObj_heap_other (r := D) (fun e => hDo (by rw [← e]; exact hk.2))).wide fun k hk _ => by omega
          · exact (hB4.trans (hBr.mono hB4.size)).trans ⟨rfl, rfl, rfl, by rw [← hDn]; exact Nat.le_refl _, fun k hk => World.putObj_heap_other (by have := HZ0.out; omega)⟩
    case stop =>
      intro D c own pre W _ h
      exact h.elim

end Go.Proofs.YtmlikgjfpmjdcaaGreatDoor

/- The contract of Fair (lots); conditions: the argument reads as commons. -/
namespace Go.Proofs.YtmlikgjfpmjdcaaGreatDoor
open Go.RowKit

def fairR (c : Com) : List (List Int) := if checkE c = 0 then fairF c else []

set_option maxRecDepth 100000 in
theorem fair_bad {A : Nat → Prop} {w : World} {vm vv : Value} {c : Com} (h : Cm A w vm vv c) (he : checkE c ≠ 0) :
    Calls Tryz.prog 20 #[.agg #[vm, vv]] w fun e w' => e = .returned (.tuple #[.slice none 0 0, .int .i64 (checkE c)]) ∧ Below w.heap.size w w' := by
  obtain ⟨am, cpm, rfl, _, _⟩ := h.1.shape
  obtain ⟨av, cpv, rfl, _, _⟩ := h.2.shape
  have hB0 : Below w.heap.size w (w.alloc (.cells #[.slice am c.mountains.length cpm, .slice av c.villages.length cpv] 25)) := (Below.refl _ w).alloc (Nat.le_refl _) _
  have h0 := h.call hB0
  have hb : (checkE c != 0) = true := by simpa using he
  clear he
  go_enter Tryz.func20, Tryz.ntmps20
  go_wp2_with fail
  refine (check_c h0).mono ?_
  rintro e w1 ⟨rfl, hB1⟩
  have hB2 := hB0.trans (hB1.mono hB0.size)
  go_wp2
  go_ret2
  exact ⟨rfl, hB2⟩

theorem fairR_c {A : Nat → Prop} {w : World} {vm vv : Value} {c : Com} (h : Cm A w vm vv c) :
    Calls Tryz.prog 20 #[.agg #[vm, vv]] w fun e w' => ∃ v, e = .returned (.tuple #[v, .int .i64 (checkE c)]) ∧ Grid (fun k => w.heap.size ≤ k) w' v (fairR c) ∧ Below w.heap.size w w' := by
  by_cases he : checkE c = 0
  · rw [fairR, if_pos he, he]
    exact fair_good h ((checkE_zero c).1 he)
  · rw [fairR, if_neg he]
    refine (fair_bad h he).mono ?_
    rintro e w' ⟨rfl, hB⟩
    exact ⟨_, rfl, grid_nil _ _, hB⟩

end Go.Proofs.YtmlikgjfpmjdcaaGreatDoor

/- The contracts of hills and drawn (mestalaw08): the chapter's examples; conditions: none. -/
namespace Go.Proofs.YtmlikgjfpmjdcaaGreatDoor
open Go.RowKit

def hillsC : Com := ⟨[30, 20, 12], [⟨8, 25, [2, 0, 1]⟩, ⟨5, 10, [0, 2, 1]⟩, ⟨3, 14, [0, 1, 2]⟩]⟩

theorem lit3 (w : World) (a b c : Int) : Ints (fun k => w.heap.size ≤ k) (w.alloc (.cells #[.int .i64 a, .int .i64 b, .int .i64 c] 3)) (.slice (some ⟨w.heap.size, 0, none⟩) 3 3) [a, b, c] :=
  Own.ints (n := 3) (own_lit w 3 1 #[.int .i64 a, .int .i64 b, .int .i64 c] 3 rfl (by omega))
theorem lit3_at {w : World} {k B : Nat} (h : k = w.heap.size) (hB : B ≤ k) (a b c : Int) : Ints (fun j => B ≤ j) (w.alloc (.cells #[.int .i64 a, .int .i64 b, .int .i64 c] 3)) (.slice (some ⟨k, 0, none⟩) 3 3) [a, b, c] := by
  subst h
  exact (lit3 w a b c).wide fun j hj _ => Nat.le_trans hB hj
theorem Ints.alloc {A : Nat → Prop} {w : World} {v : Value} {l : List Int} (h : Ints A w v l) (o : Obj) : Ints A (w.alloc o) v l := h.call ((Below.refl _ w).alloc (Nat.le_refl _) o)
theorem lit2 (w : World) (a b : Int) : Ints (fun k => w.heap.size ≤ k) (w.alloc (.cells #[.int .i64 a, .int .i64 b] 3)) (.slice (some ⟨w.heap.size, 0, none⟩) 2 2) [a, b] :=
  Own.ints (n := 2) (own_lit w 3 1 #[.int .i64 a, .int .i64 b] 2 rfl (by omega))

set_option maxRecDepth 100000 in
set_option maxHeartbeats 1000000 in
theorem hills_c (w : World) : Calls Tryz.prog 16 #[] w fun e w' => ∃ vm vv, e = .returned (.agg #[vm, vv]) ∧ Cm (fun k => w.heap.size ≤ k) w' vm vv hillsC ∧ Below w.heap.size w w' := by
  go_enter Tryz.func16, Tryz.ntmps16
  go_wp2
  have hm : Ints (fun j => w.heap.size ≤ j) ((((((w.alloc (.cells #[.slice (some ⟨w.heap.size + 1, 0, none⟩) 3 3, .slice (some ⟨w.heap.size + 5, 0, none⟩) 3 3] 25)).alloc (.cells #[.int .i64 30, .int .i64 20, .int .i64 12] 3)).alloc (.cells #[.int .i64 2, .int .i64 0, .int .i64 1] 3)).alloc (.cells #[.int .i64 0, .int .i64 2, .int .i64 1] 3)).alloc (.cells #[.int .i64 0, .int .i64 1, .int .i64 2] 3)).alloc (.cells #[.int .i64 8, .int .i64 25, .slice (some ⟨w.heap.size + 2, 0, none⟩) 3 3, .int .i64 5, .int .i64 10, .slice (some ⟨w.heap.size + 3, 0, none⟩) 3 3, .int .i64 3, .int .i64 14, .slice (some ⟨w.heap.size + 4, 0, none⟩) 3 3] 43)) (.slice (some ⟨w.heap.size + 1, 0, none⟩) 3 3) [30, 20, 12] := ((((lit3_at (by simp) (by omega) 30 20 12).alloc _).alloc _).alloc _).alloc _
  have h1 : Ints (fun j => w.heap.size ≤ j) ((((((w.alloc (.cells #[.slice (some ⟨w.heap.size + 1, 0, none⟩) 3 3, .slice (some ⟨w.heap.size + 5, 0, none⟩) 3 3] 25)).alloc (.cells #[.int .i64 30, .int .i64 20, .int .i64 12] 3)).alloc (.cells #[.int .i64 2, .int .i64 0, .int .i64 1] 3)).alloc (.cells #[.int .i64 0, .int .i64 2, .int .i64 1] 3)).alloc (.cells #[.int .i64 0, .int .i64 1, .int .i64 2] 3)).alloc (.cells #[.int .i64 8, .int .i64 25, .slice (some ⟨w.heap.size + 2, 0, none⟩) 3 3, .int .i64 5, .int .i64 10, .slice (some ⟨w.heap.size + 3, 0, none⟩) 3 3, .int .i64 3, .int .i64 14, .slice (some ⟨w.heap.size + 4, 0, none⟩) 3 3] 43)) (.slice (some ⟨w.heap.size + 2, 0, none⟩) 3 3) [2, 0, 1] := (((lit3_at (by simp) (by omega) 2 0 1).alloc _).alloc _).alloc _
  have h2 : Ints (fun j => w.heap.size ≤ j) ((((((w.alloc (.cells #[.slice (some ⟨w.heap.size + 1, 0, none⟩) 3 3, .slice (some ⟨w.heap.size + 5, 0, none⟩) 3 3] 25)).alloc (.cells #[.int .i64 30, .int .i64 20, .int .i64 12] 3)).alloc (.cells #[.int .i64 2, .int .i64 0, .int .i64 1] 3)).alloc (.cells #[.int .i64 0, .int .i64 2, .int .i64 1] 3)).alloc (.cells #[.int .i64 0, .int .i64 1, .int .i64 2] 3)).alloc (.cells #[.int .i64 8, .int .i64 25, .slice (some ⟨w.heap.size + 2, 0, none⟩) 3 3, .int .i64 5, .int .i64 10, .slice (some ⟨w.heap.size + 3, 0, none⟩) 3 3, .int .i64 3, .int .i64 14, .slice (some ⟨w.heap.size + 4, 0, none⟩) 3 3] 43)) (.slice (some ⟨w.heap.size + 3, 0, none⟩) 3 3) [0, 2, 1] := ((lit3_at (by simp) (by omega) 0 2 1).alloc _).alloc _
  have h3 : Ints (fun j => w.heap.size ≤ j) ((((((w.alloc (.cells #[.slice (some ⟨w.heap.size + 1, 0, none⟩) 3 3, .slice (some ⟨w.heap.size + 5, 0, none⟩) 3 3] 25)).alloc (.cells #[.int .i64 30, .int .i64 20, .int .i64 12] 3)).alloc (.cells #[.int .i64 2, .int .i64 0, .int .i64 1] 3)).alloc (.cells #[.int .i64 0, .int .i64 2, .int .i64 1] 3)).alloc (.cells #[.int .i64 0, .int .i64 1, .int .i64 2] 3)).alloc (.cells #[.int .i64 8, .int .i64 25, .slice (some ⟨w.heap.size + 2, 0, none⟩) 3 3, .int .i64 5, .int .i64 10, .slice (some ⟨w.heap.size + 3, 0, none⟩) 3 3, .int .i64 3, .int .i64 14, .slice (some ⟨w.heap.size + 4, 0, none⟩) 3 3] 43)) (.slice (some ⟨w.heap.size + 4, 0, none⟩) 3 3) [0, 1, 2] := (lit3_at (by simp) (by omega) 0 1 2).alloc _
  have hv : Arr (fun j => w.heap.size ≤ j) ((((((w.alloc (.cells #[.slice (some ⟨w.heap.size + 1, 0, none⟩) 3 3, .slice (some ⟨w.heap.size + 5, 0, none⟩) 3 3] 25)).alloc (.cells #[.int .i64 30, .int .i64 20, .int .i64 12] 3)).alloc (.cells #[.int .i64 2, .int .i64 0, .int .i64 1] 3)).alloc (.cells #[.int .i64 0, .int .i64 2, .int .i64 1] 3)).alloc (.cells #[.int .i64 0, .int .i64 1, .int .i64 2] 3)).alloc (.cells #[.int .i64 8, .int .i64 25, .slice (some ⟨w.heap.size + 2, 0, none⟩) 3 3, .int .i64 5, .int .i64 10, .slice (some ⟨w.heap.size + 3, 0, none⟩) 3 3, .int .i64 3, .int .i64 14, .slice (some ⟨w.heap.size + 4, 0, none⟩) 3 3] 43)) (.slice (some ⟨w.heap.size + 5, 0, none⟩) 3 3) 3 (vcells hillsC.villages [.slice (some ⟨w.heap.size + 2, 0, none⟩) 3 3, .slice (some ⟨w.heap.size + 3, 0, none⟩) 3 3, .slice (some ⟨w.heap.size + 4, 0, none⟩) 3 3]) := by
    have h0 := own_lit (((((w.alloc (.cells #[.slice (some ⟨w.heap.size + 1, 0, none⟩) 3 3, .slice (some ⟨w.heap.size + 5, 0, none⟩) 3 3] 25)).alloc (.cells #[.int .i64 30, .int .i64 20, .int .i64 12] 3)).alloc (.cells #[.int .i64 2, .int .i64 0, .int .i64 1] 3)).alloc (.cells #[.int .i64 0, .int .i64 2, .int .i64 1] 3)).alloc (.cells #[.int .i64 0, .int .i64 1, .int .i64 2] 3)) 43 3 #[.int .i64 8, .int .i64 25, .slice (some ⟨w.heap.size + 2, 0, none⟩) 3 3, .int .i64 5, .int .i64 10, .slice (some ⟨w.heap.size + 3, 0, none⟩) 3 3, .int .i64 3, .int .i64 14, .slice (some ⟨w.heap.size + 4, 0, none⟩) 3 3] 3 rfl (by omega)
    have e : (((((w.alloc (.cells #[.slice (some ⟨w.heap.size + 1, 0, none⟩) 3 3, .slice (some ⟨w.heap.size + 5, 0, none⟩) 3 3] 25)).alloc (.cells #[.int .i64 30, .int .i64 20, .int .i64 12] 3)).alloc (.cells #[.int .i64 2, .int .i64 0, .int .i64 1] 3)).alloc (.cells #[.int .i64 0, .int .i64 2, .int .i64 1] 3)).alloc (.cells #[.int .i64 0, .int .i64 1, .int .i64 2] 3)).heap.size = w.heap.size + 5 := by simp
    rw [e] at h0
    exact (Own.arr h0).wide fun k hk _ => by omega
  refine bodyPost_ret (v := .agg #[.slice (some ⟨w.heap.size + 1, 0, none⟩) 3 3, .slice (some ⟨w.heap.size + 5, 0, none⟩) 3 3]) (by simp [results, Tryz.results16, go_sem]) rfl ⟨_, _, rfl, ⟨hm, _, rfl, hv, fun i a b => ?_⟩, ?_⟩
  · simp at a
    have hi : i = 0 ∨ i = 1 ∨ i = 2 := by omega
    rcases hi with rfl | rfl | rfl
    · exact h1
    · exact h2
    · exact h3
  · exact (((((((Below.refl _ w).alloc (Nat.le_refl _) _).alloc (by simp) _).alloc (by simp; omega) _).alloc (by simp; omega) _).alloc (by simp; omega) _).alloc (by simp; omega) _)

theorem ex_allot : allotR hillsC 10 = [5, 3, 2] := by decide +kernel
theorem ex_draw : drawR hillsC [2, 1, 0] = [1, 2, 0] := by decide +kernel
theorem ex_trade : tradeR hillsC [0, 1, 2] = [2, 1, 0] := by decide +kernel
theorem ex_swaps : swapsR hillsC [1, 0, 2] = ([[0, 2]], [2, 0, 1]) := by decide +kernel
theorem ex_fair : fairR hillsC = [[2, 0, 1], [1, 2, 0], [0, 1, 2]] := by decide +kernel
theorem ex_pe : placesErrE hillsC 10 = 0 := by decide +kernel
theorem ex_e : checkE hillsC = 0 := by decide +kernel
theorem ex_d1 : divE hillsC [2, 1, 0] = 0 := by decide +kernel
theorem ex_d2 : divE hillsC [0, 1, 2] = 0 := by decide +kernel
theorem ex_d3 : divE hillsC [1, 0, 2] = 0 := by decide +kernel

end Go.Proofs.YtmlikgjfpmjdcaaGreatDoor

/- The contract of drawn (mestalaw08): the chapter's examples have their results; conditions: none. -/
namespace Go.Proofs.YtmlikgjfpmjdcaaGreatDoor
open Go.RowKit

theorem sameInts_t {A A' : Nat → Prop} {w : World} {v1 v2 : Value} {l : List Int} (h1 : Ints A w v1 l) (h2 : Ints A' w v2 l) :
    Calls Tryz.prog 21 #[v1, v2] w fun e w' => e = .returned (.bool true) ∧ Below w.heap.size w w' :=
  (sameInts_q h1 h2).mono fun e w' ⟨he, hq⟩ => ⟨by rw [he]; simp, hq.below _⟩
theorem sameGrids_t {A A' : Nat → Prop} {w : World} {v1 v2 : Value} {l : List (List Int)} (h1 : Grid A w v1 l) (h2 : Grid A' w v2 l) :
    Calls Tryz.prog 22 #[v1, v2] w fun e w' => e = .returned (.bool true) ∧ Below w.heap.size w w' :=
  (sameGrids_q h1 h2).mono fun e w' ⟨he, hq⟩ => ⟨by rw [he]; simp, hq.below _⟩
theorem allot_x {A : Nat → Prop} {w : World} {vm vv : Value} (h : Cm A w vm vv hillsC) :
    Calls Tryz.prog 15 #[.agg #[vm, vv], .int .i64 10] w fun e w' => ∃ v', e = .returned (.tuple #[v', .int .i64 0]) ∧ Ints (fun b => w.heap.size ≤ b) w' v' [5, 3, 2] ∧ Below w.heap.size w w' := by
  have h1 := allotF_c h 10
  rw [ex_pe, ex_allot] at h1
  exact h1
theorem draw_x {A A' : Nat → Prop} {w : World} {vm vv vd : Value} (h : Cm A w vm vv hillsC) (hd : Ints A' w vd [2, 1, 0]) :
    Calls Tryz.prog 17 #[.agg #[vm, vv], vd] w fun e w' => ∃ v', e = .returned (.tuple #[v', .int .i64 0]) ∧ Ints (fun b => w.heap.size ≤ b) w' v' [1, 2, 0] ∧ Below w.heap.size w w' := by
  have h1 := drawR_c h hd
  rw [ex_d1, ex_draw] at h1
  exact h1
theorem trade_x {A A' : Nat → Prop} {w : World} {vm vv vd : Value} (h : Cm A w vm vv hillsC) (hd : Ints A' w vd [0, 1, 2]) :
    Calls Tryz.prog 18 #[.agg #[vm, vv], vd] w fun e w' => ∃ v', e = .returned (.tuple #[v', .int .i64 0]) ∧ Ints (fun b => w.heap.size ≤ b) w' v' [2, 1, 0] ∧ Below w.heap.size w w' := by
  have h1 := tradeR_c h hd
  rw [ex_d2, ex_trade] at h1
  exact h1
theorem swaps_x {A A' : Nat → Prop} {w : World} {vm vv vd : Value} (h : Cm A w vm vv hillsC) (hd : Ints A' w vd [1, 0, 2]) :
    Calls Tryz.prog 19 #[.agg #[vm, vv], vd] w fun e w' => ∃ v1 v2, e = .returned (.tuple #[v1, v2, .int .i64 0]) ∧ Grid (fun b => w.heap.size ≤ b) w' v1 [[0, 2]] ∧ Ints (fun b => w.heap.size ≤ b) w' v2 [2, 0, 1] ∧ Below w.heap.size w w' := by
  have h1 := swapsR_c h hd
  rw [ex_d3, ex_swaps] at h1
  exact h1
theorem fair_x {A : Nat → Prop} {w : World} {vm vv : Value} (h : Cm A w vm vv hillsC) :
    Calls Tryz.prog 20 #[.agg #[vm, vv]] w fun e w' => ∃ v, e = .returned (.tuple #[v, .int .i64 0]) ∧ Grid (fun k => w.heap.size ≤ k) w' v [[2, 0, 1], [1, 2, 0], [0, 1, 2]] ∧ Below w.heap.size w w' := by
  have h1 := fairR_c h
  rw [ex_e, ex_fair] at h1
  exact h1
theorem Grid.alloc {A : Nat → Prop} {w : World} {v : Value} {l : List (List Int)} (h : Grid A w v l) (o : Obj) : Grid A (w.alloc o) v l := h.call ((Below.refl _ w).alloc (Nat.le_refl _) o)
theorem Cm.alloc {A : Nat → Prop} {w : World} {vm vv : Value} {c : Com} (h : Cm A w vm vv c) (o : Obj) : Cm A (w.alloc o) vm vv c := h.call ((Below.refl _ w).alloc (Nat.le_refl _) o)
theorem bal {a w : World} {o : Obj} (h : Below a.heap.size a w) : Below a.heap.size a (w.alloc o) := h.alloc h.size o
theorem bnx {a b c : World} (h : Below a.heap.size a b) (k : Below b.heap.size b c) : Below a.heap.size a c := h.trans (k.mono h.size)

set_option maxRecDepth 100000 in
set_option maxHeartbeats 2000000 in
theorem drawn_c (w : World) : Calls Tryz.prog 6 #[] w fun e w' => e = .returned (.bool true) ∧ Below w.heap.size w w' := by
  go_enter Tryz.func6, Tryz.ntmps6
  go_wp2_with fail
  refine (hills_c _).mono ?_
  rintro e w1 ⟨vm1, vv1, rfl, hC1, hB1⟩
  go_wp2_with fail
  refine (allot_x hC1).mono ?_
  rintro e w2 ⟨l1, rfl, hL1, hB2⟩
  have hT := bnx hB1 hB2
  clear hC1
  go_wp2_with fail
  refine (hills_c _).mono ?_
  rintro e w3 ⟨vm2, vv2, rfl, hC2, hB3⟩
  have hT := bnx hT hB3
  have hL1 := hL1.call hB3
  go_wp2_with fail
  refine (draw_x (hC2.alloc _) (lit3 w3 2 1 0)).mono ?_
  rintro e w4 ⟨l2, rfl, hL2, hB4⟩
  have hT := bnx (bal hT) hB4
  have hL1 := (hL1.alloc _).call hB4
  clear hC2
  go_wp2_with fail
  refine (hills_c _).mono ?_
  rintro e w5 ⟨vm3, vv3, rfl, hC3, hB5⟩
  have hT := bnx hT hB5
  have hL1 := hL1.call hB5
  have hL2 := hL2.call hB5
  go_wp2_with fail
  refine (trade_x (hC3.alloc _) (lit3 w5 0 1 2)).mono ?_
  rintro e w6 ⟨l3, rfl, hL3, hB6⟩
  have hT := bnx (bal hT) hB6
  have hL1 := (hL1.alloc _).call hB6
  have hL2 := (hL2.alloc _).call hB6
  clear hC3
  go_wp2_with fail
  refine (hills_c _).mono ?_
  rintro e w7 ⟨vm4, vv4, rfl, hC4, hB7⟩
  have hT := bnx hT hB7
  have hL1 := hL1.call hB7
  have hL2 := hL2.call hB7
  have hL3 := hL3.call hB7
  go_wp2_with fail
  refine (swaps_x (hC4.alloc _) (lit3 w7 1 0 2)).mono ?_
  rintro e w8 ⟨l4, l5, rfl, hL4, hL5, hB8⟩
  have hT := bnx (bal hT) hB8
  have hL1 := (hL1.alloc _).call hB8
  have hL2 := (hL2.alloc _).call hB8
  have hL3 := (hL3.alloc _).call hB8
  clear hC4
  go_wp2_with fail
  refine (hills_c _).mono ?_
  rintro e w9 ⟨vm5, vv5, rfl, hC5, hB9⟩
  have hT := bnx hT hB9
  have hL1 := hL1.call hB9
  have hL2 := hL2.call hB9
  have hL3 := hL3.call hB9
  have hL4 := hL4.call hB9
  have hL5 := hL5.call hB9
  go_wp2_with fail
  refine (fair_x hC5).mono ?_
  rintro e wa ⟨l6, rfl, hL6, hBa⟩
  have hT := bnx hT hBa
  have hL1 := hL1.call hBa
  have hL2 := hL2.call hBa
  have hL3 := hL3.call hBa
  have hL4 := hL4.call hBa
  have hL5 := hL5.call hBa
  clear hC5 hB1 hB2 hB3 hB4 hB5 hB6 hB7 hB8 hB9 hBa
  go_wp2_with fail
  refine (sameInts_t (hL1.alloc _) (lit3 wa 5 3 2)).mono ?_
  rintro e wb ⟨rfl, hBb⟩
  have hT := bnx (bal hT) hBb
  have hL2 := (hL2.alloc _).call hBb
  have hL3 := (hL3.alloc _).call hBb
  have hL4 := (hL4.alloc _).call hBb
  have hL5 := (hL5.alloc _).call hBb
  have hL6 := (hL6.alloc _).call hBb
  clear hBb hL1
  go_wp2_with fail
  refine (sameInts_t (hL2.alloc _) (lit3 wb 1 2 0)).mono ?_
  rintro e wc ⟨rfl, hBb⟩
  have hT := bnx (bal hT) hBb
  have hL3 := (hL3.alloc _).call hBb
  have hL4 := (hL4.alloc _).call hBb
  have hL5 := (hL5.alloc _).call hBb
  have hL6 := (hL6.alloc _).call hBb
  clear hBb hL2
  go_wp2_with fail
  refine (sameInts_t (hL3.alloc _) (lit3 wc 2 1 0)).mono ?_
  rintro e wd ⟨rfl, hBb⟩
  have hT := bnx (bal hT) hBb
  have hL4 := (hL4.alloc _).call hBb
  have hL5 := (hL5.alloc _).call hBb
  have hL6 := (hL6.alloc _).call hBb
  clear hBb hL3
  go_wp2_with fail
  have hg : Grid (fun k => wd.heap.size ≤ k) ((wd.alloc (.cells #[.int .i64 0, .int .i64 2] 3)).alloc (.cells #[.slice (some ⟨wd.heap.size, 0, none⟩) 2 2] 22)) (.slice (some ⟨wd.heap.size + 1, 0, none⟩) 1 1) [[0, 2]] := by
    refine ⟨[.slice (some ⟨wd.heap.size, 0, none⟩) 2 2], rfl, ?_, fun i a b => ?_⟩
    · have h1 := arr_one (wd.alloc (.cells #[.int .i64 0, .int .i64 2] 3)) 22 (.slice (some ⟨wd.heap.size, 0, none⟩) 2 2)
      rw [World.size_alloc] at h1
      exact h1.wide fun k hk _ => by omega
    · simp at a
      subst a
      exact (lit2 wd 0 2).alloc _
  refine (sameGrids_t ((hL4.alloc _).alloc _) hg).mono ?_
  rintro e we ⟨rfl, hBb⟩
  have hT := bnx (bal (bal hT)) hBb
  have hL5 := ((hL5.alloc _).alloc _).call hBb
  have hL6 := ((hL6.alloc _).alloc _).call hBb
  clear hBb hL4 hg
  go_wp2_with fail
  refine (sameInts_t (hL5.alloc _) (lit3 we 2 0 1)).mono ?_
  rintro e wf ⟨rfl, hBb⟩
  have hT := bnx (bal hT) hBb
  have hL6 := (hL6.alloc _).call hBb
  clear hBb hL5
  go_wp2_with fail
  have hg : Grid (fun k => wf.heap.size ≤ k) ((((wf.alloc (.cells #[.int .i64 2, .int .i64 0, .int .i64 1] 3)).alloc (.cells #[.int .i64 1, .int .i64 2, .int .i64 0] 3)).alloc (.cells #[.int .i64 0, .int .i64 1, .int .i64 2] 3)).alloc
      (.cells #[.slice (some ⟨wf.heap.size, 0, none⟩) 3 3, .slice (some ⟨wf.heap.size + 1, 0, none⟩) 3 3, .slice (some ⟨wf.heap.size + 2, 0, none⟩) 3 3] 22)) (.slice (some ⟨wf.heap.size + 3, 0, none⟩) 3 3) [[2, 0, 1], [1, 2, 0], [0, 1, 2]] := by
    refine ⟨[.slice (some ⟨wf.heap.size, 0, none⟩) 3 3, .slice (some ⟨wf.heap.size + 1, 0, none⟩) 3 3, .slice (some ⟨wf.heap.size + 2, 0, none⟩) 3 3], rfl, ?_, fun i a b => ?_⟩
    · have h1 := own_lit (((wf.alloc (.cells #[.int .i64 2, .int .i64 0, .int .i64 1] 3)).alloc (.cells #[.int .i64 1, .int .i64 2, .int .i64 0] 3)).alloc (.cells #[.int .i64 0, .int .i64 1, .int .i64 2] 3)) 22 1
        #[.slice (some ⟨wf.heap.size, 0, none⟩) 3 3, .slice (some ⟨wf.heap.size + 1, 0, none⟩) 3 3, .slice (some ⟨wf.heap.size + 2, 0, none⟩) 3 3] 3 rfl (by omega)
      have e : (((wf.alloc (.cells #[.int .i64 2, .int .i64 0, .int .i64 1] 3)).alloc (.cells #[.int .i64 1, .int .i64 2, .int .i64 0] 3)).alloc (.cells #[.int .i64 0, .int .i64 1, .int .i64 2] 3)).heap.size = wf.heap.size + 3 := by simp
      rw [e] at h1
      exact (Own.arr h1).wide fun k hk _ => by omega
    · simp at a
      have hi : i = 0 ∨ i = 1 ∨ i = 2 := by omega
      rcases hi with rfl | rfl | rfl
      · exact (((lit3_at rfl (Nat.le_refl _) 2 0 1).alloc _).alloc _).alloc _
      · exact ((lit3_at (by simp) (by omega) 1 2 0).alloc _).alloc _
      · exact (lit3_at (by simp) (by omega) 0 1 2).alloc _
  refine (sameGrids_t ((((hL6.alloc _).alloc _).alloc _).alloc _) hg).mono ?_
  rintro e wg ⟨rfl, hBb⟩
  have hT := bnx (bal (bal (bal (bal hT)))) hBb
  go_wp2
  go_ret
  exact ⟨rfl, hT⟩

end Go.Proofs.YtmlikgjfpmjdcaaGreatDoor

/- From a walk to a statement: laws that hand back true and leave all that was as it was; conditions: as said. -/
namespace Go.Proofs.YtmlikgjfpmjdcaaGreatDoor
open Go.ChangeShapes Go.WideShapes Go.ChangeAt Go.RowKit

theorem Tryz.own : ownKnob Tryz.prog.godebug = none := by kernel_rfl
theorem Tryz.laidOut : laidOutB Tryz.prog = true := by kernel_rfl
theorem Tryz.cells3 : Tryz.prog.cellsOf 3 = 1 := by kernel_rfl

theorem trodAll_stays {H : Type} {enc : TypeId × Value → H} {W W' : World} {sp : Nat → Bool} : ∀ {ts : List TypeId} {vs : List Value} {ds : List (DataW H)} {ps : List MemPlace},
    (∀ t ∈ ts, Tryz.prog.readableRec t = true ∧ t < Tryz.prog.types.size) → DataW.TrodAll enc Tryz.prog W 0 (fun _ => true) true ts vs ds ps → (∀ p ∈ ps, W.sameAt W' p) → (∀ p ∈ ps, sp p.block = true) → DataW.TrodAll enc Tryz.prog W' 0 sp true ts vs ds ps
  | [], _, _, _, _, h, _, _ => by
    obtain ⟨rfl, rfl, rfl⟩ := trodAll_nil h
    rfl
  | t :: ts, _, _, _, ht, h, hs, hsp => by
    obtain ⟨v, vs1, d, ds1, a, b, rfl, rfl, rfl, h1, h2⟩ := trodAll_cons h
    exact ⟨a, b, WideElems.Trod_stays Tryz.laidOut (ht t (List.mem_cons_self ..)).1 (ht t (List.mem_cons_self ..)).2 h1 (fun p hp => hs p (List.mem_append_left _ hp)) (fun p hp => hsp p (List.mem_append_left _ hp)),
      trodAll_stays (fun t h => ht t (List.mem_cons_of_mem _ h)) h2 (fun p hp => hs p (List.mem_append_right _ hp)) (fun p hp => hsp p (List.mem_append_right _ hp)), rfl⟩

set_option maxRecDepth 100000 in
theorem post_of_below {H : Type} {enc : TypeId × Value → H} {f : Func} {s : ChangeSpec} {apart fresh handsOn again : Bool} {W W' : World} {args : Array Value} {v : Value} {ds : List (DataW H)} {before : List MemPlace}
    (hW : DataW.Whole enc Tryz.prog f.params.toList s.vars apart W args.toList ds [] before) (hvs : s.vars = [])
    (hres : ∀ (b : Nat) (sp : Nat → Bool) (hd : Bool), DataW.TrodAll enc Tryz.prog W' b sp hd f.resultTypes.toList (v.resultList f.resultTypes.size) (s.fn H (ds ++ [])).results [])
    (hpar : ∀ t ∈ f.params.toList, Tryz.prog.readableRec t = true ∧ t < Tryz.prog.types.size) (hfa : (s.fn H (ds ++ [])).args = ds) (hfv : (s.fn H (ds ++ [])).vars = [])
    (hB : Below W.heap.size W W')
    (hok : ∀ (j : Nat) (t : TypeId) (r : Value), f.resultTypes[j]? = some t → (v.resultList f.resultTypes.size)[j]? = some r → Value.okWide Tryz.prog W' .any 0 t r) :
    s.post enc Tryz.prog f apart fresh handsOn again W args v W' := by
  have hW0 := hW
  obtain ⟨p, q, hA, hV, hps, hz, hn⟩ := hW
  rw [hvs] at hV
  obtain rfl : q = [] := by
    have : q = [] := hV
    exact this
  have hpb : before = p := by rw [hps, List.append_nil]
  have hargs : ∀ sp : Nat → Bool, (∀ x ∈ before, sp x.block = true) → DataW.TrodAll enc Tryz.prog W' 0 sp true f.params.toList args.toList (s.fn H (ds ++ [])).args p := fun sp hsp => by
    rw [hfa]
    exact trodAll_stays hpar hA (fun x hx => hB.same (hW0.lt x (by rw [hpb]; exact hx))) (fun x hx => hsp x (by rw [hpb]; exact hx))
  have hvars : ∀ sp : Nat → Bool, DataW.TrodVars enc Tryz.prog W' sp s.vars (s.fn H (ds ++ [])).vars [] := fun sp => by
    rw [hvs, hfv]; rfl
  have hold : ∀ x ∈ before, (fun b => decide (b < W.heap.size)) x.block = true := fun x hx => by simpa using hW0.lt x hx
  refine ⟨ds, [], before, [], p, [], hW0, hres _ _ _, hargs _ hold, hvars _, hB.frame _, fun _ => ?_⟩
  refine ⟨hok, _, _, ([] ++ p) ++ [], ⟨[] ++ p, [], trodAll_append (hargs _ (fun _ _ => rfl)) (hres _ _ _), hvars _, rfl, ?_, ?_⟩, ?_⟩
  · intro b off hp
    have hp' : MemPlace.cell b off ∈ before := by rw [hpb]; simpa using hp
    have hlt := hW0.lt _ hp'
    rw [hB.frozen (p := ⟨b, off, none⟩) hlt]
    exact hz b off hp'
  · intro ha
    have := hn ha
    rw [hpb] at this
    simpa using this
  · intro x hx _
    rw [hpb]
    simpa using hx

set_option maxRecDepth 100000 in
/-- An argument of type []int, read as numbers. -/
theorem ints_of_arg {H : Type} {enc : TypeId × Value → H} {W : World} {base : Nat} {v : Value} {d : DataW H} {p : List MemPlace} (hok : Value.okWide Tryz.prog W .any base 22 v) (h : DataW.Trod enc Tryz.prog W 0 (fun _ => true) true 22 v d p) :
    ∃ l, Ints (fun _ => True) W v l := by
  obtain ⟨a0, len, cap, rfl⟩ := okWide_slice Tryz.underlying22 hok
  obtain ⟨fuel, hf⟩ := h
  rcases open_ints Tryz.underlying22 Tryz.underlying3 Tryz.cells3 hf with ⟨hcs, _⟩ | ⟨a, len', cap', zs, hcs, _, hl, hm, hz, _, hcell, _⟩
  · simp [Value.cells] at hcs
    obtain ⟨rfl, rfl, rfl⟩ := hcs
    exact ⟨[], ints_nil _ _⟩
  · simp [Value.cells] at hcs
    obtain ⟨rfl, rfl, rfl⟩ := hcs
    simp only [if_true] at hz
    have hll : (zs.take len).length = len := by rw [List.length_take]; omega
    refine ⟨zs.take len, some a, cap, by rw [hll], by rw [hll]; exact hl, ⟨hm, by simp⟩, ?_⟩
    by_cases h0 : len = 0
    · left; rw [h0]; rfl
    · right
      obtain ⟨b, off, spot⟩ := a
      have hspot : spot = none := by simpa [Addr.add] using World.cell?_spot (hcell 0 (by omega))
      subst hspot
      have hblt : b < W.heap.size := by
        have h1 := hcell 0 (by omega)
        rcases Nat.lt_or_ge b W.heap.size with h2 | h2
        · exact h2
        · exfalso
          have h3 : W.heap[b]? = none := by simp [h2]
          simp [World.cell?, Addr.add, h3] at h1
      refine ⟨b, off, rfl, trivial, hblt, fun j u hj => ?_⟩
      have hjl : j < (zs.take len).length := by have := (List.getElem?_eq_some_iff.1 hj).1; rwa [I64_len] at this
      rw [I64_at _ j hjl] at hj
      injection hj with hj
      have h1 := hcell j (by omega)
      have hadd : (⟨b, off, none⟩ : Addr).add j = ⟨b, off + j, none⟩ := by unfold Addr.add; split <;> simp_all
      rw [hadd] at h1
      rw [h1, ← hj]
      congr 2
      simp [List.getD_eq_getElem?_getD]
      rw [List.getElem?_eq_getElem (by omega)]
      rfl

end Go.Proofs.YtmlikgjfpmjdcaaGreatDoor

