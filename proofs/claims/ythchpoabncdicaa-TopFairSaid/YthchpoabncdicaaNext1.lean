/- The contract of Next (lots) at valid commons; conditions: at most 99 places. -/
import Derived.Test.YthchpoabncdicaaB3
namespace Go.Proofs.Ythchpoabncdicaa
open Go.RowKit

def nxV : Option Nat → Int
  | some i => i
  | none => 0
def nxE : Option Nat → Int
  | some _ => 0
  | none => 11

theorem placesErr_of {c : Com} (hok : c.Ok 4) {m : Nat} (hm : m ≤ 99) : placesErrE c (m : Int) = 0 := by
  rw [placesErrE, if_pos ((checkE_zero c).2 hok), if_pos]
  simp [btw]; omega

set_option maxRecDepth 100000 in
set_option maxHeartbeats 1000000 in
theorem nextF_c {A : Nat → Prop} {w : World} {vm vv : Value} {c : Com} (h : Cm A w vm vv c) (hok : c.Ok 4) (m : Nat) (hm : m ≤ 99) :
    Calls Try.prog 50 #[.agg #[vm, vv], .int .i64 m] w fun e w' => e = .returned (.tuple #[.int .i64 (nxV (nextO c.villages (allotN c.villages m) c.villages.length)), .int .i64 (nxE (nextO c.villages (allotN c.villages m) c.villages.length))]) ∧ Below w.heap.size w w' := by
  obtain ⟨am, cpm, rfl, _, _⟩ := h.1.shape
  obtain ⟨av, cpv, rfl, _, _⟩ := h.2.shape
  have hB0 : Below w.heap.size w (w.alloc (.cells #[.slice am c.mountains.length cpm, .slice av c.villages.length cpv] 25)) := (Below.refl _ w).alloc (Nat.le_refl _) _
  have hx : Blk w.heap.size #[.slice am c.mountains.length cpm, .slice av c.villages.length cpv] 25 (w.alloc (.cells #[.slice am c.mountains.length cpm, .slice av c.villages.length cpv] 25)) := Blk.new w _ _
  have h0 := h.call hB0
  have hpe : placesErrE c (m : Int) = 0 := placesErr_of hok hm
  have hpc := placesError_c h0 (m : Int)
  rw [hpe] at hpc
  have HPC := Lib.hid hpc
  have hvl : c.villages.length ≤ 4 := by have := hok.vl; have := hok.n2; omega
  clear hpe hpc
  go_enter Try.func50, Try.ntmps50
  go_wp2_with fail
  refine HPC.out.mono ?_
  rintro e w1 ⟨rfl, hB1⟩
  have h1 := h0.call hB1
  have hx1 := hx.below hB1 (by simp)
  have hB2 := hB0.trans (hB1.mono hB0.size)
  go_wp2_with fail
  refine wp_region_mix2 (.pur 0 (.one 1 (.pur 2 (.one 3 (.pur 4 (.act 5 (.act 6 (.act 7 .fin)))))))) 99 (Blk w.heap.size #[.slice am c.mountains.length cpm, .slice av c.villages.length cpv] 25) (fun _ => True) (by kernel_rfl) (by kernel_rfl) rfl (by kernel_rfl) hx1 (fun w2 hq2 hS2 => ?_)
  refine mix_pur2 rfl (fun K hK => ?_)
  go_simp
  first | refine ⟨_, fun _ => rfl, hK _ ?_⟩ | refine hK _ ?_
  clear hK K
  refine mix_load2 rfl rfl rfl (.slice av c.villages.length cpv) (fun w' h => by have h : (Blk w.heap.size #[.slice am c.mountains.length cpm, .slice av c.villages.length cpv] 25) w' := h; have h0 := h.cell 1; go_simp) rfl ?_
  refine mix_pur2 rfl (fun K hK => ?_)
  go_simp
  first | refine ⟨_, fun _ => rfl, hK _ ?_⟩ | refine hK _ ?_
  clear hK K
  refine mix_load2 rfl rfl rfl (.slice av c.villages.length cpv) (fun w' h => by have h : (Blk w.heap.size #[.slice am c.mountains.length cpm, .slice av c.villages.length cpv] 25) w' := h; have h0 := h.cell 1; go_simp) rfl ?_
  refine mix_pur2 rfl (fun K hK => ?_)
  go_simp
  first | refine ⟨_, fun _ => rfl, hK _ ?_⟩ | refine hK _ ?_
  clear hK K
  refine mix_eff2 rfl false rfl (fun K hK => ?_)
  go_simp
  refine (allot_c (h1.2.qt hq2) hok.vok (by omega) m (by omega)).mono ?_
  rintro e w3 ⟨v3, rfl, hv3, hB3⟩
  have hS3 := hS2.call hB3
  refine hK _ _ hS3 ?_
  clear hK K
  refine mix_eff2 rfl false rfl (fun K hK => ?_)
  go_simp
  refine (next_c ((h1.2.qt hq2).call hB3) hv3 (by rw [allotN_len]) hok.vok (allotN_ok _ _ (by omega))).mono ?_
  rintro e w4 ⟨rfl, hB4⟩
  refine hK _ _ (hS3.call hB4) ?_
  clear hK K
  refine mix_eff2 rfl false rfl (fun K hK => ?_)
  go_simp
  refine hK _ _ (hS3.call hB4) ?_
  clear hK K
  refine mix_done2 ?_
  have hB5 : Below w.heap.size w w4 := ((hB2.trans (hq2.below _)).trans (hB3.mono (by rw [hq2.size]; exact hB2.size))).trans (hB4.mono (by have := hB3.size; have := hq2.size; have := hB2.size; omega))
  cases ho : nextO c.villages (allotN c.villages m) c.villages.length with
  | none =>
    have HO := Lib.hid ho
    clear ho
    have ho1 : optI (none : Option Nat) = -1 := rfl
    go_wp2
    go_ret2
    exact ⟨by rw [HO.out]; rfl, hB5⟩
  | some i =>
    have HO := Lib.hid ho
    clear ho
    have ho1 : optI (some i) = (i : Int) := rfl
    go_wp2
    go_ret2
    exact ⟨by rw [HO.out]; rfl, hB5⟩

end Go.Proofs.Ythchpoabncdicaa
