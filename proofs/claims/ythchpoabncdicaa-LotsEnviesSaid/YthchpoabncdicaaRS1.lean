/- The contracts of asked and want (mestaref08); conditions: as said. -/
import Derived.Test.YthchpoabncdicaaO1
namespace Go.Proofs.Ythchpoabncdicaa
open Go.RowKit

set_option maxRecDepth 100000 in
theorem asked_c {A A' : Nat → Prop} {w : World} {vm vv vd : Value} {c : Com} {l : List Int} (h : Cm A w vm vv c) (hd : Ints A' w vd l) :
    Calls Try.prog 84 #[.agg #[vm, vv], vd] w fun e w' => e = .returned (.int .i64 (divE c l)) ∧ Below w.heap.size w w' := by
  obtain ⟨am, cpm, rfl, _, _⟩ := h.1.shape
  obtain ⟨av, cpv, rfl, _, _⟩ := h.2.shape
  have hB0 : Below w.heap.size w (w.alloc (.cells #[.slice am c.mountains.length cpm, .slice av c.villages.length cpv] 25)) := (Below.refl _ w).alloc (Nat.le_refl _) _
  have hx : Blk w.heap.size #[.slice am c.mountains.length cpm, .slice av c.villages.length cpv] 25 (w.alloc (.cells #[.slice am c.mountains.length cpm, .slice av c.villages.length cpv] 25)) := Blk.new w _ _
  have h0 := h.call hB0
  have hd0 := hd.call hB0
  by_cases he : checkE c = 0
  · have hb : (checkE c != 0) = false := by simpa using he
    have hok := (checkE_zero c).1 he
    have hres : divE c l = placesE l (c.villages.length : Int) := by rw [divE, if_pos he, hok.vl]
    have hvl : (c.villages.length : Int) ≤ 1000 := by have := hok.n2; have := hok.vl; omega
    have HR := Lib.hid hres
    clear he hres
    go_enter Try.func84, Try.ntmps84
    go_wp2_with fail
    refine (rcheck_c h0).mono ?_
    rintro e w1 ⟨rfl, hB1⟩
    have hx1 := (hx.below hB1 (by simp)).cell 1
    have hB2 := hB0.trans (hB1.mono hB0.size)
    have hon := once_c (c.villages.length : Int) hvl (by omega) (hd0.call hB1)
    have HON := Lib.hid hon
    clear hon
    go_wp2_with fail
    refine HON.out.mono ?_
    rintro e w2 ⟨rfl, hq⟩
    go_wp2
    go_ret
    exact ⟨ret_int HR.out.symm, hB2.trans (hq.below _)⟩
  · have hb : (checkE c != 0) = true := by simpa using he
    have hres : divE c l = checkE c := by rw [divE, if_neg he]
    have HR := Lib.hid hres
    clear he hres
    go_enter Try.func84, Try.ntmps84
    go_wp2_with fail
    refine (rcheck_c h0).mono ?_
    rintro e w1 ⟨rfl, hB1⟩
    go_wp2
    go_ret
    exact ⟨ret_int HR.out.symm, hB0.trans (hB1.mono hB0.size)⟩

set_option maxRecDepth 100000 in
set_option maxHeartbeats 2000000 in
theorem rwant_c {A A' : Nat → Prop} {w : World} {vm vv vl : Value} {c : Com} {l : List Int} (h : Cm A w vm vv c) (hd : Ints A' w vl l) (hlv : l.length = c.villages.length) (hlk : ∀ v ∈ c.villages, PermOf l.length v.likes) (hp : PermOf l.length l)
    (i k : Nat) (hi : i < l.length) (hk : k < l.length) :
    Calls Try.prog 87 #[.agg #[vm, vv], vl, .int .i64 i, .int .i64 k] w fun e w' => e = .returned (.bool (both c.villages l i k)) ∧ Below w.heap.size w w' := by
  have hin : ∀ (v m : Nat) (hv : v < c.villages.length) (hm : m < l.length), l[m] ∈ c.villages[v].likes := fun v m hv hm => ((hlk _ (List.getElem_mem hv)).mem _).2 ((hp.mem _).1 (List.getElem_mem hm))
  obtain ⟨am, cpm, rfl, _, _⟩ := h.1.shape
  obtain ⟨av, cpv, rfl, _, _⟩ := h.2.shape
  obtain ⟨al, cl, rfl, _, _⟩ := hd.shape
  obtain ⟨bl, ol, rfl, _, _, _⟩ := hd.addr (by omega)
  have nl := hd.len
  have hB0 : Below w.heap.size w (w.alloc (.cells #[.slice am c.mountains.length cpm, .slice av c.villages.length cpv] 25)) := (Below.refl _ w).alloc (Nat.le_refl _) _
  have hx : WaS w.heap.size (.slice am c.mountains.length cpm) (.slice av c.villages.length cpv) A' (.slice (some ⟨bl, ol, none⟩) l.length cl) l (w.alloc (.cells #[.slice am c.mountains.length cpm, .slice av c.villages.length cpv] 25)) := ⟨Blk.new w _ _, hd.call hB0⟩
  have h0 := h.call hB0
  have e1 : both c.villages l i k = (decide (rk c.villages i l[k] < rk c.villages i l[i]) && decide (rk c.villages k l[i] < rk c.villages k l[k])) := by
    simp [both, wish, List.getD_eq_getElem?_getD, hi, hk]
  have hiv : i < c.villages.length := by omega
  have hkv : k < c.villages.length := by omega
  have HE := Lib.hid e1
  clear e1 hlv hlk hp
  by_cases hb : rk c.villages i l[k] < rk c.villages i l[i]
  · have b1 : decide (rk c.villages i l[k] < rk c.villages i l[i]) = true := decide_eq_true hb
    go_enter Try.func87, Try.ntmps87
    go_wp2_with fail
    refine wp_region_mix2 (.one 0 (.pur 1 (.pur 2 (.pur 3 (.pur 4 (.one 5 (.one 7 (.pur 8 (.pur 9 (.pur 10 (.pur 11 (.one 12 (.act 6 (.act 13 (.pur 14 (.pur 15 (.one 16 (.pur 17 (.pur 18 (.pur 19 (.pur 20 (.one 21 (.one 23 (.pur 24 (.pur 25 (.pur 26 (.pur 27 (.one 28 (.act 22 (.act 29 (.pur 30 (.pur 31 (.pur 32 .fin))))))))))))))))))))))))))))))))) 99 (WaS w.heap.size (.slice am c.mountains.length cpm) (.slice av c.villages.length cpv) A' (.slice (some ⟨bl, ol, none⟩) l.length cl) l) (fun _ => True) (by kernel_rfl) (by kernel_rfl) rfl (by kernel_rfl) hx.drew (fun w1 hq1 hSq => ?_)
    have hS1 := hSq
    have hB1 : Below (w.alloc (.cells #[.slice am c.mountains.length cpm, .slice av c.villages.length cpv] 25)).heap.size (w.alloc (.cells #[.slice am c.mountains.length cpm, .slice av c.villages.length cpv] 25)) w1 := hq1.below _
    refine mix_load2 rfl rfl rfl (.agg #[.slice am c.mountains.length cpm, .slice av c.villages.length cpv]) (fun w' h => by have h : (WaS w.heap.size (.slice am c.mountains.length cpm) (.slice av c.villages.length cpv) A' (.slice (some ⟨bl, ol, none⟩) l.length cl) l) w' := h; have h0 := h.1.cell 0; have h1 := h.1.cell 1; go_simp) rfl ?_
    refine mix_pur2 rfl (fun K hK => ?_)
    go_simp
    first | refine ⟨_, fun _ => rfl, hK _ ?_⟩ | refine hK _ ?_
    clear hK K
    refine mix_pur2 rfl (fun K hK => ?_)
    go_simp
    first | refine ⟨_, fun _ => rfl, hK _ ?_⟩ | refine hK _ ?_
    clear hK K
    refine mix_pur2 rfl (fun K hK => ?_)
    go_simp
    first | refine ⟨_, fun _ => rfl, hK _ ?_⟩ | refine hK _ ?_
    clear hK K
    refine mix_pur2 rfl (fun K hK => ?_)
    go_simp
    first | refine ⟨_, fun _ => rfl, hK _ ?_⟩ | refine hK _ ?_
    clear hK K
    refine mix_load2 rfl rfl rfl (.int .i64 (l[k])) (fun w' h => by have h : (WaS w.heap.size (.slice am c.mountains.length cpm) (.slice av c.villages.length cpv) A' (.slice (some ⟨bl, ol, none⟩) l.length cl) l) w' := h; have h0 := h.2.cell k (by omega); go_simp) rfl ?_
    refine mix_load2 rfl rfl rfl (.agg #[.slice am c.mountains.length cpm, .slice av c.villages.length cpv]) (fun w' h => by have h : (WaS w.heap.size (.slice am c.mountains.length cpm) (.slice av c.villages.length cpv) A' (.slice (some ⟨bl, ol, none⟩) l.length cl) l) w' := h; have h0 := h.1.cell 0; have h1 := h.1.cell 1; go_simp) rfl ?_
    refine mix_pur2 rfl (fun K hK => ?_)
    go_simp
    first | refine ⟨_, fun _ => rfl, hK _ ?_⟩ | refine hK _ ?_
    clear hK K
    refine mix_pur2 rfl (fun K hK => ?_)
    go_simp
    first | refine ⟨_, fun _ => rfl, hK _ ?_⟩ | refine hK _ ?_
    clear hK K
    refine mix_pur2 rfl (fun K hK => ?_)
    go_simp
    first | refine ⟨_, fun _ => rfl, hK _ ?_⟩ | refine hK _ ?_
    clear hK K
    refine mix_pur2 rfl (fun K hK => ?_)
    go_simp
    first | refine ⟨_, fun _ => rfl, hK _ ?_⟩ | refine hK _ ?_
    clear hK K
    refine mix_load2 rfl rfl rfl (.int .i64 (l[i])) (fun w' h => by have h : (WaS w.heap.size (.slice am c.mountains.length cpm) (.slice av c.villages.length cpv) A' (.slice (some ⟨bl, ol, none⟩) l.length cl) l) w' := h; have h0 := h.2.cell i (by omega); go_simp) rfl ?_
    refine mix_eff2 rfl false rfl (fun K hK => ?_)
    go_simp
    refine (rrank_c (h0.call hB1) i (by omega) (l[k]) (hin i k (by omega) (by omega))).mono ?_
    rintro e w2 ⟨rfl, hC2⟩
    have hB2 := hB1.trans (hC2.mono hB1.size)
    have hS2 := hS1.call hC2
    refine hK _ _ hS2 ?_
    clear hK K
    refine mix_eff2 rfl false rfl (fun K hK => ?_)
    go_simp
    refine (rrank_c (h0.call hB2) i (by omega) (l[i]) (hin i i (by omega) (by omega))).mono ?_
    rintro e w3 ⟨rfl, hC3⟩
    have hB3 := hB2.trans (hC3.mono hB2.size)
    have hS3 := hS2.call hC3
    refine hK _ _ hS3 ?_
    clear hK K
    refine mix_pur2 rfl (fun K hK => ?_)
    go_simp
    first | refine ⟨_, fun _ => rfl, hK _ ?_⟩ | refine hK _ ?_
    clear hK K
    refine mix_pur2 rfl (fun K hK => ?_)
    go_simp
    first | refine ⟨_, fun _ => rfl, hK _ ?_⟩ | refine hK _ ?_
    clear hK K
    refine mix_loadg2 rfl rfl (.agg #[.slice am c.mountains.length cpm, .slice av c.villages.length cpv]) (by go_simp) (fun w' h => by have h : (WaS w.heap.size (.slice am c.mountains.length cpm) (.slice av c.villages.length cpv) A' (.slice (some ⟨bl, ol, none⟩) l.length cl) l) w' := h; have h0 := h.1.cell 0; have h1 := h.1.cell 1; go_simp) rfl ?_
    refine mix_pur2 rfl (fun K hK => ?_)
    go_simp
    first | refine ⟨_, fun _ => rfl, hK _ ?_⟩ | refine hK _ ?_
    clear hK K
    refine mix_pur2 rfl (fun K hK => ?_)
    go_simp
    first | refine ⟨_, fun _ => rfl, hK _ ?_⟩ | refine hK _ ?_
    clear hK K
    refine mix_pur2 rfl (fun K hK => ?_)
    go_simp
    first | refine ⟨_, fun _ => rfl, hK _ ?_⟩ | refine hK _ ?_
    clear hK K
    refine mix_pur2 rfl (fun K hK => ?_)
    go_simp
    first | refine ⟨_, fun _ => rfl, hK _ ?_⟩ | refine hK _ ?_
    clear hK K
    refine mix_loadg2 rfl rfl (.int .i64 (l[i])) (by go_simp) (fun w' h => by have h : (WaS w.heap.size (.slice am c.mountains.length cpm) (.slice av c.villages.length cpv) A' (.slice (some ⟨bl, ol, none⟩) l.length cl) l) w' := h; have h0 := h.2.cell i (by omega); go_simp) rfl ?_
    refine mix_loadg2 rfl rfl (.agg #[.slice am c.mountains.length cpm, .slice av c.villages.length cpv]) (by go_simp) (fun w' h => by have h : (WaS w.heap.size (.slice am c.mountains.length cpm) (.slice av c.villages.length cpv) A' (.slice (some ⟨bl, ol, none⟩) l.length cl) l) w' := h; have h0 := h.1.cell 0; have h1 := h.1.cell 1; go_simp) rfl ?_
    refine mix_pur2 rfl (fun K hK => ?_)
    go_simp
    first | refine ⟨_, fun _ => rfl, hK _ ?_⟩ | refine hK _ ?_
    clear hK K
    refine mix_pur2 rfl (fun K hK => ?_)
    go_simp
    first | refine ⟨_, fun _ => rfl, hK _ ?_⟩ | refine hK _ ?_
    clear hK K
    refine mix_pur2 rfl (fun K hK => ?_)
    go_simp
    first | refine ⟨_, fun _ => rfl, hK _ ?_⟩ | refine hK _ ?_
    clear hK K
    refine mix_pur2 rfl (fun K hK => ?_)
    go_simp
    first | refine ⟨_, fun _ => rfl, hK _ ?_⟩ | refine hK _ ?_
    clear hK K
    refine mix_loadg2 rfl rfl (.int .i64 (l[k])) (by go_simp) (fun w' h => by have h : (WaS w.heap.size (.slice am c.mountains.length cpm) (.slice av c.villages.length cpv) A' (.slice (some ⟨bl, ol, none⟩) l.length cl) l) w' := h; have h0 := h.2.cell k (by omega); go_simp) rfl ?_
    refine mix_eff2 rfl false rfl (fun K hK => ?_)
    go_simp
    refine (rrank_c (h0.call hB3) k (by omega) (l[i]) (hin k i (by omega) (by omega))).mono ?_
    rintro e w4 ⟨rfl, hC4⟩
    have hB4 := hB3.trans (hC4.mono hB3.size)
    have hS4 := hS3.call hC4
    refine hK _ _ hS4 ?_
    clear hK K
    refine mix_eff2 rfl false rfl (fun K hK => ?_)
    go_simp
    refine (rrank_c (h0.call hB4) k (by omega) (l[k]) (hin k k (by omega) (by omega))).mono ?_
    rintro e w5 ⟨rfl, hC5⟩
    have hB5 := hB4.trans (hC5.mono hB4.size)
    have hS5 := hS4.call hC5
    refine hK _ _ hS5 ?_
    clear hK K
    refine mix_pur2 rfl (fun K hK => ?_)
    go_simp
    first | refine ⟨_, fun _ => rfl, hK _ ?_⟩ | refine hK _ ?_
    clear hK K
    refine mix_pur2 rfl (fun K hK => ?_)
    go_simp
    first | refine ⟨_, fun _ => rfl, hK _ ?_⟩ | refine hK _ ?_
    clear hK K
    refine mix_pur2 rfl (fun K hK => ?_)
    go_simp
    first | refine ⟨_, fun _ => rfl, hK _ ?_⟩ | refine hK _ ?_
    clear hK K
    refine mix_done2 ?_
    go_wp2
    go_ret
    exact ⟨ret_bool (by rw [HE.out, b1]; rfl), hB0.trans (hB5.mono hB0.size)⟩
  · have b1 : decide (rk c.villages i l[k] < rk c.villages i l[i]) = false := decide_eq_false hb
    go_enter Try.func87, Try.ntmps87
    go_wp2_with fail
    refine wp_region_mix2 (.one 0 (.pur 1 (.pur 2 (.pur 3 (.pur 4 (.one 5 (.one 7 (.pur 8 (.pur 9 (.pur 10 (.pur 11 (.one 12 (.act 6 (.act 13 (.pur 14 (.pur 15 (.pur 16 (.pur 17 (.pur 18 (.pur 19 (.pur 20 (.pur 21 (.pur 22 (.pur 23 (.pur 24 (.pur 25 (.pur 26 (.pur 27 (.pur 28 (.pur 29 (.pur 30 (.pur 31 (.pur 32 .fin))))))))))))))))))))))))))))))))) 99 (WaS w.heap.size (.slice am c.mountains.length cpm) (.slice av c.villages.length cpv) A' (.slice (some ⟨bl, ol, none⟩) l.length cl) l) (fun _ => True) (by kernel_rfl) (by kernel_rfl) rfl (by kernel_rfl) hx.drew (fun w1 hq1 hSq => ?_)
    have hS1 := hSq
    have hB1 : Below (w.alloc (.cells #[.slice am c.mountains.length cpm, .slice av c.villages.length cpv] 25)).heap.size (w.alloc (.cells #[.slice am c.mountains.length cpm, .slice av c.villages.length cpv] 25)) w1 := hq1.below _
    refine mix_load2 rfl rfl rfl (.agg #[.slice am c.mountains.length cpm, .slice av c.villages.length cpv]) (fun w' h => by have h : (WaS w.heap.size (.slice am c.mountains.length cpm) (.slice av c.villages.length cpv) A' (.slice (some ⟨bl, ol, none⟩) l.length cl) l) w' := h; have h0 := h.1.cell 0; have h1 := h.1.cell 1; go_simp) rfl ?_
    refine mix_pur2 rfl (fun K hK => ?_)
    go_simp
    first | refine ⟨_, fun _ => rfl, hK _ ?_⟩ | refine hK _ ?_
    clear hK K
    refine mix_pur2 rfl (fun K hK => ?_)
    go_simp
    first | refine ⟨_, fun _ => rfl, hK _ ?_⟩ | refine hK _ ?_
    clear hK K
    refine mix_pur2 rfl (fun K hK => ?_)
    go_simp
    first | refine ⟨_, fun _ => rfl, hK _ ?_⟩ | refine hK _ ?_
    clear hK K
    refine mix_pur2 rfl (fun K hK => ?_)
    go_simp
    first | refine ⟨_, fun _ => rfl, hK _ ?_⟩ | refine hK _ ?_
    clear hK K
    refine mix_load2 rfl rfl rfl (.int .i64 (l[k])) (fun w' h => by have h : (WaS w.heap.size (.slice am c.mountains.length cpm) (.slice av c.villages.length cpv) A' (.slice (some ⟨bl, ol, none⟩) l.length cl) l) w' := h; have h0 := h.2.cell k (by omega); go_simp) rfl ?_
    refine mix_load2 rfl rfl rfl (.agg #[.slice am c.mountains.length cpm, .slice av c.villages.length cpv]) (fun w' h => by have h : (WaS w.heap.size (.slice am c.mountains.length cpm) (.slice av c.villages.length cpv) A' (.slice (some ⟨bl, ol, none⟩) l.length cl) l) w' := h; have h0 := h.1.cell 0; have h1 := h.1.cell 1; go_simp) rfl ?_
    refine mix_pur2 rfl (fun K hK => ?_)
    go_simp
    first | refine ⟨_, fun _ => rfl, hK _ ?_⟩ | refine hK _ ?_
    clear hK K
    refine mix_pur2 rfl (fun K hK => ?_)
    go_simp
    first | refine ⟨_, fun _ => rfl, hK _ ?_⟩ | refine hK _ ?_
    clear hK K
    refine mix_pur2 rfl (fun K hK => ?_)
    go_simp
    first | refine ⟨_, fun _ => rfl, hK _ ?_⟩ | refine hK _ ?_
    clear hK K
    refine mix_pur2 rfl (fun K hK => ?_)
    go_simp
    first | refine ⟨_, fun _ => rfl, hK _ ?_⟩ | refine hK _ ?_
    clear hK K
    refine mix_load2 rfl rfl rfl (.int .i64 (l[i])) (fun w' h => by have h : (WaS w.heap.size (.slice am c.mountains.length cpm) (.slice av c.villages.length cpv) A' (.slice (some ⟨bl, ol, none⟩) l.length cl) l) w' := h; have h0 := h.2.cell i (by omega); go_simp) rfl ?_
    refine mix_eff2 rfl false rfl (fun K hK => ?_)
    go_simp
    refine (rrank_c (h0.call hB1) i (by omega) (l[k]) (hin i k (by omega) (by omega))).mono ?_
    rintro e w2 ⟨rfl, hC2⟩
    have hB2 := hB1.trans (hC2.mono hB1.size)
    have hS2 := hS1.call hC2
    refine hK _ _ hS2 ?_
    clear hK K
    refine mix_eff2 rfl false rfl (fun K hK => ?_)
    go_simp
    refine (rrank_c (h0.call hB2) i (by omega) (l[i]) (hin i i (by omega) (by omega))).mono ?_
    rintro e w3 ⟨rfl, hC3⟩
    have hB3 := hB2.trans (hC3.mono hB2.size)
    have hS3 := hS2.call hC3
    refine hK _ _ hS3 ?_
    clear hK K
    refine mix_pur2 rfl (fun K hK => ?_)
    go_simp
    first | refine ⟨_, fun _ => rfl, hK _ ?_⟩ | refine hK _ ?_
    clear hK K
    refine mix_pur2 rfl (fun K hK => ?_)
    go_simp
    first | refine ⟨_, fun _ => rfl, hK _ ?_⟩ | refine hK _ ?_
    clear hK K
    refine mix_pur2 rfl (fun K hK => ?_)
    go_simp
    first | refine ⟨_, fun _ => rfl, hK _ ?_⟩ | refine hK _ ?_
    clear hK K
    refine mix_pur2 rfl (fun K hK => ?_)
    go_simp
    first | refine ⟨_, fun _ => rfl, hK _ ?_⟩ | refine hK _ ?_
    clear hK K
    refine mix_pur2 rfl (fun K hK => ?_)
    go_simp
    first | refine ⟨_, fun _ => rfl, hK _ ?_⟩ | refine hK _ ?_
    clear hK K
    refine mix_pur2 rfl (fun K hK => ?_)
    go_simp
    first | refine ⟨_, fun _ => rfl, hK _ ?_⟩ | refine hK _ ?_
    clear hK K
    refine mix_pur2 rfl (fun K hK => ?_)
    go_simp
    first | refine ⟨_, fun _ => rfl, hK _ ?_⟩ | refine hK _ ?_
    clear hK K
    refine mix_pur2 rfl (fun K hK => ?_)
    go_simp
    first | refine ⟨_, fun _ => rfl, hK _ ?_⟩ | refine hK _ ?_
    clear hK K
    refine mix_pur2 rfl (fun K hK => ?_)
    go_simp
    first | refine ⟨_, fun _ => rfl, hK _ ?_⟩ | refine hK _ ?_
    clear hK K
    refine mix_pur2 rfl (fun K hK => ?_)
    go_simp
    first | refine ⟨_, fun _ => rfl, hK _ ?_⟩ | refine hK _ ?_
    clear hK K
    refine mix_pur2 rfl (fun K hK => ?_)
    go_simp
    first | refine ⟨_, fun _ => rfl, hK _ ?_⟩ | refine hK _ ?_
    clear hK K
    refine mix_pur2 rfl (fun K hK => ?_)
    go_simp
    first | refine ⟨_, fun _ => rfl, hK _ ?_⟩ | refine hK _ ?_
    clear hK K
    refine mix_pur2 rfl (fun K hK => ?_)
    go_simp
    first | refine ⟨_, fun _ => rfl, hK _ ?_⟩ | refine hK _ ?_
    clear hK K
    refine mix_pur2 rfl (fun K hK => ?_)
    go_simp
    first | refine ⟨_, fun _ => rfl, hK _ ?_⟩ | refine hK _ ?_
    clear hK K
    refine mix_pur2 rfl (fun K hK => ?_)
    go_simp
    first | refine ⟨_, fun _ => rfl, hK _ ?_⟩ | refine hK _ ?_
    clear hK K
    refine mix_pur2 rfl (fun K hK => ?_)
    go_simp
    first | refine ⟨_, fun _ => rfl, hK _ ?_⟩ | refine hK _ ?_
    clear hK K
    refine mix_pur2 rfl (fun K hK => ?_)
    go_simp
    first | refine ⟨_, fun _ => rfl, hK _ ?_⟩ | refine hK _ ?_
    clear hK K
    refine mix_pur2 rfl (fun K hK => ?_)
    go_simp
    first | refine ⟨_, fun _ => rfl, hK _ ?_⟩ | refine hK _ ?_
    clear hK K
    refine mix_pur2 rfl (fun K hK => ?_)
    go_simp
    first | refine ⟨_, fun _ => rfl, hK _ ?_⟩ | refine hK _ ?_
    clear hK K
    refine mix_done2 ?_
    go_wp2
    go_ret
    exact ⟨ret_bool (by rw [HE.out, b1]; rfl), hB0.trans (hB3.mono hB0.size)⟩

end Go.Proofs.Ythchpoabncdicaa
