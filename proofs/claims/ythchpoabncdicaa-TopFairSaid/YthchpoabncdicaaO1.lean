/- The contracts of place, want and whole (mestalaw08); conditions: as said. -/
import Derived.Test.YthchpoabncdicaaB3
namespace Go.Proofs.Ythchpoabncdicaa
open Go.RowKit

section
variable {P : Program} {ops : Array Oper} {Q : Exit → Act → World → Prop} {C : Bool → World → Prop}
/-- A guarded load that is wanted. -/
theorem mix_loadg2 {z i : Nat} {rest : PlanC} {ph : Bool} {a : Act} {w : World} {o : Oper} (hi : ops[i]? = some o) {t : TypeId} {x : Operand} (ho : o.op = .load t x) {p : Addr} (v : Value)
    (hg : Region.wanted o (yielded ops a.tmps) = true) (hv : ∀ w', C ph w' → (loadVar t p).run P w' = .ok v w') (hx : a.eval x = .pointer (some p)) (h : wpMix2 P ops C z Q rest ph (a.put o.dst v) w) : wpMix2 P ops C z Q (.one i rest) ph a w := by
  refine ⟨o, v, hi, .inl ⟨hg, fun w' hS => ?_⟩, h⟩
  simp [execOp, ho, Instr.loadAt, hx, Instr.sureAddr, hv w' hS]
end

/-- Where a village has a mountain among its Likes. -/
theorem plc_c {A : Nat → Prop} {w : World} {vm vv : Value} {c : Com} (h : Cm A w vm vv c) (i : Nat) (hi : i < c.villages.length) (x : Int) :
    Calls Try.prog 44 #[.agg #[vm, vv], .int .i64 i, .int .i64 x] w fun e w' => e = .returned (.int .i64 (rk c.villages i x)) ∧ Below w.heap.size w w' := by
  obtain ⟨am, cpm, rfl, _, _⟩ := h.1.shape
  obtain ⟨av, cpv, rfl, _, _⟩ := h.2.shape
  have hB0 : Below w.heap.size w (w.alloc (.cells #[.slice am c.mountains.length cpm, .slice av c.villages.length cpv] 25)) := (Below.refl _ w).alloc (Nat.le_refl _) _
  have hxb : Blk w.heap.size #[.slice am c.mountains.length cpm, .slice av c.villages.length cpv] 25 (w.alloc (.cells #[.slice am c.mountains.length cpm, .slice av c.villages.length cpv] 25)) := Blk.new w _ _
  have h0 := h.2.call hB0
  obtain ⟨b, o, rfl, _, _⟩ := h.2.addr (by omega)
  obtain ⟨p, d, g1, g2, g3, hl⟩ := h0.at i hi
  have n1 := h.2.len
  have y1 := hxb.cell 1
  have e := rk_at hi x
  generalize rk c.villages i x = r at e ⊢
  have HE := Lib.hid e; clear e
  go_enter Try.func44, Try.ntmps44
  go_wp2_with fail
  refine (place_c x hl).mono ?_
  rintro e w1 ⟨rfl, hq⟩
  go_wp2
  go_ret
  exact ⟨ret_int HE.out.symm, hB0.trans (hq.below _)⟩

theorem wholeL {n : Nat} {l : List Int} (hp : PermOf n l) (k : Nat) (hk : k < n) : 0 ≤ placeOf l (k : Int) := by
  rw [placeOf_nonneg, hp.mem]; omega
theorem whole_t {A : Nat → Prop} {w : World} {v : Value} {l : List Int} {n : Nat} (h : Ints A w v l) (hp : PermOf n l) : Calls Try.prog 42 #[v, .int .i64 n] w fun e w' => e = .returned (.bool true) ∧ Qt w w' := by
  have hlen := hp.len
  obtain ⟨al, cl, rfl, _, _⟩ := h.shape
  have nl := h.len
  have hn : n ≤ 9223372036854775807 := by omega
  have hb : ((l.length : Int) == (n : Int)) = true := by simp; omega
  have HLEN := Lib.hid hlen
  clear hlen
  go_enter Try.func42, Try.ntmps42
  go_wp2
  go_loopw [5] (fun i wr => ∃ k : Nat, k ≤ n ∧ i = .int .i64 k ∧ Qt w wr) (fun i _ => n - (intOf i).toNat)
  case atStart => exact ⟨0, Nat.zero_le _, rfl, Qt.refl _⟩
  case round =>
    obtain ⟨k, hk, rfl, hq⟩ := hrel
    by_cases hlt : k < n
    · have hpl := wholeL hp k hlt
      have hpc := place_c (k : Int) (h.qt hq)
      obtain ⟨q, hqe⟩ : ∃ q, q = placeOf l (k : Int) := ⟨_, rfl⟩
      rw [← hqe] at hpl hpc
      have HPC := Lib.hid hpc
      clear hpc hqe
      go_wp2_with (go_at_call 57; refine HPC.out.mono ?_; rintro e w1 ⟨rfl, hq1⟩)
      go_roundw
      case rel => exact ⟨k + 1, by omega, by go_num, hq.trans hq1⟩
      case measure => simp [intOf]; omega
    · obtain rfl : k = n := by omega
      go_wp2
      go_ret
      exact ⟨rfl, hq⟩

/-- What want reads. -/
def WaS (b : Nat) (vm vv : Value) (A : Nat → Prop) (vl : Value) (l : List Int) (w : World) : Prop := Blk b #[vm, vv] 25 w ∧ Ints A w vl l
theorem WaS.call {b : Nat} {vm vv : Value} {A : Nat → Prop} {vl : Value} {l : List Int} {w w' : World} (h : WaS b vm vv A vl l w) (hB : Below w.heap.size w w') : WaS b vm vv A vl l w' := ⟨h.1.call hB, h.2.call hB⟩
theorem WaS.drew {b : Nat} {vm vv : Value} {A : Nat → Prop} {vl : Value} {l : List Int} {w : World} (h : WaS b vm vv A vl l w) : WaS b vm vv A vl l w.drew := ⟨h.1, h.2.drewN 1⟩

set_option maxRecDepth 100000 in
set_option maxHeartbeats 2000000 in
theorem want_c {A A' : Nat → Prop} {w : World} {vm vv vl : Value} {c : Com} {l : List Int} (h : Cm A w vm vv c) (hd : Ints A' w vl l) (hlv : l.length = c.villages.length) (i k : Nat) (hi : i < l.length) (hk : k < l.length) :
    Calls Try.prog 46 #[.agg #[vm, vv], vl, .int .i64 i, .int .i64 k] w fun e w' => e = .returned (.bool (both c.villages l i k)) ∧ Below w.heap.size w w' := by
  obtain ⟨am, cpm, rfl, _, _⟩ := h.1.shape
  obtain ⟨av, cpv, rfl, _, _⟩ := h.2.shape
  obtain ⟨al, cl, rfl, _, _⟩ := hd.shape
  obtain ⟨bl, ol, rfl, _, _, _⟩ := hd.addr (by omega)
  have nl := hd.len
  have hB0 : Below w.heap.size w (w.alloc (.cells #[.slice am c.mountains.length cpm, .slice av c.villages.length cpv] 25)) := (Below.refl _ w).alloc (Nat.le_refl _) _
  have hx : WaS w.heap.size (.slice am c.mountains.length cpm) (.slice av c.villages.length cpv) A' (.slice (some ⟨bl, ol, none⟩) l.length cl) l (w.alloc (.cells #[.slice am c.mountains.length cpm, .slice av c.villages.length cpv] 25)) := ⟨Blk.new w _ _, hd.call hB0⟩
  have h0 := h.call hB0
  have e1 : both c.villages l i k = (decide (rk c.villages i l[k] < rk c.villages i l[i]) && decide (rk c.villages k l[i] < rk c.villages k l[k])) := by
    simp [both, wish, List.getD_eq_getElem?_getD, hi, hk]
  have hiv : i < c.villages.length := by omega
  have hkv : k < c.villages.length := by omega
  have HE := Lib.hid e1
  clear e1 hlv
  by_cases hb : rk c.villages i l[k] < rk c.villages i l[i]
  · have b1 : decide (rk c.villages i l[k] < rk c.villages i l[i]) = true := decide_eq_true hb
    go_enter Try.func46, Try.ntmps46
    go_wp2_with fail
    refine wp_region_mix2 (.one 0 (.pur 1 (.pur 2 (.pur 3 (.pur 4 (.one 5 (.one 7 (.pur 8 (.pur 9 (.pur 10 (.pur 11 (.one 12 (.act 6 (.act 13 (.pur 14 (.pur 15 (.one 16 (.pur 17 (.pur 18 (.pur 19 (.pur 20 (.one 21 (.one 23 (.pur 24 (.pur 25 (.pur 26 (.pur 27 (.one 28 (.act 22 (.act 29 (.pur 30 (.pur 31 (.pur 32 .fin))))))))))))))))))))))))))))))))) 99 (WaS w.heap.size (.slice am c.mountains.length cpm) (.slice av c.villages.length cpv) A' (.slice (some ⟨bl, ol, none⟩) l.length cl) l) (fun _ => True) (by kernel_rfl) (by kernel_rfl) rfl (by kernel_rfl) hx.drew (fun w1 hq1 hSq => ?_)
    have hS1 := hSq
    have hB1 : Below (w.alloc (.cells #[.slice am c.mountains.length cpm, .slice av c.villages.length cpv] 25)).heap.size (w.alloc (.cells #[.slice am c.mountains.length cpm, .slice av c.villages.length cpv] 25)) w1 := hq1.below _
    refine mix_load2 rfl rfl rfl (.agg #[.slice am c.mountains.length cpm, .slice av c.villages.length cpv]) (fun w' h => by have h : (WaS w.heap.size (.slice am c.mountains.length cpm) (.slice av c.villages.length cpv) A' (.slice (some ⟨bl, ol, none⟩) l.length cl) l) w' := h; have h0 := h.1.cell 0; have h1 := h.1.cell 1; go_simp) rfl ?_
    refine mix_pur2 rfl (fun K hK => ?_)
    go_simp
    first | refine ⟨_, fun _ => rfl, hK _ ?_⟩ | refine hK _ ?_
    clear hK K
    refine mix_pur2 rfl (fun K hK => ?_)
    go_simp
    first | refine ⟨_, fun _ => rfl, hK _ ?_⟩ | refine hK _ ?_
    clear hK K
    refine mix_pur2 rfl (fun K hK => ?_)
    go_simp
    first | refine ⟨_, fun _ => rfl, hK _ ?_⟩ | refine hK _ ?_
    clear hK K
    refine mix_pur2 rfl (fun K hK => ?_)
    go_simp
    first | refine ⟨_, fun _ => rfl, hK _ ?_⟩ | refine hK _ ?_
    clear hK K
    refine mix_load2 rfl rfl rfl (.int .i64 (l[k])) (fun w' h => by have h : (WaS w.heap.size (.slice am c.mountains.length cpm) (.slice av c.villages.length cpv) A' (.slice (some ⟨bl, ol, none⟩) l.length cl) l) w' := h; have h0 := h.2.cell k (by omega); go_simp) rfl ?_
    refine mix_load2 rfl rfl rfl (.agg #[.slice am c.mountains.length cpm, .slice av c.villages.length cpv]) (fun w' h => by have h : (WaS w.heap.size (.slice am c.mountains.length cpm) (.slice av c.villages.length cpv) A' (.slice (some ⟨bl, ol, none⟩) l.length cl) l) w' := h; have h0 := h.1.cell 0; have h1 := h.1.cell 1; go_simp) rfl ?_
    refine mix_pur2 rfl (fun K hK => ?_)
    go_simp
    first | refine ⟨_, fun _ => rfl, hK _ ?_⟩ | refine hK _ ?_
    clear hK K
    refine mix_pur2 rfl (fun K hK => ?_)
    go_simp
    first | refine ⟨_, fun _ => rfl, hK _ ?_⟩ | refine hK _ ?_
    clear hK K
    refine mix_pur2 rfl (fun K hK => ?_)
    go_simp
    first | refine ⟨_, fun _ => rfl, hK _ ?_⟩ | refine hK _ ?_
    clear hK K
    refine mix_pur2 rfl (fun K hK => ?_)
    go_simp
    first | refine ⟨_, fun _ => rfl, hK _ ?_⟩ | refine hK _ ?_
    clear hK K
    refine mix_load2 rfl rfl rfl (.int .i64 (l[i])) (fun w' h => by have h : (WaS w.heap.size (.slice am c.mountains.length cpm) (.slice av c.villages.length cpv) A' (.slice (some ⟨bl, ol, none⟩) l.length cl) l) w' := h; have h0 := h.2.cell i (by omega); go_simp) rfl ?_
    refine mix_eff2 rfl false rfl (fun K hK => ?_)
    go_simp
    refine (plc_c (h0.call hB1) i (by omega) (l[k])).mono ?_
    rintro e w2 ⟨rfl, hC2⟩
    have hB2 := hB1.trans (hC2.mono hB1.size)
    have hS2 := hS1.call hC2
    refine hK _ _ hS2 ?_
    clear hK K
    refine mix_eff2 rfl false rfl (fun K hK => ?_)
    go_simp
    refine (plc_c (h0.call hB2) i (by omega) (l[i])).mono ?_
    rintro e w3 ⟨rfl, hC3⟩
    have hB3 := hB2.trans (hC3.mono hB2.size)
    have hS3 := hS2.call hC3
    refine hK _ _ hS3 ?_
    clear hK K
    refine mix_pur2 rfl (fun K hK => ?_)
    go_simp
    first | refine ⟨_, fun _ => rfl, hK _ ?_⟩ | refine hK _ ?_
    clear hK K
    refine mix_pur2 rfl (fun K hK => ?_)
    go_simp
    first | refine ⟨_, fun _ => rfl, hK _ ?_⟩ | refine hK _ ?_
    clear hK K
    refine mix_loadg2 rfl rfl (.agg #[.slice am c.mountains.length cpm, .slice av c.villages.length cpv]) (by go_simp) (fun w' h => by have h : (WaS w.heap.size (.slice am c.mountains.length cpm) (.slice av c.villages.length cpv) A' (.slice (some ⟨bl, ol, none⟩) l.length cl) l) w' := h; have h0 := h.1.cell 0; have h1 := h.1.cell 1; go_simp) rfl ?_
    refine mix_pur2 rfl (fun K hK => ?_)
    go_simp
    first | refine ⟨_, fun _ => rfl, hK _ ?_⟩ | refine hK _ ?_
    clear hK K
    refine mix_pur2 rfl (fun K hK => ?_)
    go_simp
    first | refine ⟨_, fun _ => rfl, hK _ ?_⟩ | refine hK _ ?_
    clear hK K
    refine mix_pur2 rfl (fun K hK => ?_)
    go_simp
    first | refine ⟨_, fun _ => rfl, hK _ ?_⟩ | refine hK _ ?_
    clear hK K
    refine mix_pur2 rfl (fun K hK => ?_)
    go_simp
    first | refine ⟨_, fun _ => rfl, hK _ ?_⟩ | refine hK _ ?_
    clear hK K
    refine mix_loadg2 rfl rfl (.int .i64 (l[i])) (by go_simp) (fun w' h => by have h : (WaS w.heap.size (.slice am c.mountains.length cpm) (.slice av c.villages.length cpv) A' (.slice (some ⟨bl, ol, none⟩) l.length cl) l) w' := h; have h0 := h.2.cell i (by omega); go_simp) rfl ?_
    refine mix_loadg2 rfl rfl (.agg #[.slice am c.mountains.length cpm, .slice av c.villages.length cpv]) (by go_simp) (fun w' h => by have h : (WaS w.heap.size (.slice am c.mountains.length cpm) (.slice av c.villages.length cpv) A' (.slice (some ⟨bl, ol, none⟩) l.length cl) l) w' := h; have h0 := h.1.cell 0; have h1 := h.1.cell 1; go_simp) rfl ?_
    refine mix_pur2 rfl (fun K hK => ?_)
    go_simp
    first | refine ⟨_, fun _ => rfl, hK _ ?_⟩ | refine hK _ ?_
    clear hK K
    refine mix_pur2 rfl (fun K hK => ?_)
    go_simp
    first | refine ⟨_, fun _ => rfl, hK _ ?_⟩ | refine hK _ ?_
    clear hK K
    refine mix_pur2 rfl (fun K hK => ?_)
    go_simp
    first | refine ⟨_, fun _ => rfl, hK _ ?_⟩ | refine hK _ ?_
    clear hK K
    refine mix_pur2 rfl (fun K hK => ?_)
    go_simp
    first | refine ⟨_, fun _ => rfl, hK _ ?_⟩ | refine hK _ ?_
    clear hK K
    refine mix_loadg2 rfl rfl (.int .i64 (l[k])) (by go_simp) (fun w' h => by have h : (WaS w.heap.size (.slice am c.mountains.length cpm) (.slice av c.villages.length cpv) A' (.slice (some ⟨bl, ol, none⟩) l.length cl) l) w' := h; have h0 := h.2.cell k (by omega); go_simp) rfl ?_
    refine mix_eff2 rfl false rfl (fun K hK => ?_)
    go_simp
    refine (plc_c (h0.call hB3) k (by omega) (l[i])).mono ?_
    rintro e w4 ⟨rfl, hC4⟩
    have hB4 := hB3.trans (hC4.mono hB3.size)
    have hS4 := hS3.call hC4
    refine hK _ _ hS4 ?_
    clear hK K
    refine mix_eff2 rfl false rfl (fun K hK => ?_)
    go_simp
    refine (plc_c (h0.call hB4) k (by omega) (l[k])).mono ?_
    rintro e w5 ⟨rfl, hC5⟩
    have hB5 := hB4.trans (hC5.mono hB4.size)
    have hS5 := hS4.call hC5
    refine hK _ _ hS5 ?_
    clear hK K
    refine mix_pur2 rfl (fun K hK => ?_)
    go_simp
    first | refine ⟨_, fun _ => rfl, hK _ ?_⟩ | refine hK _ ?_
    clear hK K
    refine mix_pur2 rfl (fun K hK => ?_)
    go_simp
    first | refine ⟨_, fun _ => rfl, hK _ ?_⟩ | refine hK _ ?_
    clear hK K
    refine mix_pur2 rfl (fun K hK => ?_)
    go_simp
    first | refine ⟨_, fun _ => rfl, hK _ ?_⟩ | refine hK _ ?_
    clear hK K
    refine mix_done2 ?_
    go_wp2
    go_ret
    exact ⟨ret_bool (by rw [HE.out, b1]; rfl), hB0.trans (hB5.mono hB0.size)⟩
  · have b1 : decide (rk c.villages i l[k] < rk c.villages i l[i]) = false := decide_eq_false hb
    go_enter Try.func46, Try.ntmps46
    go_wp2_with fail
    refine wp_region_mix2 (.one 0 (.pur 1 (.pur 2 (.pur 3 (.pur 4 (.one 5 (.one 7 (.pur 8 (.pur 9 (.pur 10 (.pur 11 (.one 12 (.act 6 (.act 13 (.pur 14 (.pur 15 (.pur 16 (.pur 17 (.pur 18 (.pur 19 (.pur 20 (.pur 21 (.pur 22 (.pur 23 (.pur 24 (.pur 25 (.pur 26 (.pur 27 (.pur 28 (.pur 29 (.pur 30 (.pur 31 (.pur 32 .fin))))))))))))))))))))))))))))))))) 99 (WaS w.heap.size (.slice am c.mountains.length cpm) (.slice av c.villages.length cpv) A' (.slice (some ⟨bl, ol, none⟩) l.length cl) l) (fun _ => True) (by kernel_rfl) (by kernel_rfl) rfl (by kernel_rfl) hx.drew (fun w1 hq1 hSq => ?_)
    have hS1 := hSq
    have hB1 : Below (w.alloc (.cells #[.slice am c.mountains.length cpm, .slice av c.villages.length cpv] 25)).heap.size (w.alloc (.cells #[.slice am c.mountains.length cpm, .slice av c.villages.length cpv] 25)) w1 := hq1.below _
    refine mix_load2 rfl rfl rfl (.agg #[.slice am c.mountains.length cpm, .slice av c.villages.length cpv]) (fun w' h => by have h : (WaS w.heap.size (.slice am c.mountains.length cpm) (.slice av c.villages.length cpv) A' (.slice (some ⟨bl, ol, none⟩) l.length cl) l) w' := h; have h0 := h.1.cell 0; have h1 := h.1.cell 1; go_simp) rfl ?_
    refine mix_pur2 rfl (fun K hK => ?_)
    go_simp
    first | refine ⟨_, fun _ => rfl, hK _ ?_⟩ | refine hK _ ?_
    clear hK K
    refine mix_pur2 rfl (fun K hK => ?_)
    go_simp
    first | refine ⟨_, fun _ => rfl, hK _ ?_⟩ | refine hK _ ?_
    clear hK K
    refine mix_pur2 rfl (fun K hK => ?_)
    go_simp
    first | refine ⟨_, fun _ => rfl, hK _ ?_⟩ | refine hK _ ?_
    clear hK K
    refine mix_pur2 rfl (fun K hK => ?_)
    go_simp
    first | refine ⟨_, fun _ => rfl, hK _ ?_⟩ | refine hK _ ?_
    clear hK K
    refine mix_load2 rfl rfl rfl (.int .i64 (l[k])) (fun w' h => by have h : (WaS w.heap.size (.slice am c.mountains.length cpm) (.slice av c.villages.length cpv) A' (.slice (some ⟨bl, ol, none⟩) l.length cl) l) w' := h; have h0 := h.2.cell k (by omega); go_simp) rfl ?_
    refine mix_load2 rfl rfl rfl (.agg #[.slice am c.mountains.length cpm, .slice av c.villages.length cpv]) (fun w' h => by have h : (WaS w.heap.size (.slice am c.mountains.length cpm) (.slice av c.villages.length cpv) A' (.slice (some ⟨bl, ol, none⟩) l.length cl) l) w' := h; have h0 := h.1.cell 0; have h1 := h.1.cell 1; go_simp) rfl ?_
    refine mix_pur2 rfl (fun K hK => ?_)
    go_simp
    first | refine ⟨_, fun _ => rfl, hK _ ?_⟩ | refine hK _ ?_
    clear hK K
    refine mix_pur2 rfl (fun K hK => ?_)
    go_simp
    first | refine ⟨_, fun _ => rfl, hK _ ?_⟩ | refine hK _ ?_
    clear hK K
    refine mix_pur2 rfl (fun K hK => ?_)
    go_simp
    first | refine ⟨_, fun _ => rfl, hK _ ?_⟩ | refine hK _ ?_
    clear hK K
    refine mix_pur2 rfl (fun K hK => ?_)
    go_simp
    first | refine ⟨_, fun _ => rfl, hK _ ?_⟩ | refine hK _ ?_
    clear hK K
    refine mix_load2 rfl rfl rfl (.int .i64 (l[i])) (fun w' h => by have h : (WaS w.heap.size (.slice am c.mountains.length cpm) (.slice av c.villages.length cpv) A' (.slice (some ⟨bl, ol, none⟩) l.length cl) l) w' := h; have h0 := h.2.cell i (by omega); go_simp) rfl ?_
    refine mix_eff2 rfl false rfl (fun K hK => ?_)
    go_simp
    refine (plc_c (h0.call hB1) i (by omega) (l[k])).mono ?_
    rintro e w2 ⟨rfl, hC2⟩
    have hB2 := hB1.trans (hC2.mono hB1.size)
    have hS2 := hS1.call hC2
    refine hK _ _ hS2 ?_
    clear hK K
    refine mix_eff2 rfl false rfl (fun K hK => ?_)
    go_simp
    refine (plc_c (h0.call hB2) i (by omega) (l[i])).mono ?_
    rintro e w3 ⟨rfl, hC3⟩
    have hB3 := hB2.trans (hC3.mono hB2.size)
    have hS3 := hS2.call hC3
    refine hK _ _ hS3 ?_
    clear hK K
    refine mix_pur2 rfl (fun K hK => ?_)
    go_simp
    first | refine ⟨_, fun _ => rfl, hK _ ?_⟩ | refine hK _ ?_
    clear hK K
    refine mix_pur2 rfl (fun K hK => ?_)
    go_simp
    first | refine ⟨_, fun _ => rfl, hK _ ?_⟩ | refine hK _ ?_
    clear hK K
    refine mix_pur2 rfl (fun K hK => ?_)
    go_simp
    first | refine ⟨_, fun _ => rfl, hK _ ?_⟩ | refine hK _ ?_
    clear hK K
    refine mix_pur2 rfl (fun K hK => ?_)
    go_simp
    first | refine ⟨_, fun _ => rfl, hK _ ?_⟩ | refine hK _ ?_
    clear hK K
    refine mix_pur2 rfl (fun K hK => ?_)
    go_simp
    first | refine ⟨_, fun _ => rfl, hK _ ?_⟩ | refine hK _ ?_
    clear hK K
    refine mix_pur2 rfl (fun K hK => ?_)
    go_simp
    first | refine ⟨_, fun _ => rfl, hK _ ?_⟩ | refine hK _ ?_
    clear hK K
    refine mix_pur2 rfl (fun K hK => ?_)
    go_simp
    first | refine ⟨_, fun _ => rfl, hK _ ?_⟩ | refine hK _ ?_
    clear hK K
    refine mix_pur2 rfl (fun K hK => ?_)
    go_simp
    first | refine ⟨_, fun _ => rfl, hK _ ?_⟩ | refine hK _ ?_
    clear hK K
    refine mix_pur2 rfl (fun K hK => ?_)
    go_simp
    first | refine ⟨_, fun _ => rfl, hK _ ?_⟩ | refine hK _ ?_
    clear hK K
    refine mix_pur2 rfl (fun K hK => ?_)
    go_simp
    first | refine ⟨_, fun _ => rfl, hK _ ?_⟩ | refine hK _ ?_
    clear hK K
    refine mix_pur2 rfl (fun K hK => ?_)
    go_simp
    first | refine ⟨_, fun _ => rfl, hK _ ?_⟩ | refine hK _ ?_
    clear hK K
    refine mix_pur2 rfl (fun K hK => ?_)
    go_simp
    first | refine ⟨_, fun _ => rfl, hK _ ?_⟩ | refine hK _ ?_
    clear hK K
    refine mix_pur2 rfl (fun K hK => ?_)
    go_simp
    first | refine ⟨_, fun _ => rfl, hK _ ?_⟩ | refine hK _ ?_
    clear hK K
    refine mix_pur2 rfl (fun K hK => ?_)
    go_simp
    first | refine ⟨_, fun _ => rfl, hK _ ?_⟩ | refine hK _ ?_
    clear hK K
    refine mix_pur2 rfl (fun K hK => ?_)
    go_simp
    first | refine ⟨_, fun _ => rfl, hK _ ?_⟩ | refine hK _ ?_
    clear hK K
    refine mix_pur2 rfl (fun K hK => ?_)
    go_simp
    first | refine ⟨_, fun _ => rfl, hK _ ?_⟩ | refine hK _ ?_
    clear hK K
    refine mix_pur2 rfl (fun K hK => ?_)
    go_simp
    first | refine ⟨_, fun _ => rfl, hK _ ?_⟩ | refine hK _ ?_
    clear hK K
    refine mix_pur2 rfl (fun K hK => ?_)
    go_simp
    first | refine ⟨_, fun _ => rfl, hK _ ?_⟩ | refine hK _ ?_
    clear hK K
    refine mix_pur2 rfl (fun K hK => ?_)
    go_simp
    first | refine ⟨_, fun _ => rfl, hK _ ?_⟩ | refine hK _ ?_
    clear hK K
    refine mix_done2 ?_
    go_wp2
    go_ret
    exact ⟨ret_bool (by rw [HE.out, b1]; rfl), hB0.trans (hB3.mono hB0.size)⟩

end Go.Proofs.Ythchpoabncdicaa
