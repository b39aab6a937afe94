/- Allot and Next of mestaref08, Next (lots) for any input; conditions: none. -/
import Derived.Test.YthchpoabncdicaaNext1
import Derived.Test.YthchpoabncdicaaLNext
namespace Go.Proofs.Ythchpoabncdicaa
open Go.RowKit

def nextV (c : Com) (m : Int) : Int := if placesErrE c m = 0 then nxV (nextO c.villages (allotN c.villages m.toNat) c.villages.length) else 0
def nextE (c : Com) (m : Int) : Int := if placesErrE c m = 0 then nxE (nextO c.villages (allotN c.villages m.toNat) c.villages.length) else placesErrE c m

set_option maxRecDepth 100000 in
set_option maxHeartbeats 1000000 in
theorem rallot_c {A : Nat → Prop} {w : World} {v : Value} {vs : List Vil} (h : Vils A w v vs) (hv : VOk vs) (hl : vs.length ≤ 1000) (m : Nat) (hm : m ≤ 900) :
    Calls Try.prog 113 #[v, .int .i64 m] w fun e w' => ∃ v', e = .returned v' ∧ Ints (fun b => w.heap.size ≤ b) w' v' (allotN vs m) ∧ Below w.heap.size w w' := by
  obtain ⟨av, cpv, rfl, _, _⟩ := h.shape
  have hmk := make_ints_fact vs.length (by omega)
  have hI0 := intBlk_made w vs.length
  have hB0 : Below w.heap.size w (w.alloc (.cells (I64 (List.replicate vs.length 0)).toArray 3)) := (Below.refl _ _).alloc (Nat.le_refl _) _
  go_enter Try.func113, Try.ntmps113
  go_wp2_with fail
  generalize w.alloc (.cells (I64 (List.replicate vs.length 0)).toArray 3) = w0 at hI0 hB0 ⊢
  clear hmk
  go_loopw [6] (fun i wr => ∃ k : Nat, k ≤ m ∧ i = .int .i64 k ∧ IntBlk wr w.heap.size (allotN vs k) ∧ Below w.heap.size w wr) (fun i _ => m - (intOf i).toNat)
  case atStart => exact ⟨0, Nat.zero_le _, rfl, hI0, hB0⟩
  case round =>
    obtain ⟨k, hk, rfl, hI, hB⟩ := hrel
    have hlen := allotN_len vs k
    have hbd := allotN_bd vs k
    have hok := allotN_ok vs k (by omega)
    have hnx : allotN vs (k + 1) = allotStep vs (allotN vs k) := rfl
    have hni := hI.ints (by omega)
    have hlti := hI.lt
    rw [hlen] at hni
    by_cases hkm : k < m
    · obtain ⟨ob, hob⟩ : ∃ ob, ob = nextO vs (allotN vs k) vs.length := ⟨_, rfl⟩
      have HO := Lib.hid hob
      have hnl := nextO_lt vs (allotN vs k) vs.length
      rw [← hob] at hnl
      clear hob
      have HN := Lib.hid hnx; clear hnx
      have HL := Lib.hid hlen; clear hlen
      go_wp2_with fail
      refine (rnext_c (h.call hB) hni HL.out hv hok).mono ?_
      rintro e w1 ⟨rfl, hq1⟩
      rw [← HO.out]
      have hI1 := hI.call (hq1.below _)
      have hB2 := hB.trans ((hq1.below wr.heap.size).mono hB.size)
      cases ob with
      | none =>
        have b1 : decide (optI none ≥ 0) = false := by decide
        have hs : allotN vs (k + 1) = allotN vs k := by rw [HN.out, allotStep, ← HO.out]
        rw [← hs] at hI1
        clear hs
        go_wp2_with fail
        go_roundw
        case rel => exact ⟨k + 1, by omega, by go_num, hI1, hB2⟩
        case measure => simp [intOf]; omega
      | some b =>
        have hbv := hnl b rfl
        have hbl : b < (allotN vs k).length := by rw [HL.out]; exact hbv
        have g1 := hI1.cell b hbl
        have f1 := hI1.free b
        have hx := hbd _ (List.getElem_mem hbl)
        have hI2 := hI1.set b ((allotN vs k)[b] + 1)
        have hset : allotN vs (k + 1) = (allotN vs k).set b ((allotN vs k)[b] + 1) := by
          have e : (allotN vs k).getD b 0 = (allotN vs k)[b] := by simp [hbl]
          rw [HN.out, allotStep, ← HO.out]
          show (allotN vs k).set b _ = _
          rw [e]
        rw [← hset] at hI2
        clear hset
        obtain ⟨x, hxx⟩ : ∃ x, x = (allotN vs k)[b] := ⟨_, rfl⟩
        rw [← hxx] at g1 hx hI2
        clear hxx
        dsimp only [optI]
        have b1 : decide ((b : Int) ≥ 0) = true := decide_eq_true (by omega)
        go_wp2
        go_roundw
        case rel => exact ⟨k + 1, by omega, by go_num, hI2, hB2.setCell (Nat.le_refl _) _⟩
        case measure => simp [intOf]; omega
    · obtain rfl : k = m := by omega
      have HL := Lib.hid hlen; clear hlen hnx
      go_wp2
      go_ret
      refine ⟨_, rfl, ?_, hB⟩
      exact hni.wide fun b hb _ => by omega

set_option maxRecDepth 100000 in
set_option maxHeartbeats 1000000 in
theorem rallotF_c {A : Nat → Prop} {w : World} {vm vv : Value} {c : Com} (h : Cm A w vm vv c) (m : Int) :
    Calls Try.prog 63 #[.agg #[vm, vv], .int .i64 m] w fun e w' => ∃ v', e = .returned (.tuple #[v', .int .i64 (placesErrE c m)]) ∧ Ints (fun b => w.heap.size ≤ b) w' v' (allotR c m) ∧ Below w.heap.size w w' := by
  obtain ⟨am, cpm, rfl, _, _⟩ := h.1.shape
  obtain ⟨av, cpv, rfl, _, _⟩ := h.2.shape
  have hB0 : Below w.heap.size w (w.alloc (.cells #[.slice am c.mountains.length cpm, .slice av c.villages.length cpv] 25)) := (Below.refl _ w).alloc (Nat.le_refl _) _
  have hx : Blk w.heap.size #[.slice am c.mountains.length cpm, .slice av c.villages.length cpv] 25 (w.alloc (.cells #[.slice am c.mountains.length cpm, .slice av c.villages.length cpv] 25)) := Blk.new w _ _
  have h0 := h.call hB0
  by_cases he : placesErrE c m = 0
  · have hb : (placesErrE c m != 0) = false := by simpa using he
    have hok := placesErr_ok he
    obtain ⟨k, rfl⟩ : ∃ k : Nat, m = (k : Int) := ⟨m.toNat, by omega⟩
    have hres : allotR c k = allotN c.villages k := by rw [allotR, if_pos he, Int.toNat_natCast]
    have HE := Lib.hid he
    have HR := Lib.hid hres; clear he hres
    go_enter Try.func63, Try.ntmps63
    go_wp2_with fail
    refine (rplaces_c h0 _).mono ?_
    rintro e w1 ⟨rfl, hB1⟩
    have h1 := h0.call hB1
    have hx1 := hx.call hB1
    have hB2 := bnx hB0 hB1
    have y1 := hx1.cell 1
    go_wp2_with (go_at_call 113; refine (rallot_c h1.2 hok.1.vok (by have h5 := hok.1.n2; have h6 := hok.1.vl; omega) k (by omega)).mono ?_; rintro e w2 ⟨v', rfl, hv, hB3⟩)
    go_ret2
    refine ⟨_, ret_pair HE.out.symm, ?_, bnx hB2 hB3⟩
    rw [HR.out]
    exact hv.wide fun b hb _ => by have := hB2.size; omega
  · have hb : (placesErrE c m != 0) = true := by simpa using he
    have hres : allotR c m = [] := by rw [allotR, if_neg he]
    have HE := Lib.hid he
    have HR := Lib.hid hres; clear he hres
    go_enter Try.func63, Try.ntmps63
    go_wp2_with fail
    refine (rplaces_c h0 _).mono ?_
    rintro e w1 ⟨rfl, hB1⟩
    go_wp2
    go_ret2
    refine ⟨_, rfl, ?_, bnx hB0 hB1⟩
    rw [HR.out]
    exact ints_nil _ _

set_option maxRecDepth 100000 in
set_option maxHeartbeats 1000000 in
theorem rnextF_c {A : Nat → Prop} {w : World} {vm vv : Value} {c : Com} (h : Cm A w vm vv c) (hok : c.Ok 4) (m : Nat) (hm : m ≤ 99) :
    Calls Try.prog 66 #[.agg #[vm, vv], .int .i64 m] w fun e w' => e = .returned (.tuple #[.int .i64 (nxV (nextO c.villages (allotN c.villages m) c.villages.length)), .int .i64 (nxE (nextO c.villages (allotN c.villages m) c.villages.length))]) ∧ Below w.heap.size w w' := by
  obtain ⟨am, cpm, rfl, _, _⟩ := h.1.shape
  obtain ⟨av, cpv, rfl, _, _⟩ := h.2.shape
  have hB0 : Below w.heap.size w (w.alloc (.cells #[.slice am c.mountains.length cpm, .slice av c.villages.length cpv] 25)) := (Below.refl _ w).alloc (Nat.le_refl _) _
  have hx : Blk w.heap.size #[.slice am c.mountains.length cpm, .slice av c.villages.length cpv] 25 (w.alloc (.cells #[.slice am c.mountains.length cpm, .slice av c.villages.length cpv] 25)) := Blk.new w _ _
  have h0 := h.call hB0
  have hpe : placesErrE c (m : Int) = 0 := placesErr_of hok hm
  have hpc := rplaces_c h0 (m : Int)
  rw [hpe] at hpc
  have HPC := Lib.hid hpc
  have hvl : c.villages.length ≤ 4 := by have := hok.vl; have := hok.n2; omega
  clear hpe hpc
  go_enter Try.func66, Try.ntmps66
  go_wp2_with fail
  refine HPC.out.mono ?_
  rintro e w1 ⟨rfl, hB1⟩
  have h1 := h0.call hB1
  have hx1 := hx.below hB1 (by simp)
  have hB2 := hB0.trans (hB1.mono hB0.size)
  go_wp2_with fail
  refine wp_region_mix2 (.pur 0 (.one 1 (.pur 2 (.one 3 (.pur 4 (.act 5 (.act 6 (.act 7 .fin)))))))) 99 (Blk w.heap.size #[.slice am c.mountains.length cpm, .slice av c.villages.length cpv] 25) (fun _ => True) (by kernel_rfl) (by kernel_rfl) rfl (by kernel_rfl) hx1 (fun w2 hq2 hS2 => ?_)
  refine mix_pur2 rfl (fun K hK => ?_)
  go_simp
  first | refine ⟨_, fun _ => rfl, hK _ ?_⟩ | refine hK _ ?_
  clear hK K
  refine mix_load2 rfl rfl rfl (.slice av c.villages.length cpv) (fun w' h => by have h : (Blk w.heap.size #[.slice am c.mountains.length cpm, .slice av c.villages.length cpv] 25) w' := h; have h0 := h.cell 1; go_simp) rfl ?_
  refine mix_pur2 rfl (fun K hK => ?_)
  go_simp
  first | refine ⟨_, fun _ => rfl, hK _ ?_⟩ | refine hK _ ?_
  clear hK K
  refine mix_load2 rfl rfl rfl (.slice av c.villages.length cpv) (fun w' h => by have h : (Blk w.heap.size #[.slice am c.mountains.length cpm, .slice av c.villages.length cpv] 25) w' := h; have h0 := h.cell 1; go_simp) rfl ?_
  refine mix_pur2 rfl (fun K hK => ?_)
  go_simp
  first | refine ⟨_, fun _ => rfl, hK _ ?_⟩ | refine hK _ ?_
  clear hK K
  refine mix_eff2 rfl false rfl (fun K hK => ?_)
  go_simp
  refine (rallot_c (h1.2.qt hq2) hok.vok (by omega) m (by omega)).mono ?_
  rintro e w3 ⟨v3, rfl, hv3, hB3⟩
  have hS3 := hS2.call hB3
  refine hK _ _ hS3 ?_
  clear hK K
  refine mix_eff2 rfl false rfl (fun K hK => ?_)
  go_simp
  refine (rnext_c ((h1.2.qt hq2).call hB3) hv3 (by rw [allotN_len]) hok.vok (allotN_ok _ _ (by omega))).mono ?_
  rintro e w4 ⟨rfl, hq4⟩
  have hB4 := hq4.below w3.heap.size
  refine hK _ _ (hS3.call hB4) ?_
  clear hK K
  refine mix_eff2 rfl false rfl (fun K hK => ?_)
  go_simp
  refine hK _ _ (hS3.call hB4) ?_
  clear hK K
  refine mix_done2 ?_
  have hB5 : Below w.heap.size w w4 := ((hB2.trans (hq2.below _)).trans (hB3.mono (by rw [hq2.size]; exact hB2.size))).trans (hB4.mono (by have := hB3.size; have := hq2.size; have := hB2.size; omega))
  cases ho : nextO c.villages (allotN c.villages m) c.villages.length with
  | none =>
    have HO := Lib.hid ho
    clear ho
    have ho1 : optI (none : Option Nat) = -1 := rfl
    go_wp2
    go_ret2
    exact ⟨by rw [HO.out]; rfl, hB5⟩
  | some i =>
    have HO := Lib.hid ho
    clear ho
    have ho1 : optI (some i) = (i : Int) := rfl
    go_wp2
    go_ret2
    exact ⟨by rw [HO.out]; rfl, hB5⟩


set_option maxRecDepth 100000 in
set_option maxHeartbeats 1000000 in
theorem nextA_c {A : Nat → Prop} {w : World} {vm vv : Value} {c : Com} (h : Cm A w vm vv c) (m : Int) :
    Calls Try.prog 50 #[.agg #[vm, vv], .int .i64 m] w fun e w' => e = .returned (.tuple #[.int .i64 (nextV c m), .int .i64 (nextE c m)]) ∧ Below w.heap.size w w' := by
  by_cases he : placesErrE c m = 0
  · obtain ⟨hok, h1, h2⟩ := placesErr_ok he
    obtain ⟨k, rfl⟩ : ∃ k : Nat, m = (k : Int) := ⟨m.toNat, by omega⟩
    rw [nextV, nextE, if_pos he, if_pos he, Int.toNat_natCast]
    exact nextF_c h hok k (by omega)
  · obtain ⟨am, cpm, rfl, _, _⟩ := h.1.shape
    obtain ⟨av, cpv, rfl, _, _⟩ := h.2.shape
    have hB0 : Below w.heap.size w (w.alloc (.cells #[.slice am c.mountains.length cpm, .slice av c.villages.length cpv] 25)) := (Below.refl _ w).alloc (Nat.le_refl _) _
    have h0 := h.call hB0
    have hb : (placesErrE c m != 0) = true := by simpa using he
    rw [nextV, nextE, if_neg he, if_neg he]
    clear he
    go_enter Try.func50, Try.ntmps50
    go_wp2_with fail
    refine (placesError_c h0 _).mono ?_
    rintro e w1 ⟨rfl, hB1⟩
    go_wp2
    go_ret2
    exact ⟨rfl, bnx hB0 hB1⟩

set_option maxRecDepth 100000 in
set_option maxHeartbeats 1000000 in
theorem rnextA_c {A : Nat → Prop} {w : World} {vm vv : Value} {c : Com} (h : Cm A w vm vv c) (m : Int) :
    Calls Try.prog 66 #[.agg #[vm, vv], .int .i64 m] w fun e w' => e = .returned (.tuple #[.int .i64 (nextV c m), .int .i64 (nextE c m)]) ∧ Below w.heap.size w w' := by
  by_cases he : placesErrE c m = 0
  · obtain ⟨hok, h1, h2⟩ := placesErr_ok he
    obtain ⟨k, rfl⟩ : ∃ k : Nat, m = (k : Int) := ⟨m.toNat, by omega⟩
    rw [nextV, nextE, if_pos he, if_pos he, Int.toNat_natCast]
    exact rnextF_c h hok k (by omega)
  · obtain ⟨am, cpm, rfl, _, _⟩ := h.1.shape
    obtain ⟨av, cpv, rfl, _, _⟩ := h.2.shape
    have hB0 : Below w.heap.size w (w.alloc (.cells #[.slice am c.mountains.length cpm, .slice av c.villages.length cpv] 25)) := (Below.refl _ w).alloc (Nat.le_refl _) _
    have h0 := h.call hB0
    have hb : (placesErrE c m != 0) = true := by simpa using he
    rw [nextV, nextE, if_neg he, if_neg he]
    clear he
    go_enter Try.func66, Try.ntmps66
    go_wp2_with fail
    refine (rplaces_c h0 _).mono ?_
    rintro e w1 ⟨rfl, hB1⟩
    go_wp2
    go_ret2
    exact ⟨rfl, bnx hB0 hB1⟩

end Go.Proofs.Ythchpoabncdicaa
