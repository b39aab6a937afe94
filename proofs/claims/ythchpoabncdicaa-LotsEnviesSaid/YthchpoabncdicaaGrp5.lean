/- Envy, Over and Group of mestaref08; conditions: none. -/
import Derived.Test.YthchpoabncdicaaGrp4
namespace Go.Proofs.Ythchpoabncdicaa
open Go.RowKit

set_option maxRecDepth 100000 in
set_option maxHeartbeats 2000000 in
theorem renvyR_c {A A' : Nat → Prop} {w : World} {vm vv vd : Value} {c : Com} {l : List Int} (h : Cm A w vm vv c) (hd : Ints A' w vd l) :
    Calls Try.prog 73 #[.agg #[vm, vv], vd] w fun e w' => ∃ v', e = .returned (.tuple #[v', .int .i64 (divE c l)]) ∧ Ints (fun b => w.heap.size ≤ b) w' v' (envyR c l) ∧ Below w.heap.size w w' := by
  obtain ⟨am, cpm, rfl, _, _⟩ := h.1.shape
  obtain ⟨av, cpv, rfl, _, _⟩ := h.2.shape
  have hB0 : Below w.heap.size w (w.alloc (.cells #[.slice am c.mountains.length cpm, .slice av c.villages.length cpv] 25)) := (Below.refl _ w).alloc (Nat.le_refl _) _
  have hbx : Blk w.heap.size #[.slice am c.mountains.length cpm, .slice av c.villages.length cpv] 25 (w.alloc (.cells #[.slice am c.mountains.length cpm, .slice av c.villages.length cpv] 25)) := Blk.new w _ _
  have h0 := h.call hB0
  have hd0 := hd.call hB0
  by_cases he : divE c l = 0
  · rw [envyR, if_pos he, he]
    have hok := (divE_ok he).1
    have hpm := (divE_ok he).2
    have hpv : PermOf c.villages.length l := by rw [hok.vl]; exact hpm
    have hlv := hpv.len
    have hl4 : l.length ≤ 4 := by have := hok.vl; have := hok.n2; omega
    have hl1 : 1 ≤ l.length := by have := hok.vl; have := hok.n1; omega
    obtain ⟨ad, cpd, rfl, _, _⟩ := hd.shape
    obtain ⟨db, dO, rfl, -, hdb, hdc⟩ := hd.addr hl1
    have hmem := hpv.mem
    have b0 : ((0 : Int) != 0) = false := rfl
    have hlen : (envyL c.villages l).length = l.length := envyL_len _ _
    have hat : ∀ k (hk : k < l.length), (envyL c.villages l).take (k + 1) = (envyL c.villages l).take k ++ [(rk c.villages k l[k])] := fun k hk => by
      rw [List.take_succ_eq_append_getElem (by rw [hlen]; exact hk)]
      rw [envyL_at, envy_rk (vs := c.villages) (d := l) (v := k) (by omega) (Eq.mp (congrArg (fun n => PermOf n _) (show c.mountains.length = l.length by rw [hlv]; exact hok.vl.symm)) (hok.vil _ (List.getElem_mem (show k < c.villages.length by omega))).2.2.2.2) (by rw [hlv]; exact hpv) hk]
      have : l.getD k 0 = l[k] := by simp [hk]
      rw [this]
    obtain ⟨L, hL⟩ : ∃ L, L = envyL c.villages l := ⟨_, rfl⟩
    rw [← hL] at hlen
    simp only [← hL] at hat
    rw [← hL]
    have hlvn : l.length ≤ c.villages.length := by omega
    have hvm : c.villages.length = c.mountains.length := hok.vl
    have HE := Lib.hid he
    have HAT := Lib.hid hat
    have HLEN := Lib.hid hlen
    have HMEM := Lib.hid hmem
    have HDC := Lib.hid hdc
    have HVM := Lib.hid hvm
    have HPV := Lib.hid hpv
    have HLV := Lib.hid hlv
    clear he hat hlen hmem hdc hvm hpv hpm hL hlv
    go_enter Try.func73, Try.ntmps73
    go_wp2_with fail
    refine (asked_c h0 hd0).mono ?_
    rintro e w1 ⟨rfl, hB1⟩
    rw [HE.out]
    have h1 := h0.call hB1
    have hbx1 := hbx.call hB1
    have hT1 := bnx hB0 hB1
    have hdl1 : db < w1.heap.size := by have := hT1.size; omega
    have hdc1 := fun k (hk : k < l.length) => (World.cell?_of_block (hT1.block db hdb)).trans (HDC.out k hk)
    have HDC1 := Lib.hid hdc1
    clear h0 hd0 hbx hB0 hB1 HDC hdc1
    go_wp2_with fail
    go_loopw [7, 8] (fun s7 i wr => ∃ k : Nat, k ≤ l.length ∧ i = .int .i64 k ∧ Own w1.heap.size wr 3 1 s7 k (I64 (L.take k)) ∧ Below w1.heap.size w1 wr) (fun _ i _ => l.length - (intOf i).toNat)
    case atStart => exact ⟨0, Nat.zero_le _, rfl, Own.nil, Below.refl _ _⟩
    case round =>
      obtain ⟨k, hk, rfl, ho, hB⟩ := hrel
      have hsr := hB.size
      by_cases hlt : k < l.length
      · have hts := HAT.out k hlt
        have hxm := (HMEM.out l[k]).1 (List.getElem_mem hlt)
        have g1 := HDC1.out k hlt
        have hkv : k < c.villages.length := by omega
        have hlk := (hok.vil _ (List.getElem_mem hkv)).2.2.2.2
        obtain ⟨x, hx⟩ : ∃ x : Nat, l[k] = (x : Int) := ⟨l[k].toNat, by omega⟩
        rw [hx] at hts hxm g1
        have hxv : x < c.mountains.length := by have := HVM.out; omega
        have hxl : (x : Int) ∈ c.villages[k].likes := (hlk.mem _).2 (by omega)
        have HTS := Lib.hid hts
        have hE : ∀ w', Below w1.heap.size w1 w' → (SuS w.heap.size (.slice am c.mountains.length cpm) (.slice av c.villages.length cpv) db (dO + k) x) w' := fun w' h' => ⟨hbx1.call h', (World.cell?_of_block (h'.block db hdl1)).trans g1⟩
        clear hts g1 hx hlk
        go_wp2_with fail
        refine wp_region_mix2 (.pur 0 (.one 1 (.pur 2 (.pur 3 (.pur 4 (.pur 5 (.one 6 (.act 7 (.act 8 (.act 9 (.pur 10 .fin))))))))))) 99 (SuS w.heap.size (.slice am c.mountains.length cpm) (.slice av c.villages.length cpv) db (dO + k) x) (fun _ => True) (by kernel_rfl) (by kernel_rfl) rfl (by kernel_rfl) (hE _ hB).drew (fun wd hqd _ => ?_)
        refine mix_pur2 rfl (fun K hK => ?_)
        go_simp
        first | refine ⟨_, fun _ => rfl, hK _ ?_⟩ | refine hK _ ?_
        clear hK K
        refine mix_load2 rfl rfl rfl (.agg #[.slice am c.mountains.length cpm, .slice av c.villages.length cpv]) (fun w' h => by have h : (SuS w.heap.size (.slice am c.mountains.length cpm) (.slice av c.villages.length cpv) db (dO + k) x) w' := h; have h0 := h.1.cell 0; have h1 := h.1.cell 1; go_simp) rfl ?_
        refine mix_pur2 rfl (fun K hK => ?_)
        go_simp
        first | refine ⟨_, fun _ => rfl, hK _ ?_⟩ | refine hK _ ?_
        clear hK K
        refine mix_pur2 rfl (fun K hK => ?_)
        go_simp
        first | refine ⟨_, fun _ => rfl, hK _ ?_⟩ | refine hK _ ?_
        clear hK K
        refine mix_pur2 rfl (fun K hK => ?_)
        go_simp
        first | refine ⟨_, fun _ => rfl, hK _ ?_⟩ | refine hK _ ?_
        clear hK K
        refine mix_pur2 rfl (fun K hK => ?_)
        go_simp
        first | refine ⟨_, fun _ => rfl, hK _ ?_⟩ | refine hK _ ?_
        clear hK K
        refine mix_load2 rfl rfl rfl (.int .i64 x) (fun w' h => by have h : (SuS w.heap.size (.slice am c.mountains.length cpm) (.slice av c.villages.length cpv) db (dO + k) x) w' := h; have h0 := h.2; go_simp) rfl ?_
        refine mix_eff2 rfl false rfl (fun K hK => ?_)
        go_simp
        refine (rrank_c (h1.call (bnx hB (hqd.below _))) k hkv x hxl).mono ?_
        rintro e w4 ⟨rfl, hB4⟩
        have hB5 := bnx (bnx hB (hqd.below _)) hB4
        have ho5 := Own.call (ho.qt hqd) hB4
        refine hK _ _ (hE _ hB5) ?_
        clear hK K
        refine mix_eff2 rfl false rfl (fun K hK => ?_)
        go_simp
        refine hK _ _ (hE _ (bal hB5)) ?_
        clear hK K
        refine mix_eff2 rfl false rfl (fun K hK => ?_)
        refine step_append_arr rfl _ _ 22 rfl 3 (.int .i64 0) 1 8 Try.underlying22 Try.info3 rfl (by decide) (by decide) (by have := hB5.size; simp; omega) (ho5.alloc _) rfl (arr_one w4 3 (.int .i64 (rk c.villages k x))) rfl rfl (one_int _) (by omega) ?_
        intro v6 w6 hown hT6
        have hB6 := hT6.below (ho5.alloc _) (bal hB5) (by have := hB5.size; simp; omega)
        refine hK _ _ (hE _ hB6) ?_
        clear hK K
        refine mix_pur2 rfl (fun K hK => ?_)
        go_simp
        first | refine ⟨_, fun _ => rfl, hK _ ?_⟩ | refine hK _ ?_
        clear hK K
        refine mix_done2 ?_
        go_wp2_with fail
        go_roundw
        case rel => exact ⟨k + 1, by omega, by go_num, by rw [HTS.out, I64_append]; exact hown, hB6⟩
        case measure => simp [intOf]; omega
      · obtain rfl : k = l.length := by omega
        rw [List.take_of_length_le (by rw [HLEN.out]; exact Nat.le_refl _)] at ho
        have hoi := Own.intsL HLEN.out ho
        go_wp2_with fail
        go_ret2
        exact ⟨_, rfl, hoi.wide fun b hb _ => by have := hT1.size; omega, bnx hT1 hB⟩
  · rw [envyR, if_neg he]
    have hb : (divE c l != 0) = true := by simpa using he
    clear he
    go_enter Try.func73, Try.ntmps73
    go_wp2_with fail
    refine (asked_c h0 hd0).mono ?_
    rintro e w1 ⟨rfl, hB1⟩
    go_wp2
    go_ret2
    exact ⟨_, rfl, ints_nil _ _, bnx hB0 hB1⟩

set_option maxRecDepth 100000 in
set_option maxHeartbeats 2000000 in
theorem roverR_c {A A' : Nat → Prop} {w : World} {vm vv vd : Value} {c : Com} {l : List Int} (h : Cm A w vm vv c) (hd : Ints A' w vd l) :
    Calls Try.prog 74 #[.agg #[vm, vv], vd] w fun e w' => ∃ v', e = .returned (.tuple #[v', .int .i64 (divE c l)]) ∧ Ints (fun b => w.heap.size ≤ b) w' v' (overR c l) ∧ Below w.heap.size w w' := by
  obtain ⟨am, cpm, rfl, _, _⟩ := h.1.shape
  obtain ⟨av, cpv, rfl, _, _⟩ := h.2.shape
  have hB0 : Below w.heap.size w (w.alloc (.cells #[.slice am c.mountains.length cpm, .slice av c.villages.length cpv] 25)) := (Below.refl _ w).alloc (Nat.le_refl _) _
  have hbx : Blk w.heap.size #[.slice am c.mountains.length cpm, .slice av c.villages.length cpv] 25 (w.alloc (.cells #[.slice am c.mountains.length cpm, .slice av c.villages.length cpv] 25)) := Blk.new w _ _
  have h0 := h.call hB0
  have hd0 := hd.call hB0
  by_cases he : divE c l = 0
  · rw [overR, if_pos he, he]
    have hok := (divE_ok he).1
    have hpm := (divE_ok he).2
    have hpv : PermOf c.villages.length l := by rw [hok.vl]; exact hpm
    have hlv := hpv.len
    have hl4 : l.length ≤ 4 := by have := hok.vl; have := hok.n2; omega
    have hl1 : 1 ≤ l.length := by have := hok.vl; have := hok.n1; omega
    obtain ⟨ad, cpd, rfl, _, _⟩ := hd.shape
    obtain ⟨db, dO, rfl, -, hdb, hdc⟩ := hd.addr hl1
    have hmem := hpv.mem
    have b0 : ((0 : Int) != 0) = false := rfl
    have hlen : (overL c l).length = l.length := overL_len _ _
    have hat : ∀ k (hk : k < l.length), (overL c l).take (k + 1) = (overL c l).take k ++ [(overV c k l[k])] := fun k hk => by
      rw [List.take_succ_eq_append_getElem (by rw [hlen]; exact hk)]
      rw [overL_at]
      have : l.getD k 0 = l[k] := by simp [hk]
      rw [this]
    obtain ⟨L, hL⟩ : ∃ L, L = overL c l := ⟨_, rfl⟩
    rw [← hL] at hlen
    simp only [← hL] at hat
    rw [← hL]
    have hlvn : l.length ≤ c.villages.length := by omega
    have hvm : c.villages.length = c.mountains.length := hok.vl
    have HE := Lib.hid he
    have HAT := Lib.hid hat
    have HLEN := Lib.hid hlen
    have HMEM := Lib.hid hmem
    have HDC := Lib.hid hdc
    have HVM := Lib.hid hvm
    have HPV := Lib.hid hpv
    have HLV := Lib.hid hlv
    clear he hat hlen hmem hdc hvm hpv hpm hL hlv
    go_enter Try.func74, Try.ntmps74
    go_wp2_with fail
    refine (asked_c h0 hd0).mono ?_
    rintro e w1 ⟨rfl, hB1⟩
    rw [HE.out]
    have h1 := h0.call hB1
    have hbx1 := hbx.call hB1
    have hT1 := bnx hB0 hB1
    have hdl1 : db < w1.heap.size := by have := hT1.size; omega
    have hdc1 := fun k (hk : k < l.length) => (World.cell?_of_block (hT1.block db hdb)).trans (HDC.out k hk)
    have HDC1 := Lib.hid hdc1
    clear h0 hd0 hbx hB0 hB1 HDC hdc1
    go_wp2_with fail
    go_loopw [7, 8] (fun s7 i wr => ∃ k : Nat, k ≤ l.length ∧ i = .int .i64 k ∧ Own w1.heap.size wr 3 1 s7 k (I64 (L.take k)) ∧ Below w1.heap.size w1 wr) (fun _ i _ => l.length - (intOf i).toNat)
    case atStart => exact ⟨0, Nat.zero_le _, rfl, Own.nil, Below.refl _ _⟩
    case round =>
      obtain ⟨k, hk, rfl, ho, hB⟩ := hrel
      have hsr := hB.size
      by_cases hlt : k < l.length
      · have hts := HAT.out k hlt
        have hxm := (HMEM.out l[k]).1 (List.getElem_mem hlt)
        have g1 := HDC1.out k hlt
        have hkv : k < c.villages.length := by omega
        have hlk := (hok.vil _ (List.getElem_mem hkv)).2.2.2.2
        obtain ⟨x, hx⟩ : ∃ x : Nat, l[k] = (x : Int) := ⟨l[k].toNat, by omega⟩
        rw [hx] at hts hxm g1
        have hxv : x < c.mountains.length := by have := HVM.out; omega
        have hxl : (x : Int) ∈ c.villages[k].likes := (hlk.mem _).2 (by omega)
        have HTS := Lib.hid hts
        have hE : ∀ w', Below w1.heap.size w1 w' → (SuS w.heap.size (.slice am c.mountains.length cpm) (.slice av c.villages.length cpv) db (dO + k) x) w' := fun w' h' => ⟨hbx1.call h', (World.cell?_of_block (h'.block db hdl1)).trans g1⟩
        clear hts g1 hx hlk
        go_wp2_with fail
        refine wp_region_mix2 (.pur 0 (.one 1 (.pur 2 (.pur 3 (.pur 4 (.pur 5 (.one 6 (.act 7 (.act 8 (.act 9 (.pur 10 .fin))))))))))) 99 (SuS w.heap.size (.slice am c.mountains.length cpm) (.slice av c.villages.length cpv) db (dO + k) x) (fun _ => True) (by kernel_rfl) (by kernel_rfl) rfl (by kernel_rfl) (hE _ hB).drew (fun wd hqd _ => ?_)
        refine mix_pur2 rfl (fun K hK => ?_)
        go_simp
        first | refine ⟨_, fun _ => rfl, hK _ ?_⟩ | refine hK _ ?_
        clear hK K
        refine mix_load2 rfl rfl rfl (.agg #[.slice am c.mountains.length cpm, .slice av c.villages.length cpv]) (fun w' h => by have h : (SuS w.heap.size (.slice am c.mountains.length cpm) (.slice av c.villages.length cpv) db (dO + k) x) w' := h; have h0 := h.1.cell 0; have h1 := h.1.cell 1; go_simp) rfl ?_
        refine mix_pur2 rfl (fun K hK => ?_)
        go_simp
        first | refine ⟨_, fun _ => rfl, hK _ ?_⟩ | refine hK _ ?_
        clear hK K
        refine mix_pur2 rfl (fun K hK => ?_)
        go_simp
        first | refine ⟨_, fun _ => rfl, hK _ ?_⟩ | refine hK _ ?_
        clear hK K
        refine mix_pur2 rfl (fun K hK => ?_)
        go_simp
        first | refine ⟨_, fun _ => rfl, hK _ ?_⟩ | refine hK _ ?_
        clear hK K
        refine mix_pur2 rfl (fun K hK => ?_)
        go_simp
        first | refine ⟨_, fun _ => rfl, hK _ ?_⟩ | refine hK _ ?_
        clear hK K
        refine mix_load2 rfl rfl rfl (.int .i64 x) (fun w' h => by have h : (SuS w.heap.size (.slice am c.mountains.length cpm) (.slice av c.villages.length cpv) db (dO + k) x) w' := h; have h0 := h.2; go_simp) rfl ?_
        refine mix_eff2 rfl false rfl (fun K hK => ?_)
        go_simp
        refine (rover_c (h1.call (bnx hB (hqd.below _))) hok k x hkv hxv).mono ?_
        rintro e w4 ⟨rfl, hB4⟩
        have hB5 := bnx (bnx hB (hqd.below _)) hB4
        have ho5 := Own.call (ho.qt hqd) hB4
        refine hK _ _ (hE _ hB5) ?_
        clear hK K
        refine mix_eff2 rfl false rfl (fun K hK => ?_)
        go_simp
        refine hK _ _ (hE _ (bal hB5)) ?_
        clear hK K
        refine mix_eff2 rfl false rfl (fun K hK => ?_)
        refine step_append_arr rfl _ _ 22 rfl 3 (.int .i64 0) 1 8 Try.underlying22 Try.info3 rfl (by decide) (by decide) (by have := hB5.size; simp; omega) (ho5.alloc _) rfl (arr_one w4 3 (.int .i64 (overV c k x))) rfl rfl (one_int _) (by omega) ?_
        intro v6 w6 hown hT6
        have hB6 := hT6.below (ho5.alloc _) (bal hB5) (by have := hB5.size; simp; omega)
        refine hK _ _ (hE _ hB6) ?_
        clear hK K
        refine mix_pur2 rfl (fun K hK => ?_)
        go_simp
        first | refine ⟨_, fun _ => rfl, hK _ ?_⟩ | refine hK _ ?_
        clear hK K
        refine mix_done2 ?_
        go_wp2_with fail
        go_roundw
        case rel => exact ⟨k + 1, by omega, by go_num, by rw [HTS.out, I64_append]; exact hown, hB6⟩
        case measure => simp [intOf]; omega
      · obtain rfl : k = l.length := by omega
        rw [List.take_of_length_le (by rw [HLEN.out]; exact Nat.le_refl _)] at ho
        have hoi := Own.intsL HLEN.out ho
        go_wp2_with fail
        go_ret2
        exact ⟨_, rfl, hoi.wide fun b hb _ => by have := hT1.size; omega, bnx hT1 hB⟩
  · rw [overR, if_neg he]
    have hb : (divE c l != 0) = true := by simpa using he
    clear he
    go_enter Try.func74, Try.ntmps74
    go_wp2_with fail
    refine (asked_c h0 hd0).mono ?_
    rintro e w1 ⟨rfl, hB1⟩
    go_wp2
    go_ret2
    exact ⟨_, rfl, ints_nil _ _, bnx hB0 hB1⟩

set_option maxRecDepth 100000 in
set_option maxHeartbeats 4000000 in
theorem rgroup_good {A A' : Nat → Prop} {w : World} {vm vv vd : Value} {c : Com} {l : List Int} (h : Cm A w vm vv c) (hd : Ints A' w vd l) (he : divE c l = 0) :
    Calls Try.prog 75 #[.agg #[vm, vv], vd] w fun e w' => ∃ v', e = .returned (.tuple #[v', .int .i64 (groupE c l)]) ∧ Ints (fun b => w.heap.size ≤ b) w' v' (groupR c l) ∧ Below w.heap.size w w' := by
  obtain ⟨am, cpm, rfl, _, _⟩ := h.1.shape
  obtain ⟨av, cpv, rfl, _, _⟩ := h.2.shape
  have hok := (divE_ok he).1
  have hpm := (divE_ok he).2
  have hpv : PermOf c.villages.length l := by rw [hok.vl]; exact hpm
  have hlv := hpv.len
  have hvl4 : c.villages.length ≤ 4 := by have := hok.vl; have := hok.n2; omega
  have hl4 : l.length ≤ 4 := by omega
  have hl1 : 1 ≤ l.length := by have := hok.vl; have := hok.n1; omega
  obtain ⟨ad, cpd, rfl, _, _⟩ := hd.shape
  have hB0 : Below w.heap.size w (w.alloc (.cells #[.slice am c.mountains.length cpm, .slice av c.villages.length cpv] 25)) := (Below.refl _ w).alloc (Nat.le_refl _) _
  have hbx : Blk w.heap.size #[.slice am c.mountains.length cpm, .slice av c.villages.length cpv] 25 (w.alloc (.cells #[.slice am c.mountains.length cpm, .slice av c.villages.length cpv] 25)) := Blk.new w _ _
  have h0 := h.call hB0
  have hd0 := hd.call hB0
  have b0 : ((0 : Int) != 0) = false := rfl
  have hgr : groupR c l = (grpF (betterB c.villages l) l.length).getD [] := by rw [groupR, if_pos he, hlv]
  have hge : groupE c l = (match grpF (betterB c.villages l) l.length with | some _ => 0 | none => 11) := by rw [groupE, if_pos he, hlv]; rfl
  have HE := Lib.hid he
  have HPV := Lib.hid hpv
  have HLV := Lib.hid hlv
  have HGR := Lib.hid hgr
  have HGE := Lib.hid hge
  clear he hpv hpm hlv hgr hge
  go_enter Try.func75, Try.ntmps75
  go_wp2_with fail
  refine (asked_c h0 hd0).mono ?_
  rintro e w1 ⟨rfl, hB1⟩
  rw [HE.out]
  have h1 := h0.call hB1
  have hd1 := hd0.call hB1
  have hbx1 := hbx.call hB1
  have hT1 := bnx hB0 hB1
  clear h0 hd0 hbx hB0 hB1
  go_wp2_with fail
  go_loopw [7] (fun s7 wr => ∃ m : Nat, m ≤ l.length ∧ s7 = .int .i64 ((m + 1 : Nat) : Int) ∧ (∀ m', m' < m → ∀ x ∈ picksL l.length (m' + 1) 0, betterB c.villages l x = false) ∧ Below w1.heap.size w1 wr) (fun s7 _ => 5 - (intOf s7).toNat)
  case atStart => exact ⟨0, Nat.zero_le _, rfl, fun m' h => by omega, Below.refl _ _⟩
  case round =>
    obtain ⟨m, hm, rfl, hno, hB⟩ := hrel
    have HNO := Lib.hid hno
    clear hno
    by_cases hml : m < l.length
    · have bm : decide (((m + 1 : Nat) : Int) ≤ (l.length : Int)) = true := decide_eq_true (by omega)
      have hgc := groups_c (n := l.length) hl4 (m + 1) (by omega) 0 (by omega) wr
      have hpa := picksL_ok (n := l.length) hl4 (m := m + 1) (by omega)
      have hpl := (picksL_len (n := l.length) hl4 (m + 1) (by omega) 0 (by omega)).1
      rw [show ((0 : Nat) : Int) = 0 from rfl] at hgc
      obtain ⟨P, hP⟩ : ∃ P, P = picksL l.length (m + 1) 0 := ⟨_, rfl⟩
      rw [← hP] at hgc hpa hpl
      have HGC := Lib.hid hgc
      have HPA := Lib.hid hpa
      have HP := Lib.hid hP
      clear hgc hpa hP
      obtain ⟨M, hM⟩ : ∃ M, M = ((m + 1 : Nat) : Int) := ⟨_, rfl⟩
      rw [← hM] at bm HGC ⊢
      have HM := Lib.hid hM
      have hM1 : 1 ≤ M := by omega
      have hM4 : M ≤ 4 := by omega
      clear hM
      go_wp2_with fail
      refine HGC.out.mono ?_
      rintro e w3 ⟨vg, rfl, hG, hBg⟩
      have hB3 := bnx hB hBg
      have hC3 := h1.call hB3
      have hd3 := hd1.call hB3
      have hbx3 := hbx1.call hB3
      have hsr3 := hB3.size
      obtain ⟨ag, cg, rfl, _, _⟩ := hG.shape
      clear HGC hBg
      go_wp2_with fail
      go_loopw [9] (fun s9 wx => ∃ i : Nat, i ≤ P.length ∧ s9 = .int .i64 i ∧ (∀ x ∈ P.take i, betterB c.villages l x = false) ∧ Below w3.heap.size w3 wx) (fun s9 _ => P.length - (intOf s9).toNat)
      case atStart => exact ⟨0, Nat.zero_le _, rfl, fun x hx => by simp at hx, Below.refl _ _⟩
      case round =>
        rename World => wx
        obtain ⟨i, hi, rfl, hni, hBx⟩ := hrel
        have HNI := Lib.hid hni
        clear hni
        by_cases hil : i < P.length
        · obtain ⟨gb, go, rfl, -, hgb⟩ := hG.addr (by omega)
          obtain ⟨ga, gc, r1, hGS⟩ := hG.row i hil
          obtain ⟨s1, s2, s3⟩ := HPA.out _ (List.getElem_mem hil)
          have hts : P.take (i + 1) = P.take i ++ [P[i]] := List.take_succ_eq_append_getElem hil
          have hsp : P = P.take i ++ P[i] :: P.drop (i + 1) := (List.take_append_drop i P).symm.trans (by rw [List.drop_eq_getElem_cons hil])
          obtain ⟨S, hS⟩ : ∃ S, S = P[i] := ⟨_, rfl⟩
          rw [← hS] at r1 hGS s1 s2 s3 hts
          have hsp2 : P = P.take i ++ S :: P.drop (i + 1) := by rw [hS]; exact hsp
          have HSP := Lib.hid hsp2
          have HTS := Lib.hid hts
          have hS1 : 1 ≤ S.length := by omega
          have hS4 : S.length ≤ 4 := by omega
          have hsn : ∀ x ∈ S, 0 ≤ x ∧ x < (c.villages.length : Int) := fun x hx => by have := s3 x hx; have := HLV.out; omega
          have HSN := Lib.hid hsn
          have hE : ∀ w', Below w3.heap.size w3 w' → (CkS w.heap.size (.slice am c.mountains.length cpm) (.slice av c.villages.length cpv) gb (go + i) (.slice ga S.length gc)) w' := fun w' h' => ⟨hbx3.call h', (World.cell?_of_block (h'.block gb hgb)).trans r1⟩
          have r2 := fun w' h' => (hE w' h').2
          clear hsp hsp2 hts hS s1 s2 s3 hsn r1
          go_wp2_with fail
          refine wp_region_mix2 (.one 0 (.pur 1 (.pur 2 (.pur 3 (.pur 4 (.one 5 (.act 6 .fin))))))) 99 (CkS w.heap.size (.slice am c.mountains.length cpm) (.slice av c.villages.length cpv) gb (go + i) (.slice ga S.length gc)) (fun _ => True) (by kernel_rfl) (by kernel_rfl) rfl (by kernel_rfl) (hE _ hBx).drew (fun wd hqd _ => ?_)
          refine mix_load2 rfl rfl rfl (.agg #[.slice am c.mountains.length cpm, .slice av c.villages.length cpv]) (fun w' h => by have h : (CkS w.heap.size (.slice am c.mountains.length cpm) (.slice av c.villages.length cpv) gb (go + i) (.slice ga S.length gc)) w' := h; have h0 := h.1.cell 0; have h1 := h.1.cell 1; go_simp) rfl ?_
          refine mix_pur2 rfl (fun K hK => ?_)
          go_simp
          first | refine ⟨_, fun _ => rfl, hK _ ?_⟩ | refine hK _ ?_
          clear hK K
          refine mix_pur2 rfl (fun K hK => ?_)
          go_simp
          first | refine ⟨_, fun _ => rfl, hK _ ?_⟩ | refine hK _ ?_
          clear hK K
          refine mix_pur2 rfl (fun K hK => ?_)
          go_simp
          first | refine ⟨_, fun _ => rfl, hK _ ?_⟩ | refine hK _ ?_
          clear hK K
          refine mix_pur2 rfl (fun K hK => ?_)
          go_simp
          first | refine ⟨_, fun _ => rfl, hK _ ?_⟩ | refine hK _ ?_
          clear hK K
          refine mix_load2 rfl rfl rfl (.slice ga S.length gc) (fun w' h => by have h : (CkS w.heap.size (.slice am c.mountains.length cpm) (.slice av c.villages.length cpv) gb (go + i) (.slice ga S.length gc)) w' := h; have h0 := h.2; go_simp) rfl ?_
          refine mix_eff2 rfl false rfl (fun K hK => ?_)
          go_simp
          refine (rbetter_c (hC3.call (bnx hBx (hqd.below _))) hok (hd3.call (bnx hBx (hqd.below _))) HPV.out (hGS.call (bnx hBx (hqd.below _))) hS1 hS4 HSN.out).mono ?_
          rintro e w8 ⟨rfl, hB8⟩
          have hB9 := bnx (bnx hBx (hqd.below _)) hB8
          refine hK _ _ (hE _ hB9) ?_
          clear hK K
          refine mix_done2 ?_
          have r3 := r2 _ hB9
          have hGS9 := hGS.call hB9
          obtain ⟨u, hu⟩ : ∃ u, u = betterB c.villages l S := ⟨_, rfl⟩
          rw [← hu]
          have HU := Lib.hid hu
          clear hu hqd hB8 hE r2
          cases u with
          | true =>
            have hf : grpF (betterB c.villages l) l.length = some S := find_flat (m := m) hml (by rw [← HP.out]; exact HSP.out) HNO.out HNI.out HU.out.symm
            have HF := Lib.hid hf
            clear hf
            go_wp2_with fail
            go_ret2
            rw [HGR.out, HGE.out, HF.out]
            exact ⟨_, rfl, hGS9.wide fun b hb _ => by have := hT1.size; have := hB.size; omega, bnx hT1 (bnx hB3 hB9)⟩
          | false =>
            go_wp2_with fail
            go_roundw
            case rel =>
              refine ⟨i + 1, by omega, by go_num, fun x hx => ?_, hB9⟩
              rw [HTS.out] at hx
              rcases List.mem_append.1 hx with h | h
              · exact HNI.out x h
              · rw [List.mem_singleton] at h; rw [h]; exact HU.out.symm
            case measure => simp [intOf]; omega
        · obtain rfl : i = P.length := by omega
          go_wp2_with fail
          go_roundw
          case rel =>
            refine ⟨m + 1, by omega, by have := HM.out; go_num, fun m' hm' x hx => ?_, bnx hB3 hBx⟩
            by_cases e : m' = m
            · subst e
              exact HNI.out x (by rw [List.take_length, HP.out]; exact hx)
            · exact HNO.out m' (by omega) x hx
          case measure => have := HM.out; simp [intOf]; omega
    · obtain rfl : m = l.length := by omega
      have bm : decide (((l.length + 1 : Nat) : Int) ≤ (l.length : Int)) = false := decide_eq_false (by omega)
      have hf : grpF (betterB c.villages l) l.length = none := find_none HNO.out
      have HF := Lib.hid hf
      clear hf
      go_wp2_with fail
      go_ret2
      rw [HGR.out, HGE.out, HF.out]
      exact ⟨_, rfl, ints_nil _ _, bnx hT1 hB⟩

set_option maxRecDepth 100000 in
theorem rgroupA_c {A A' : Nat → Prop} {w : World} {vm vv vd : Value} {c : Com} {l : List Int} (h : Cm A w vm vv c) (hd : Ints A' w vd l) :
    Calls Try.prog 75 #[.agg #[vm, vv], vd] w fun e w' => ∃ v', e = .returned (.tuple #[v', .int .i64 (groupE c l)]) ∧ Ints (fun b => w.heap.size ≤ b) w' v' (groupR c l) ∧ Below w.heap.size w w' := by
  by_cases he : divE c l = 0
  · exact rgroup_good h hd he
  · obtain ⟨am, cpm, rfl, _, _⟩ := h.1.shape
    obtain ⟨av, cpv, rfl, _, _⟩ := h.2.shape
    have hB0 : Below w.heap.size w (w.alloc (.cells #[.slice am c.mountains.length cpm, .slice av c.villages.length cpv] 25)) := (Below.refl _ w).alloc (Nat.le_refl _) _
    have h0 := h.call hB0
    have hd0 := hd.call hB0
    have b1 : (divE c l != 0) = true := by simpa using he
    rw [groupE, groupR, if_neg he, if_neg he]
    clear he
    go_enter Try.func75, Try.ntmps75
    go_wp2_with fail
    refine (asked_c h0 hd0).mono ?_
    rintro e w1 ⟨rfl, hB1⟩
    go_wp2
    go_ret2
    exact ⟨_, rfl, ints_nil _ _, bnx hB0 hB1⟩

end Go.Proofs.Ythchpoabncdicaa
