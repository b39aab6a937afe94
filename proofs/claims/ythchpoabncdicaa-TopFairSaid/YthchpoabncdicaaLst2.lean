/- Calm and Room (lots and mestaref08): the first division with the least envy, with the fewest heads too many; conditions: none. -/
import Derived.Test.YthchpoabncdicaaLst1
import Derived.Test.YthchpoabncdicaaFairP
namespace Go.Proofs.Ythchpoabncdicaa
open Go.RowKit

def leastB (f : List Int → Int) (c : Com) : List Int := if checkE c = 0 then (match lsK f (divs c.villages.length) with | some (b, _) => b | none => []) else []
def leastN (f : List Int → Int) (c : Com) : Int := if checkE c = 0 then f (leastB f c) else 0
theorem lsF_congr {f g : List Int → Int} : ∀ (pre : List (List Int)) (ks : Option (List Int × List Int)), (∀ d ∈ pre, f d = g d) → pre.foldl (lsStep f) ks = pre.foldl (lsStep g) ks
  | [], _, _ => rfl
  | x :: t, ks, h => by
    rw [List.foldl_cons, List.foldl_cons]
    have e : lsStep f ks x = lsStep g ks x := by
      cases ks with
      | none => simp only [lsStep, h x (by simp)]
      | some bk => obtain ⟨b, k⟩ := bk; simp only [lsStep, h x (by simp)]
    rw [e]
    exact lsF_congr t _ (fun d hd => h d (by simp [hd]))
theorem lsK_congr {f g : List Int → Int} {pre : List (List Int)} (h : ∀ d ∈ pre, f d = g d) : lsK f pre = lsK g pre := lsF_congr pre none h
theorem divs_perm {n : Nat} (hn : n ≤ 4) {d : List Int} (hd : d ∈ divs n) : PermOf n d := exts_perm (n := n) hn d hd
theorem envyB_rk {c : Com} (hok : c.Ok 4) {d : List Int} (hd : d ∈ divs c.villages.length) : envySum c.villages d = rkS c.villages d c.villages.length := by
  have hl := divs_row hd
  have hn : c.villages.length ≤ 4 := by have := hok.vl; have := hok.n2; omega
  have := envySum_rk (vs := c.villages) (d := d) hl.symm (fun v hv => by rw [hl, hok.vl]; exact (hok.vil v hv).2.2.2.2) (by rw [hl]; exact divs_perm hn hd)
  rw [this, hl]
theorem ovS_take (c : Com) (d : List Int) : ∀ k, k ≤ d.length → ovS c d k = sumL ((overL c d).take k)
  | 0, _ => by simp [ovS, sumL]
  | k + 1, hk => by rw [ovS, ovS_take c d k (by omega), List.take_succ_eq_append_getElem (by rw [overL_len]; omega), sumL_snoc, overL_at]
theorem overB_ov {c : Com} {d : List Int} (hd : d ∈ divs c.villages.length) : overSum c d = ovS c d c.villages.length := by
  have hl := divs_row hd
  rw [ovS_take c d _ (by omega), List.take_of_length_le (by rw [overL_len, hl]; exact Nat.le_refl _), overSum]
theorem envyB_bd {c : Com} (hok : c.Ok 4) {d : List Int} (hd : d ∈ divs c.villages.length) : 0 ≤ envySum c.villages d ∧ envySum c.villages d ≤ 1000 := by
  have hl := divs_row hd
  have h1 := sumL_le (envyL c.villages d) d.length (envyL_mem c.villages d) d.length (by rw [envyL_len]; exact Nat.le_refl _)
  rw [List.take_of_length_le (by rw [envyL_len]; exact Nat.le_refl _)] at h1
  have hn : d.length ≤ 4 := by have := hok.vl; have := hok.n2; omega
  have h2 : (d.length : Int) * d.length ≤ 16 := by
    have := Int.ofNat_le.2 (Nat.mul_le_mul hn hn)
    rw [Int.natCast_mul] at this; exact this
  rw [envySum]; omega
theorem overB_bd {c : Com} (hok : c.Ok 4) {d : List Int} (hd : d ∈ divs c.villages.length) : 0 ≤ overSum c d ∧ overSum c d ≤ 1000 := by
  have hl := divs_row hd
  have h1 := sumL_le (overL c d) 60 (overL_mem hok d) d.length (by rw [overL_len]; exact Nat.le_refl _)
  rw [List.take_of_length_le (by rw [overL_len]; exact Nat.le_refl _)] at h1
  have hn : d.length ≤ 4 := by have := hok.vl; have := hok.n2; omega
  rw [overSum]; omega
/-- What a round reads. -/
def CkS (b : Nat) (vm vv : Value) (b1 o1 : Nat) (v1 : Value) (w : World) : Prop := Blk b #[vm, vv] 25 w ∧ w.cell? ⟨b1, o1, none⟩ = some v1
theorem CkS.drew {b : Nat} {vm vv : Value} {b1 o1 : Nat} {v1 : Value} {w : World} (h : CkS b vm vv b1 o1 v1 w) : CkS b vm vv b1 o1 v1 w.drew := h

set_option maxRecDepth 100000 in
set_option maxHeartbeats 1000000 in
theorem calm_c {A : Nat → Prop} {w : World} {vm vv : Value} {c : Com} (h : Cm A w vm vv c) :
    Calls Try.prog 71 #[.agg #[vm, vv]] w fun e w' => ∃ v', e = .returned (.tuple #[v', .int .i64 (leastN (envySum c.villages) c), .int .i64 (checkE c)]) ∧ Ints (fun b => w.heap.size ≤ b) w' v' (leastB (envySum c.villages) c) ∧ Below w.heap.size w w' := by
  obtain ⟨am, cpm, rfl, _, _⟩ := h.1.shape
  obtain ⟨av, cpv, rfl, _, _⟩ := h.2.shape
  have hB0 : Below w.heap.size w (w.alloc (.cells #[.slice am c.mountains.length cpm, .slice av c.villages.length cpv] 25)) := (Below.refl _ w).alloc (Nat.le_refl _) _
  have hbx : Blk w.heap.size #[.slice am c.mountains.length cpm, .slice av c.villages.length cpv] 25 (w.alloc (.cells #[.slice am c.mountains.length cpm, .slice av c.villages.length cpv] 25)) := Blk.new w _ _
  have h0 := h.call hB0
  by_cases hc : checkE c = 0
  · have hok := (checkE_zero c).1 hc
    have b0 : ((0 : Int) != 0) = false := rfl
    have HC := Lib.hid hc
    clear hc
    go_enter Try.func71, Try.ntmps71
    go_wp2_with fail
    refine (check_c h0).mono ?_
    rintro e w1 ⟨rfl, hB1⟩
    rw [HC.out]
    have h1 := h0.call hB1
    have hbx1 := hbx.call hB1
    have hT1 := bnx hB0 hB1
    have c0 := hbx1.cell 0
    have c1 := hbx1.cell 1
    clear h0 hbx hB0 hB1
    have hwk : Blk w1.heap.size #[.slice am c.mountains.length cpm, .slice av c.villages.length cpv] 95 (w1.alloc (.cells #[.slice am c.mountains.length cpm, .slice av c.villages.length cpv] 95)) := Blk.new w1 _ _
    have h2 := h1.alloc (.cells #[.slice am c.mountains.length cpm, .slice av c.villages.length cpv] 95)
    have hT2 := bal (o := .cells #[.slice am c.mountains.length cpm, .slice av c.villages.length cpv] 95) hT1
    have hl := least_c hwk h2 hok 107 (envySum c.villages) (fun w' vd d A' hB hd hm => sum_c (hwk.call hB) (h2.2.call hB) hd (by rw [divs_row hm]; exact Nat.le_refl _) (by rw [divs_row hm]; have := hok.vl; have := hok.n2; omega))
    have HL := Lib.hid hl
    clear hl
    go_wp2_with fail
    refine HL.out.mono ?_
    rintro e w2 ⟨v, b, hls, rfl, hv, hB2⟩
    go_wp2
    go_ret3
    have e1 : leastB (envySum c.villages) c = b := by rw [leastB, if_pos HC.out, hls]
    have e2 : leastN (envySum c.villages) c = (envySum c.villages) b := by rw [leastN, if_pos HC.out, e1]
    rw [e1, e2, HC.out]
    exact ⟨_, rfl, hv.wide fun k hk _ => by simp only [World.size_alloc] at hk; have := hT1.size; omega, bnx hT2 hB2⟩
  · have hb : (checkE c != 0) = true := by simpa using hc
    rw [leastN, leastB, if_neg hc, if_neg hc]
    clear hc
    go_enter Try.func71, Try.ntmps71
    go_wp2_with fail
    refine (check_c h0).mono ?_
    rintro e w1 ⟨rfl, hB1⟩
    go_wp2
    go_ret3
    exact ⟨_, rfl, ints_nil _ _, bnx hB0 hB1⟩

set_option maxRecDepth 100000 in
set_option maxHeartbeats 1000000 in
theorem room_c {A : Nat → Prop} {w : World} {vm vv : Value} {c : Com} (h : Cm A w vm vv c) :
    Calls Try.prog 52 #[.agg #[vm, vv]] w fun e w' => ∃ v', e = .returned (.tuple #[v', .int .i64 (leastN (overSum c) c), .int .i64 (checkE c)]) ∧ Ints (fun b => w.heap.size ≤ b) w' v' (leastB (overSum c) c) ∧ Below w.heap.size w w' := by
  obtain ⟨am, cpm, rfl, _, _⟩ := h.1.shape
  obtain ⟨av, cpv, rfl, _, _⟩ := h.2.shape
  have hB0 : Below w.heap.size w (w.alloc (.cells #[.slice am c.mountains.length cpm, .slice av c.villages.length cpv] 25)) := (Below.refl _ w).alloc (Nat.le_refl _) _
  have hbx : Blk w.heap.size #[.slice am c.mountains.length cpm, .slice av c.villages.length cpv] 25 (w.alloc (.cells #[.slice am c.mountains.length cpm, .slice av c.villages.length cpv] 25)) := Blk.new w _ _
  have h0 := h.call hB0
  by_cases hc : checkE c = 0
  · have hok := (checkE_zero c).1 hc
    have b0 : ((0 : Int) != 0) = false := rfl
    have HC := Lib.hid hc
    clear hc
    go_enter Try.func52, Try.ntmps52
    go_wp2_with fail
    refine (check_c h0).mono ?_
    rintro e w1 ⟨rfl, hB1⟩
    rw [HC.out]
    have h1 := h0.call hB1
    have hbx1 := hbx.call hB1
    have hT1 := bnx hB0 hB1
    have c0 := hbx1.cell 0
    have c1 := hbx1.cell 1
    clear h0 hbx hB0 hB1
    have hwk : Blk w1.heap.size #[.slice am c.mountains.length cpm, .slice av c.villages.length cpv] 95 (w1.alloc (.cells #[.slice am c.mountains.length cpm, .slice av c.villages.length cpv] 95)) := Blk.new w1 _ _
    have h2 := h1.alloc (.cells #[.slice am c.mountains.length cpm, .slice av c.villages.length cpv] 95)
    have hT2 := bal (o := .cells #[.slice am c.mountains.length cpm, .slice av c.villages.length cpv] 95) hT1
    have hl := least_c hwk h2 hok 125 (overSum c) (fun w' vd d A' hB hd hm => sumO_c (hwk.call hB) (h2.call hB) hok hd (divs_perm (by have := hok.vl; have := hok.n2; omega) hm))
    have HL := Lib.hid hl
    clear hl
    go_wp2_with fail
    refine HL.out.mono ?_
    rintro e w2 ⟨v, b, hls, rfl, hv, hB2⟩
    go_wp2
    go_ret3
    have e1 : leastB (overSum c) c = b := by rw [leastB, if_pos HC.out, hls]
    have e2 : leastN (overSum c) c = (overSum c) b := by rw [leastN, if_pos HC.out, e1]
    rw [e1, e2, HC.out]
    exact ⟨_, rfl, hv.wide fun k hk _ => by simp only [World.size_alloc] at hk; have := hT1.size; omega, bnx hT2 hB2⟩
  · have hb : (checkE c != 0) = true := by simpa using hc
    rw [leastN, leastB, if_neg hc, if_neg hc]
    clear hc
    go_enter Try.func52, Try.ntmps52
    go_wp2_with fail
    refine (check_c h0).mono ?_
    rintro e w1 ⟨rfl, hB1⟩
    go_wp2
    go_ret3
    exact ⟨_, rfl, ints_nil _ _, bnx hB0 hB1⟩

set_option maxRecDepth 100000 in
set_option maxHeartbeats 1000000 in
theorem rcalm_c {A : Nat → Prop} {w : World} {vm vv : Value} {c : Com} (h : Cm A w vm vv c) :
    Calls Try.prog 76 #[.agg #[vm, vv]] w fun e w' => ∃ v', e = .returned (.tuple #[v', .int .i64 (leastN (envySum c.villages) c), .int .i64 (checkE c)]) ∧ Ints (fun b => w.heap.size ≤ b) w' v' (leastB (envySum c.villages) c) ∧ Below w.heap.size w w' := by
  obtain ⟨am, cpm, rfl, _, _⟩ := h.1.shape
  obtain ⟨av, cpv, rfl, _, _⟩ := h.2.shape
  have hB0 : Below w.heap.size w (w.alloc (.cells #[.slice am c.mountains.length cpm, .slice av c.villages.length cpv] 25)) := (Below.refl _ w).alloc (Nat.le_refl _) _
  have hbx : Blk w.heap.size #[.slice am c.mountains.length cpm, .slice av c.villages.length cpv] 25 (w.alloc (.cells #[.slice am c.mountains.length cpm, .slice av c.villages.length cpv] 25)) := Blk.new w _ _
  have h0 := h.call hB0
  by_cases hc : checkE c = 0
  · have hok := (checkE_zero c).1 hc
    have b0 : ((0 : Int) != 0) = false := rfl
    have hm4 := hok.n2
    have hm1 := hok.n1
    have hvl := hok.vl
    obtain ⟨G, hG⟩ : ∃ G : List Int → Int, G = fun d => rkS c.villages d c.villages.length := ⟨_, rfl⟩
    have hfg : lsK (envySum c.villages) (divs c.villages.length) = lsK G (divs c.villages.length) := by rw [hG]; exact lsK_congr fun d hd => (envyB_rk hok hd)
    have hbd : ∀ d ∈ divs c.villages.length, 0 ≤ G d ∧ G d ≤ 1000 := fun d hd => by
      have := envyB_bd hok hd
      rw [(envyB_rk hok hd)] at this
      rw [hG]; exact this
    have HC := Lib.hid hc
    have HG := Lib.hid hG
    clear hc hG
    have hrd := fun w' => rdivs_c hm4 c.mountains.length [] w' (.slice none 0 0) (fun _ => False) (ints_nil _ _) (by simp)
    have hdd : exts c.mountains.length c.mountains.length [] = divs c.villages.length := by rw [divs, hvl]
    rw [hdd] at hrd
    have hpr : ∀ d ∈ divs c.villages.length, PermOf c.villages.length d := exts_perm (n := c.villages.length) (by omega)
    have hdp := divs_pos c.villages.length (by omega)
    have hdl := divs_len c.villages.length (by omega)
    have hfm := fun k (hk : 0 < k) => lsK_form G ((divs c.villages.length).take k)
    have hLB : leastB (envySum c.villages) c = (match lsK G (divs c.villages.length) with | some (b, _) => b | none => []) := by rw [leastB, if_pos HC.out, hfg]
    have hLN : leastN (envySum c.villages) c = (envySum c.villages) (leastB (envySum c.villages) c) := by rw [leastN, if_pos HC.out]
    obtain ⟨ds, hds⟩ : ∃ ds, ds = divs c.villages.length := ⟨_, rfl⟩
    have hfd : ∀ d ∈ ds, (envySum c.villages) d = G d := fun d hd => by rw [HG.out]; rw [hds] at hd; exact (envyB_rk hok hd)
    simp only [← hds] at hrd hpr hdp hdl hLB hbd
    have HRD := Lib.hid hrd
    have HPR := Lib.hid hpr
    have HLB := Lib.hid hLB
    have HLN := Lib.hid hLN
    have HFD := Lib.hid hfd
    have HBD := Lib.hid hbd
    clear hrd hpr hLB hLN hdd hds hfg hfm hfd hbd hvl
    go_enter Try.func76, Try.ntmps76
    go_wp2_with fail
    refine (rcheck_c h0).mono ?_
    rintro e w1 ⟨rfl, hB1⟩
    rw [HC.out]
    have h1 := h0.call hB1
    have hbx1 := hbx.call hB1
    have hT1 := bnx hB0 hB1
    have c0 := hbx1.cell 0
    clear h0 hbx hB0 hB1
    go_wp2_with fail
    clear c0
    refine (HRD.out w1).mono ?_
    rintro e w2 ⟨vd, rfl, hD, hB2⟩
    have hD := hD.wide (A' := fun b => w1.heap.size ≤ b) (fun b hb _ => hb.elim (fun h => h.elim) id)
    have h1 := h1.call hB2
    have hbx2 := hbx1.call hB2
    have hT2 := bnx hT1 hB2
    clear hbx1 hB2
    obtain ⟨ao, co, rfl, _, _⟩ := hD.shape
    obtain ⟨db, dof, rfl, -, hdb⟩ := hD.addr hdp
    obtain ⟨a0, k0, r0, hR0⟩ := hD.row 0 hdp
    rw [Nat.add_zero] at r0
    go_wp2_with fail
    go_loopw [7, 8, 9] (fun s7 s8 i wr => ∃ k : Nat, k ≤ ds.length ∧ i = .int .i64 k ∧ Below w2.heap.size w2 wr ∧ (k = 0 ∨ ∃ b, b ∈ ds ∧ lsK G (ds.take k) = some (b, [G b]) ∧ s8 = .int .i64 (G b) ∧ Ints (fun b => w1.heap.size ≤ b) w2 s7 b)) (fun _ _ i _ => ds.length - (intOf i).toNat)
    case atStart => exact ⟨0, Nat.zero_le _, rfl, Below.refl _ _, .inl rfl⟩
    case round =>
      obtain ⟨k, hk, rfl, hB, hst⟩ := hrel
      have HST := Lib.hid hst
      clear hst
      by_cases hlt : k < ds.length
      · obtain ⟨ad, cd, r1, hR⟩ := hD.row k hlt
        have hdm := List.getElem_mem hlt
        have hpd := HPR.out _ hdm
        have hts : ds.take (k + 1) = ds.take k ++ [ds[k]] := List.take_succ_eq_append_getElem hlt
        have hbk := HBD.out _ hdm
        obtain ⟨d, hd⟩ : ∃ d, d = ds[k] := ⟨_, rfl⟩
        rw [← hd] at r1 hR hdm hpd hts hbk
        have HPD := Lib.hid hpd
        have HTS := Lib.hid hts
        have HDM := Lib.hid hdm
        have hE : ∀ w', Below w2.heap.size w2 w' → (CkS w.heap.size (.slice am c.mountains.length cpm) (.slice av c.villages.length cpv) db (dof + k) (.slice ad d.length cd)) w' := fun w' h' => ⟨hbx2.call h', (World.cell?_of_block (h'.block db hdb)).trans r1⟩
        clear hd hpd hts hdm r1
        go_wp2_with fail
        refine wp_region_mix2 (.one 0 (.pur 1 (.pur 2 (.pur 3 (.one 4 (.act 5 (.pur 6 (.pur 7 (.pur 8 (.pur 9 (.pur 10 .fin))))))))))) 99 (CkS w.heap.size (.slice am c.mountains.length cpm) (.slice av c.villages.length cpv) db (dof + k) (.slice ad d.length cd)) (fun _ => True) (by kernel_rfl) (by kernel_rfl) rfl (by kernel_rfl) (hE _ hB).drew (fun wd hqd _ => ?_)
        refine mix_load2 rfl rfl rfl (.agg #[.slice am c.mountains.length cpm, .slice av c.villages.length cpv]) (fun w' h => by have h : (CkS w.heap.size (.slice am c.mountains.length cpm) (.slice av c.villages.length cpv) db (dof + k) (.slice ad d.length cd)) w' := h; have h0 := h.1.cell 0; have h1 := h.1.cell 1; go_simp) rfl ?_
        refine mix_pur2 rfl (fun K hK => ?_)
        go_simp
        first | refine ⟨_, fun _ => rfl, hK _ ?_⟩ | refine hK _ ?_
        clear hK K
        refine mix_pur2 rfl (fun K hK => ?_)
        go_simp
        first | refine ⟨_, fun _ => rfl, hK _ ?_⟩ | refine hK _ ?_
        clear hK K
        refine mix_pur2 rfl (fun K hK => ?_)
        go_simp
        first | refine ⟨_, fun _ => rfl, hK _ ?_⟩ | refine hK _ ?_
        clear hK K
        refine mix_load2 rfl rfl rfl (.slice ad d.length cd) (fun w' h => by have h : (CkS w.heap.size (.slice am c.mountains.length cpm) (.slice av c.villages.length cpv) db (dof + k) (.slice ad d.length cd)) w' := h; have h0 := h.2; go_simp) rfl ?_
        refine mix_eff2 rfl false rfl (fun K hK => ?_)
        go_simp
        refine (rsums_c (h1.call (bnx hB (hqd.below _))) hok (hR.call (bnx hB (hqd.below _))) HPD.out).mono ?_
        rintro e w4 ⟨rfl, hB4⟩
        have hB5 := bnx (bnx hB (hqd.below _)) hB4
        refine hK _ _ (hE _ hB5) ?_
        clear hK K
        refine mix_pur2 rfl (fun K hK => ?_)
        go_simp
        first | refine ⟨_, fun _ => rfl, hK _ ?_⟩ | refine hK _ ?_
        clear hK K
        refine mix_pur2 rfl (fun K hK => ?_)
        go_simp
        first | refine ⟨_, fun _ => rfl, hK _ ?_⟩ | refine hK _ ?_
        clear hK K
        refine mix_pur2 rfl (fun K hK => ?_)
        go_simp
        first | refine ⟨_, fun _ => rfl, hK _ ?_⟩ | refine hK _ ?_
        clear hK K
        refine mix_pur2 rfl (fun K hK => ?_)
        go_simp
        first | refine ⟨_, fun _ => rfl, hK _ ?_⟩ | refine hK _ ?_
        clear hK K
        refine mix_pur2 rfl (fun K hK => ?_)
        go_simp
        first | refine ⟨_, fun _ => rfl, hK _ ?_⟩ | refine hK _ ?_
        clear hK K
        refine mix_done2 ?_
        have hgd : G d = rkS c.villages d c.villages.length := by rw [HG.out]
        rw [← hgd]
        clear hgd
        have r1 := (hE _ hB5).2
        obtain ⟨y, hy⟩ : ∃ y, y = G d := ⟨_, rfl⟩
        rw [← hy] at hbk ⊢
        have HY := Lib.hid hy
        have hs1 : lsK G (ds.take (k + 1)) = lsStep G (lsK G (ds.take k)) d := by rw [HTS.out, lsK_snoc]
        have HS1 := Lib.hid hs1
        clear hy hs1 hB4 hqd
        rcases HST.out with hk0 | ⟨b, hbm, hls, rfl, hib⟩
        · subst hk0
          rw [Nat.add_zero] at r1
          have hl1 : lsK G (ds.take (0 + 1)) = some (d, [y]) := by rw [HS1.out, HY.out]; simp [lsK, lsStep]
          have HL1 := Lib.hid hl1
          clear hl1
          go_wp2_with fail
          go_roundw
          case rel => exact ⟨0 + 1, by omega, by go_num, hB5, .inr ⟨d, HDM.out, by rw [HL1.out, HY.out], by rw [HY.out], hR⟩⟩
          case measure => simp [intOf]; omega
        · by_cases hk0 : k = 0
          · subst hk0
            rw [Nat.add_zero] at r1
            have hl1 : lsK G (ds.take (0 + 1)) = some (d, [y]) := by rw [HS1.out, HY.out]; simp [lsK, lsStep]
            have HL1 := Lib.hid hl1
            clear hl1 hls
            go_wp2_with fail
            go_roundw
            case rel => exact ⟨0 + 1, by omega, by go_num, hB5, .inr ⟨d, HDM.out, by rw [HL1.out, HY.out], by rw [HY.out], hR⟩⟩
            case measure => simp [intOf]; omega
          · have hbb := HBD.out _ hbm
            obtain ⟨z, hz⟩ : ∃ z, z = G b := ⟨_, rfl⟩
            rw [← hz] at hls hbb ⊢
            have bk0 : ((k : Int) == 0) = false := by simp; omega
            have HZ := Lib.hid hz
            have HLS := Lib.hid hls
            clear hz hls
            by_cases hyz : y < z
            · have hl1 : lsK G (ds.take (k + 1)) = some (d, [y]) := by
                rw [HS1.out, HLS.out]
                have : cmpL [G d] [z] < 0 := by rw [← HY.out]; simp [cmpL, cmpI, hyz]; try omega
                simp only [lsStep, if_pos this, HY.out]
              have HL1 := Lib.hid hl1
              have by1 : decide (y < z) = true := decide_eq_true hyz
              clear hl1
              go_wp2_with fail
              go_roundw
              case rel => exact ⟨k + 1, by omega, by go_num, hB5, .inr ⟨d, HDM.out, by rw [HL1.out, HY.out], by rw [HY.out], hR⟩⟩
              case measure => simp [intOf]; omega
            · have hl1 : lsK G (ds.take (k + 1)) = some (b, [z]) := by
                rw [HS1.out, HLS.out]
                have : ¬ cmpL [G d] [z] < 0 := by rw [← HY.out]; simp [cmpL, cmpI, hyz]; try (split <;> omega)
                simp only [lsStep, if_neg this]
              have HL1 := Lib.hid hl1
              have by1 : decide (y < z) = false := decide_eq_false hyz
              clear hl1
              go_wp2_with fail
              go_roundw
              case rel => exact ⟨k + 1, by omega, by go_num, hB5, .inr ⟨b, hbm, by rw [HL1.out, HZ.out], by rw [HZ.out], hib⟩⟩
              case measure => simp [intOf]; omega
      · obtain rfl : k = ds.length := by omega
        rcases HST.out with hk0 | ⟨b, hbm, hls, rfl, hib⟩
        · omega
        · rw [List.take_length] at hls
          have e1 : leastB (envySum c.villages) c = b := by rw [HLB.out, hls]
          have e2 : leastN (envySum c.villages) c = G b := by rw [HLN.out, e1, HFD.out b hbm]
          have E1 := Lib.hid e1
          have E2 := Lib.hid e2
          clear e1 e2 hls
          go_wp2_with fail
          go_ret3
          rw [E1.out, E2.out, HC.out]
          exact ⟨_, rfl, (hib.call hB).wide fun q hq _ => by have := hT1.size; omega, bnx hT2 hB⟩
  · have hb : (checkE c != 0) = true := by simpa using hc
    rw [leastN, leastB, if_neg hc, if_neg hc]
    clear hc
    go_enter Try.func76, Try.ntmps76
    go_wp2_with fail
    refine (rcheck_c h0).mono ?_
    rintro e w1 ⟨rfl, hB1⟩
    go_wp2
    go_ret3
    exact ⟨_, rfl, ints_nil _ _, bnx hB0 hB1⟩

set_option maxRecDepth 100000 in
set_option maxHeartbeats 1000000 in
theorem rroom_c {A : Nat → Prop} {w : World} {vm vv : Value} {c : Com} (h : Cm A w vm vv c) :
    Calls Try.prog 77 #[.agg #[vm, vv]] w fun e w' => ∃ v', e = .returned (.tuple #[v', .int .i64 (leastN (overSum c) c), .int .i64 (checkE c)]) ∧ Ints (fun b => w.heap.size ≤ b) w' v' (leastB (overSum c) c) ∧ Below w.heap.size w w' := by
  obtain ⟨am, cpm, rfl, _, _⟩ := h.1.shape
  obtain ⟨av, cpv, rfl, _, _⟩ := h.2.shape
  have hB0 : Below w.heap.size w (w.alloc (.cells #[.slice am c.mountains.length cpm, .slice av c.villages.length cpv] 25)) := (Below.refl _ w).alloc (Nat.le_refl _) _
  have hbx : Blk w.heap.size #[.slice am c.mountains.length cpm, .slice av c.villages.length cpv] 25 (w.alloc (.cells #[.slice am c.mountains.length cpm, .slice av c.villages.length cpv] 25)) := Blk.new w _ _
  have h0 := h.call hB0
  by_cases hc : checkE c = 0
  · have hok := (checkE_zero c).1 hc
    have b0 : ((0 : Int) != 0) = false := rfl
    have hm4 := hok.n2
    have hm1 := hok.n1
    have hvl := hok.vl
    obtain ⟨G, hG⟩ : ∃ G : List Int → Int, G = fun d => ovS c d c.villages.length := ⟨_, rfl⟩
    have hfg : lsK (overSum c) (divs c.villages.length) = lsK G (divs c.villages.length) := by rw [hG]; exact lsK_congr fun d hd => (overB_ov hd)
    have hbd : ∀ d ∈ divs c.villages.length, 0 ≤ G d ∧ G d ≤ 1000 := fun d hd => by
      have := overB_bd hok hd
      rw [(overB_ov hd)] at this
      rw [hG]; exact this
    have HC := Lib.hid hc
    have HG := Lib.hid hG
    clear hc hG
    have hrd := fun w' => rdivs_c hm4 c.mountains.length [] w' (.slice none 0 0) (fun _ => False) (ints_nil _ _) (by simp)
    have hdd : exts c.mountains.length c.mountains.length [] = divs c.villages.length := by rw [divs, hvl]
    rw [hdd] at hrd
    have hpr : ∀ d ∈ divs c.villages.length, PermOf c.villages.length d := exts_perm (n := c.villages.length) (by omega)
    have hdp := divs_pos c.villages.length (by omega)
    have hdl := divs_len c.villages.length (by omega)
    have hfm := fun k (hk : 0 < k) => lsK_form G ((divs c.villages.length).take k)
    have hLB : leastB (overSum c) c = (match lsK G (divs c.villages.length) with | some (b, _) => b | none => []) := by rw [leastB, if_pos HC.out, hfg]
    have hLN : leastN (overSum c) c = (overSum c) (leastB (overSum c) c) := by rw [leastN, if_pos HC.out]
    obtain ⟨ds, hds⟩ : ∃ ds, ds = divs c.villages.length := ⟨_, rfl⟩
    have hfd : ∀ d ∈ ds, (overSum c) d = G d := fun d hd => by rw [HG.out]; rw [hds] at hd; exact (overB_ov hd)
    simp only [← hds] at hrd hpr hdp hdl hLB hbd
    have HRD := Lib.hid hrd
    have HPR := Lib.hid hpr
    have HLB := Lib.hid hLB
    have HLN := Lib.hid hLN
    have HFD := Lib.hid hfd
    have HBD := Lib.hid hbd
    clear hrd hpr hLB hLN hdd hds hfg hfm hfd hbd hvl
    go_enter Try.func77, Try.ntmps77
    go_wp2_with fail
    refine (rcheck_c h0).mono ?_
    rintro e w1 ⟨rfl, hB1⟩
    rw [HC.out]
    have h1 := h0.call hB1
    have hbx1 := hbx.call hB1
    have hT1 := bnx hB0 hB1
    have c0 := hbx1.cell 0
    clear h0 hbx hB0 hB1
    go_wp2_with fail
    clear c0
    refine (HRD.out w1).mono ?_
    rintro e w2 ⟨vd, rfl, hD, hB2⟩
    have hD := hD.wide (A' := fun b => w1.heap.size ≤ b) (fun b hb _ => hb.elim (fun h => h.elim) id)
    have h1 := h1.call hB2
    have hbx2 := hbx1.call hB2
    have hT2 := bnx hT1 hB2
    clear hbx1 hB2
    obtain ⟨ao, co, rfl, _, _⟩ := hD.shape
    obtain ⟨db, dof, rfl, -, hdb⟩ := hD.addr hdp
    obtain ⟨a0, k0, r0, hR0⟩ := hD.row 0 hdp
    rw [Nat.add_zero] at r0
    go_wp2_with fail
    go_loopw [7, 8, 9] (fun s7 s8 i wr => ∃ k : Nat, k ≤ ds.length ∧ i = .int .i64 k ∧ Below w2.heap.size w2 wr ∧ (k = 0 ∨ ∃ b, b ∈ ds ∧ lsK G (ds.take k) = some (b, [G b]) ∧ s8 = .int .i64 (G b) ∧ Ints (fun b => w1.heap.size ≤ b) w2 s7 b)) (fun _ _ i _ => ds.length - (intOf i).toNat)
    case atStart => exact ⟨0, Nat.zero_le _, rfl, Below.refl _ _, .inl rfl⟩
    case round =>
      obtain ⟨k, hk, rfl, hB, hst⟩ := hrel
      have HST := Lib.hid hst
      clear hst
      by_cases hlt : k < ds.length
      · obtain ⟨ad, cd, r1, hR⟩ := hD.row k hlt
        have hdm := List.getElem_mem hlt
        have hpd := HPR.out _ hdm
        have hts : ds.take (k + 1) = ds.take k ++ [ds[k]] := List.take_succ_eq_append_getElem hlt
        have hbk := HBD.out _ hdm
        obtain ⟨d, hd⟩ : ∃ d, d = ds[k] := ⟨_, rfl⟩
        rw [← hd] at r1 hR hdm hpd hts hbk
        have HPD := Lib.hid hpd
        have HTS := Lib.hid hts
        have HDM := Lib.hid hdm
        have hE : ∀ w', Below w2.heap.size w2 w' → (CkS w.heap.size (.slice am c.mountains.length cpm) (.slice av c.villages.length cpv) db (dof + k) (.slice ad d.length cd)) w' := fun w' h' => ⟨hbx2.call h', (World.cell?_of_block (h'.block db hdb)).trans r1⟩
        clear hd hpd hts hdm r1
        go_wp2_with fail
        refine wp_region_mix2 (.one 0 (.pur 1 (.pur 2 (.pur 3 (.one 4 (.act 5 (.pur 6 (.pur 7 (.pur 8 (.pur 9 (.pur 10 .fin))))))))))) 99 (CkS w.heap.size (.slice am c.mountains.length cpm) (.slice av c.villages.length cpv) db (dof + k) (.slice ad d.length cd)) (fun _ => True) (by kernel_rfl) (by kernel_rfl) rfl (by kernel_rfl) (hE _ hB).drew (fun wd hqd _ => ?_)
        refine mix_load2 rfl rfl rfl (.agg #[.slice am c.mountains.length cpm, .slice av c.villages.length cpv]) (fun w' h => by have h : (CkS w.heap.size (.slice am c.mountains.length cpm) (.slice av c.villages.length cpv) db (dof + k) (.slice ad d.length cd)) w' := h; have h0 := h.1.cell 0; have h1 := h.1.cell 1; go_simp) rfl ?_
        refine mix_pur2 rfl (fun K hK => ?_)
        go_simp
        first | refine ⟨_, fun _ => rfl, hK _ ?_⟩ | refine hK _ ?_
        clear hK K
        refine mix_pur2 rfl (fun K hK => ?_)
        go_simp
        first | refine ⟨_, fun _ => rfl, hK _ ?_⟩ | refine hK _ ?_
        clear hK K
        refine mix_pur2 rfl (fun K hK => ?_)
        go_simp
        first | refine ⟨_, fun _ => rfl, hK _ ?_⟩ | refine hK _ ?_
        clear hK K
        refine mix_load2 rfl rfl rfl (.slice ad d.length cd) (fun w' h => by have h : (CkS w.heap.size (.slice am c.mountains.length cpm) (.slice av c.villages.length cpv) db (dof + k) (.slice ad d.length cd)) w' := h; have h0 := h.2; go_simp) rfl ?_
        refine mix_eff2 rfl false rfl (fun K hK => ?_)
        go_simp
        refine (rsums_c (h1.call (bnx hB (hqd.below _))) hok (hR.call (bnx hB (hqd.below _))) HPD.out).mono ?_
        rintro e w4 ⟨rfl, hB4⟩
        have hB5 := bnx (bnx hB (hqd.below _)) hB4
        refine hK _ _ (hE _ hB5) ?_
        clear hK K
        refine mix_pur2 rfl (fun K hK => ?_)
        go_simp
        first | refine ⟨_, fun _ => rfl, hK _ ?_⟩ | refine hK _ ?_
        clear hK K
        refine mix_pur2 rfl (fun K hK => ?_)
        go_simp
        first | refine ⟨_, fun _ => rfl, hK _ ?_⟩ | refine hK _ ?_
        clear hK K
        refine mix_pur2 rfl (fun K hK => ?_)
        go_simp
        first | refine ⟨_, fun _ => rfl, hK _ ?_⟩ | refine hK _ ?_
        clear hK K
        refine mix_pur2 rfl (fun K hK => ?_)
        go_simp
        first | refine ⟨_, fun _ => rfl, hK _ ?_⟩ | refine hK _ ?_
        clear hK K
        refine mix_pur2 rfl (fun K hK => ?_)
        go_simp
        first | refine ⟨_, fun _ => rfl, hK _ ?_⟩ | refine hK _ ?_
        clear hK K
        refine mix_done2 ?_
        have hgd : G d = ovS c d c.villages.length := by rw [HG.out]
        rw [← hgd]
        clear hgd
        have r1 := (hE _ hB5).2
        obtain ⟨y, hy⟩ : ∃ y, y = G d := ⟨_, rfl⟩
        rw [← hy] at hbk ⊢
        have HY := Lib.hid hy
        have hs1 : lsK G (ds.take (k + 1)) = lsStep G (lsK G (ds.take k)) d := by rw [HTS.out, lsK_snoc]
        have HS1 := Lib.hid hs1
        clear hy hs1 hB4 hqd
        rcases HST.out with hk0 | ⟨b, hbm, hls, rfl, hib⟩
        · subst hk0
          rw [Nat.add_zero] at r1
          have hl1 : lsK G (ds.take (0 + 1)) = some (d, [y]) := by rw [HS1.out, HY.out]; simp [lsK, lsStep]
          have HL1 := Lib.hid hl1
          clear hl1
          go_wp2_with fail
          go_roundw
          case rel => exact ⟨0 + 1, by omega, by go_num, hB5, .inr ⟨d, HDM.out, by rw [HL1.out, HY.out], by rw [HY.out], hR⟩⟩
          case measure => simp [intOf]; omega
        · by_cases hk0 : k = 0
          · subst hk0
            rw [Nat.add_zero] at r1
            have hl1 : lsK G (ds.take (0 + 1)) = some (d, [y]) := by rw [HS1.out, HY.out]; simp [lsK, lsStep]
            have HL1 := Lib.hid hl1
            clear hl1 hls
            go_wp2_with fail
            go_roundw
            case rel => exact ⟨0 + 1, by omega, by go_num, hB5, .inr ⟨d, HDM.out, by rw [HL1.out, HY.out], by rw [HY.out], hR⟩⟩
            case measure => simp [intOf]; omega
          · have hbb := HBD.out _ hbm
            obtain ⟨z, hz⟩ : ∃ z, z = G b := ⟨_, rfl⟩
            rw [← hz] at hls hbb ⊢
            have bk0 : ((k : Int) == 0) = false := by simp; omega
            have HZ := Lib.hid hz
            have HLS := Lib.hid hls
            clear hz hls
            by_cases hyz : y < z
            · have hl1 : lsK G (ds.take (k + 1)) = some (d, [y]) := by
                rw [HS1.out, HLS.out]
                have : cmpL [G d] [z] < 0 := by rw [← HY.out]; simp [cmpL, cmpI, hyz]; try omega
                simp only [lsStep, if_pos this, HY.out]
              have HL1 := Lib.hid hl1
              have by1 : decide (y < z) = true := decide_eq_true hyz
              clear hl1
              go_wp2_with fail
              go_roundw
              case rel => exact ⟨k + 1, by omega, by go_num, hB5, .inr ⟨d, HDM.out, by rw [HL1.out, HY.out], by rw [HY.out], hR⟩⟩
              case measure => simp [intOf]; omega
            · have hl1 : lsK G (ds.take (k + 1)) = some (b, [z]) := by
                rw [HS1.out, HLS.out]
                have : ¬ cmpL [G d] [z] < 0 := by rw [← HY.out]; simp [cmpL, cmpI, hyz]; try (split <;> omega)
                simp only [lsStep, if_neg this]
              have HL1 := Lib.hid hl1
              have by1 : decide (y < z) = false := decide_eq_false hyz
              clear hl1
              go_wp2_with fail
              go_roundw
              case rel => exact ⟨k + 1, by omega, by go_num, hB5, .inr ⟨b, hbm, by rw [HL1.out, HZ.out], by rw [HZ.out], hib⟩⟩
              case measure => simp [intOf]; omega
      · obtain rfl : k = ds.length := by omega
        rcases HST.out with hk0 | ⟨b, hbm, hls, rfl, hib⟩
        · omega
        · rw [List.take_length] at hls
          have e1 : leastB (overSum c) c = b := by rw [HLB.out, hls]
          have e2 : leastN (overSum c) c = G b := by rw [HLN.out, e1, HFD.out b hbm]
          have E1 := Lib.hid e1
          have E2 := Lib.hid e2
          clear e1 e2 hls
          go_wp2_with fail
          go_ret3
          rw [E1.out, E2.out, HC.out]
          exact ⟨_, rfl, (hib.call hB).wide fun q hq _ => by have := hT1.size; omega, bnx hT2 hB⟩
  · have hb : (checkE c != 0) = true := by simpa using hc
    rw [leastN, leastB, if_neg hc, if_neg hc]
    clear hc
    go_enter Try.func77, Try.ntmps77
    go_wp2_with fail
    refine (rcheck_c h0).mono ?_
    rintro e w1 ⟨rfl, hB1⟩
    go_wp2
    go_ret3
    exact ⟨_, rfl, ints_nil _ _, bnx hB0 hB1⟩

end Go.Proofs.Ythchpoabncdicaa
