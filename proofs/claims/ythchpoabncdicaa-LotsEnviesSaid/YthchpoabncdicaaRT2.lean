/- The contract of Trade (mestaref08); conditions: valid commons of at most four mountains and a division. -/
import Derived.Test.YthchpoabncdicaaRT1
namespace Go.Proofs.Ythchpoabncdicaa
open Go.RowKit

theorem bools_wo : ∀ n, n ≤ 4 → ∀ m, m < 16 → ∀ i, i < n → bools n (woB m i) = (bools n m).set i false := by
  have h : ∀ n < 5, ∀ m < 16, ∀ i < n, bools n (woB m i) = (bools n m).set i false := by decide +kernel
  exact fun n hn m hm i hi => h n (by omega) m hm i hi
theorem bools_all : ∀ n, n ≤ 4 → bools n (allB n) = List.replicate n true := by
  have h : ∀ n < 5, bools n (allB n) = List.replicate n true := by decide +kernel
  exact fun n hn => h n (by omega)
theorem popc_wo : ∀ m, m < 16 → ∀ i, i < 4 → hasB m i = true → popc (woB m i) + 1 = popc m := by decide +kernel
theorem popc_four (m : Nat) : popc m ≤ 4 := by
  rw [popc]; exact Nat.le_trans (List.length_filter_le _ _) (by simp)
theorem trade_zero (vs : List Vil) (order : List Int) (k : Nat) (out : List Int) : tradeN vs order k 0 out = out := by cases k <;> rfl
/-- Who leaves, of the first k. -/
def leaveTo (p : Nat → Nat) (n m k : Nat) : List Bool := (List.range n).map fun j => decide (j < k) && (hasB m j && cyc p n j)
theorem leaveTo_len (p : Nat → Nat) (n m k : Nat) : (leaveTo p n m k).length = n := by simp [leaveTo]
theorem leaveTo_at (p : Nat → Nat) (n m k j : Nat) (h : j < (leaveTo p n m k).length) : (leaveTo p n m k)[j] = (decide (j < k) && (hasB m j && cyc p n j)) := by simp [leaveTo]
theorem leaveTo_zero (p : Nat → Nat) (n m : Nat) : leaveTo p n m 0 = List.replicate n false := by
  rw [leaveTo, List.eq_replicate_iff]; simp
theorem leaveTo_succ (p : Nat → Nat) (n m k : Nat) (_hk : k < n) : leaveTo p n m (k + 1) = (leaveTo p n m k).set k (hasB m k && cyc p n k) := by
  apply List.ext_getElem
  · simp [leaveTo]
  · intro j h1 h2
    rw [leaveTo_at, List.getElem_set]
    by_cases e : k = j
    · subst e; simp
    · rw [if_neg e, leaveTo_at]
      have : (j < k + 1) ↔ (j < k) := by omega
      simp [this]
theorem leaveTo_skip (p : Nat → Nat) (n m k : Nat) (_hk : k < n) (h : hasB m k = false) : leaveTo p n m (k + 1) = leaveTo p n m k := by
  apply List.ext_getElem
  · simp [leaveTo]
  · intro j h1 h2
    rw [leaveTo_at, leaveTo_at]
    by_cases e : k = j
    · subst e; simp [h]
    · have : (j < k + 1) ↔ (j < k) := by omega
      simp [this]

set_option maxRecDepth 100000 in
set_option maxHeartbeats 8000000 in
theorem rtrade_good {A A' : Nat → Prop} {w : World} {vm vv vd : Value} {c : Com} {l : List Int} (h : Cm A w vm vv c) (hd : Ints A' w vd l) (he : divE c l = 0) :
    Calls Try.prog 29 #[.agg #[vm, vv], vd] w fun e w' => ∃ v', e = .returned (.tuple #[v', .int .i64 0]) ∧ Ints (fun b => w.heap.size ≤ b) w' v' (tradeF c.villages l) ∧ Below w.heap.size w w' := by
  obtain ⟨am, cpm, rfl, _, _⟩ := h.1.shape
  obtain ⟨av, cpv, rfl, _, _⟩ := h.2.shape
  obtain ⟨ad, cpd, rfl, _, _⟩ := hd.shape
  obtain ⟨hok, hp⟩ := divE_ok he
  have hol := hp.len
  have hn1 : 0 < l.length := by have := hok.n1; omega
  have hn4 : l.length ≤ 4 := by have := hok.n2; omega
  have hvl : c.villages.length = l.length := by have := hok.vl; omega
  obtain ⟨bd, od, rfl, -, hbds, -⟩ := hd.addr hn1
  have hlk : ∀ v ∈ c.villages, PermOf l.length v.likes := fun v hv => by rw [hol]; exact (hok.vil v hv).2.2.2.2
  rw [← hol] at hp
  have hB0 : Below w.heap.size w (w.alloc (.cells #[.slice am c.mountains.length cpm, .slice av c.villages.length cpv] 25)) := (Below.refl _ w).alloc (Nat.le_refl _) _
  have hx : Blk w.heap.size #[.slice am c.mountains.length cpm, .slice av c.villages.length cpv] 25 (w.alloc (.cells #[.slice am c.mountains.length cpm, .slice av c.villages.length cpv] 25)) := Blk.new w _ _
  have h0 := h.call hB0
  have hd0 := hd.call hB0
  have hmk := make_ints_fact l.length (by omega)
  have hmb := make_bools_fact l.length (by omega)
  have hv1 : c.villages.length ≤ l.length := by omega
  have hv2 : l.length ≤ c.villages.length := by omega
  have HVL := Lib.hid hvl
  have HE := Lib.hid he
  have HP := Lib.hid hp
  have HLK := Lib.hid hlk
  clear hol hvl he hp hlk
  go_enter Try.func29, Try.ntmps29
  go_wp2_with fail
  refine (asked_c h0 hd0).mono ?_
  rintro e w1 ⟨rfl, hB1⟩
  rw [HE.out]
  have b0 : ((0 : Int) != 0) = false := rfl
  have h1 := h0.call hB1
  have hd1 := hd0.call hB1
  have hx1 := hx.call hB1
  have hB2 := hB0.trans (hB1.mono hB0.size)
  have hws := hB2.size
  have hxl := hx1.lt
  clear h0 hd0 hB0 hB1 hx
  go_upto_region 5 with fail
  go_cut [8, 9] (fun s8 s9 wx => ∃ gl go, s8 = .slice (some ⟨gl, 0, none⟩) l.length l.length ∧ s9 = .slice (some ⟨go, 0, none⟩) l.length l.length ∧ w1.heap.size ≤ gl ∧ w1.heap.size ≤ go ∧ gl ≠ go ∧ BoolBlk wx gl (List.replicate l.length false) ∧ IntBlk wx go (List.replicate l.length 0) ∧ Below w1.heap.size w1 wx)
  case first =>
    refine wp_region_mix (.one 0 (.one 2 (.two 1 (.pur 4 (.act 3 (.pur 5 .fin))) 3 (.act 1 (.pur 4 (.pur 5 .fin)))))) 99 (fun _ => True) (fun _ => True) (by kernel_rfl) (by kernel_rfl) rfl (by kernel_rfl) trivial (fun wd hqd _ => ?_)
    refine mix_pure rfl (fun K hK => ?_)
    go_simp
    refine ⟨_, fun _ _ => rfl, hK _ ?_⟩
    clear hK K
    refine mix_pure rfl (fun K hK => ?_)
    go_simp
    refine ⟨_, fun _ _ => rfl, hK _ ?_⟩
    clear hK K
    refine mix_two rfl rfl false false rfl rfl (fun K hK => ?_) (fun K hK => ?_)
    · go_simp
      refine hK _ _ trivial ?_
      clear hK K
      refine mix_pur rfl (fun K hK => ?_)
      go_simp
      first | refine ⟨_, fun _ => rfl, hK _ ?_⟩ | refine hK _ ?_
      clear hK K
      refine mix_eff rfl false rfl (fun K hK => ?_)
      go_simp
      refine hK _ _ trivial ?_
      clear hK K
      refine mix_pur rfl (fun K hK => ?_)
      go_simp
      first | refine ⟨_, fun _ => rfl, hK _ ?_⟩ | refine hK _ ?_
      clear hK K
      refine mix_done ?_
      go_wp2_with fail
      go_meet
      exact ⟨wd.heap.size, (wd.heap.size + 1), rfl, rfl, by have := hqd.size; omega, by have := hqd.size; omega, by omega, (boolBlk_made wd _).alloc _, (by have := intBlk_made (wd.alloc (.cells (BL (List.replicate l.length false)).toArray 4)) l.length; rwa [World.size_alloc] at this), ((hqd.below _).alloc (by have := hqd.size; omega) _).alloc (by have := hqd.size; simp; omega) _⟩
    · go_simp
      refine hK _ _ trivial ?_
      clear hK K
      refine mix_eff rfl false rfl (fun K hK => ?_)
      go_simp
      refine hK _ _ trivial ?_
      clear hK K
      refine mix_pur rfl (fun K hK => ?_)
      go_simp
      first | refine ⟨_, fun _ => rfl, hK _ ?_⟩ | refine hK _ ?_
      clear hK K
      refine mix_pur rfl (fun K hK => ?_)
      go_simp
      first | refine ⟨_, fun _ => rfl, hK _ ?_⟩ | refine hK _ ?_
      clear hK K
      refine mix_done ?_
      go_wp2_with fail
      go_meet
      exact ⟨(wd.heap.size + 1), wd.heap.size, rfl, rfl, by have := hqd.size; omega, by have := hqd.size; omega, by omega, (by have := boolBlk_made (wd.alloc (.cells (I64 (List.replicate l.length 0)).toArray 3)) l.length; rwa [World.size_alloc] at this), (intBlk_made wd _).alloc _, ((hqd.below _).alloc (by have := hqd.size; omega) _).alloc (by have := hqd.size; simp; omega) _⟩
  case rest =>
    obtain ⟨gl, go, rfl, rfl, hgl, hgo, hne, hL0, hO0, hB3⟩ := hcut
    rename World => w2
    clear b0
    go_wp2
    go_loopw [10] (fun s wr => ∃ i : Nat, i ≤ l.length ∧ s = .int .i64 i ∧ BoolBlk wr gl ((List.range l.length).map fun j => decide (j < i)) ∧ IntBlk wr go (List.replicate l.length 0) ∧ Below w1.heap.size w1 wr) (fun s _ => l.length - (intOf s).toNat)
    case atStart =>
      have e : (List.range l.length).map (fun j => decide (j < 0)) = List.replicate l.length false := by rw [List.eq_replicate_iff]; simp
      exact ⟨0, Nat.zero_le _, rfl, by rw [e]; exact hL0, hO0, hB3⟩
    case round =>
      obtain ⟨i, hi, rfl, hLr, hOr, hBr⟩ := hrel
      by_cases hin : i < l.length
      · have q1 := hLr.cell i (by simpa using hin)
        have f1 := hLr.free i
        have hL2 := hLr.set i true
        have hset : (((List.range l.length).map fun j => decide (j < i)).set i true) = (List.range l.length).map fun j => decide (j < i + 1) := by
          apply List.ext_getElem
          · simp
          · intro j a b
            rw [List.getElem_set]
            by_cases e : i = j
            · subst e; simp
            · rw [if_neg e]
              have : (j < i + 1) ↔ (j < i) := by omega
              simp [this]
        rw [hset] at hL2
        have hO2 := hOr.other (a := ⟨gl, i, none⟩) (by show gl ≠ go; exact hne) (.bool true)
        have hB4 : Below w1.heap.size w1 (wr.setCell ⟨gl, i, none⟩ (.bool true)) := hBr.setCell hgl _
        clear hset
        go_wp2_with fail
        go_roundw
        case rel => exact ⟨i + 1, by omega, by go_num, hL2, hO2, hB4⟩
        case measure => simp [intOf]; omega
      · obtain rfl : i = l.length := by omega
        have hall : (List.range l.length).map (fun j => decide (j < l.length)) = bools l.length (allB l.length) := by
          rw [bools_all _ hn4, List.eq_replicate_iff]
          refine ⟨by simp, fun b hb => ?_⟩
          simp only [List.mem_map, List.mem_range] at hb
          obtain ⟨j, hj, rfl⟩ := hb
          simpa using hj
        rw [hall] at hLr
        have hpn := popc_all l.length hn4
        clear hall hL0 hO0 hB3
        go_wp2_with fail
        go_loopw [11] (fun s wr => ∃ (mm k : Nat) (out : List Int), s = .int .i64 (popc mm : Nat) ∧ mm < 16 ∧ (∀ j, hasB mm j = true → j < l.length) ∧ popc mm ≤ k ∧ k ≤ l.length ∧ tradeN c.villages l k mm out = tradeF c.villages l ∧ out.length = l.length ∧ IntBlk wr go out ∧ BoolBlk wr gl (bools l.length mm) ∧ Below w1.heap.size w1 wr) (fun s _ => (intOf s).toNat)
        case atStart => exact ⟨allB l.length, l.length, _, by rw [hpn], allB_lt hn4, fun j hj => by have h1 := hasB_lt (allB_lt hn4) hj; rw [allB_has _ hn4 j h1] at hj; simpa using hj, by rw [hpn]; exact Nat.le_refl _, Nat.le_refl _, rfl, by simp, hOr, hLr, hBr⟩
        case round =>
          rename World => wr
          obtain ⟨mm, k, out, rfl, hm16, hml, hpk, hkl, htr, hlen, hI, hLb, hB⟩ := hrel
          have HML := Lib.hid hml
          have HTR := Lib.hid htr
          have HLEN := Lib.hid hlen
          clear hml htr hlen
          by_cases hz : mm = 0
          · subst hz
            have htr := HTR.out
            rw [trade_zero] at htr
            have hp0 : popc 0 = 0 := by decide
            rw [hp0]
            have hin := hI.ints (by have := HLEN.out; omega)
            rw [HLEN.out] at hin
            subst htr
            clear hp0
            go_wp2
            go_ret2
            exact ⟨_, rfl, hin.wide fun b hb _ => by omega, hB2.trans (hB.mono hws)⟩
          · have hpp := popc_pos mm hm16 hz
            have hp4 := popc_four mm
            obtain ⟨k, rfl⟩ : ∃ k', k = k' + 1 := ⟨k - 1, by omega⟩
            have hu : ∃ u, u < l.length ∧ hasB mm u = true := by
              by_cases hc : ∀ j, j < 4 → hasB mm j = false
              · exact absurd ((hasB_zero mm hm16).2 hc) hz
              · obtain ⟨j, hj⟩ := Classical.not_forall.1 hc
                have : hasB mm j = true := by
                  cases hb : hasB mm j
                  · exact absurd (fun _ => hb) hj
                  · rfl
                exact ⟨j, HML.out j this, this⟩
            have hrp := rpoints_c (h1.call hB) (hd1.call hB) hLb hn4 (by rw [HVL.out]) HLK.out HP.out HML.out hu
            obtain ⟨pf, hpf⟩ : ∃ pf, pf = ptV c.villages l mm := ⟨_, rfl⟩
            have hpl : ∀ i, pf i < l.length := fun i => by rw [hpf]; exact ptV_lt _ _ _ _ hn1 HML.out
            have hpi : ∀ i, hasB mm i = true → hasB mm (pf i) = true := fun i hi => by
              have hiv : i < c.villages.length := by have := HML.out i hi; omega
              rw [hpf]; exact ptV_in HP.out hiv (HLK.out _ (List.getElem_mem hiv)) hu
            have hpa : ∀ j (a : j < (ptsTo c.villages l mm l.length).length), (ptsTo c.villages l mm l.length)[j] = (pf j : Int) := fun j a => by
              have : j < l.length := by rwa [ptsTo_len] at a
              rw [ptsTo_at, if_pos this, hpf]
            have hpln := ptsTo_len c.villages l mm l.length
            generalize ptsTo c.villages l mm l.length = P at hrp hpa hpln
            have hmsk := tSteps_mask l pf l.length hm16 out
            have hsuc := tSteps_succ l pf l.length mm out
            have hsln := tSteps_len l pf l.length mm out
            have hcl : ∀ v, v < l.length → cyc pf l.length v = cyc pf (l.length - 1) v := fun v hv => cyc_less hn4 (fun i _ => hpl i) hv
            have HRP := Lib.hid hrp
            have HPF := Lib.hid hpf
            have HPL := Lib.hid hpl
            have HPI := Lib.hid hpi
            have HPA := Lib.hid hpa
            have HPN := Lib.hid hpln
            have HMSK := Lib.hid hmsk
            have HSUC := Lib.hid hsuc
            have HSLN := Lib.hid hsln
            have HCL := Lib.hid hcl
            have b1 : decide ((popc mm : Nat) > (0 : Int)) = true := decide_eq_true (by omega)
            have hxr := hx1.call hB
            have c0 := hxr.cell 0
            have c1 := hxr.cell 1
            clear hrp hpf hpl hpi hpa hpln hmsk hsuc hsln hcl hu
            go_wp2_with fail
            clear c0 c1
            refine HRP.out.mono ?_
            rintro e w3 ⟨g, rfl, hgr, hG, hB3⟩
            have hlo := hI.lt
            have hll := hLb.lt
            have hI3 := hI.call hB3
            have hL3 := hLb.call hB3
            have hgg := hG.lt
            have hBB := hB.trans (hB3.mono hB.size)
            clear HRP hxr b1
            have hsz3 : (w3.alloc (.cells (BL (List.replicate l.length false)).toArray 4)).heap.size = w3.heap.size + 1 := by simp
            have hV := boolBlk_made w3 l.length
            have hI4 := hI3.alloc (.cells (BL (List.replicate l.length false)).toArray 4)
            have hL4 := hL3.alloc (.cells (BL (List.replicate l.length false)).toArray 4)
            have hG4 := hG.alloc (.cells (BL (List.replicate l.length false)).toArray 4)
            have hB4 := hBB.alloc (by have := hBB.size; omega) (.cells (BL (List.replicate l.length false)).toArray 4)
            go_upto_region 14 with fail
            rw [← leaveTo_zero pf l.length mm] at hV hI4 hL4 hG4 hB4 hsz3 ⊢
            generalize w3.alloc (.cells (BL (leaveTo pf l.length mm 0)).toArray 4) = w4 at *
            obtain ⟨gb, hgb⟩ : ∃ gb, gb = w3.heap.size := ⟨_, rfl⟩
            rw [← hgb] at hV hsz3 ⊢
            have hg1 : g < gb := by omega
            have hg2 : wr.heap.size ≤ g := hgr
            have hg3 : w1.heap.size ≤ wr.heap.size := hB.size
            have hg4 : go < wr.heap.size := hlo
            have hg5 : gl < wr.heap.size := hll
            clear hgb hI3 hL3 hG hBB hI hLb hB3 hmk hmb
            go_wp2_with fail
            go_loopw [14] (fun s wx => ∃ i : Nat, i ≤ l.length ∧ s = .int .i64 i ∧ BoolBlk wx gb (leaveTo pf l.length mm i) ∧ IntBlk wx g P ∧ BoolBlk wx gl (bools l.length mm) ∧ IntBlk wx go out ∧ Below w1.heap.size w1 wx) (fun s _ => l.length - (intOf s).toNat)
            case atStart => exact ⟨0, Nat.zero_le _, rfl, hV, hG4, hL4, hI4, hB4⟩
            case round =>
              rename World => wx
              obtain ⟨i, hi, rfl, hVx, hGx, hLx, hIx, hBx⟩ := hrel
              by_cases hin : i < l.length
              · have q1 := hLx.cell i (by rw [bools_len]; exact hin)
                rw [bools_at] at q1
                cases hmi : hasB mm i with
                | false =>
                  rw [hmi] at q1
                  have hsk := leaveTo_skip pf l.length mm i hin hmi
                  have HSK := Lib.hid hsk
                  clear hsk hmi
                  go_wp2_with fail
                  go_roundw
                  case rel => exact ⟨i + 1, by omega, by go_num, by rw [HSK.out]; exact hVx, hGx, hLx, hIx, hBx⟩
                  case measure => simp [intOf]; omega
                | true =>
                  rw [hmi] at q1
                  have hPi : i < P.length := by have := HPN.out; omega
                  have q2 := hGx.cell i hPi
                  rw [HPA.out i hPi] at q2
                  have HMI := Lib.hid hmi
                  clear hmi
                  have hpb := HPL.out i
                  obtain ⟨a0, ha0⟩ : ∃ a0, a0 = pf i := ⟨_, rfl⟩
                  rw [← ha0] at q2 hpb
                  have HA0 := Lib.hid ha0
                  clear ha0
                  go_wp2_with fail
                  go_loopw [15, 16] (fun s15 s16 wy => ∃ s a : Nat, 1 ≤ s ∧ s ≤ l.length ∧ s16 = .int .i64 s ∧ s15 = .int .i64 a ∧ a = chase pf i (s - 1) a0 ∧ a < l.length ∧ wx = wy) (fun _ s16 _ => l.length - (intOf s16).toNat)
                  case atStart => exact ⟨1, a0, Nat.le_refl _, by omega, rfl, rfl, rfl, hpb, rfl⟩
                  case round =>
                    obtain ⟨s, a, hs1, hs2, rfl, rfl, ha, hal, rfl⟩ := hrel
                    by_cases hsl : s < l.length
                    · have b1 : decide ((s : Int) < (l.length : Int)) = true := decide_eq_true (by omega)
                      by_cases hai : i = a
                      · subst hai
                        have hcy : cyc pf l.length i = true := by
                          rw [cyc, beq_iff_eq, ← HA0.out]
                          obtain ⟨j, hj⟩ : ∃ j, l.length = (s - 1) + j := ⟨l.length - (s - 1), by omega⟩
                          rw [hj]
                          exact chase_stop ha.symm j
                        have b2 : ((i : Int) != (i : Int)) = false := by simp
                        have b3 : ((i : Int) == (i : Int)) = true := by simp
                        have HCY := Lib.hid hcy
                        clear hcy ha
                        have q3 := hVx.cell i (by rw [leaveTo_len]; exact hin)
                        have f3 := hVx.free i
                        have hV2 := hVx.set i true
                        have hls : (leaveTo pf l.length mm i).set i true = leaveTo pf l.length mm (i + 1) := by rw [leaveTo_succ _ _ _ _ hin, HMI.out, Bool.true_and, HCY.out]
                        rw [hls] at hV2
                        have hG2 := hGx.other (a := ⟨gb, i, none⟩) (by show gb ≠ g; omega) (.bool true)
                        have hL2 := hLx.other (a := ⟨gb, i, none⟩) (by show gb ≠ gl; omega) (.bool true)
                        have hI2 := hIx.other (a := ⟨gb, i, none⟩) (by show gb ≠ go; omega) (.bool true)
                        have hB5 : Below w1.heap.size w1 (wx.setCell ⟨gb, i, none⟩ (.bool true)) := hBx.setCell (show w1.heap.size ≤ gb by omega) _
                        clear hls
                        go_wp2_with fail
                        go_roundw
                        case rel => exact ⟨i + 1, by omega, by go_num, hV2, hG2, hL2, hI2, hB5⟩
                        case measure => simp [intOf]; omega
                      · have b2 : ((a : Int) != (i : Int)) = true := by simp; omega
                        have hPa : a < P.length := by have := HPN.out; omega
                        have q3 := hGx.cell a hPa
                        rw [HPA.out a hPa] at q3
                        have hpb2 := HPL.out a
                        have hch : pf a = chase pf i s a0 := by
                          obtain ⟨s', rfl⟩ : ∃ s', s = s' + 1 := ⟨s - 1, by omega⟩
                          rw [Nat.add_sub_cancel] at ha
                          rw [chase_next (by rw [← ha]; exact fun h => hai h.symm), ← ha]
                        obtain ⟨a1, ha1⟩ : ∃ a1, a1 = pf a := ⟨_, rfl⟩
                        rw [← ha1] at q3 hpb2 hch
                        have HCH := Lib.hid hch
                        clear ha1 hch ha
                        go_wp2_with fail
                        go_roundw
                        case rel => exact ⟨s + 1, a1, by omega, by omega, by go_num, rfl, by rw [Nat.add_sub_cancel]; exact HCH.out, hpb2, by first | trivial | rfl⟩
                        case measure => simp [intOf]; omega
                    · obtain rfl : s = l.length := by omega
                      have hcl := HCL.out i hin
                      by_cases hai : i = a
                      · subst hai
                        have hcy : cyc pf l.length i = true := by rw [hcl, cyc, beq_iff_eq, ← HA0.out]; exact ha.symm
                        have b3 : ((i : Int) == (i : Int)) = true := by simp
                        have HCY := Lib.hid hcy
                        clear hcy ha hcl
                        have q3 := hVx.cell i (by rw [leaveTo_len]; exact hin)
                        have f3 := hVx.free i
                        have hV2 := hVx.set i true
                        have hls : (leaveTo pf l.length mm i).set i true = leaveTo pf l.length mm (i + 1) := by rw [leaveTo_succ _ _ _ _ hin, HMI.out, Bool.true_and, HCY.out]
                        rw [hls] at hV2
                        have hG2 := hGx.other (a := ⟨gb, i, none⟩) (by show gb ≠ g; omega) (.bool true)
                        have hL2 := hLx.other (a := ⟨gb, i, none⟩) (by show gb ≠ gl; omega) (.bool true)
                        have hI2 := hIx.other (a := ⟨gb, i, none⟩) (by show gb ≠ go; omega) (.bool true)
                        have hB5 : Below w1.heap.size w1 (wx.setCell ⟨gb, i, none⟩ (.bool true)) := hBx.setCell (show w1.heap.size ≤ gb by omega) _
                        clear hls
                        go_wp2_with fail
                        go_roundw
                        case rel => exact ⟨i + 1, by omega, by go_num, hV2, hG2, hL2, hI2, hB5⟩
                        case measure => simp [intOf]; omega
                      · have hcy : cyc pf l.length i = false := by
                          rw [hcl, cyc, beq_eq_false_iff_ne, ← HA0.out, ← ha]; exact fun h => hai h.symm
                        have b3 : ((a : Int) == (i : Int)) = false := by simp; omega
                        have HCY := Lib.hid hcy
                        clear hcy ha hcl
                        have q3 := hVx.cell i (by rw [leaveTo_len]; exact hin)
                        have f3 := hVx.free i
                        have hV2 := hVx.set i false
                        have hls : (leaveTo pf l.length mm i).set i false = leaveTo pf l.length mm (i + 1) := by rw [leaveTo_succ _ _ _ _ hin, HMI.out, Bool.true_and, HCY.out]
                        rw [hls] at hV2
                        have hG2 := hGx.other (a := ⟨gb, i, none⟩) (by show gb ≠ g; omega) (.bool false)
                        have hL2 := hLx.other (a := ⟨gb, i, none⟩) (by show gb ≠ gl; omega) (.bool false)
                        have hI2 := hIx.other (a := ⟨gb, i, none⟩) (by show gb ≠ go; omega) (.bool false)
                        have hB5 : Below w1.heap.size w1 (wx.setCell ⟨gb, i, none⟩ (.bool false)) := hBx.setCell (show w1.heap.size ≤ gb by omega) _
                        clear hls
                        go_wp2_with fail
                        go_roundw
                        case rel => exact ⟨i + 1, by omega, by go_num, hV2, hG2, hL2, hI2, hB5⟩
                        case measure => simp [intOf]; omega
              · obtain rfl : i = l.length := by omega
                have h30 : tSteps l pf l.length mm out 0 = (out, mm) := rfl
                go_wp2_with fail
                go_loopw [11, 17] (fun s11 s17 wy => ∃ (i : Nat) (mi : Nat) (oi : List Int), i ≤ l.length ∧ s17 = .int .i64 i ∧ (oi, mi) = tSteps l pf l.length mm out i ∧ s11 = .int .i64 (popc mi : Nat) ∧ BoolBlk wy gb (leaveTo pf l.length mm l.length) ∧ IntBlk wy g P ∧ BoolBlk wy gl (bools l.length mi) ∧ IntBlk wy go oi ∧ Below w1.heap.size w1 wy) (fun _ s17 _ => l.length - (intOf s17).toNat)
                case atStart => exact ⟨0, mm, out, Nat.zero_le _, rfl, rfl, rfl, hVx, hGx, hLx, hIx, hBx⟩
                case round =>
                  rename World => wy
                  obtain ⟨i, mi, oi, hi2, rfl, hst, rfl, hVy, hGy, hLy, hIy, hBy⟩ := hrel
                  obtain ⟨hm1, hm2⟩ := HMSK.out i (by omega)
                  have hol := HSLN.out i
                  rw [← hst] at hm1 hm2 hol
                  have hsn := HSUC.out i
                  rw [← hst, tStep] at hsn
                  have HM2 := Lib.hid hm2
                  have HOL := Lib.hid hol
                  have HST := Lib.hid hst
                  have hpo4 := popc_four mi
                  clear hm2 hol hst
                  by_cases hin2 : i < l.length
                  · have hbl : i < (leaveTo pf l.length mm l.length).length := by rw [leaveTo_len]; exact hin2
                    have q1 := hVy.cell i hbl
                    rw [leaveTo_at, decide_eq_true hin2, Bool.true_and] at q1
                    by_cases hlv : hasB mm i = true ∧ cyc pf l.length i = true
                    · rw [hlv.1, hlv.2, Bool.true_and] at q1
                      rw [if_pos hlv] at hsn
                      have hmi : hasB mi i = true := by rw [HM2.out i (by omega), hlv.1]; simp
                      have hpw := popc_wo mi hm1 i (by omega) hmi
                      have hbw := bools_wo l.length hn4 mi hm1 i hin2
                      have hPi : i < P.length := by have := HPN.out; omega
                      have q2 := hGy.cell i hPi
                      rw [HPA.out i hPi] at q2
                      have hpb := HPL.out i
                      obtain ⟨a0, ha0⟩ : ∃ a0, a0 = pf i := ⟨_, rfl⟩
                      rw [← ha0] at q2 hpb hsn
                      have q4 := (hd1.call hBy).cell a0 hpb
                      have hge : l.getD a0 0 = l[a0] := by simp [hpb]
                      rw [hge] at hsn
                      obtain ⟨x, hx'⟩ : ∃ x, x = l[a0] := ⟨_, rfl⟩
                      rw [← hx'] at q4 hsn
                      have q5 := hLy.cell i (by rw [bools_len]; exact hin2)
                      have f5 := hLy.free i
                      have q6 := hIy.cell i (by have := HOL.out; have := HLEN.out; dsimp only at *; omega)
                      have f6 := hIy.free i
                      have hL2 := (hLy.set i false).other (a := ⟨go, i, none⟩) (by show go ≠ gl; omega) (.int .i64 x)
                      rw [← hbw] at hL2
                      have hI2 := (hIy.other (a := ⟨gl, i, none⟩) (by show gl ≠ go; omega) (.bool false)).set i x
                      have hV2 := (hVy.other (a := ⟨gl, i, none⟩) (by show gl ≠ gb; omega) (.bool false)).other (a := ⟨go, i, none⟩) (by show go ≠ gb; omega) (.int .i64 x)
                      have hG2 := (hGy.other (a := ⟨gl, i, none⟩) (by show gl ≠ g; omega) (.bool false)).other (a := ⟨go, i, none⟩) (by show go ≠ g; omega) (.int .i64 x)
                      have hB5 : Below w1.heap.size w1 ((wy.setCell ⟨gl, i, none⟩ (.bool false)).setCell ⟨go, i, none⟩ (.int .i64 x)) := (hBy.setCell hgl _).setCell hgo _
                      obtain ⟨p1, hp1⟩ : ∃ p1, p1 = popc mi := ⟨_, rfl⟩
                      obtain ⟨p2, hp2⟩ : ∃ p2, p2 = popc (woB mi i) := ⟨_, rfl⟩
                      rw [← hp1, ← hp2] at hpw
                      rw [← hp1]
                      have hsub : (p1 : Int) - 1 = (p2 : Int) := by omega
                      have hp1b : 1 ≤ p1 ∧ p1 ≤ 4 := by omega
                      have hp1c := hp1b.1
                      have hp1d := hp1b.2
                      have HSN := Lib.hid hsn
                      have HP2 := Lib.hid hp2
                      clear hsn hp1 hp2 hpw hx' hge ha0 hlv hmi hbw hpo4 hp1b
                      go_wp2_with fail
                      go_roundw
                      case rel => exact ⟨i + 1, woB mi i, oi.set i x, by omega, by go_num, by rw [HSN.out], by rw [← HP2.out], hV2, hG2, hL2, hI2, hB5⟩
                      case measure => simp [intOf]; omega
                    · have hf : (hasB mm i && cyc pf l.length i) = false := by
                        cases h1 : hasB mm i <;> cases h2 : cyc pf l.length i <;> simp_all
                      rw [hf] at q1
                      rw [if_neg hlv] at hsn
                      have HSN := Lib.hid hsn
                      clear hsn hlv hf
                      go_wp2_with fail
                      go_roundw
                      case rel => exact ⟨i + 1, mi, oi, by omega, by go_num, by rw [HSN.out], rfl, hVy, hGy, hLy, hIy, hBy⟩
                      case measure => simp [intOf]; omega
                  · obtain rfl : i = l.length := by omega
                    have hless : popc mi < popc mm := by
                      obtain ⟨u, hu4, hub, huc⟩ := cyc_some hm16 hz (fun i _ => by have := HPL.out i; omega) (fun i _ => HPI.out i) (n := l.length) (by omega)
                      have hu1 := HML.out u hub
                      have hu2 : hasB mi u = false := by rw [HM2.out u hu4, huc]; simp [hu1]
                      exact popc_less _ hm16 _ hm1 (fun j hj hb => by rw [HM2.out j hj] at hb; simp at hb; exact hb.1) ⟨u, hu4, hub, hu2⟩
                    have hml2 : ∀ j, hasB mi j = true → j < l.length := fun j hj => by
                      have h7 := hasB_lt hm1 hj
                      rw [HM2.out j h7] at hj
                      simp at hj
                      exact HML.out j hj.1
                    have h6 := HTR.out
                    rw [tradeN, if_neg hz, ← HPF.out, ← HST.out] at h6
                    have H6 := Lib.hid h6
                    have HML2 := Lib.hid hml2
                    clear h6 hml2 hsn
                    go_wp2
                    go_roundw
                    case rel => exact ⟨mi, k, oi, rfl, hm1, HML2.out, by omega, by omega, H6.out, by have := HOL.out; have := HLEN.out; dsimp only at *; omega, hIy, hLy, hBy⟩
                    case measure => simp [intOf]; omega

end Go.Proofs.Ythchpoabncdicaa
