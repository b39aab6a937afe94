/- The contract of Trade; conditions: as said at each. -/
import Derived.Test.YtmlikgjfpmjdcaaGreatDoorA6

/- The contract of Trade (lots) behind begin; conditions: as said. -/
namespace Go.Proofs.YtmlikgjfpmjdcaaGreatDoor
open Go.RowKit

def tradeR (c : Com) (l : List Int) : List Int := if divE c l = 0 then tradeF c.villages l else []

theorem find?_at' {l : List Int} {q : Int → Bool} {j : Nat} (hj : j < l.length) (h1 : q l[j] = true) (h2 : ∀ i (a : i < l.length), i < j → q l[i] = false) : l.find? q = some l[j] := find?_at hj h1 h2
def ptO (order : List Int) : Option Int → Nat
  | some x => (placeOf order x).toNat
  | none => 0
theorem ptV_eq (vs : List Vil) (order : List Int) (m v : Nat) : ptV vs order m v = ptO order ((vs.getD v ⟨0, 0, []⟩).likes.find? (fun x => hasB m (placeOf order x).toNat)) := by
  rw [ptV]; cases (vs.getD v ⟨0, 0, []⟩).likes.find? (fun x => hasB m (placeOf order x).toNat) <;> rfl
theorem CellIs.qt {b o : Nat} {v : Value} {w w' : World} (h : CellIs b o v w) (hq : Qt w w') : CellIs b o v w' := by
  obtain ⟨n, rfl⟩ := hq; exact h
theorem CellIs.other {b o : Nat} {v : Value} {w : World} (h : CellIs b o v w) {a : Addr} (hb : b ≠ a.block) (u : Value) : CellIs b o v (w.setCell a u) := by
  rw [CellIs, World.cell?, Below.heap_setCell w a u b hb]; exact h
theorem tradeN_zero (vs : List Vil) (order : List Int) (out : List Int) : ∀ k, tradeN vs order k 0 out = out
  | 0 => rfl
  | k + 1 => by rw [tradeN, if_pos rfl]
theorem hasB_lt {m j : Nat} (hm : m < 16) (h : hasB m j = true) : j < 4 := by
  by_cases hj : j < 4
  · exact hj
  · have : m < 2 ^ j := Nat.lt_of_lt_of_le hm (by rw [show (16 : Nat) = 2 ^ 4 from rfl]; exact Nat.pow_le_pow_right (by omega) (by omega))
    rw [hasB, Nat.testBit_lt_two_pow this] at h
    exact absurd h (by simp)

set_option maxRecDepth 100000 in
set_option maxHeartbeats 4000000 in
theorem tradeF_c {A A' : Nat → Prop} {w : World} {vm vv vd : Value} {c : Com} {l : List Int} (h : Cm A w vm vv c) (hd : Ints A' w vd l) (he : divE c l = 0) :
    Calls Tryz.prog 18 #[.agg #[vm, vv], vd] w fun e w' => ∃ v', e = .returned (.tuple #[v', .int .i64 0]) ∧ Ints (fun b => w.heap.size ≤ b) w' v' (tradeF c.villages l) ∧ Below w.heap.size w w' := by
  obtain ⟨am, cpm, rfl, _, _⟩ := h.1.shape
  obtain ⟨av, cpv, rfl, _, _⟩ := h.2.shape
  obtain ⟨ad, cpd, rfl, _, _⟩ := hd.shape
  obtain ⟨hok, hp⟩ := divE_ok he
  have hol := hp.len
  have hn1 : 0 < l.length := by have := hok.n1; omega
  have hn4 : l.length ≤ 4 := by have := hok.n2; omega
  have hvl : c.villages.length = l.length := by have := hok.vl; omega
  obtain ⟨bd, od, rfl, hbdA, hbds, -⟩ := hd.addr hn1
  clear hbdA
  have hmem := hp.mem
  have hlk : ∀ v ∈ c.villages, PermOf l.length v.likes := fun v hv => by rw [hol]; exact (hok.vil v hv).2.2.2.2
  rw [← hol] at hmem hp
  have hB0 : Below w.heap.size w (w.alloc (.cells #[.slice am c.mountains.length cpm, .slice av c.villages.length cpv] 25)) := (Below.refl _ w).alloc (Nat.le_refl _) _
  have h0 := h.call hB0
  have hd0 := hd.call hB0
  have hmk := make_ints_fact l.length (by omega)
  have b0 : ((0 : Int) != 0) = false := rfl
  have HOL := Lib.hid hol
  have HVL := Lib.hid hvl
  have HE := Lib.hid he
  have HP := Lib.hid hp
  clear hol hvl he hp
  go_enter Tryz.func18, Tryz.ntmps18
  go_wp2_with fail
  refine (begin_ok h0 hd0 HE.out).mono ?_
  rintro e w1 ⟨gw, rfl, hW, hgw, hB1⟩
  have h1 := h0.call hB1
  have hd1 := hd0.call hB1
  have hB2 := hB0.trans (hB1.mono hB0.size)
  have hws := hB2.size
  clear h0 hd0 hB0 hB1
  go_upto_region 5 with fail
  go_cut [9, 10] (fun s9 s10 wx => ∃ g, s9 = .slice (some ⟨g, 0, none⟩) l.length l.length ∧ s10 = .int .u8 (allB l.length) ∧ w1.heap.size ≤ g ∧ IntBlk wx g (List.replicate l.length 0) ∧ Below w1.heap.size w1 wx)
  case first =>
    refine wp_region_mix (.one 0 (.one 2 (.two 1 (.act 3 (.act 4 (.act 5 .fin))) 3 (.act 1 (.act 4 (.act 5 .fin)))))) 99 (fun _ => True) (fun _ => True) (by kernel_rfl) (by kernel_rfl) rfl (by kernel_rfl) trivial (fun wd hqd _ => ?_)
    refine mix_pure rfl (fun K hK => ?_)
    go_simp
    refine ⟨_, fun _ _ => rfl, hK _ ?_⟩
    clear hK K
    refine mix_pure rfl (fun K hK => ?_)
    go_simp
    refine ⟨_, fun _ _ => rfl, hK _ ?_⟩
    clear hK K
    refine mix_two rfl rfl false false rfl rfl (fun K hK => ?_) (fun K hK => ?_)
    · go_simp
      refine hK _ _ trivial ?_
      clear hK K
      refine mix_eff rfl false rfl (fun K hK => ?_)
      go_simp
      refine (everything_c l.length hn4 _).mono ?_
      rintro e w2 ⟨rfl, rfl⟩
      refine hK _ _ trivial ?_
      clear hK K
      refine mix_eff rfl false rfl (fun K hK => ?_)
      go_simp
      refine hK _ _ trivial ?_
      clear hK K
      refine mix_eff rfl false rfl (fun K hK => ?_)
      go_simp
      refine hK _ _ trivial ?_
      clear hK K
      refine mix_done ?_
      go_wp2_with fail
      go_meet
      exact ⟨wd.heap.size, rfl, rfl, by rw [hqd.size]; exact Nat.le_refl _, intBlk_made wd _, (hqd.below _).alloc (by rw [hqd.size]; exact Nat.le_refl _) _⟩
    · go_simp
      refine (everything_c l.length hn4 _).mono ?_
      rintro e w2 ⟨rfl, rfl⟩
      refine hK _ _ trivial ?_
      clear hK K
      refine mix_eff rfl false rfl (fun K hK => ?_)
      go_simp
      refine hK _ _ trivial ?_
      clear hK K
      refine mix_eff rfl false rfl (fun K hK => ?_)
      go_simp
      refine hK _ _ trivial ?_
      clear hK K
      refine mix_eff rfl false rfl (fun K hK => ?_)
      go_simp
      refine hK _ _ trivial ?_
      clear hK K
      refine mix_done ?_
      go_wp2_with fail
      go_meet
      exact ⟨wd.heap.size, rfl, rfl, by rw [hqd.size]; exact Nat.le_refl _, intBlk_made wd _, (hqd.below _).alloc (by rw [hqd.size]; exact Nat.le_refl _) _⟩
  case rest =>
    obtain ⟨g, rfl, rfl, hg, hI0, hB3⟩ := hcut
    clear hmk
    have hmk := make_ints_fact l.length (by omega)
    go_wp2
    go_loopw [10] (fun s wr => ∃ (mm k : Nat) (out : List Int), s = .int .u8 mm ∧ mm < 16 ∧ (∀ j, hasB mm j = true → j < l.length) ∧ popc mm ≤ k ∧ k ≤ l.length ∧ tradeN c.villages l k mm out = tradeF c.villages l ∧ out.length = l.length ∧ IntBlk wr g out ∧ Below w1.heap.size w1 wr) (fun s _ => popc (intOf s).toNat)
    case atStart => exact ⟨_, l.length, _, rfl, allB_lt hn4, fun j hj => by have h1 := hasB_lt (allB_lt hn4) hj; rw [allB_has _ hn4 j h1] at hj; simpa using hj, by rw [popc_all _ hn4]; exact Nat.le_refl _, Nat.le_refl _, rfl, by simp, hI0, hB3⟩
    case round =>
      obtain ⟨mm, k, out, rfl, hm16, hml, hpk, hkl, htr, hlen, hI, hB⟩ := hrel
      have HML := Lib.hid hml
      have HTR := Lib.hid htr
      have HLEN := Lib.hid hlen
      clear hml htr hlen
      by_cases hz : mm = 0
      · subst hz
        have b1 : (((0 : Nat) : Int) != 0) = false := rfl
        go_wp2
        go_ret2
        refine ⟨_, rfl, ?_, ?_⟩
        · have h3 := hI.ints (by rw [HLEN.out]; omega)
          rw [HLEN.out] at h3
          rw [← HTR.out, tradeN_zero]
          exact h3.wide fun b hb _ => by have := hB2.size; omega
        · exact hB2.trans (hB.mono hB2.size)
      · have b1 : ((mm : Int) != 0) = true := by simpa using hz
        rename World => wa
        obtain ⟨k, rfl⟩ : ∃ k', k = k' + 1 := ⟨k - 1, by have := popc_pos mm hm16 hz; omega⟩
        obtain ⟨pf, hpf⟩ : ∃ pf, pf = ptV c.villages l mm := ⟨_, rfl⟩
        have hpl : ∀ v, pf v < l.length := fun v => by rw [hpf]; exact ptV_lt _ _ _ _ hn1 HML.out
        have hpi : ∀ v, hasB mm v = true → hasB mm (pf v) = true := fun v hv => by
          have h2 := HML.out v hv
          have h3 := HVL.out
          rw [hpf]; exact ptV_in HP.out (by omega) (hlk _ (List.getElem_mem (by omega))) ⟨v, h2, hv⟩
        have HPF := Lib.hid hpf
        have HPL := Lib.hid hpl
        have HPI := Lib.hid hpi
        clear hpf hpl hpi
        go_wp2
        go_loopw [40] (fun i wx => ∃ q : Nat, q ≤ l.length ∧ i = .int .i64 q ∧ ∃ pts : List Int, pts.length = l.length ∧ (∀ v (a : v < pts.length), pts[v] = if v < q ∧ hasB mm v = true then (pf v : Int) else 0) ∧ IntBlk wx wa.heap.size pts ∧ Below wa.heap.size wa wx) (fun i _ => l.length - (intOf i).toNat)
        case atStart => exact ⟨0, Nat.zero_le _, rfl, _, by simp, fun v a => by simp, intBlk_made wa _, (Below.refl _ wa).alloc (Nat.le_refl _) _⟩
        case round =>
          rename World => wx
          obtain ⟨q, hq, rfl, pts, hplen, hpts, hIp, hBx⟩ := hrel
          have HPTS := Lib.hid hpts; clear hpts
          by_cases hlt : q < l.length
          · have q4 : q < 4 := by omega
            by_cases hin : hasB mm q = true
            · have hbb : (!true) = false := rfl
              have hck := h1.call (hB.trans (hBx.mono hB.size))
              have hdk := hd1.call (hB.trans (hBx.mono hB.size))
              have hWk := hW.call (hB.trans (hBx.mono hB.size))
              have hviv : q < c.villages.length := by have := HVL.out; omega
              obtain ⟨bv, ov, rfl, -, -⟩ := hck.2.addr (by omega)
              obtain ⟨pl, dl, g1, g2, g3, hl⟩ := hck.2.at q hviv
              have hlp := hlk _ (List.getElem_mem hviv)
              have hll := hlp.len
              have hlm := hlp.mem
              have hpv : pf q = ptO l (c.villages[q].likes.find? (fun x => hasB mm (placeOf l x).toNat)) := by
                rw [HPF.out, ptV_eq]; have e : (c.villages.getD q ⟨0, 0, []⟩).likes = c.villages[q].likes := by simp [hviv]
                rw [e]
              obtain ⟨lk, hlke⟩ : ∃ lk, lk = c.villages[q].likes := ⟨_, rfl⟩
              rw [← hlke] at hpv hl hll hlm g3
              clear hlke hlp
              obtain ⟨bl, ol, rfl, -, -, -⟩ := hl.addr (by omega)
              have c1 := hWk.cell 1
              have hlk4 : lk.length ≤ 4 := by omega
              have HPV := Lib.hid hpv
              have HLL := Lib.hid hll
              clear hpv hll
              go_wp2_with (go_at_call 45; refine (has_c mm q hm16 q4 _).mono ?_; rw [hin]; rintro e w' ⟨rfl, rfl⟩)
              go_loopw [57] (fun i wy => Qt wx wy ∧ ∃ j : Nat, j ≤ lk.length ∧ i = .int .i64 j ∧ (∀ i (a : i < lk.length), i < j → hasB mm (placeOf l lk[i]).toNat = false)) (fun i _ => lk.length - (intOf i).toNat)
              case atStart => exact ⟨Qt.refl _, 0, Nat.zero_le _, rfl, by omega⟩
              case round =>
                rename World => wy
                obtain ⟨hQ, j, hj, rfl, hpre⟩ := hrel
                have HPRE := Lib.hid hpre; clear hpre
                have hly := hl.qt hQ
                have hdy := hdk.qt hQ
                have hIpy : IntBlk wy wa.heap.size pts := hIp.step (by rw [hQ.heap])
                have hBy := hBx.trans (hQ.below _)
                by_cases hjl : j < lk.length
                · have gl := hly.cell j hjl
                  have hxm : lk[j] ∈ l := (hmem _).2 ((hlm _).1 (List.getElem_mem hjl))
                  have hbd := placeOf_bd hxm
                  obtain ⟨y, hy⟩ : ∃ y : Nat, placeOf l lk[j] = (y : Int) := ⟨(placeOf l lk[j]).toNat, by omega⟩
                  obtain ⟨x, hx⟩ : ∃ x, x = lk[j] := ⟨_, rfl⟩
                  rw [← hx] at gl hxm hbd hy
                  have hy4 : y < 4 := by omega
                  have HX := Lib.hid hx
                  have HY := Lib.hid hy
                  clear hx hbd hxm
                  by_cases hyn : hasB mm y = true
                  · have hcv : pf q = y := by
                      rw [HPV.out, find?_at hjl (q := fun x => hasB mm (placeOf l x).toNat) (by rw [← HX.out, HY.out, Int.toNat_natCast]; exact hyn) HPRE.out]
                      rw [← HX.out, ptO, HY.out, Int.toNat_natCast]
                    have HCV := Lib.hid hcv; clear hcv
                    have hpq : q < pts.length := by omega
                    clear hIp
                    go_wp2_with fail
                    refine (index_c x hdy).mono ?_
                    rw [hy]
                    rintro e wz ⟨rfl, hqz⟩
                    have hIpz : IntBlk wz wa.heap.size pts := hIpy.step (by rw [hqz.heap])
                    have gp := hIpz.cell q hpq
                    have fp := hIpz.free q
                    have hI2 := hIpz.set q y
                    have hBz := hBy.trans (hqz.below _)
                    clear hy
                    go_wp2_with (go_at_call 45; refine (has_c mm y hm16 hy4 _).mono ?_; rw [hyn]; rintro e w' ⟨rfl, rfl⟩)
                    go_roundw
                    case rel =>
                      refine ⟨q + 1, by omega, by go_num, pts.set q y, by simp [hplen], fun v a => ?_, hI2, hBz.setCell (Nat.le_refl _) _⟩
                      rw [List.getElem_set]
                      split
                      · rename_i e; subst e; rw [if_pos ⟨by omega, hin⟩, HCV.out]
                      · rename_i e
                        rw [HPTS.out v (by simpa using a)]
                        by_cases hv : v < q <;> simp [hv, show (v < q + 1) = (v < q) from by apply propext; omega]
                    case measure => simp [intOf]; omega
                  · have hyn' : hasB mm y = false := by simpa using hyn
                    go_wp2_with fail
                    refine (index_c x hdy).mono ?_
                    rw [hy]
                    rintro e wz ⟨rfl, hqz⟩
                    clear hy
                    go_wp2_with (go_at_call 45; refine (has_c mm y hm16 hy4 _).mono ?_; rw [hyn']; rintro e w' ⟨rfl, rfl⟩)
                    go_roundw
                    case rel =>
                      refine ⟨hQ.trans hqz, j + 1, by omega, by go_num, fun i a hi => ?_⟩
                      by_cases e : i = j
                      · subst e; rw [← HX.out, HY.out, Int.toNat_natCast]; exact hyn'
                      · exact HPRE.out i a (by omega)
                    case measure => simp [intOf]; omega
                · have hcv : pf q = 0 := by
                    rw [HPV.out, find?_no (q := fun x => hasB mm (placeOf l x).toNat) (fun i a => HPRE.out i a (by omega)), ptO]
                  have HCV := Lib.hid hcv; clear hcv
                  go_wp2
                  go_roundw
                  case rel =>
                    refine ⟨q + 1, by omega, by go_num, pts, hplen, fun v a => ?_, hIpy, hBy⟩
                    rw [HPTS.out v a]
                    by_cases e : v = q
                    · subst e; simp [HCV.out]
                    · simp [show (v < q + 1) = (v < q) from by apply propext; omega]
                  case measure => simp [intOf]; omega
            · have hin' : hasB mm q = false := by simpa using hin
              have hbb : (!false) = true := rfl
              go_wp2_with (go_at_call 45; refine (has_c mm q hm16 q4 _).mono ?_; rw [hin']; rintro e w' ⟨rfl, rfl⟩)
              go_roundw
              case rel =>
                refine ⟨q + 1, by omega, by go_num, pts, hplen, fun v a => ?_, hIp, hBx⟩
                rw [HPTS.out v a]
                by_cases e : v = q
                · subst e; simp [hin']
                · simp [show (v < q + 1) = (v < q) from by apply propext; omega]
              case measure => simp [intOf]; omega
          · have hqe : q = l.length := by omega
            subst hqe
            have hpt : ∀ v (a : v < pts.length), hasB mm v = true → pts[v] = (pf v : Int) := fun v a hv => by
              rw [HPTS.out v a, if_pos ⟨by omega, hv⟩]
            have HPT := Lib.hid hpt
            have hgl := hI.lt
            clear hpt
            go_wp2
            go_loopw [16, 75] (fun s i wy => ∃ v : Nat, v ≤ l.length ∧ i = .int .i64 v ∧ s = .int .u8 (tSteps l pf l.length mm out v).2 ∧ IntBlk wy g (tSteps l pf l.length mm out v).1 ∧ IntBlk wy wa.heap.size pts ∧ Below w1.heap.size w1 wy) (fun _ i _ => l.length - (intOf i).toNat)
            case atStart => exact ⟨0, Nat.zero_le _, rfl, rfl, hI.call hBx, hIp, hB.trans (hBx.mono hB.size)⟩
            case round =>
              rename World => wy
              obtain ⟨v, hv, rfl, rfl, hIo, hIp, hBy⟩ := hrel
              have hM := tSteps_mask l pf l.length hm16 out v (by omega)
              have hsl := tSteps_len l pf l.length mm out v
              have hsn := tSteps_succ l pf l.length mm out v
              by_cases hlt : v < l.length
              · obtain ⟨st, hst⟩ : ∃ st, st = tSteps l pf l.length mm out v := ⟨_, rfl⟩
                rw [← hst] at hM hsl hsn hIo
                have hM16 := hM.1
                have HSN := Lib.hid hsn
                have HSL := Lib.hid hsl
                have HST := Lib.hid hst
                clear hsn hsl hM hst
                have hv4 : v < 4 := by omega
                have hvp : v < pts.length := by omega
                have hvo : v < st.1.length := by have := HSL.out; have := HLEN.out; omega
                by_cases hin : hasB mm v = true
                · have hbb : (!true) = false := rfl
                  have gp := hIp.cell v hvp
                  rw [HPT.out v hvp hin] at gp
                  rw [← HST.out]
                  go_wp2_with (go_at_call 45; refine (has_c mm v hm16 hv4 _).mono ?_; rw [hin]; rintro e w' ⟨rfl, rfl⟩)
                  go_loopw [18, 19] (fun a i wz => Qt wy wz ∧ ∃ j : Nat, j ≤ l.length ∧ i = .int .i64 j ∧ a = .int .i64 (chase pf v j (pf v) : Nat)) (fun _ i _ => l.length - (intOf i).toNat)
                  case atStart => exact ⟨Qt.refl _, 0, Nat.zero_le _, rfl, rfl⟩
                  case round =>
                    rename World => wz
                    obtain ⟨hQ, j, hj, rfl, rfl⟩ := hrel
                    have hain := chase_in (T := fun i => hasB mm i = true) HPI.out hin j (pf v) (HPI.out v hin)
                    obtain ⟨a, hae⟩ : ∃ a, a = chase pf v j (pf v) := ⟨_, rfl⟩
                    rw [← hae] at hain
                    have HAE := Lib.hid hae
                    have hal := HML.out a hain
                    have hIoz : IntBlk wz g st.1 := hIo.step (by rw [hQ.heap])
                    have hIpz : IntBlk wz wa.heap.size pts := hIp.step (by rw [hQ.heap])
                    have hBz := hBy.trans (hQ.below _)
                    have hdz := hd1.call hBz
                    obtain ⟨pv, hpve⟩ : ∃ pv, pv = pf v := ⟨_, rfl⟩
                    have hpvl : pv < l.length := by rw [hpve]; exact HPL.out v
                    obtain ⟨x, hxe⟩ : ∃ x, x = l[pv] := ⟨_, rfl⟩
                    have cp := hIpz.cell v hvp
                    rw [HPT.out v hvp hin, ← hpve] at cp
                    have cx := hdz.cell pv hpvl
                    rw [← hxe] at cx
                    have hxv : l.getD pv 0 = x := by rw [hxe, List.getD_eq_getElem?_getD, List.getElem?_eq_getElem hpvl]; rfl
                    have HXV := Lib.hid hxv
                    have HPV2 := Lib.hid hpve
                    rw [← hae]
                    clear hae hxe hxv hpve
                    by_cases hjl : j < l.length
                    · by_cases hav : a = v
                      · have hcy : cyc pf l.length v = true := by
                          rw [cyc, beq_iff_eq]
                          have h5 := chase_stop (HAE.out.symm.trans hav) (l.length - j)
                          rwa [show j + (l.length - j) = l.length from by omega] at h5
                        have HC := Lib.hid hcy
                        clear hcy
                        subst a
                        have e1 : ((v : Int) != (v : Int)) = false := by simp
                        have e2 : ((v : Int) == (v : Int)) = true := by simp
                        go_wp2
                        have hS0 : (Both (CellIs wa.heap.size v (.int .i64 (pv : Nat))) (CellIs bd (od + pv) (.int .i64 x))) wz.drew := ⟨(cp : CellIs wa.heap.size v (.int .i64 (pv : Nat)) wz), (cx : CellIs bd (od + pv) (.int .i64 x) wz)⟩
                        refine wp_region_mix (.one 0 (.one 1 (.one 2 (.one 3 (.one 4 (.one 5 (.one 6 (.one 7 (.one 8 (.one 9 (.one 10 (.act 11 (.one 12 (.act 13 (.act 14 .fin))))))))))))))) 99 (Both (CellIs wa.heap.size v (.int .i64 (pv : Nat))) (CellIs bd (od + pv) (.int .i64 x))) (Both (CellIs wa.heap.size v (.int .i64 (pv : Nat))) (CellIs bd (od + pv) (.int .i64 x))) (by kernel_rfl) (by kernel_rfl) rfl (by kernel_rfl) hS0 (fun w5 hq5 _ => ?_)
                        have hIo5 : IntBlk w5 g st.1 := hIoz.step (by rw [hq5.heap])
                        have hIp5 : IntBlk w5 wa.heap.size pts := hIpz.step (by rw [hq5.heap])
                        have hB5 := hBz.trans (hq5.below _)
                        have hS1 : (Both (CellIs wa.heap.size v (.int .i64 (pv : Nat))) (CellIs bd (od + pv) (.int .i64 x))) w5 := ⟨CellIs.qt cp hq5, CellIs.qt cx hq5⟩
                        have hS2 : (Both (CellIs wa.heap.size v (.int .i64 (pv : Nat))) (CellIs bd (od + pv) (.int .i64 x))) (w5.setCell ⟨g, v, none⟩ (.int .i64 x)) := ⟨hS1.1.other (show wa.heap.size ≠ g by omega) _, hS1.2.other (show bd ≠ g by omega) _⟩
                        refine mix_pure rfl (fun K hK => ?_)
                        go_simp
                        refine ⟨_, fun _ _ => rfl, hK _ ?_⟩
                        clear hK K
                        refine mix_pure rfl (fun K hK => ?_)
                        go_simp
                        refine ⟨_, fun _ _ => rfl, hK _ ?_⟩
                        clear hK K
                        refine mix_pure rfl (fun K hK => ?_)
                        go_simp
                        refine ⟨_, fun _ _ => rfl, hK _ ?_⟩
                        clear hK K
                        refine mix_pure rfl (fun K hK => ?_)
                        go_simp
                        refine ⟨_, fun _ _ => rfl, hK _ ?_⟩
                        clear hK K
                        refine mix_pure rfl (fun K hK => ?_)
                        go_simp
                        refine ⟨_, fun _ _ => rfl, hK _ ?_⟩
                        clear hK K
                        refine mix_pure rfl (fun K hK => ?_)
                        go_simp
                        refine ⟨_, fun _ _ => rfl, hK _ ?_⟩
                        clear hK K
                        refine mix_load rfl rfl rfl (.int .i64 (pv : Nat)) (fun w' h => by have h : (Both (CellIs wa.heap.size v (.int .i64 (pv : Nat))) (CellIs bd (od + pv) (.int .i64 x))) w' := h; have h : (Both (CellIs wa.heap.size v (.int .i64 (pv : Nat))) (CellIs bd (od + pv) (.int .i64 x))) w' := h; have g1 := h.1.out; clear h; go_simp) rfl ?_
                        refine mix_pure rfl (fun K hK => ?_)
                        go_simp
                        refine ⟨_, fun _ _ => rfl, hK _ ?_⟩
                        clear hK K
                        refine mix_load rfl rfl rfl (.int .i64 x) (fun w' h => by have h : (Both (CellIs wa.heap.size v (.int .i64 (pv : Nat))) (CellIs bd (od + pv) (.int .i64 x))) w' := h; have h : (Both (CellIs wa.heap.size v (.int .i64 (pv : Nat))) (CellIs bd (od + pv) (.int .i64 x))) w' := h; have g1 := h.2.out; clear h; go_simp) rfl ?_
                        refine mix_pure rfl (fun K hK => ?_)
                        go_simp
                        refine ⟨_, fun _ _ => rfl, hK _ ?_⟩
                        clear hK K
                        refine mix_pure rfl (fun K hK => ?_)
                        go_simp
                        refine ⟨_, fun _ _ => rfl, hK _ ?_⟩
                        clear hK K
                        refine mix_eff rfl false rfl (fun K hK => ?_)
                        go_simp
                        refine (without_c st.2 v hM16 hv4 _).mono ?_
                        rintro e w2 ⟨rfl, rfl⟩
                        refine hK _ _ hS1 ?_
                        clear hK K
                        refine mix_pure rfl (fun K hK => ?_)
                        go_simp
                        refine ⟨_, fun _ _ => rfl, hK _ ?_⟩
                        clear hK K
                        refine mix_eff rfl false rfl (fun K hK => ?_)
                        have fo := hIo5.free v
                        have co := hIo5.cell v hvo
                        go_simp
                        refine hK _ _ hS2 ?_
                        clear hK K
                        refine mix_eff rfl false rfl (fun K hK => ?_)
                        go_simp
                        refine hK _ _ hS2 ?_
                        clear hK K
                        refine mix_done ?_
                        go_wp2
                        go_roundw
                        case rel =>
                          refine ⟨v + 1, by omega, by go_num, ?_, ?_, hIp5.other (show g ≠ wa.heap.size by omega) _, hB5.setCell hg _⟩
                          · rw [HSN.out, tStep, if_pos ⟨hin, HC.out⟩]
                          · rw [HSN.out, tStep, if_pos ⟨hin, HC.out⟩, ← HPV2.out, HXV.out]; exact hIo5.set v x
                        case measure => simp [intOf]; omega
                      · have e1 : ((a : Int) != (v : Int)) = true := bne_iff_ne.2 (by omega)
                        have ga := hIpz.cell a (by omega)
                        rw [HPT.out a (by omega) hain] at ga
                        go_wp2
                        go_roundw
                        case rel => exact ⟨hQ, j + 1, by omega, by go_num, by rw [chase_next (by rw [← HAE.out]; exact hav), ← HAE.out]⟩
                        case measure => simp [intOf]; omega
                    · have hje : j = l.length := by omega
                      have e0 : decide ((j : Int) < (l.length : Int)) = false := decide_eq_false (by omega)
                      by_cases hav : a = v
                      · have hcy : cyc pf l.length v = true := by
                          rw [cyc, beq_iff_eq, ← hje, ← HAE.out]; exact hav
                        have HC := Lib.hid hcy
                        clear hcy hje
                        subst a
                        have e2 : ((v : Int) == (v : Int)) = true := by simp
                        go_wp2
                        have hS0 : (Both (CellIs wa.heap.size v (.int .i64 (pv : Nat))) (CellIs bd (od + pv) (.int .i64 x))) wz.drew := ⟨(cp : CellIs wa.heap.size v (.int .i64 (pv : Nat)) wz), (cx : CellIs bd (od + pv) (.int .i64 x) wz)⟩
                        refine wp_region_mix (.one 0 (.one 1 (.one 2 (.one 3 (.one 4 (.one 5 (.one 6 (.one 7 (.one 8 (.one 9 (.one 10 (.act 11 (.one 12 (.act 13 (.act 14 .fin))))))))))))))) 99 (Both (CellIs wa.heap.size v (.int .i64 (pv : Nat))) (CellIs bd (od + pv) (.int .i64 x))) (Both (CellIs wa.heap.size v (.int .i64 (pv : Nat))) (CellIs bd (od + pv) (.int .i64 x))) (by kernel_rfl) (by kernel_rfl) rfl (by kernel_rfl) hS0 (fun w5 hq5 _ => ?_)
                        have hIo5 : IntBlk w5 g st.1 := hIoz.step (by rw [hq5.heap])
                        have hIp5 : IntBlk w5 wa.heap.size pts := hIpz.step (by rw [hq5.heap])
                        have hB5 := hBz.trans (hq5.below _)
                        have hS1 : (Both (CellIs wa.heap.size v (.int .i64 (pv : Nat))) (CellIs bd (od + pv) (.int .i64 x))) w5 := ⟨CellIs.qt cp hq5, CellIs.qt cx hq5⟩
                        have hS2 : (Both (CellIs wa.heap.size v (.int .i64 (pv : Nat))) (CellIs bd (od + pv) (.int .i64 x))) (w5.setCell ⟨g, v, none⟩ (.int .i64 x)) := ⟨hS1.1.other (show wa.heap.size ≠ g by omega) _, hS1.2.other (show bd ≠ g by omega) _⟩
                        refine mix_pure rfl (fun K hK => ?_)
                        go_simp
                        refine ⟨_, fun _ _ => rfl, hK _ ?_⟩
                        clear hK K
                        refine mix_pure rfl (fun K hK => ?_)
                        go_simp
                        refine ⟨_, fun _ _ => rfl, hK _ ?_⟩
                        clear hK K
                        refine mix_pure rfl (fun K hK => ?_)
                        go_simp
                        refine ⟨_, fun _ _ => rfl, hK _ ?_⟩
                        clear hK K
                        refine mix_pure rfl (fun K hK => ?_)
                        go_simp
                        refine ⟨_, fun _ _ => rfl, hK _ ?_⟩
                        clear hK K
                        refine mix_pure rfl (fun K hK => ?_)
                        go_simp
                        refine ⟨_, fun _ _ => rfl, hK _ ?_⟩
                        clear hK K
                        refine mix_pure rfl (fun K hK => ?_)
                        go_simp
                        refine ⟨_, fun _ _ => rfl, hK _ ?_⟩
                        clear hK K
                        refine mix_load rfl rfl rfl (.int .i64 (pv : Nat)) (fun w' h => by have h : (Both (CellIs wa.heap.size v (.int .i64 (pv : Nat))) (CellIs bd (od + pv) (.int .i64 x))) w' := h; have h : (Both (CellIs wa.heap.size v (.int .i64 (pv : Nat))) (CellIs bd (od + pv) (.int .i64 x))) w' := h; have g1 := h.1.out; clear h; go_simp) rfl ?_
                        refine mix_pure rfl (fun K hK => ?_)
                        go_simp
                        refine ⟨_, fun _ _ => rfl, hK _ ?_⟩
                        clear hK K
                        refine mix_load rfl rfl rfl (.int .i64 x) (fun w' h => by have h : (Both (CellIs wa.heap.size v (.int .i64 (pv : Nat))) (CellIs bd (od + pv) (.int .i64 x))) w' := h; have h : (Both (CellIs wa.heap.size v (.int .i64 (pv : Nat))) (CellIs bd (od + pv) (.int .i64 x))) w' := h; have g1 := h.2.out; clear h; go_simp) rfl ?_
                        refine mix_pure rfl (fun K hK => ?_)
                        go_simp
                        refine ⟨_, fun _ _ => rfl, hK _ ?_⟩
                        clear hK K
                        refine mix_pure rfl (fun K hK => ?_)
                        go_simp
                        refine ⟨_, fun _ _ => rfl, hK _ ?_⟩
                        clear hK K
                        refine mix_eff rfl false rfl (fun K hK => ?_)
                        go_simp
                        refine (without_c st.2 v hM16 hv4 _).mono ?_
                        rintro e w2 ⟨rfl, rfl⟩
                        refine hK _ _ hS1 ?_
                        clear hK K
                        refine mix_pure rfl (fun K hK => ?_)
                        go_simp
                        refine ⟨_, fun _ _ => rfl, hK _ ?_⟩
                        clear hK K
                        refine mix_eff rfl false rfl (fun K hK => ?_)
                        have fo := hIo5.free v
                        have co := hIo5.cell v hvo
                        go_simp
                        refine hK _ _ hS2 ?_
                        clear hK K
                        refine mix_eff rfl false rfl (fun K hK => ?_)
                        go_simp
                        refine hK _ _ hS2 ?_
                        clear hK K
                        refine mix_done ?_
                        go_wp2
                        go_roundw
                        case rel =>
                          refine ⟨v + 1, by omega, by go_num, ?_, ?_, hIp5.other (show g ≠ wa.heap.size by omega) _, hB5.setCell hg _⟩
                          · rw [HSN.out, tStep, if_pos ⟨hin, HC.out⟩]
                          · rw [HSN.out, tStep, if_pos ⟨hin, HC.out⟩, ← HPV2.out, HXV.out]; exact hIo5.set v x
                        case measure => simp [intOf]; omega
                      · have hcy : cyc pf l.length v = false := by
                          rw [cyc, beq_eq_false_iff_ne, ← hje, ← HAE.out]; exact hav
                        have HC := Lib.hid hcy
                        clear hcy hje
                        have e2 : ((a : Int) == (v : Int)) = false := beq_eq_false_iff_ne.2 (by omega)
                        go_wp2
                        go_roundw
                        case rel =>
                          have hs2 : tSteps l pf l.length mm out (v + 1) = st := by rw [HSN.out, tStep, if_neg (by rw [HC.out]; simp)]
                          exact ⟨v + 1, by omega, by go_num, by rw [hs2], by rw [hs2]; exact hIoz, hIpz, hBz⟩
                        case measure => simp [intOf]; omega
                · have hin' : hasB mm v = false := by simpa using hin
                  have hbb : (!false) = true := rfl
                  rw [← HST.out]
                  go_wp2_with (go_at_call 45; refine (has_c mm v hm16 hv4 _).mono ?_; rw [hin']; rintro e w' ⟨rfl, rfl⟩)
                  go_roundw
                  case rel =>
                    have hs2 : tSteps l pf l.length mm out (v + 1) = st := by rw [HSN.out, tStep, if_neg (by rw [hin']; simp)]
                    exact ⟨v + 1, by omega, by go_num, by rw [hs2], by rw [hs2]; exact hIo, hIp, hBy⟩
                  case measure => simp [intOf]; omega
              · have hve : v = l.length := by omega
                subst hve
                clear hsn
                have HM := Lib.hid hM
                have HSL := Lib.hid hsl
                clear hM hsl
                have hless : popc (tSteps l pf l.length mm out l.length).2 < popc mm := by
                  obtain ⟨u, hu4, hub, huc⟩ := cyc_some hm16 hz (fun i _ => by have := HPL.out i; omega) (fun i _ => HPI.out i) (n := l.length) (by omega)
                  have hu1 := HML.out u hub
                  have hu2 : hasB (tSteps l pf l.length mm out l.length).2 u = false := by rw [HM.out.2 u hu4, huc]; simp [hu1]
                  exact popc_less _ hm16 _ HM.out.1 (fun j hj hb => by rw [HM.out.2 j hj] at hb; simp at hb; exact hb.1) ⟨u, hu4, hub, hu2⟩
                have HLESS := Lib.hid hless
                clear hless
                go_wp2
                go_roundw
                case rel =>
                  have h6 := HTR.out
                  rw [tradeN, if_neg hz, ← HPF.out] at h6
                  refine ⟨_, k, _, rfl, HM.out.1, fun j hj => ?_, by have := HLESS.out; omega, by omega, h6, by rw [HSL.out, HLEN.out], hIo, hBy⟩
                  have h7 := hasB_lt HM.out.1 hj
                  rw [HM.out.2 j h7] at hj
                  simp at hj
                  exact HML.out j hj.1
                case measure => have := HLESS.out; simp [intOf]; omega
end Go.Proofs.YtmlikgjfpmjdcaaGreatDoor

/- The contracts of Draw and Trade (lots); conditions: the arguments read as commons and as a list. -/
namespace Go.Proofs.YtmlikgjfpmjdcaaGreatDoor
open Go.RowKit

def drawR (c : Com) (l : List Int) : List Int := if divE c l = 0 then drawF c.villages l.length l else []

set_option maxRecDepth 100000 in
theorem draw_good {A A' : Nat → Prop} {w : World} {vm vv vd : Value} {c : Com} {l : List Int} (h : Cm A w vm vv c) (hd : Ints A' w vd l) (he : divE c l = 0) :
    Calls Tryz.prog 17 #[.agg #[vm, vv], vd] w fun e w' => ∃ v', e = .returned (.tuple #[v', .int .i64 0]) ∧ Ints (fun b => w.heap.size ≤ b) w' v' (drawF c.villages l.length l) ∧ Below w.heap.size w w' := by
  obtain ⟨am, cpm, rfl, _, _⟩ := h.1.shape
  obtain ⟨av, cpv, rfl, _, _⟩ := h.2.shape
  have hB0 : Below w.heap.size w (w.alloc (.cells #[.slice am c.mountains.length cpm, .slice av c.villages.length cpv] 25)) := (Below.refl _ w).alloc (Nat.le_refl _) _
  have h0 := h.call hB0
  have hd0 := hd.call hB0
  have b0 : ((0 : Int) != 0) = false := rfl
  have HE := Lib.hid he
  clear he
  go_enter Tryz.func17, Tryz.ntmps17
  go_wp2_with fail
  refine (begin_ok h0 hd0 HE.out).mono ?_
  rintro e w1 ⟨gw, rfl, hW, hgw, hB1⟩
  have h1 := h0.call hB1
  have hd1 := hd0.call hB1
  have hB2 := hB0.trans (hB1.mono hB0.size)
  go_wp2_with fail
  refine (draw_c hW h1 hd1 (divE_ok HE.out).1 (divE_ok HE.out).2).mono ?_
  rintro e w2 ⟨v', rfl, hv, hB3⟩
  go_wp2
  go_ret2
  exact ⟨_, rfl, hv.wide fun b hb _ => by have := hB2.size; omega, hB2.trans (hB3.mono hB2.size)⟩

set_option maxRecDepth 100000 in
theorem draw_bad {A A' : Nat → Prop} {w : World} {vm vv vd : Value} {c : Com} {l : List Int} (h : Cm A w vm vv c) (hd : Ints A' w vd l) (he : divE c l ≠ 0) :
    Calls Tryz.prog 17 #[.agg #[vm, vv], vd] w fun e w' => e = .returned (.tuple #[.slice none 0 0, .int .i64 (divE c l)]) ∧ Below w.heap.size w w' := by
  obtain ⟨am, cpm, rfl, _, _⟩ := h.1.shape
  obtain ⟨av, cpv, rfl, _, _⟩ := h.2.shape
  have hB0 : Below w.heap.size w (w.alloc (.cells #[.slice am c.mountains.length cpm, .slice av c.villages.length cpv] 25)) := (Below.refl _ w).alloc (Nat.le_refl _) _
  have h0 := h.call hB0
  have hd0 := hd.call hB0
  have b1 : (divE c l != 0) = true := by simpa using he
  go_enter Tryz.func17, Tryz.ntmps17
  go_wp2_with fail
  refine (begin_bad h0 hd0 he).mono ?_
  rintro e w1 ⟨rfl, hB1⟩
  have hB2 := hB0.trans (hB1.mono hB0.size)
  clear he
  go_wp2
  go_ret2
  exact ⟨rfl, hB2⟩

set_option maxRecDepth 100000 in
theorem trade_bad {A A' : Nat → Prop} {w : World} {vm vv vd : Value} {c : Com} {l : List Int} (h : Cm A w vm vv c) (hd : Ints A' w vd l) (he : divE c l ≠ 0) :
    Calls Tryz.prog 18 #[.agg #[vm, vv], vd] w fun e w' => e = .returned (.tuple #[.slice none 0 0, .int .i64 (divE c l)]) ∧ Below w.heap.size w w' := by
  obtain ⟨am, cpm, rfl, _, _⟩ := h.1.shape
  obtain ⟨av, cpv, rfl, _, _⟩ := h.2.shape
  have hB0 : Below w.heap.size w (w.alloc (.cells #[.slice am c.mountains.length cpm, .slice av c.villages.length cpv] 25)) := (Below.refl _ w).alloc (Nat.le_refl _) _
  have h0 := h.call hB0
  have hd0 := hd.call hB0
  have b1 : (divE c l != 0) = true := by simpa using he
  go_enter Tryz.func18, Tryz.ntmps18
  go_wp2_with fail
  refine (begin_bad h0 hd0 he).mono ?_
  rintro e w1 ⟨rfl, hB1⟩
  have hB2 := hB0.trans (hB1.mono hB0.size)
  clear he
  go_wp2
  go_ret2
  exact ⟨rfl, hB2⟩

theorem drawR_c {A A' : Nat → Prop} {w : World} {vm vv vd : Value} {c : Com} {l : List Int} (h : Cm A w vm vv c) (hd : Ints A' w vd l) :
    Calls Tryz.prog 17 #[.agg #[vm, vv], vd] w fun e w' => ∃ v', e = .returned (.tuple #[v', .int .i64 (divE c l)]) ∧ Ints (fun b => w.heap.size ≤ b) w' v' (drawR c l) ∧ Below w.heap.size w w' := by
  by_cases he : divE c l = 0
  · rw [drawR, if_pos he, he]
    exact draw_good h hd he
  · rw [drawR, if_neg he]
    refine (draw_bad h hd he).mono ?_
    rintro e w' ⟨rfl, hB⟩
    exact ⟨_, rfl, ints_nil _ _, hB⟩

theorem tradeR_c {A A' : Nat → Prop} {w : World} {vm vv vd : Value} {c : Com} {l : List Int} (h : Cm A w vm vv c) (hd : Ints A' w vd l) :
    Calls Tryz.prog 18 #[.agg #[vm, vv], vd] w fun e w' => ∃ v', e = .returned (.tuple #[v', .int .i64 (divE c l)]) ∧ Ints (fun b => w.heap.size ≤ b) w' v' (tradeR c l) ∧ Below w.heap.size w w' := by
  by_cases he : divE c l = 0
  · rw [tradeR, if_pos he, he]
    exact tradeF_c h hd he
  · rw [tradeR, if_neg he]
    refine (trade_bad h hd he).mono ?_
    rintro e w' ⟨rfl, hB⟩
    exact ⟨_, rfl, ints_nil _ _, hB⟩

end Go.Proofs.YtmlikgjfpmjdcaaGreatDoor

