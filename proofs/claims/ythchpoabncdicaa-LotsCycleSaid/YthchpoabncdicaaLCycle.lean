/- The walk of LotsCycle: it hands back true, whatever the numbers; conditions: the argument reads as numbers. -/
import Derived.Test.YthchpoabncdicaaCycP
import Derived.Test.YthchpoabncdicaaLNext
namespace Go.Proofs.Ythchpoabncdicaa
open Go.RowKit

theorem Own.intsM {B : Nat} {w : World} {v : Value} {n : Nat} {l : List Int} (h : Own B w 3 1 v n (I64 l)) (hl : l.length = n) : Ints (fun b => B ≤ b) w v l := by subst hl; exact Own.ints h
/-- What the last loop reads. -/
def CcS (b1 o1 : Nat) (v1 : Value) (b2 o2 : Nat) (v2 : Value) (b3 o3 : Nat) (d : Nat) (b4 o4 : Nat) (v4 : Value) (w : World) : Prop := w.cell? ⟨b1, o1, none⟩ = some v1 ∧ w.cell? ⟨b2, o2, none⟩ = some v2 ∧ w.cell? ⟨b3, o3, none⟩ = some (.int .i64 d) ∧ w.cell? ⟨b4, o4, none⟩ = some v4
theorem CcS.drew {b1 o1 : Nat} {v1 : Value} {b2 o2 : Nat} {v2 : Value} {b3 o3 d b4 o4 : Nat} {v4 : Value} {w : World} (h : CcS b1 o1 v1 b2 o2 v2 b3 o3 d b4 o4 v4 w) : CcS b1 o1 v1 b2 o2 v2 b3 o3 d b4 o4 v4 w.drew := h
/-- What a year of a village reads. -/
def YyS (b : Nat) (vm vv : Value) (g y : Nat) (x : Value) (w : World) : Prop := Blk b #[vm, vv] 25 w ∧ w.cell? ⟨g, y, none⟩ = some x
theorem YyS.drew {b : Nat} {vm vv : Value} {g y : Nat} {x : Value} {w : World} (h : YyS b vm vv g y x w) : YyS b vm vv g y x w.drew := h
def envyY (vs : List Vil) (D : List (List Int)) (w : List Int) (n v j : Nat) : List Int := (List.range n).map fun y => rkS vs (dv D w y) (if y < j then v + 1 else v)
theorem envyY_zero (vs : List Vil) (D : List (List Int)) (w : List Int) (n v : Nat) : envyY vs D w n v 0 = envyT vs D w n v := by simp [envyY, envyT]
theorem envyY_all (vs : List Vil) (D : List (List Int)) (w : List Int) (n v : Nat) : envyY vs D w n v n = envyT vs D w n (v + 1) := by
  rw [envyY, envyT]
  exact List.map_congr_left fun y hy => by rw [if_pos (List.mem_range.1 hy)]
theorem envyY_len (vs : List Vil) (D : List (List Int)) (w : List Int) (n v j : Nat) : (envyY vs D w n v j).length = n := by simp [envyY]
theorem envyY_set (vs : List Vil) (D : List (List Int)) (w : List Int) (n v j : Nat) : (envyY vs D w n v j).set j (rkS vs (dv D w j) v + rk vs v ((dv D w j).getD v 0)) = envyY vs D w n v (j + 1) := by
  apply List.ext_getElem
  · simp [envyY]
  · intro i h1 h2
    rw [List.getElem_set]
    by_cases e : j = i
    · subst e; simp [envyY, rkS]
    · have : (i < j + 1) = (i < j) := by apply propext; omega
      simp [envyY, e, this]
theorem envyY_at (vs : List Vil) (D : List (List Int)) (w : List Int) (n v j : Nat) (hj : j < (envyY vs D w n v j).length) : (envyY vs D w n v j)[j] = rkS vs (dv D w j) v := by simp [envyY]
theorem envyT_zero (vs : List Vil) (D : List (List Int)) (w : List Int) (n : Nat) : envyT vs D w n 0 = List.replicate n 0 := by
  apply List.ext_getElem
  · simp [envyT]
  · intro i h1 h2; simp [envyT, rkS]
theorem rkS_bd {vs : List Vil} {d : List Int} {n : Nat} (hl : ∀ u (h : u < vs.length), PermOf n vs[u].likes) (hp : PermOf n d) (hn : n ≤ 4) (hv : vs.length ≤ n) : ∀ k, k ≤ vs.length → 0 ≤ rkS vs d k ∧ rkS vs d k ≤ 4 * k
  | 0, _ => by simp [rkS]
  | k + 1, hk => by
    have ih := rkS_bd hl hp hn hv k (by omega)
    have hkd : k < d.length := by have := hp.len; omega
    have hgv : d.getD k 0 = d[k] := by simp [hkd]
    have hm := (hp.mem _).1 (List.getElem_mem hkd)
    have hlk := hl k (by omega)
    have hmem : d[k] ∈ vs[k].likes := (hlk.mem _).2 hm
    have := placeOf_bd hmem
    have hll := hlk.len
    rw [rkS, hgv, rk_at (by omega)]
    omega
theorem wordsL_mem {n m : Nat} : ∀ l ∈ wordsL n m, l.length = m ∧ ∀ y ∈ l, 0 ≤ y ∧ y < (n : Int) := by
  induction m with
  | zero => intro l hl; simp [wordsL] at hl; simp [hl]
  | succ m ih =>
    intro l hl
    simp only [wordsL, List.mem_flatMap, List.mem_map, List.mem_range] at hl
    obtain ⟨i, hi, t, ht, rfl⟩ := hl
    obtain ⟨h1, h2⟩ := ih t ht
    refine ⟨by simp [h1], fun y hy => ?_⟩
    rcases List.mem_cons.1 hy with h | h
    · subst h; omega
    · exact h2 y h

set_option maxRecDepth 100000 in
set_option maxHeartbeats 8000000 in
theorem lotsCycle_c {A : Nat → Prop} {w : World} {v : Value} {nums : List Int} (hn : Ints A w v nums) :
    Calls Try.prog 11 #[v] w fun e w' => e = .returned (.bool true) ∧ Below w.heap.size w w' := by
  go_enter Try.func11, Try.ntmps11
  go_wp2_with fail
  refine (newHand_c hn).mono ?_
  rintro e w1 ⟨rfl, hH, hB1⟩
  have hs1 := hH.lt
  go_wp2_with fail
  refine (commonsOf_c hH (by omega) 3 (by omega) (by omega)).mono ?_
  rintro e w2 ⟨vm, vv, rfl, ⟨c, hC, hok3⟩, -, hG⟩
  have hok : c.Ok 4 := { hok3 with n2 := by have := hok3.n2; omega }
  have hB2 : Below w.heap.size w w2 := hB1.grown hG (by omega) (fun k e => by injection e with e; omega)
  have hs2 := hG.size
  clear hG hB1
  obtain ⟨am, cpm, rfl, _, _⟩ := hC.1.shape
  obtain ⟨av, cpv, rfl, _, _⟩ := hC.2.shape
  have hbx : Blk w2.heap.size #[.slice am c.mountains.length cpm, .slice av c.villages.length cpv] 25 (w2.alloc (.cells #[.slice am c.mountains.length cpm, .slice av c.villages.length cpv] 25)) := Blk.new w2 _ _
  have hC := hC.alloc (.cells #[.slice am c.mountains.length cpm, .slice av c.villages.length cpv] 25)
  have hT := bal (o := .cells #[.slice am c.mountains.length cpm, .slice av c.villages.length cpv] 25) hB2
  have hvl3 : c.villages.length ≤ 3 := by have := hok3.vl; have := hok3.n2; omega
  have hvl1 : 0 < c.villages.length := by have := hok.vl; have := hok.n1; omega
  obtain ⟨bf, hbf0, hsr0, hfr0⟩ := cycle_law hok3
  have hcyc := cyc_all c.villages.length (by omega)
  have hgl : (fairF c).length = c.villages.length := by rw [hfr0, toDiv, List.length_map]; exact wordsL_at _ (List.getElem_mem hbf0)
  have hfg := fair_good hC hok
  obtain ⟨got, hgot⟩ : ∃ got, got = fairF c := ⟨_, rfl⟩
  rw [← hgot] at hfg hgl hfr0
  have HFG := Lib.hid hfg
  have HGL := Lib.hid hgl
  have hd6 : (ordersL c.villages.length).length ≤ 6 := by rw [hcyc.1]; exact hcyc.2.2.1
  have hpr := orders_perm (n := c.villages.length) (by omega)
  have hwm := @wordsL_mem (ordersL c.villages.length).length c.villages.length
  have hwl := (wordsL_len6 hd6 c.villages.length hvl3).1
  have hoc := orders_c (n := c.villages.length) (by omega)
  have hwc := words6_c (n := (ordersL c.villages.length).length) hd6 c.villages.length hvl3
  generalize wordsL (ordersL c.villages.length).length c.villages.length = W at hbf0 hsr0 hfr0 hwm hwl hwc
  generalize ordersL c.villages.length = D at hsr0 hfr0 hd6 hpr hwm hoc hwc
  have HSR := Lib.hid hsr0
  have HFR := Lib.hid hfr0
  have HPR := Lib.hid hpr
  have HWM := Lib.hid hwm
  have HOC := Lib.hid hoc
  have HWC := Lib.hid hwc
  clear hcyc hgot hfg hgl hsr0 hfr0 hpr hwm hoc hwc
  have c0 := hbx.cell 0
  have c1 := hbx.cell 1
  go_wp2_with fail
  clear c0 c1
  refine HFG.out.mono ?_
  rintro e w3 ⟨vg, rfl, hg, hB3⟩
  have hC := hC.call hB3
  have hbx := hbx.call hB3
  have hT := bnx hT hB3
  have hsg := hg.shape
  rw [HGL.out] at hsg
  obtain ⟨ag, cg, rfl, _, _⟩ := hsg
  clear HFG hB3
  go_wp2_with fail
  refine (HOC.out w3).mono ?_
  rintro e w4 ⟨vo, rfl, hO, hB4⟩
  have hC := hC.call hB4
  have hbx := hbx.call hB4
  have hT := bnx hT hB4
  have hg := hg.call hB4
  obtain ⟨ao, co, rfl, _, _⟩ := hO.shape
  clear HOC hB4
  go_wp2_with fail
  refine (HWC.out w4).mono ?_
  rintro e w5 ⟨vw, rfl, hW, hB5⟩
  have hC := hC.call hB5
  have hbx := hbx.call hB5
  have hT := bnx hT hB5
  have hg := hg.call hB5
  have hO := hO.call hB5
  obtain ⟨aw, cw, rfl, _, _⟩ := hW.shape
  clear HWC hB5
  have hmk := make_ints_fact c.villages.length (by omega)
  go_wp2_with fail
  refine wp_region_mix2 (.pur 0 (.pur 2 (.act 1 (.pur 3 .fin)))) 99 (fun _ => True) (fun _ => True) (by kernel_rfl) (by kernel_rfl) rfl (by kernel_rfl) trivial (fun wd hqd _ => ?_)
  refine mix_pur2 rfl (fun K hK => ?_)
  go_simp
  first | refine ⟨_, fun _ => rfl, hK _ ?_⟩ | refine hK _ ?_
  clear hK K
  refine mix_pur2 rfl (fun K hK => ?_)
  go_simp
  first | refine ⟨_, fun _ => rfl, hK _ ?_⟩ | refine hK _ ?_
  clear hK K
  refine mix_eff2 rfl false rfl (fun K hK => ?_)
  go_simp
  refine hK _ _ trivial ?_
  clear hK K
  refine mix_pur2 rfl (fun K hK => ?_)
  go_simp
  first | refine ⟨_, fun _ => rfl, hK _ ?_⟩ | refine hK _ ?_
  clear hK K
  refine mix_done2 ?_
  have hBq := hqd.below w5.heap.size
  have hC := (hC.call hBq).alloc (.cells (I64 (List.replicate c.villages.length 0)).toArray 3)
  have hbx := (hbx.call hBq).alloc (.cells (I64 (List.replicate c.villages.length 0)).toArray 3)
  have hg := (hg.call hBq).call ((Below.refl _ wd).alloc (Nat.le_refl _) (.cells (I64 (List.replicate c.villages.length 0)).toArray 3))
  have hO := (hO.call hBq).call ((Below.refl _ wd).alloc (Nat.le_refl _) (.cells (I64 (List.replicate c.villages.length 0)).toArray 3))
  have hW := (hW.call hBq).call ((Below.refl _ wd).alloc (Nat.le_refl _) (.cells (I64 (List.replicate c.villages.length 0)).toArray 3))
  have hT := bal (o := .cells (I64 (List.replicate c.villages.length 0)).toArray 3) (bnx hT hBq)
  have hI0 := (intBlk_made wd c.villages.length).ints (by simp; omega)
  rw [List.length_replicate] at hI0
  have hI0 := hI0.wide (A' := fun _ => True) (fun _ _ _ => trivial)
  clear hmk hqd hBq
  generalize wd.alloc (.cells (I64 (List.replicate c.villages.length 0)).toArray 3) = w6 at *
  have hzl : (List.replicate c.villages.length (0 : Int)).length = c.villages.length := by simp
  generalize List.replicate c.villages.length (0 : Int) = z0 at hI0 hzl
  go_wp2_with fail
  go_loopw [9, 10, 11] (fun s9 s10 i wr => ∃ k : Nat, k ≤ W.length ∧ i = .int .i64 k ∧ Below w6.heap.size w6 wr ∧ ∃ lst : List Int, lst.length = c.villages.length ∧ Ints (fun _ => True) wr s10 lst ∧
    ((srch c.villages D W c.villages.length k = none ∧ s9 = .int .i64 (-1)) ∨ ∃ b : Nat, b < k ∧ srch c.villages D W c.villages.length k = some b ∧ s9 = .int .i64 b ∧ lst = envyT c.villages D (W.getD b []) c.villages.length c.villages.length)) (fun _ _ i _ => W.length - (intOf i).toNat)
  case atStart => exact ⟨0, Nat.zero_le _, rfl, Below.refl _ _, z0, hzl, hI0, .inl ⟨rfl, rfl⟩⟩
  case round =>
    obtain ⟨i, hi, rfl, hB, lst, hll, hL, hst⟩ := hrel
    have HST := Lib.hid hst
    have HLL := Lib.hid hll
    have hCr := hC.call hB
    have hbr := hbx.call hB
    have hOr := hO.call hB
    have hWr := hW.call hB
    clear hst hll
    by_cases hil : i < W.length
    · have hmk := make_ints_fact c.villages.length (by omega)
      obtain ⟨wb, wo, rfl, -, hwb⟩ := hWr.addr (by omega)
      obtain ⟨arw, crw, r1, hR⟩ := hWr.row i hil
      have hwi := HWM.out _ (List.getElem_mem hil)
      have hgd : W.getD i [] = W[i] := by simp [hil]
      obtain ⟨wrd, hwrd⟩ : ∃ z, z = W[i] := ⟨_, rfl⟩
      rw [← hwrd] at r1 hR hwi hgd
      have hsr := srch.eq_2 c.villages D W c.villages.length i
      rw [hgd] at hsr
      have HSRI := Lib.hid hsr
      have HGD := Lib.hid hgd
      have HWL := Lib.hid hwi.1
      have HWI := Lib.hid hwi.2
      clear hgd hwi hwrd hsr
      go_wp2_with fail
      clear hmk
      have hIg : IntBlk (wr.alloc (.cells (I64 (List.replicate c.villages.length 0)).toArray 3)) wr.heap.size (envyT c.villages D wrd c.villages.length 0) := by rw [envyT_zero]; exact intBlk_made wr c.villages.length
      have hBr0 : Below wr.heap.size wr (wr.alloc (.cells (I64 (List.replicate c.villages.length 0)).toArray 3)) := (Below.refl _ wr).alloc (Nat.le_refl _) _
      obtain ⟨g, hgg⟩ : ∃ g, g = wr.heap.size := ⟨_, rfl⟩
      rw [← hgg] at hIg ⊢
      have HGG := Lib.hid hgg
      clear hgg
      generalize wr.alloc (.cells (I64 (List.replicate c.villages.length 0)).toArray 3) = wr1 at hIg hBr0 ⊢
      go_loopw [12, 14] (fun s12 j wx => ∃ v : Nat, v ≤ c.villages.length ∧ j = .int .i64 v ∧ s12 = .bool (fineT D wrd c.villages.length v) ∧ IntBlk wx g (envyT c.villages D wrd c.villages.length v) ∧ Below wr.heap.size wr wx) (fun _ j _ => c.villages.length - (intOf j).toNat)
      case atStart => exact ⟨0, Nat.zero_le _, rfl, rfl, hIg, hBr0⟩
      case round =>
        rename World => wv
        obtain ⟨v, hv, rfl, rfl, hIv, hBv⟩ := hrel
        by_cases hvl : v < c.villages.length
        · go_wp2_with fail
          go_loopw [15, 16] (fun s15 j wx => ∃ y : Nat, y ≤ c.villages.length ∧ j = .int .i64 y ∧ Own (g + 1) wx 3 1 s15 y (I64 (hadL D wrd v y)) ∧ IntBlk wx g (envyY c.villages D wrd c.villages.length v y) ∧ Below wr.heap.size wr wx) (fun _ j _ => c.villages.length - (intOf j).toNat)
          case atStart => exact ⟨0, Nat.zero_le _, rfl, Own.nil, by rw [envyY_zero]; exact hIv, hBv⟩
          case round =>
            rename World => wx
            obtain ⟨y, hy, rfl, hOx, hIx, hBx⟩ := hrel
            by_cases hyl : y < c.villages.length
            · have hyw : y < wrd.length := by have := HWL.out; omega
              obtain ⟨rb, ro, rfl, -, hrb, hrc⟩ := hR.addr (by omega)
              have q1 := hrc y hyw
              have hwy := HWI.out _ (List.getElem_mem hyw)
              obtain ⟨d, hd⟩ : ∃ d : Nat, wrd[y] = (d : Int) := ⟨wrd[y].toNat, by omega⟩
              rw [hd] at q1 hwy
              have hdl : d < D.length := by omega
              obtain ⟨ob, oo, rfl, -, hob⟩ := hOr.addr (by omega)
              obtain ⟨ad, cd, r2, hDr⟩ := hOr.row d hdl
              have hpd := HPR.out _ (List.getElem_mem hdl)
              have hdv : dv D wrd y = D[d] := by simp [dv, hyw, hd, hdl]
              have hes := envyY_set c.villages D wrd c.villages.length v y
              have hea : ∀ el : List Int, el = envyY c.villages D wrd c.villages.length v y → ∀ h : y < el.length, el[y] = rkS c.villages (dv D wrd y) v := by
                intro el he h; subst he; exact envyY_at _ _ _ _ _ _ h
              have hye : y < (envyY c.villages D wrd c.villages.length v y).length := by rw [envyY_len]; exact hyl
              have hhs := hadL_succ D wrd v y
              have hhl := hadL_len D wrd v y
              have hrs : 0 ≤ rkS c.villages (dv D wrd y) v ∧ rkS c.villages (dv D wrd y) v ≤ 100 := by
                rw [hdv]
                have := rkS_bd (vs := c.villages) (d := D[d]) (n := c.villages.length) (fun u hu => by rw [hok.vl]; exact (hok.vil _ (List.getElem_mem hu)).2.2.2.2) hpd (by omega) (Nat.le_refl _) v (by omega)
                omega
              rw [hdv] at hes hea hhs hrs
              have hvd : v < D[d].length := by have := hpd.len; omega
              have hrk : 0 ≤ rk c.villages v (D[d].getD v 0) ∧ rk c.villages v (D[d].getD v 0) ≤ 100 := by
                have hgv : D[d].getD v 0 = D[d][v] := by simp [hvd]
                have hm := (hpd.mem _).1 (List.getElem_mem hvd)
                have hlk := (hok.vil _ (List.getElem_mem hvl)).2.2.2.2
                have hmem : D[d][v] ∈ c.villages[v].likes := (hlk.mem _).2 (by have := hok.vl; omega)
                have := placeOf_bd hmem
                have hl := hlk.len
                have := hok.vl
                rw [hgv, rk_at hvl]; omega
              have hgv : D[d].getD v 0 = D[d][v] := by simp [hvd]
              rw [hgv] at hes hhs hrk
              obtain ⟨dd, hdd⟩ : ∃ z, z = D[d] := ⟨_, rfl⟩
              have hdl2 := hpd.len
              rw [← hdd] at r2 hDr hdl2
              simp only [← hdd] at hes hhs hrk hea hrs hvd
              rw [hdl2] at r2 hDr
              obtain ⟨db, dof, rfl, -, hdb, hdc⟩ := hDr.addr (by omega)
              have q3 := hdc v hvd
              obtain ⟨m, hm⟩ : ∃ m, m = dd[v] := ⟨_, rfl⟩
              rw [← hm] at hes hhs hrk q3
              obtain ⟨x, hx⟩ : ∃ x, x = rkS c.villages dd v := ⟨_, rfl⟩
              rw [← hx] at hes hea hrs
              obtain ⟨el, hel⟩ : ∃ el, el = envyY c.villages D wrd c.villages.length v y := ⟨_, rfl⟩
              have hea := hea el hel
              rw [← hel] at hes hye hIx
              have HX := Lib.hid hea
              have HES := Lib.hid hes
              have HHS := Lib.hid hhs
              have g1 := (World.cell?_of_block (hBx.block wb hwb)).trans r1
              have g2 := (World.cell?_of_block (hBx.block rb hrb)).trans q1
              have g3 := (World.cell?_of_block (hBx.block ob hob)).trans r2
              have g4 := (World.cell?_of_block (hBx.block db hdb)).trans q3
              have hcx := hIx.cell y hye
              have hE : ∀ w', Below wr.heap.size wr w' → IntBlk w' g el → (YyS w2.heap.size (.slice am c.mountains.length cpm) (.slice av c.villages.length cpv) g y (.int .i64 x) ) w' := fun w' h hI => ⟨hbr.call h, by have h1 := hI.cell y hye; rw [h1, HX.out hye]⟩
              have hr1 := hrs.1
              have hr2 := hrs.2
              have hr3 := hrk.1
              have hr4 := hrk.2
              clear hes hhs hel hx hm hdd hea hdv hpd hgv hwy hd hrs hrk hcx hdc hrc
              go_wp2_with fail
              clear g1 g2 g3 g4
              refine wp_region_mix2 (.pur 0 (.pur 1 (.pur 2 (.pur 3 (.pur 6 (.pur 7 (.pur 8 (.one 9 (.one 10 (.pur 11 (.pur 12 (.act 4 (.act 5 (.act 13 (.pur 14 (.pur 15 (.pur 16 (.act 17 .fin)))))))))))))))))) 17 (YyS w2.heap.size (.slice am c.mountains.length cpm) (.slice av c.villages.length cpv) g y (.int .i64 x) ) (fun _ => True) (by kernel_rfl) (by kernel_rfl) rfl (by kernel_rfl) (hE _ hBx hIx).drew (fun wd hqd hSd => ?_)
              have hBd := hBx.trans (hqd.below _)
              have hOd := hOx.qt hqd
              have hId := hIx.call (hqd.below _)
              have hsd : g + 1 ≤ wd.heap.size := hId.lt
              have hs0 : g + 1 ≤ wd.heap.size + 1 := Nat.le_succ_of_le hsd
              refine mix_pur2 rfl (fun K hK => ?_)
              go_simp
              first | refine ⟨_, fun _ => rfl, hK _ ?_⟩ | refine hK _ ?_
              clear hK K
              refine mix_pur2 rfl (fun K hK => ?_)
              go_simp
              first | refine ⟨_, fun _ => rfl, hK _ ?_⟩ | refine hK _ ?_
              clear hK K
              refine mix_pur2 rfl (fun K hK => ?_)
              go_simp
              first | refine ⟨_, fun _ => rfl, hK _ ?_⟩ | refine hK _ ?_
              clear hK K
              refine mix_pur2 rfl (fun K hK => ?_)
              go_simp
              first | refine ⟨_, fun _ => rfl, hK _ ?_⟩ | refine hK _ ?_
              clear hK K
              refine mix_pur2 rfl (fun K hK => ?_)
              go_simp
              first | refine ⟨_, fun _ => rfl, hK _ ?_⟩ | refine hK _ ?_
              clear hK K
              refine mix_pur2 rfl (fun K hK => ?_)
              go_simp
              first | refine ⟨_, fun _ => rfl, hK _ ?_⟩ | refine hK _ ?_
              clear hK K
              refine mix_pur2 rfl (fun K hK => ?_)
              go_simp
              first | refine ⟨_, fun _ => rfl, hK _ ?_⟩ | refine hK _ ?_
              clear hK K
              refine mix_load2 rfl rfl rfl (.int .i64 x) (fun w' h => by have h : (YyS w2.heap.size (.slice am c.mountains.length cpm) (.slice av c.villages.length cpv) g y (.int .i64 x) ) w' := h; have h0 := h.2; go_simp) rfl ?_
              refine mix_load2 rfl rfl rfl (.agg #[.slice am c.mountains.length cpm, .slice av c.villages.length cpv]) (fun w' h => by have h : (YyS w2.heap.size (.slice am c.mountains.length cpm) (.slice av c.villages.length cpv) g y (.int .i64 x) ) w' := h; have h0 := h.1.cell 0; have h1 := h.1.cell 1; go_simp) rfl ?_
              refine mix_pur2 rfl (fun K hK => ?_)
              go_simp
              first | refine ⟨_, fun _ => rfl, hK _ ?_⟩ | refine hK _ ?_
              clear hK K
              refine mix_pur2 rfl (fun K hK => ?_)
              go_simp
              first | refine ⟨_, fun _ => rfl, hK _ ?_⟩ | refine hK _ ?_
              clear hK K
              refine mix_eff2 rfl false rfl (fun K hK => ?_)
              go_simp
              refine hK _ _ (hE _ (bal hBd) (hId.alloc _)) ?_
              clear hK K
              refine mix_eff2 rfl false rfl (fun K hK => ?_)
              refine step_append_arr rfl _ _ 22 rfl 3 (.int .i64 0) 1 8 Try.underlying22 Try.info3 rfl (by decide) (by decide) (B := g + 1) (by rw [World.size_alloc]; exact hs0) (hOd.alloc _) rfl (arr_one wd 3 (.int .i64 m)) rfl rfl (one_int _) (by omega) ?_
              intro v4 w4 hown hT4
              have hO4 : Own (g + 1) w4 3 1 v4 (y + 1) (I64 (hadL D wrd v (y + 1))) := by rw [HHS.out, I64_append]; exact hown
              have hnb : ∀ q, q < wd.heap.size + 1 → u15.ownBlock ≠ some q ∨ g + 1 ≤ q := fun q hq => by by_cases hc : g + 1 ≤ q; exact .inr hc; exact .inl fun e => hc (hOd.lt q e).1
              have hT4b : ∀ q, q ≤ g → w4.heap[q]? = wd.heap[q]? := fun q hq => by rw [hT4.block q (by simp; omega) (fun e => by have := (hOd.lt q e).1; omega), Below.heap_alloc _ _ q (by omega)]
              have hs4 : wd.heap.size + 1 ≤ w4.heap.size := by have := hT4.size; simpa using this
              have hB4 : Below wr.heap.size wr w4 := hT4.below2 (hOd.alloc _) (hBd.alloc hBd.size _) (by have := hBd.size; simp; omega) (by have := HGG.out; omega)
              have hI4 : IntBlk w4 g el := hId.step (hT4b g (Nat.le_refl _))
              have hS4 := hE _ hB4 hI4
              refine hK _ _ hS4 ?_
              clear hK K hown hT4 hT4b hnb
              refine mix_eff2 rfl false rfl (fun K hK => ?_)
              go_simp
              refine (plc_c (hCr.call hB4) v hvl m).mono ?_
              rintro e w8 ⟨rfl, hC8⟩
              have hI8 := hI4.call hC8
              have hO8 := hO4.call hC8
              have hB8 := bnx hB4 hC8
              refine hK _ _ (hE _ hB8 hI8) ?_
              clear hK K
              refine mix_pur2 rfl (fun K hK => ?_)
              go_simp
              first | refine ⟨_, fun _ => rfl, hK _ ?_⟩ | refine hK _ ?_
              clear hK K
              refine mix_pur2 rfl (fun K hK => ?_)
              go_simp
              first | refine ⟨_, fun _ => rfl, hK _ ?_⟩ | refine hK _ ?_
              clear hK K
              refine mix_pur2 rfl (fun K hK => ?_)
              go_simp
              first | refine ⟨_, fun _ => rfl, hK _ ?_⟩ | refine hK _ ?_
              clear hK K
              refine mix_eff2 rfl true rfl (fun K hK => ?_)
              have gst := hI8.cell y hye
              have fst := hI8.free y
              have hgx : el[y] = x := HX.out hye
              rw [hgx] at gst
              clear hgx
              go_simp
              refine hK _ _ trivial ?_
              clear hK K
              refine mix_done2 ?_
              have f1 : Own (g + 1) (w8.setCell ⟨g, y, none⟩ (.int .i64 (x + rk c.villages v m))) 3 1 v4 (y + 1) (I64 (hadL D wrd v (y + 1))) := hO8.step fun k _ hk _ => Below.heap_setCell _ _ _ _ (show k ≠ g by omega)
              have f2 := hI8.set y (x + rk c.villages v m)
              rw [HES.out] at f2
              have f3 : Below wr.heap.size wr (w8.setCell ⟨g, y, none⟩ (.int .i64 (x + rk c.villages v m))) := hB8.setCell (show wr.heap.size ≤ g by have := HGG.out; omega) _
              go_wp2_with fail
              go_roundw
              case rel => exact ⟨y + 1, by omega, by go_num, f1, f2, f3⟩
              case measure => simp [intOf]; omega
            · obtain rfl : y = c.villages.length := by omega
              have hh := Own.intsM hOx (hadL_len _ _ _ _)
              rw [envyY_all] at hIx
              have hfs := fineT_succ D wrd c.villages.length v
              obtain ⟨hl, hhl⟩ : ∃ hl, hl = hadL D wrd v c.villages.length := ⟨_, rfl⟩
              rw [← hhl] at hh hfs
              have hlen : hl.length = c.villages.length := by rw [hhl]; exact hadL_len _ _ _ _
              obtain ⟨a15, k15, rfl, _, _⟩ := hh.shape
              rw [hlen] at hh
              have hwc := whole_c hh c.villages.length (by omega)
              have HWC := Lib.hid hwc
              have HFS := Lib.hid hfs
              have HLEN := Lib.hid hlen
              clear hwc hfs hlen hhl hOx
              cases hft : fineT D wrd c.villages.length v with
              | true =>
                have HFT := Lib.hid hft
                clear hft
                rw [HLEN.out]
                go_wp2_with fail
                refine HWC.out.mono ?_
                rintro e w8 ⟨rfl, hq8⟩
                have f2 := hIx.call (hq8.below _)
                have f3 := bnx hBx (hq8.below _)
                go_wp2_with fail
                go_roundw
                case rel => exact ⟨v + 1, by omega, by go_num, by rw [HFS.out, HFT.out, Bool.true_and], f2, f3⟩
                case measure => simp [intOf]; omega
              | false =>
                have HFT := Lib.hid hft
                clear hft
                go_wp2_with fail
                go_roundw
                case rel => exact ⟨v + 1, by omega, by go_num, by rw [HFS.out, HFT.out, Bool.false_and], hIx, hBx⟩
                case measure => simp [intOf]; omega
        · obtain rfl : v = c.villages.length := by omega
          have hiE := hIv.ints (by rw [envyT_len]; omega)
          have hel : (envyT c.villages D wrd c.villages.length c.villages.length).length = c.villages.length := envyT_len _ _ _ _ _
          obtain ⟨en, hen⟩ : ∃ en, en = envyT c.villages D wrd c.villages.length c.villages.length := ⟨_, rfl⟩
          rw [← hen] at hiE hel
          have hiE2 := hiE
          rw [hel] at hiE2
          have hiT := hiE2.wide (A' := fun _ => True) (fun _ _ _ => trivial)
          have HEN := Lib.hid hen
          have HEL := Lib.hid hel
          have hBw := bnx hB hBv
          clear hen hel hiE
          cases hft : fineT D wrd c.villages.length c.villages.length with
          | true =>
            rcases HST.out with ⟨h1, rfl⟩ | ⟨b, hb, h1, rfl, hle⟩
            · have hsr : srch c.villages D W c.villages.length (i + 1) = some i := by rw [HSRI.out, hft, h1]; rfl
              have HSN := Lib.hid hsr
              clear hft hsr h1
              go_wp2_with fail
              go_roundw
              case rel => exact ⟨i + 1, by omega, by go_num, hBw, en, HEL.out, hiT, .inr ⟨i, by omega, HSN.out, rfl, by rw [HGD.out]; exact HEN.out⟩⟩
              case measure => simp [intOf]; omega
            · have hlen2 : en.length = lst.length := by rw [HEL.out, HLL.out]
              have hah := ahead_c hiE2 (hL.call hBv) hlen2
              have hsr : srch c.villages D W c.villages.length (i + 1) = if decide (cmpL en lst < 0) = true then some i else some b := by
                rw [HSRI.out, hft, h1, aheadO, HGD.out, ← hle, ← HEN.out]; rfl
              obtain ⟨t, ht⟩ : ∃ t, t = decide (cmpL en lst < 0) := ⟨_, rfl⟩
              rw [← ht] at hah hsr
              have HAH := Lib.hid hah
              have HSN := Lib.hid hsr
              have HH1 := Lib.hid h1
              have HLE := Lib.hid hle
              have b1 : decide ((b : Int) < 0) = false := decide_eq_false (by omega)
              clear hft hsr h1 hah ht hlen2 hle
              have hls := (hL.call hBv).shape
              rw [HLL.out] at hls
              obtain ⟨a10, k10, rfl, _, _⟩ := hls
              cases t with
              | true =>
                go_wp2_with fail
                refine HAH.out.mono ?_
                rintro e w8 ⟨rfl, hq8⟩
                go_wp2_with fail
                go_roundw
                case rel => exact ⟨i + 1, by omega, by go_num, bnx hBw (hq8.below _), en, HEL.out, hiT.qt hq8, .inr ⟨i, by omega, HSN.out, rfl, by rw [HGD.out]; exact HEN.out⟩⟩
                case measure => simp [intOf]; omega
              | false =>
                go_wp2_with fail
                refine HAH.out.mono ?_
                rintro e w8 ⟨rfl, hq8⟩
                go_wp2_with fail
                go_roundw
                case rel => exact ⟨i + 1, by omega, by go_num, bnx hBw (hq8.below _), lst, HLL.out, (hL.call hBv).qt hq8, .inr ⟨b, by omega, HSN.out, rfl, HLE.out⟩⟩
                case measure => simp [intOf]; omega
          | false =>
            have hsr : srch c.villages D W c.villages.length (i + 1) = srch c.villages D W c.villages.length i := by rw [HSRI.out, hft]; rfl
            have HSN := Lib.hid hsr
            clear hft hsr
            go_wp2_with fail
            go_roundw
            case rel =>
              refine ⟨i + 1, by omega, by go_num, hBw, lst, HLL.out, hL.call hBv, ?_⟩
              rw [HSN.out]
              rcases HST.out with ⟨h1, h2⟩ | ⟨b, hb, h1, h2, hle⟩
              · exact .inl ⟨h1, h2⟩
              · exact .inr ⟨b, by omega, h1, h2, hle⟩
            case measure => simp [intOf]; omega
    · obtain rfl : i = W.length := by omega
      rcases HST.out with ⟨h1, rfl⟩ | ⟨b, hb, h1, rfl, hle⟩
      · rw [HSR.out] at h1; simp at h1
      · have hbb : b = bf := by rw [HSR.out] at h1; simpa using h1.symm
        subst hbb
        have hgr := hg.call hB
        clear h1 hle
        go_wp2_with fail
        go_loopw [18] (fun j wx => ∃ y : Nat, y ≤ c.villages.length ∧ j = .int .i64 y ∧ Below wr.heap.size wr wx) (fun j _ => c.villages.length - (intOf j).toNat)
        case atStart => exact ⟨0, Nat.zero_le _, rfl, Below.refl _ _⟩
        case round =>
          rename World => wx
          obtain ⟨y, hy, rfl, hBx⟩ := hrel
          by_cases hyl : y < c.villages.length
          · have hyg : y < got.length := by have := HGL.out; omega
            obtain ⟨gb, go, rfl, -, hgb⟩ := hgr.addr (by omega)
            obtain ⟨ag2, cg2, g1, hG1⟩ := hgr.row y hyg
            obtain ⟨wb, wo, rfl, -, hwb⟩ := hWr.addr (by omega)
            obtain ⟨arw, crw, r1, hR⟩ := hWr.row b hbf0
            have hwi := HWM.out _ (List.getElem_mem hbf0)
            have hgy : got[y] = dv D W[b] y := by
              have e := HFR.out
              have : y < (toDiv D W[b]).length := by rw [← e]; exact hyg
              have e2 : got[y] = (toDiv D W[b])[y] := by simp only [e]
              rw [e2]
              have hyw : y < W[b].length := by rw [hwi.1]; exact hyl
              simp [toDiv, dv, hyw]
            obtain ⟨wrd, hwrd⟩ : ∃ z, z = W[b] := ⟨_, rfl⟩
            rw [← hwrd] at r1 hR hwi hgy
            have hyw : y < wrd.length := by rw [hwi.1]; exact hyl
            obtain ⟨rb, ro, rfl, -, hrb, hrc⟩ := hR.addr (by omega)
            have q1 := hrc y hyw
            have hwy := hwi.2 _ (List.getElem_mem hyw)
            obtain ⟨d, hd⟩ : ∃ d : Nat, wrd[y] = (d : Int) := ⟨wrd[y].toNat, by omega⟩
            rw [hd] at q1 hwy
            have hdl : d < D.length := by omega
            obtain ⟨ob, oo, rfl, -, hob⟩ := hOr.addr (by omega)
            obtain ⟨ad, cd, r2, hDr⟩ := hOr.row d hdl
            have hdv : dv D wrd y = D[d] := by simp [dv, hyw, hd, hdl]
            rw [← hdv, ← hgy] at r2 hDr
            obtain ⟨ge, hge⟩ : ∃ ge, ge = got[y] := ⟨_, rfl⟩
            rw [← hge] at g1 hG1 r2 hDr
            obtain ⟨gl, hgle⟩ : ∃ gl, gl = ge.length := ⟨_, rfl⟩
            have HGLE := Lib.hid hgle
            rw [← hgle] at g1 hG1 r2 hDr
            have hE : ∀ w', Below wr.heap.size wr w' → (CcS gb (go + y) (.slice ag2 gl cg2) wb (wo + b) (.slice (some ⟨rb, ro, none⟩) wrd.length crw) rb (ro + y) d ob (oo + d) (.slice ad gl cd)) w' := fun w' h => ⟨(World.cell?_of_block (h.block gb hgb)).trans g1, (World.cell?_of_block (h.block wb hwb)).trans r1, (World.cell?_of_block (h.block rb hrb)).trans q1, (World.cell?_of_block (h.block ob hob)).trans r2⟩
            have b1 : decide ((b : Int) < 0) = false := decide_eq_false (by omega)
            clear g1 r1 q1 r2 hgy hdv hd hwy hwi hwrd hge hgle hrc
            go_wp2_with fail
            refine wp_region_mix2 (.pur 0 (.pur 1 (.pur 2 (.one 3 (.pur 4 (.pur 5 (.pur 6 (.pur 7 (.one 8 (.pur 9 (.pur 10 (.one 11 (.pur 12 (.one 13 (.act 14 (.pur 15 .fin)))))))))))))))) 99 (CcS gb (go + y) (.slice ag2 gl cg2) wb (wo + b) (.slice (some ⟨rb, ro, none⟩) wrd.length crw) rb (ro + y) d ob (oo + d) (.slice ad gl cd)) (fun _ => True) (by kernel_rfl) (by kernel_rfl) rfl (by kernel_rfl) (hE _ hBx).drew (fun wd hqd _ => ?_)
            have hBd := bnx hBx (hqd.below _)
            refine mix_pur2 rfl (fun K hK => ?_)
            go_simp
            first | refine ⟨_, fun _ => rfl, hK _ ?_⟩ | refine hK _ ?_
            clear hK K
            refine mix_pur2 rfl (fun K hK => ?_)
            go_simp
            first | refine ⟨_, fun _ => rfl, hK _ ?_⟩ | refine hK _ ?_
            clear hK K
            refine mix_pur2 rfl (fun K hK => ?_)
            go_simp
            first | refine ⟨_, fun _ => rfl, hK _ ?_⟩ | refine hK _ ?_
            clear hK K
            refine mix_load2 rfl rfl rfl (.slice ag2 gl cg2) (fun w' h => by have h : (CcS gb (go + y) (.slice ag2 gl cg2) wb (wo + b) (.slice (some ⟨rb, ro, none⟩) wrd.length crw) rb (ro + y) d ob (oo + d) (.slice ad gl cd)) w' := h; have h0 := h.1; go_simp) rfl ?_
            refine mix_pur2 rfl (fun K hK => ?_)
            go_simp
            first | refine ⟨_, fun _ => rfl, hK _ ?_⟩ | refine hK _ ?_
            clear hK K
            refine mix_pur2 rfl (fun K hK => ?_)
            go_simp
            first | refine ⟨_, fun _ => rfl, hK _ ?_⟩ | refine hK _ ?_
            clear hK K
            refine mix_pur2 rfl (fun K hK => ?_)
            go_simp
            first | refine ⟨_, fun _ => rfl, hK _ ?_⟩ | refine hK _ ?_
            clear hK K
            refine mix_pur2 rfl (fun K hK => ?_)
            go_simp
            first | refine ⟨_, fun _ => rfl, hK _ ?_⟩ | refine hK _ ?_
            clear hK K
            refine mix_load2 rfl rfl rfl (.slice (some ⟨rb, ro, none⟩) wrd.length crw) (fun w' h => by have h : (CcS gb (go + y) (.slice ag2 gl cg2) wb (wo + b) (.slice (some ⟨rb, ro, none⟩) wrd.length crw) rb (ro + y) d ob (oo + d) (.slice ad gl cd)) w' := h; have h0 := h.2.1; go_simp) rfl ?_
            refine mix_pur2 rfl (fun K hK => ?_)
            go_simp
            first | refine ⟨_, fun _ => rfl, hK _ ?_⟩ | refine hK _ ?_
            clear hK K
            refine mix_pur2 rfl (fun K hK => ?_)
            go_simp
            first | refine ⟨_, fun _ => rfl, hK _ ?_⟩ | refine hK _ ?_
            clear hK K
            refine mix_load2 rfl rfl rfl (.int .i64 d) (fun w' h => by have h : (CcS gb (go + y) (.slice ag2 gl cg2) wb (wo + b) (.slice (some ⟨rb, ro, none⟩) wrd.length crw) rb (ro + y) d ob (oo + d) (.slice ad gl cd)) w' := h; have h0 := h.2.2.1; go_simp) rfl ?_
            refine mix_pur2 rfl (fun K hK => ?_)
            go_simp
            first | refine ⟨_, fun _ => rfl, hK _ ?_⟩ | refine hK _ ?_
            clear hK K
            refine mix_load2 rfl rfl rfl (.slice ad gl cd) (fun w' h => by have h : (CcS gb (go + y) (.slice ag2 gl cg2) wb (wo + b) (.slice (some ⟨rb, ro, none⟩) wrd.length crw) rb (ro + y) d ob (oo + d) (.slice ad gl cd)) w' := h; have h0 := h.2.2.2; go_simp) rfl ?_
            refine mix_eff2 rfl false rfl (fun K hK => ?_)
            go_simp
            refine (sameInts_t ((hG1.call hBd)) (hDr.call hBd)).mono ?_
            rintro e w8 ⟨rfl, hB8⟩
            refine hK _ _ (hE _ (bnx hBd hB8)) ?_
            clear hK K
            refine mix_pur2 rfl (fun K hK => ?_)
            go_simp
            first | refine ⟨_, fun _ => rfl, hK _ ?_⟩ | refine hK _ ?_
            clear hK K
            refine mix_done2 ?_
            go_wp2_with fail
            go_roundw
            case rel => exact ⟨y + 1, by omega, by go_num, bnx hBd hB8⟩
            case measure => simp [intOf]; omega
          · obtain rfl : y = c.villages.length := by omega
            go_wp2_with (go_at_call 21; refine (drawn_c _).mono ?_; rintro e wz ⟨rfl, hBz⟩)
            go_ret
            exact ⟨rfl, bnx (bnx (bnx hT hB) hBx) hBz⟩

end Go.Proofs.Ythchpoabncdicaa
