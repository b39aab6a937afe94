/- Years (lots) and Years of mestaref08: the divisions of some years, or the error; conditions: none. -/
import Derived.Test.YtmlikgjfpmjdcaaDoorC4
import Derived.Test.YtmlikgjfpmjdcaaDoorLate1
import Derived.Test.YtmlikgjfpmjdcaaDoorC1
namespace Go.Proofs.YtmlikgjfpmjdcaaDoor
open Go.RowKit

/-- The order of a year, and its beginning. -/
def yearTo (n y j : Nat) : List Int := (List.range j).map fun (i : Nat) => (((y + i) % n : Nat) : Int)
def yearO (n y : Nat) : List Int := yearTo n y n
theorem yearTo_len (n y j : Nat) : (yearTo n y j).length = j := by simp [yearTo]
theorem yearTo_succ (n y j : Nat) : yearTo n y (j + 1) = yearTo n y j ++ [(((y + j) % n : Nat) : Int)] := by simp [yearTo, List.range_succ]
theorem yearTo_all (n y : Nat) : yearTo n y n = yearO n y := rfl
theorem yearO_all : ∀ n < 5, ∀ y < 8, (yearO n y).Perm (iota n) := by decide +kernel
theorem yearO_perm (n : Nat) (hn : n ≤ 4) (y : Nat) (hy : y < 8) : PermOf n (yearO n y) := yearO_all n (by omega) y hy
def yrsF (vs : List Vil) (n k : Nat) : List (List Int) := (List.range k).map fun y => drawF vs n (yearO n y)
theorem yrsF_len (vs : List Vil) (n k : Nat) : (yrsF vs n k).length = k := by simp [yrsF]
theorem yrsF_succ (vs : List Vil) (n k : Nat) : yrsF vs n (k + 1) = yrsF vs n k ++ [drawF vs n (yearO n k)] := by simp [yrsF, List.range_succ]
def yrsE (c : Com) (m : Int) : Int := if checkE c = 0 then (if btw m 1 8 = true then 0 else 1) else checkE c
def yrsR (c : Com) (m : Int) : List (List Int) := if yrsE c m = 0 then yrsF c.villages c.villages.length m.toNat else []

set_option maxRecDepth 100000 in
set_option maxHeartbeats 2000000 in
theorem years_good {A : Nat → Prop} {w : World} {vm vv : Value} {c : Com} (h : Cm A w vm vv c) (hok : c.Ok 4) (m : Nat) (hm1 : 1 ≤ m) (hm8 : m ≤ 8) :
    Calls Tryd.prog 12 #[.agg #[vm, vv], .int .i64 m] w fun e w' => ∃ v', e = .returned (.tuple #[v', .int .i64 0]) ∧ Grid (fun b => w.heap.size ≤ b) w' v' (yrsF c.villages c.villages.length m) ∧ Below w.heap.size w w' := by
  obtain ⟨am, cpm, rfl, _, _⟩ := h.1.shape
  obtain ⟨av, cpv, rfl, _, _⟩ := h.2.shape
  have hB0 : Below w.heap.size w (w.alloc (.cells #[.slice am c.mountains.length cpm, .slice av c.villages.length cpv] 25)) := (Below.refl _ w).alloc (Nat.le_refl _) _
  have hbx : Blk w.heap.size #[.slice am c.mountains.length cpm, .slice av c.villages.length cpv] 25 (w.alloc (.cells #[.slice am c.mountains.length cpm, .slice av c.villages.length cpv] 25)) := Blk.new w _ _
  have h0 := h.call hB0
  have hn4 : c.villages.length ≤ 4 := by have := hok.vl; have := hok.n2; omega
  have hn1 : 1 ≤ c.villages.length := by have := hok.vl; have := hok.n1; omega
  have hn0 : ¬ c.villages.length = 0 := by omega
  have hvl := hok.vl
  have hper : ∀ y, y < 8 → PermOf c.mountains.length (yearO c.villages.length y) := fun y hy => by rw [← hok.vl]; exact yearO_perm _ hn4 y hy
  have hc := (checkE_zero c).2 hok
  have hb8 : btw m 1 8 = true := by simp [btw]; omega
  have HC := Lib.hid hc
  have HPER := Lib.hid hper
  have HVL := Lib.hid hvl
  have b0 : ((0 : Int) != 0) = false := rfl
  clear hc hper hvl
  go_enter Tryd.func12, Tryd.ntmps12
  go_wp2_with fail
  refine (check_c h0).mono ?_
  rintro e w1 ⟨rfl, hB1⟩
  rw [HC.out]
  have h1 := h0.call hB1
  have hbx1 := hbx.call hB1
  have hT1 := bnx hB0 hB1
  clear h0 hbx hB0 hB1
  have c1 := hbx1.cell 1
  go_wp2_with (go_at_call 23; refine (between_c _ _ _ _).mono ?_; rintro e w' ⟨rfl, rfl⟩)
  clear c1
  refine wp_region_mix2 (.one 0 (.pur 1 (.pur 3 (.one 4 (.pur 5 (.act 2 (.pur 6 (.pur 7 .fin)))))))) 99 (Blk w.heap.size #[.slice am c.mountains.length cpm, .slice av c.villages.length cpv] 25) (fun _ => True) (by kernel_rfl) (by kernel_rfl) rfl (by kernel_rfl) hbx1 (fun wd hqd hSd => ?_)
  refine mix_load2 rfl rfl rfl (.agg #[.slice am c.mountains.length cpm, .slice av c.villages.length cpv]) (fun w' h => by have h : (Blk w.heap.size #[.slice am c.mountains.length cpm, .slice av c.villages.length cpv] 25) w' := h; have h0 := h.cell 0; have h1 := h.cell 1; go_simp) rfl ?_
  refine mix_pur2 rfl (fun K hK => ?_)
  go_simp
  first | refine ⟨_, fun _ => rfl, hK _ ?_⟩ | refine hK _ ?_
  clear hK K
  refine mix_pur2 rfl (fun K hK => ?_)
  go_simp
  first | refine ⟨_, fun _ => rfl, hK _ ?_⟩ | refine hK _ ?_
  clear hK K
  refine mix_load2 rfl rfl rfl (.slice av c.villages.length cpv) (fun w' h => by have h : (Blk w.heap.size #[.slice am c.mountains.length cpm, .slice av c.villages.length cpv] 25) w' := h; have h0 := h.cell 1; go_simp) rfl ?_
  refine mix_pur2 rfl (fun K hK => ?_)
  go_simp
  first | refine ⟨_, fun _ => rfl, hK _ ?_⟩ | refine hK _ ?_
  clear hK K
  refine mix_eff2 rfl false rfl (fun K hK => ?_)
  go_simp
  refine hK _ _ (hSd.alloc _) ?_
  clear hK K
  refine mix_pur2 rfl (fun K hK => ?_)
  go_simp
  first | refine ⟨_, fun _ => rfl, hK _ ?_⟩ | refine hK _ ?_
  clear hK K
  refine mix_pur2 rfl (fun K hK => ?_)
  go_simp
  first | refine ⟨_, fun _ => rfl, hK _ ?_⟩ | refine hK _ ?_
  clear hK K
  refine mix_done2 ?_
  have hnew : Blk wd.heap.size #[.slice am c.mountains.length cpm, .slice av c.villages.length cpv] 60 (wd.alloc (.cells #[.slice am c.mountains.length cpm, .slice av c.villages.length cpv] 60)) := Blk.new wd _ _
  have h9 := (h1.call (hqd.below _)).alloc (.cells #[.slice am c.mountains.length cpm, .slice av c.villages.length cpv] 60)
  have hT9 := bal (o := .cells #[.slice am c.mountains.length cpm, .slice av c.villages.length cpv] 60) (bnx hT1 (hqd.below _))
  obtain ⟨wb, hwb⟩ : ∃ wb, wb = wd.heap.size := ⟨_, rfl⟩
  rw [← hwb] at hnew ⊢
  generalize wd.alloc (.cells #[.slice am c.mountains.length cpm, .slice av c.villages.length cpv] 60) = w9 at *
  have hb9 := hnew
  have hs9 := hT9.size
  clear hnew hqd hSd hbx1 hT1 h1 hwb
  go_wp2_with fail
  go_loopw [9, 28] (fun s9 i wr => ∃ k : Nat, k ≤ m ∧ i = .int .i64 k ∧ GO (fun b => w9.heap.size ≤ b) w9.heap.size wr s9 (yrsF c.villages c.villages.length k) ∧ Below w9.heap.size w9 wr) (fun _ i _ => m - (intOf i).toNat)
  case atStart => exact ⟨0, Nat.zero_le _, rfl, GO.nil _ _ _, Below.refl _ _⟩
  case round =>
    obtain ⟨k, hk, rfl, hGo, hB⟩ := hrel
    have hyl := yrsF_len c.villages c.villages.length k
    have hys := yrsF_succ c.villages c.villages.length k
    have hsx := hB.size
    obtain ⟨out, hout⟩ : ∃ out, out = yrsF c.villages c.villages.length k := ⟨_, rfl⟩
    rw [← hout] at hGo hyl hys
    have hol : out.length ≤ 8 := by omega
    have HOUT := Lib.hid hout
    have HYS := Lib.hid hys
    clear hyl hys hout
    by_cases hkm : k < m
    · go_wp2_with fail
      go_loopw [11, 32] (fun s11 i wx => ∃ j : Nat, j ≤ c.villages.length ∧ i = .int .i64 j ∧ Own wr.heap.size wx 3 1 s11 j (I64 (yearTo c.villages.length k j)) ∧ Below wr.heap.size wr wx) (fun _ i _ => c.villages.length - (intOf i).toNat)
      case atStart => exact ⟨0, Nat.zero_le _, rfl, Own.nil, Below.refl _ _⟩
      case round =>
        rename World => wx
        obtain ⟨j, hj, rfl, ho, hBx⟩ := hrel
        have hsz := hBx.size
        by_cases hjl : j < c.villages.length
        · obtain ⟨z, hz⟩ : ∃ z : Nat, z = (k + j) % c.villages.length := ⟨_, rfl⟩
          have hrem : ((k : Int) + (j : Int)).tmod (c.villages.length : Int) = (z : Int) := by
            rw [hz, Int.natCast_emod, Int.natCast_add]
            exact Int.tmod_eq_emod_of_nonneg (by omega)
          have hts := yearTo_succ c.villages.length k j
          rw [← hz] at hts
          have HTS := Lib.hid hts
          clear hz hts
          have ho' := Own.alloc ho (.cells #[.int .i64 (z : Int)] 3)
          have ha := arr_one wx 3 (.int .i64 (z : Int))
          go_wp2_with (at_builtin; refine wpList_append_arr rfl _ _ 22 rfl 3 (.int .i64 0) 1 8 Tryd.underlying22 Tryd.info3 rfl (by decide) (by decide) (by simp; omega) ho' rfl ha rfl rfl (one_int _) (by omega) ?_; intro v' w' hown hT)
          go_roundw
          case rel => exact ⟨j + 1, by omega, by go_num, by rw [HTS.out, I64_append]; exact hown, hT.below ho' (bal hBx) (by simp; omega)⟩
          case measure => simp [intOf]; omega
        · obtain rfl : j = c.villages.length := by omega
          have hord := Own.intsN ho (yearTo_len _ _ _)
          rw [yearTo_all] at hord
          have hpm := HPER.out k (by omega)
          have hordl : (yearO c.villages.length k).length = c.villages.length := by rw [hpm.len, HVL.out]
          have hCx := ((h9.call hB).call hBx)
          have hbx9 := ((hb9.call hB).call hBx)
          have hdc := draw_c hbx9 hCx hord hok hpm
          have HDC := Lib.hid hdc
          clear hdc
          go_wp2_with fail
          refine HDC.out.mono ?_
          rintro e w2 ⟨v2, rfl, hv2, hB2⟩
          clear HDC
          rw [hordl] at hv2
          obtain ⟨l, hl⟩ : ∃ l, l = drawF c.villages c.villages.length (yearO c.villages.length k) := ⟨_, rfl⟩
          rw [← hl] at hv2
          have HL := Lib.hid hl
          clear hl hord hordl ho
          obtain ⟨a1, k1, rfl, _, _⟩ := hv2.shape
          have hBr := hBx.trans (hB2.mono hBx.size)
          have hs2 := hB2.size
          obtain ⟨vs, hv1, hog, hrows⟩ := hGo.call hBr
          have hvl : ∀ q, u9.ownBlock = some q → q < wr.heap.size := fun q hq => GO.lt hGo q hq
          have hrr := hv2.wide (A' := fun q => w9.heap.size ≤ q ∧ u9.ownBlock ≠ some q) fun q hq _ => ⟨by omega, fun e => by have := hvl q e; omega⟩
          have hB9 := hB.trans (hBr.mono hsx)
          obtain ⟨ax, cx, rfl⟩ := own_slice hog
          have hoa := hog.alloc (.cells #[.slice a1 l.length k1] 22)
          have ha := arr_one w2 22 (.slice a1 l.length k1)
          go_wp2_with (at_builtin; refine wpList_append_arr rfl _ _ 40 rfl 22 (.slice none 0 0) 1 24 Tryd.under40 Tryd.info22 rfl (by decide) (by decide) (by simp; omega) hoa rfl ha rfl rfl (one_slice _ _ _) (by omega) ?_; intro v3 w3 hown2 hT2)
          have hGn := gput hv1 hrows hrr hown2 hT2
          have hB3 : Below w9.heap.size w9 w3 := hT2.below hoa (hB9.alloc (by omega) _) (by simp; omega)
          go_roundw
          case rel => exact ⟨k + 1, by omega, by go_num, by rw [HYS.out, ← HL.out]; exact hGn, hB3⟩
          case measure => simp [intOf]; omega
    · obtain rfl : k = m := by omega
      rw [HOUT.out] at hGo
      have hg := hGo.grid (C := fun b => w.heap.size ≤ b) (fun b hb => by omega) (fun b hb => by omega)
      go_wp2_with fail
      go_ret2
      exact ⟨_, rfl, hg, bnx hT9 hB⟩

set_option maxRecDepth 100000 in
set_option maxHeartbeats 1000000 in
theorem years_c {A : Nat → Prop} {w : World} {vm vv : Value} {c : Com} (h : Cm A w vm vv c) (m : Int) :
    Calls Tryd.prog 12 #[.agg #[vm, vv], .int .i64 m] w fun e w' => ∃ v', e = .returned (.tuple #[v', .int .i64 (yrsE c m)]) ∧ Grid (fun b => w.heap.size ≤ b) w' v' (yrsR c m) ∧ Below w.heap.size w w' := by
  obtain ⟨am, cpm, rfl, _, _⟩ := h.1.shape
  obtain ⟨av, cpv, rfl, _, _⟩ := h.2.shape
  have hB0 : Below w.heap.size w (w.alloc (.cells #[.slice am c.mountains.length cpm, .slice av c.villages.length cpv] 25)) := (Below.refl _ w).alloc (Nat.le_refl _) _
  have h0 := h.call hB0
  by_cases hc : checkE c = 0
  · have hok := (checkE_zero c).1 hc
    cases hm : btw m 1 8 with
    | true =>
      have hm' : 1 ≤ m ∧ m ≤ 8 := by simpa [btw] using hm
      obtain ⟨k, rfl⟩ : ∃ k : Nat, m = (k : Int) := ⟨m.toNat, by omega⟩
      have he : yrsE c k = 0 := by rw [yrsE, if_pos hc, if_pos hm]
      rw [yrsR, if_pos he, he, Int.toNat_natCast]
      exact years_good h hok k (by omega) (by omega)
    | false =>
      have he : yrsE c m = 1 := by rw [yrsE, if_pos hc, if_neg (by simp [hm])]
      have hr : yrsR c m = [] := by rw [yrsR, he, if_neg (by decide)]
      rw [hr, he]
      have HC := Lib.hid hc
      have b0 : ((0 : Int) != 0) = false := rfl
      clear hc he hr
      go_enter Tryd.func12, Tryd.ntmps12
      go_wp2_with fail
      refine (check_c h0).mono ?_
      rintro e w1 ⟨rfl, hB1⟩
      rw [HC.out]
      go_wp2_with (go_at_call 23; refine (between_c _ _ _ _).mono ?_; rintro e w' ⟨rfl, rfl⟩)
      go_ret2
      exact ⟨_, rfl, grid_nil _ _, bnx hB0 hB1⟩
  · have hb : (checkE c != 0) = true := by simpa using hc
    have he : yrsE c m = checkE c := by rw [yrsE, if_neg hc]
    have hr : yrsR c m = [] := by rw [yrsR, he, if_neg hc]
    rw [hr, he]
    clear hc he hr
    go_enter Tryd.func12, Tryd.ntmps12
    go_wp2_with fail
    refine (check_c h0).mono ?_
    rintro e w1 ⟨rfl, hB1⟩
    go_wp2
    go_ret2
    exact ⟨_, rfl, grid_nil _ _, bnx hB0 hB1⟩

end Go.Proofs.YtmlikgjfpmjdcaaDoor
