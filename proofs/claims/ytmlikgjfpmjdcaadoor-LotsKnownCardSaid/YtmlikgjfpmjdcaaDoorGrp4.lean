/- Group (lots and mestaref08): the fewest villages that could do better; conditions: none. -/
import Derived.Test.YtmlikgjfpmjdcaaDoorGrp3
import Derived.Test.YtmlikgjfpmjdcaaDoorGrp2
import Derived.Test.YtmlikgjfpmjdcaaDoorGrpP
import Derived.Test.YtmlikgjfpmjdcaaDoorLst2
import Derived.Test.YtmlikgjfpmjdcaaDoorC4
namespace Go.Proofs.YtmlikgjfpmjdcaaDoor
open Go.RowKit

def groupR (c : Com) (l : List Int) : List Int := if divE c l = 0 then (grpF (betterB c.villages l) c.villages.length).getD [] else []
def groupE (c : Com) (l : List Int) : Int := if divE c l = 0 then (match grpF (betterB c.villages l) c.villages.length with | some _ => 0 | none => 11) else divE c l
theorem gSet_mem {s j : Nat} {x : Int} (h : x ∈ gSet s j) : 0 ≤ x ∧ x < (j : Int) := by
  obtain ⟨i, hi, rfl⟩ := List.mem_map.1 h
  have := List.mem_range.1 (List.mem_filter.1 hi).1
  omega
theorem Own.intsK {B : Nat} {w : World} {v : Value} {n : Nat} {l : List Int} (h : Own B w 3 1 v n (I64 l)) (hl : l.length = n) : Ints (fun b => B ≤ b) w v l := by subst hl; exact Own.ints h
theorem gSet_pos : ∀ n < 5, ∀ s < 16, 1 ≤ s → s ≤ allB n → 1 ≤ (gSet s n).length := by decide +kernel
theorem keep_call {kb : Nat} {vb vk : Value} {W W' : World} {ks : Option (List Int × List Int)} (h : KO kb (fun _ => True) vb vk W ks) (hk : kb < W.heap.size) (hB : Below W.heap.size W W') : KO kb (fun _ => True) vb vk W' ks :=
  h.step (hB.block kb hk) hB.size (fun q _ _ hl => hB.block q hl) (fun _ h => h)

set_option maxRecDepth 100000 in
set_option maxHeartbeats 4000000 in
theorem group_good {A A' : Nat → Prop} {w : World} {vm vv vd : Value} {c : Com} {l : List Int} (h : Cm A w vm vv c) (hd : Ints A' w vd l) (he : divE c l = 0) :
    Calls Tryd.prog 18 #[.agg #[vm, vv], vd] w fun e w' => ∃ v', e = .returned (.tuple #[v', .int .i64 (groupE c l)]) ∧ Ints (fun b => w.heap.size ≤ b) w' v' (groupR c l) ∧ Below w.heap.size w w' := by
  obtain ⟨am, cpm, rfl, _, _⟩ := h.1.shape
  obtain ⟨av, cpv, rfl, _, _⟩ := h.2.shape
  have hok := (divE_ok he).1
  have hpm := (divE_ok he).2
  have hpv : PermOf c.villages.length l := by rw [hok.vl]; exact hpm
  have hlv := hpv.len
  have hvl4 : c.villages.length ≤ 4 := by have := hok.vl; have := hok.n2; omega
  have hl4 : l.length ≤ 4 := by omega
  have hl1 : 1 ≤ l.length := by have := hok.vl; have := hok.n1; omega
  obtain ⟨ad, cpd, rfl, _, _⟩ := hd.shape
  have hB0 : Below w.heap.size w (w.alloc (.cells #[.slice am c.mountains.length cpm, .slice av c.villages.length cpv] 25)) := (Below.refl _ w).alloc (Nat.le_refl _) _
  have h0 := h.call hB0
  have hd0 := hd.call hB0
  have b0 : ((0 : Int) != 0) = false := rfl
  have hlaw := grp_law (P := betterB c.villages l) hvl4
  have hgr : groupR c l = (grpF (betterB c.villages l) c.villages.length).getD [] := by rw [groupR, if_pos he]
  have hge : groupE c l = (match grpF (betterB c.villages l) c.villages.length with | some _ => 0 | none => 11) := by rw [groupE, if_pos he]
  have hks := grpK_succ (betterB c.villages l) c.villages.length
  have hk0 : grpK (betterB c.villages l) c.villages.length 0 = none := rfl
  have hsp := gSet_pos c.villages.length (by omega)
  rw [← hlv] at hlaw hks hk0 hsp
  have hab := allB_lt hl4
  have HE := Lib.hid he
  have HPV := Lib.hid hpv
  have HLV := Lib.hid hlv
  have HLAW := Lib.hid hlaw
  have HGR := Lib.hid hgr
  have HGE := Lib.hid hge
  have HKS := Lib.hid hks
  have HK0 := Lib.hid hk0
  have HSP := Lib.hid hsp
  clear he hpv hpm hlv hlaw hgr hge hks hk0 hsp
  go_enter Tryd.func18, Tryd.ntmps18
  go_wp2_with fail
  refine (begin_ok h0 hd0 HE.out).mono ?_
  rintro e w1 ⟨gw, rfl, hW, hgw, hB1⟩
  have hgl := hW.lt
  have h1 := h0.call hB1
  have hd1 := hd0.call hB1
  have hT1 := bnx hB0 hB1
  clear h0 hd0 hB0 hB1
  obtain ⟨kb, hkb⟩ : ∃ k, k = w1.heap.size := ⟨_, rfl⟩
  have hK0 : Blk kb #[.slice none 0 0, .slice none 0 0, .bool false] 73 (w1.alloc (.cells #[.slice none 0 0, .slice none 0 0, .bool false] 73)) := by rw [hkb]; exact Blk.new w1 _ _
  have h2 := h1.alloc (.cells #[.slice none 0 0, .slice none 0 0, .bool false] 73)
  have hd2 := hd1.call ((Below.refl _ w1).alloc (Nat.le_refl _) (.cells #[.slice none 0 0, .slice none 0 0, .bool false] 73))
  have hW2 := hW.alloc (.cells #[.slice none 0 0, .slice none 0 0, .bool false] 73)
  have hT2 := bal (o := .cells #[.slice none 0 0, .slice none 0 0, .bool false] 73) hT1
  have hkw : w.heap.size ≤ kb := by have := hT1.size; omega
  have hgk : gw < kb := by omega
  go_upto_region 5 with fail
  rw [← hkb]
  generalize w1.alloc (.cells #[.slice none 0 0, .slice none 0 0, .bool false] 73) = w2 at *
  have HKB := Lib.hid hkb
  clear hkb h1 hd1 hW hT1
  go_wp2_with fail
  go_loopw [9] (fun s9 wr => ∃ s : Nat, 1 ≤ s ∧ s ≤ allB l.length + 1 ∧ s9 = .int .u8 s ∧ Blk gw #[.slice am c.mountains.length cpm, .slice av c.villages.length cpv] 60 wr ∧ kb < wr.heap.size ∧ (∃ vb vk, KO kb (fun _ => True) vb vk wr (grpK (betterB c.villages l) l.length (s - 1))) ∧ Below w.heap.size w wr) (fun s9 _ => 17 - (intOf s9).toNat)
  case atStart => exact ⟨1, Nat.le_refl _, by omega, rfl, hW2, hK0.lt, ⟨.slice none 0 0, .slice none 0 0, by rw [HK0.out]; exact hK0⟩, hT2⟩
  case round =>
    obtain ⟨s, hs1, hs2, rfl, hWr, hkl, ⟨vb, vk, hko⟩, hB⟩ := hrel
    have hsr := hB.size
    by_cases hsl : s ≤ allB l.length
    · have hs16 : s < 16 := by omega
      have bs : decide ((s : Int) ≤ (allB l.length : Int)) = true := decide_eq_true (by omega)
      have hks := HKS.out (s - 1)
      rw [show s - 1 + 1 = s by omega] at hks
      have HKSS := Lib.hid hks
      clear hks
      go_wp2_with (go_at_call 30; refine (everything_c l.length hl4 _).mono ?_; rintro e w' ⟨rfl, rfl⟩)
      go_loopw [10, 30] (fun s10 i wx => ∃ j : Nat, j ≤ l.length ∧ i = .int .i64 j ∧ Own wr.heap.size wx 3 1 s10 (gSet s j).length (I64 (gSet s j)) ∧ Below wr.heap.size wr wx) (fun _ i _ => l.length - (intOf i).toNat)
      case atStart => exact ⟨0, Nat.zero_le _, rfl, Own.nil, Below.refl _ _⟩
      case round =>
        rename World => wx
        obtain ⟨j, hj, rfl, ho, hBx⟩ := hrel
        have hgs := gSet_succ s j
        have hgl2 := gSet_len s j
        have hsx := hBx.size
        obtain ⟨g, hg⟩ : ∃ g, g = gSet s j := ⟨_, rfl⟩
        rw [← hg] at ho hgs hgl2
        have HG := Lib.hid hg
        clear hg
        by_cases hjl : j < l.length
        · have hc := has_c s j hs16 (by omega) wx
          obtain ⟨u, hu⟩ : ∃ u, u = hasB s j := ⟨_, rfl⟩
          rw [← hu] at hc hgs
          have HC := Lib.hid hc
          have HGS := Lib.hid hgs
          clear hc hgs hu
          cases u with
          | true =>
            have ho' := Own.alloc ho (.cells #[.int .i64 (j : Int)] 3)
            have ha := arr_one wx 3 (.int .i64 (j : Int))
            go_wp2_with fail
            refine HC.out.mono ?_
            rintro e w' ⟨rfl, rfl⟩
            go_wp2_with (at_builtin; refine wpList_append_arr rfl _ _ 22 rfl 3 (.int .i64 0) 1 8 Tryd.underlying22 Tryd.info3 rfl (by decide) (by decide) (by simp; omega) ho' rfl ha rfl rfl (one_int _) (by omega) ?_; intro v' w' hown hT)
            go_roundw
            case rel =>
              refine ⟨j + 1, by omega, by go_num, ?_, hT.below ho' (bal hBx) (by simp; omega)⟩
              rw [HGS.out]
              simp only [reduceIte, I64_append, List.length_append]
              exact hown
            case measure => simp [intOf]; omega
          | false =>
            go_wp2_with fail
            refine HC.out.mono ?_
            rintro e w' ⟨rfl, rfl⟩
            go_wp2_with fail
            go_roundw
            case rel =>
              refine ⟨j + 1, by omega, by go_num, ?_, hBx⟩
              rw [HGS.out]
              simp only [Bool.false_eq_true, reduceIte]
              exact ho
            case measure => simp [intOf]; omega
        · obtain rfl : j = l.length := by omega
          have hg1 : 1 ≤ g.length := by rw [HG.out]; exact HSP.out s hs16 hs1 hsl
          have hgm : ∀ x ∈ g, 0 ≤ x ∧ x < (c.villages.length : Int) := fun x hx => by rw [HG.out] at hx; have := gSet_mem hx; have := HLV.out; omega
          have hgi := Own.ints ho
          obtain ⟨a10, k10, rfl⟩ := own_slice ho
          have hBw := bnx hB hBx
          have hbt := better_c (hWr.call hBx) (h.call hBw) hok (hd.call hBw) HPV.out hgi hg1 (by omega) hgm
          have HBT := Lib.hid hbt
          have hkst : grpK (betterB c.villages l) l.length s = gpStep (betterB c.villages l) (grpK (betterB c.villages l) l.length (s - 1)) g := by rw [HKSS.out, HG.out]
          obtain ⟨ks0, hks0⟩ : ∃ k, k = grpK (betterB c.villages l) l.length (s - 1) := ⟨_, rfl⟩
          rw [← hks0] at hko hkst
          have HKST := Lib.hid hkst
          clear hbt hgs hkst hks0 hgm
          obtain ⟨u, hu⟩ : ∃ u, u = betterB c.villages l g := ⟨_, rfl⟩
          rw [← hu] at HBT
          have HU := Lib.hid hu
          clear hu
          cases u with
          | true =>
            go_wp2_with fail
            refine HBT.out.mono ?_
            rintro e wy ⟨rfl, hBy⟩
            have hgy := hgi.call hBy
            have hoy := Own.call ho hBy
            have hBwy := bnx hBw hBy
            have hBry := bnx hBx hBy
            have hWy := (hWr.call hBx).call hBy
            have hkoy := keep_call (keep_call hko hkl hBx) (by omega) hBy
            have hsy := hBy.size
            clear HBT hko ho hgi
            have hL := own_lit wy 3 1 #[.int .i64 (g.length : Int)] 1 rfl (by omega)
            have hBa := (Below.refl wy.heap.size wy).alloc (Nat.le_refl _) (.cells #[.int .i64 (g.length : Int)] 3)
            have g2 := hgy.call hBa
            go_wp2_with (at_builtin; refine wpList_append_arr rfl _ _ 22 rfl 3 (.int .i64 0) 1 8 Tryd.underlying22 Tryd.info3 rfl (by decide) (by decide) (by simp) hL rfl g2 rfl (by rw [I64_len, Nat.mul_one]) (ints_one g) (by omega) ?_; intro v1 wz hown hT1; have hBz : Below wy.heap.size wy wz := hT1.below hL hBa (by simp); have hown : Own wy.heap.size wz 3 1 v1 (1 + g.length) (I64 (gKey g)) := hown; have hrw : Ints (fun k => wy.heap.size ≤ k) wz v1 (gKey g) := Own.intsK hown (by simp [gKey]; omega); obtain ⟨a1, k1, rfl⟩ := own_slice hown; clear hT1 hL g2)
            have hsz := hBz.size
            have hkoz := keep_call hkoy (by omega) hBz
            have hgz := hgy.call hBz
            have hWz := hWy.call hBz
            have hBwz := bnx hBwy hBz
            have hX : Ints (fun q => True ∧ kb < q) wz (.slice a10 g.length k10) g := hgz.wide fun q hq _ => ⟨trivial, by omega⟩
            have hY : Ints (fun q => True ∧ kb < q) wz (.slice a1 (1 + g.length) k1) (gKey g) := hrw.wide fun q hq _ => ⟨trivial, by omega⟩
            have hnw : ∀ b0' k0' b1', Blk kb #[b0', k0', b1'] 73 wz → ∃ vb vk, KO kb (fun _ => True) vb vk (((wz.setCell ⟨kb, 0, none⟩ (.slice a10 g.length k10)).setCell ⟨kb, 1, none⟩ (.slice a1 (1 + g.length) k1)).setCell ⟨kb, 2, none⟩ (.bool true)) (some (g, gKey g)) := fun b0' k0' b1' hb => by
              have hoth : ∀ i, i ≠ kb → (((wz.setCell ⟨kb, 0, none⟩ (.slice a10 g.length k10)).setCell ⟨kb, 1, none⟩ (.slice a1 (1 + g.length) k1)).setCell ⟨kb, 2, none⟩ (.bool true)).heap[i]? = wz.heap[i]? := fun i hi =>
                ((Below.heap_setCell _ _ _ _ (show i ≠ kb from hi)).trans (Below.heap_setCell _ _ _ _ (show i ≠ kb from hi))).trans (Below.heap_setCell _ _ _ _ (show i ≠ kb from hi))
              have hzz : wz.heap.size ≤ (((wz.setCell ⟨kb, 0, none⟩ (.slice a10 g.length k10)).setCell ⟨kb, 1, none⟩ (.slice a1 (1 + g.length) k1)).setCell ⟨kb, 2, none⟩ (.bool true)).heap.size := by simp [World.setCell]
              exact ⟨_, _, by simpa using ((hb.set 0 (.slice a10 g.length k10)).set 1 (.slice a1 (1 + g.length) k1)).set 2 (.bool true), hX.step hzz fun k hk _ => hoth k (by omega), hY.step hzz fun k hk _ => hoth k (by omega)⟩
            have hBn : Below w.heap.size w (((wz.setCell ⟨kb, 0, none⟩ (.slice a10 g.length k10)).setCell ⟨kb, 1, none⟩ (.slice a1 (1 + g.length) k1)).setCell ⟨kb, 2, none⟩ (.bool true)) := ((hBwz.setCell (show w.heap.size ≤ kb by omega) _).setCell (show w.heap.size ≤ kb by omega) _).setCell (show w.heap.size ≤ kb by omega) _
            have hWn : Blk gw #[.slice am c.mountains.length cpm, .slice av c.villages.length cpv] 60 (((wz.setCell ⟨kb, 0, none⟩ (.slice a10 g.length k10)).setCell ⟨kb, 1, none⟩ (.slice a1 (1 + g.length) k1)).setCell ⟨kb, 2, none⟩ (.bool true)) := ((hWz.other (a := ⟨kb, 0, none⟩) (by show gw ≠ kb; omega) _).other (a := ⟨kb, 1, none⟩) (by show gw ≠ kb; omega) _).other (a := ⟨kb, 2, none⟩) (by show gw ≠ kb; omega) _
            have hzn : kb < (((wz.setCell ⟨kb, 0, none⟩ (.slice a10 g.length k10)).setCell ⟨kb, 1, none⟩ (.slice a1 (1 + g.length) k1)).setCell ⟨kb, 2, none⟩ (.bool true)).heap.size := by simp [World.setCell]; omega
            have HNW := Lib.hid hnw
            have HBN := Lib.hid hBn
            have HWN := Lib.hid hWn
            have HZN := Lib.hid hzn
            clear hnw hBn hWn hzn
            cases ks0 with
            | none =>
              have hK5 : Blk kb #[.slice none 0 0, .slice none 0 0, .bool false] 73 wz := hkoz
              have ho := offer_take (vx := .slice a10 g.length k10) rfl rfl hK5 hrw (ints_nil (fun _ => True) _) (.inl rfl)
              have hst : grpK (betterB c.villages l) l.length s = some (g, gKey g) := by rw [HKST.out]; simp [gpStep, ← HU.out]
              have HST := Lib.hid hst
              have HO := Lib.hid ho
              clear hst ho hkoz hkoy
              go_wp2_with fail
              refine HO.out.mono ?_
              rintro e wq ⟨rfl, rfl⟩
              go_wp2_with fail
              go_roundw
              case rel => exact ⟨s + 1, by omega, by omega, by go_num, HWN.out, HZN.out, by rw [Nat.add_sub_cancel, HST.out]; exact HNW.out _ _ _ hK5, HBN.out⟩
              case measure => simp [intOf]; omega
            | some bk =>
              obtain ⟨b, k⟩ := bk
              obtain ⟨q1, q2, q3⟩ := hkoz
              by_cases hc : cmpL (gKey g) k < 0
              · have ho := offer_take (vx := .slice a10 g.length k10) rfl rfl q1 hrw q3 (.inr hc)
                have hst : grpK (betterB c.villages l) l.length s = some (g, gKey g) := by rw [HKST.out]; simp [gpStep, ← HU.out, hc]
                have HST := Lib.hid hst
                have HO := Lib.hid ho
                clear hst ho hkoy
                go_wp2_with fail
                refine HO.out.mono ?_
                rintro e wq ⟨rfl, rfl⟩
                go_wp2_with fail
                go_roundw
                case rel => exact ⟨s + 1, by omega, by omega, by go_num, HWN.out, HZN.out, by rw [Nat.add_sub_cancel, HST.out]; exact HNW.out _ _ _ q1, HBN.out⟩
                case measure => simp [intOf]; omega
              · have ho := offer_keep (vx := .slice a10 g.length k10) q1 hrw q3 hc
                have hst : grpK (betterB c.villages l) l.length s = some (b, k) := by rw [HKST.out]; simp [gpStep, ← HU.out, hc]
                have HST := Lib.hid hst
                have HO := Lib.hid ho
                clear hst ho hkoy
                go_wp2_with fail
                refine HO.out.mono ?_
                rintro e wq ⟨rfl, rfl⟩
                go_wp2_with fail
                go_roundw
                case rel => exact ⟨s + 1, by omega, by omega, by go_num, hWz, by omega, by rw [Nat.add_sub_cancel, HST.out]; exact ⟨vb, vk, q1, q2, q3⟩, hBwz⟩
                case measure => simp [intOf]; omega
          | false =>
            go_wp2_with fail
            refine HBT.out.mono ?_
            rintro e wy ⟨rfl, hBy⟩
            have hst : grpK (betterB c.villages l) l.length s = ks0 := by rw [HKST.out]; simp [gpStep, ← HU.out]
            have HST := Lib.hid hst
            have hsy := hBy.size
            have hkoy := keep_call (keep_call hko hkl hBx) (by omega) hBy
            clear hst hko
            go_wp2_with fail
            go_roundw
            case rel => exact ⟨s + 1, by omega, by omega, by go_num, (hWr.call hBx).call hBy, by omega, by rw [Nat.add_sub_cancel, HST.out]; exact ⟨vb, vk, hkoy⟩, bnx hBw hBy⟩
            case measure => simp [intOf]; omega
    · obtain rfl : s = allB l.length + 1 := by omega
      have bs : decide (((allB l.length + 1 : Nat) : Int) ≤ (allB l.length : Int)) = false := decide_eq_false (by omega)
      rw [Nat.add_sub_cancel, HLAW.out] at hko
      cases hf : grpF (betterB c.villages l) c.villages.length with
      | none =>
        rw [HLV.out, hf] at hko
        have hK5 : Blk kb #[.slice none 0 0, .slice none 0 0, .bool false] 73 wr := hko
        have c2 := hK5.cell 2
        have HF := Lib.hid hf
        clear hf hko
        go_wp2_with (go_at_call 30; refine (everything_c l.length hl4 _).mono ?_; rintro e w' ⟨rfl, rfl⟩)
        go_ret2
        rw [HGR.out, HGE.out, HF.out]
        exact ⟨_, rfl, ints_nil _ _, hB⟩
      | some g =>
        rw [HLV.out, hf] at hko
        obtain ⟨q1, q2, q3⟩ := hko
        have c2 := q1.cell 2
        have c0 := q1.cell 0
        have HF := Lib.hid hf
        clear hf
        go_wp2_with (go_at_call 30; refine (everything_c l.length hl4 _).mono ?_; rintro e w' ⟨rfl, rfl⟩)
        go_ret2
        rw [HGR.out, HGE.out, HF.out]
        exact ⟨_, rfl, q2.wide fun b hb _ => by omega, hB⟩

set_option maxRecDepth 100000 in
theorem groupA_c {A A' : Nat → Prop} {w : World} {vm vv vd : Value} {c : Com} {l : List Int} (h : Cm A w vm vv c) (hd : Ints A' w vd l) :
    Calls Tryd.prog 18 #[.agg #[vm, vv], vd] w fun e w' => ∃ v', e = .returned (.tuple #[v', .int .i64 (groupE c l)]) ∧ Ints (fun b => w.heap.size ≤ b) w' v' (groupR c l) ∧ Below w.heap.size w w' := by
  by_cases he : divE c l = 0
  · exact group_good h hd he
  · obtain ⟨am, cpm, rfl, _, _⟩ := h.1.shape
    obtain ⟨av, cpv, rfl, _, _⟩ := h.2.shape
    have hB0 : Below w.heap.size w (w.alloc (.cells #[.slice am c.mountains.length cpm, .slice av c.villages.length cpv] 25)) := (Below.refl _ w).alloc (Nat.le_refl _) _
    have h0 := h.call hB0
    have hd0 := hd.call hB0
    have b1 : (divE c l != 0) = true := by simpa using he
    rw [groupE, groupR, if_neg he, if_neg he]
    go_enter Tryd.func18, Tryd.ntmps18
    go_wp2_with fail
    refine (begin_bad h0 hd0 he).mono ?_
    rintro e w1 ⟨rfl, hB1⟩
    clear he
    go_wp2
    go_ret2
    exact ⟨_, rfl, ints_nil _ _, bnx hB0 hB1⟩

end Go.Proofs.YtmlikgjfpmjdcaaDoor
