/- The reference's words of kinds, and the claim of a line; conditions: as said at each. -/
import Derived.Test.YtbpfhoihfoojfaaGreatDoorR2
import Derived.Test.YtbpfhoihfoojfaaGreatDoorRds
namespace Go.Proofs.YtbpfhoihfoojfaaGreatDoor
open Go.RowKit

/-- The words of the kinds. -/
def kindsW : List (List UInt8) := [[], wSt, wMe, wWi, wBe, wAb]
theorem sw_new (ws : List (List UInt8)) (w : World) : SW w.heap.size 0 ws (w.alloc (.cells (ws.map (fun x => Value.string (str x))).toArray 9)) := by
  refine ⟨by simp, fun j hj => ?_⟩
  have hb := Blk.new w (ws.map (fun x => Value.string (str x))).toArray 9
  rw [Nat.zero_add, hb.cell j]
  simp [hj]
set_option maxRecDepth 100000 in
theorem names_r (w : World) : Calls Tryz.prog 35 #[] w fun e w' => e = .returned (.slice (some ⟨w.heap.size, 0, none⟩) 6 6) ∧ SW w.heap.size 0 kindsW w' ∧ Below w.heap.size w w' := by
  have HS := Lib.hid (sw_new kindsW w)
  have HB := Lib.hid ((Below.refl w.heap.size w).alloc (Nat.le_refl _) (.cells (kindsW.map (fun x => Value.string (str x))).toArray 9))
  go_enter Tryz.func35, Tryz.ntmps35
  go_wp2_with fail
  go_ret
  exact ⟨rfl, HS.out, HB.out⟩
theorem form_cons {sg : Bool} {n : List UInt8} {ns r : List (List UInt8)} (hn : n ≠ []) : formL sg (n :: ns) (n :: r) = formL sg ns r := by
  conv => lhs; unfold formL
  rw [if_neg hn, if_pos rfl]
theorem form2 {ws : List (List UInt8)} {l : List Int} (h : formL false (prN [wAt, wIs]) ws = some l) : ∃ a b, l = [a, b] := by
  obtain ⟨-, h2, -⟩ := formL_some h
  exact len2 (by rw [h2]; decide)
theorem form3 {sg : Bool} {ns ws : List (List UInt8)} {l : List Int} (h : formL sg ns ws = some l) (hc : ns.count [] = 3) : ∃ a b c, l = [a, b, c] := by
  obtain ⟨-, h2, -⟩ := formL_some h
  exact len3 (by rw [h2, hc])
abbrev cZ : Cl := ⟨0, 0, 0, 0, 0⟩
/-- What claim hands back. -/
def CmPost (ws : List (List UInt8)) (w : World) (e : Ending) (w' : World) : Prop := e = .returned (.tuple #[.agg (cV ((clR ws).getD cZ)), .bool (clR ws).isSome]) ∧ Below w.heap.size w w'

attribute [local go_sem] str_toList
set_option maxRecDepth 100000 in
set_option maxHeartbeats 4000000 in
theorem claim_r (ws : List (List UInt8)) (hne : 0 < ws.length) (b cap : Nat) (hcap : ws.length ≤ cap) (hcap2 : cap ≤ 9223372036854775807) (w : World) (hS : SW b 0 ws w) (hwl : ∀ s ∈ ws, s.length ≤ 100000) (hwm : ws.length ≤ 100000) :
    Calls Tryz.prog 41 #[.slice (some ⟨b, 0, none⟩) ws.length cap] w (CmPost ws w) := by
  obtain ⟨w1, hw1⟩ : ∃ x, x = w.alloc (.cells #[.int .i64 0, .int .i64 0, .int .i64 0, .int .i64 0, .int .i64 0] 54) := ⟨_, rfl⟩
  obtain ⟨b2, hb2e⟩ : ∃ x, x = w.heap.size := ⟨_, rfl⟩
  have hO1 : Blk b2 #[.int .i64 0, .int .i64 0, .int .i64 0, .int .i64 0, .int .i64 0] 54 w1 := by rw [hw1, hb2e]; exact Blk.new _ _ _
  have hB1 : Below w.heap.size w w1 := by rw [hw1]; exact (Below.refl _ w).alloc (Nat.le_refl _) _
  have hb2 : w.heap.size ≤ b2 := Nat.le_of_eq hb2e.symm
  have hS1 := hS.call hB1
  obtain ⟨w0, hw0⟩ : ∃ x, x = ws[0] := ⟨_, rfl⟩
  have hcons : ws = w0 :: ws.drop 1 := by
    rw [hw0]
    conv => lhs; rw [← List.drop_zero (l := ws), List.drop_eq_getElem_cons hne]
  have hhd : ws.headD [] = w0 := by rw [hcons]; rfl
  have g0 := hS1.2 0 hne
  rw [← hw0, Nat.zero_add] at g0
  have hdw : (ws.drop 1).length ≤ 100000 := by rw [List.length_drop]; omega
  have hdm : ∀ x ∈ ws.drop 1, x.length ≤ 100000 := fun x hx => hwl x (List.mem_of_mem_drop hx)
  obtain ⟨m, hm⟩ : ∃ m, ws.length = m + 1 := ⟨ws.length - 1, by omega⟩
  obtain ⟨k4, hk4⟩ : ∃ k, cap = k + 1 := ⟨cap - 1, by omega⟩
  have hmk : m ≤ k4 := by omega
  have hdl : (ws.drop 1).length = m := by rw [List.length_drop]; omega
  have hm1 : (1 : Int) ≤ m + 1 := by omega
  have hk1 : (1 : Int) ≤ k4 + 1 := by omega
  have hmk1 : (m : Int) + 1 ≤ k4 + 1 := by omega
  have hk9 : (k4 : Int) ≤ 9223372036854775806 := by omega
  have HCONS := Lib.hid hcons
  have HHD := Lib.hid hhd
  have HM := Lib.hid hm
  have HDL := Lib.hid hdl
  rw [hm, hk4]
  have hS1' := Lib.hid hS1
  clear hw0 hcons hhd hk4 hdl hcap hcap2
  have hm9 : m ≤ 100000 := by omega
  clear hm hS hS1 hne hwm
  go_enter Tryz.func41, Tryz.ntmps41
  go_upto_region 1 with fail
  rw [← hw1, ← hb2e]
  clear hw1 hb2e
  go_wp2_with fail
  go_loopw [4] (fun vi wr => ∃ k : Nat, 1 ≤ k ∧ k ≤ 6 ∧ vi = .int .i64 k ∧ Hid (∀ j, 1 ≤ j → j < k → w0 ≠ kindsW.getD j []) ∧ Below w1.heap.size w1 wr) (fun vi _ => 6 - (intOf vi).toNat)
  case atStart => exact ⟨1, Nat.le_refl _, by omega, rfl, Lib.hid (fun j h1 h2 => by omega), Below.refl _ _⟩
  case round =>
    obtain ⟨k, hk1', hk6, rfl, HK, hB⟩ := hrel
    have hOr := hO1.call hB
    have hSr := hS1'.out.call hB
    have hBw := bnw hB1 hB
    by_cases hk5 : k ≤ 5
    · have hk5' : (k : Int) ≤ 5 := by omega
      obtain ⟨kw, hkw⟩ : ∃ x, x = kindsW.getD k [] := ⟨_, rfl⟩
      have HKW := Lib.hid hkw
      clear hkw
      go_upto_region 4 with fail
      go_cut [22] from 15 to 23 (fun s22 wx => s22 = .bool (w0 != kw) ∧ Below wr.heap.size wr wx)
      case first =>
        have hkw := HKW.out
        have hn0 : ∀ u : World, SW wr.heap.size 0 kindsW u → u.cell? ⟨wr.heap.size, k, none⟩ = some (.string (str kw)) := fun u h => by
          have := h.2 k (show k < 6 by omega)
          rw [Nat.zero_add] at this
          rw [this, hkw]
          congr 3
          rw [List.getD_eq_getElem?_getD, List.getElem?_eq_getElem (show k < kindsW.length from (show k < 6 by omega))]
          rfl
        have HN0 := Lib.hid hn0
        clear hkw hn0
        have hg0r := (hB.cell (p := ⟨b, 0, none⟩) (show b < w1.heap.size from hS1'.out.1)).trans g0
        have HG := Lib.hid hg0r
        clear hg0r
        have hbr : b < wr.heap.size := hSr.1
        have hk0 : 0 ≤ (k : Int) := by omega
        have hk6' : (k : Int) < 6 := by omega
        go_wp2_with fail
        refine wp_region_mix2 (.pur 0 (.pur 1 (.pur 4 (.pur 2 (.act 3 (.pur 5 (.one 6 (.pur 7 .fin)))))))) 3 (fun u => u.cell? ⟨b, 0, none⟩ = some (.string (str w0))) (fun u => u.cell? ⟨b, 0, none⟩ = some (.string (str w0)) ∧ u.cell? ⟨wr.heap.size, k, none⟩ = some (.string (str kw))) (by kernel_rfl) (by kernel_rfl) rfl (by kernel_rfl) (((Qt.refl wr).drewN 1).below wr.heap.size |>.cell (p := ⟨b, 0, none⟩) hbr |>.trans HG.out) (fun wd hqd _ => ?_)
        have hsz := hqd.size
        have hgd := ((hqd.below wr.heap.size).cell (p := ⟨b, 0, none⟩) hbr).trans HG.out
        have hBd := hqd.below wr.heap.size
        refine mix_pur2 rfl (fun K hK => ?_)
        go_simp
        first | refine ⟨_, fun _ => rfl, hK _ ?_⟩ | refine hK _ ?_
        clear hK K
        refine mix_pur2 rfl (fun K hK => ?_)
        go_simp
        first | refine ⟨_, fun _ => rfl, hK _ ?_⟩ | refine hK _ ?_
        clear hK K
        refine mix_pur2 rfl (fun K hK => ?_)
        go_simp
        first | refine ⟨_, fun _ => rfl, hK _ ?_⟩ | refine hK _ ?_
        clear hK K
        refine mix_pload2 rfl rfl rfl (.string (str w0)) (fun w' h => by have h : (fun u => u.cell? ⟨b, 0, none⟩ = some (.string (str w0))) w' ∨ (fun u => u.cell? ⟨b, 0, none⟩ = some (.string (str w0)) ∧ u.cell? ⟨wr.heap.size, k, none⟩ = some (.string (str kw))) w' := h; rcases h with h | h; all_goals (first | (have h0 := h; go_simp; done) | (have h0 := h.1; go_simp))) rfl ?_
        refine mix_eff2 rfl true rfl (fun K hK => ?_)
        go_simp
        refine (names_r wd).mono ?_
        rintro e w5 ⟨rfl, hS5, hB5⟩
        rw [hsz] at hS5 ⊢
        refine hK _ _ ⟨(hB5.cell (p := ⟨b, 0, none⟩) (show b < wd.heap.size by rw [hsz]; exact hbr)).trans hgd, HN0.out _ hS5⟩ ?_
        clear hK K
        refine mix_pur2 rfl (fun K hK => ?_)
        go_simp
        first | refine ⟨_, fun _ => rfl, hK _ ?_⟩ | refine hK _ ?_
        clear hK K
        refine mix_load2 rfl rfl rfl (.string (str kw)) (fun w' h => by have h : (fun u => u.cell? ⟨b, 0, none⟩ = some (.string (str w0)) ∧ u.cell? ⟨wr.heap.size, k, none⟩ = some (.string (str kw))) w' := h; have h0 := h.2; go_simp) rfl ?_
        refine mix_pur2 rfl (fun K hK => ?_)
        go_simp
        first | refine ⟨_, fun _ => rfl, hK _ ?_⟩ | refine hK _ ?_
        clear hK K
        refine mix_done2 ?_
        have hsz2 : wr.heap.size ≤ wd.heap.size := Nat.le_of_eq hsz.symm
        rw [hsz] at hB5
        have hBe := hBd.trans hB5
        clear hsz
        go_wp2_with fail
        go_meet
        case rel => exact ⟨rfl, hBe⟩
      case rest =>
      obtain ⟨rfl, hB4⟩ := hcut
      rename World => w4
      have hO4 := hOr.call hB4
      have hS4 := hSr.call hB4
      have hBw4 := bnw hBw hB4
      have hBl := bnw hB hB4
      clear hOr hSr hBw g0
      by_cases hw : w0 = kw
      · have hb1 : (w0 != kw) = false := by rw [bne_eq_false_iff_eq]; exact hw
        have HW := Lib.hid (show w0 = kindsW.getD k [] by rw [← HKW.out]; exact hw)
        rw [hb1]
        clear hb1 hw
        have hW5 := Lib.hid (show ∀ (u : World), Below w4.heap.size w4 u → ws.drop 1 = [] ∨ ∃ b' off, (if k4 = 0 then some (⟨b, 0, none⟩ : Addr) else some ⟨b, 1, none⟩) = some ⟨b', off, none⟩ ∧ SW b' off (ws.drop 1) u from fun u hu => by
          by_cases hm0 : m = 0
          · exact .inl (List.eq_nil_of_length_eq_zero (by have := HDL.out; omega))
          · refine .inr ⟨b, 1, by rw [if_neg (by omega)], ?_⟩
            have hSu := hS4.call hu
            refine ⟨hSu.1, fun j hj => ?_⟩
            have := hSu.2 (j + 1) (by have := HDL.out; have := HM.out; omega)
            rw [show 0 + (j + 1) = 1 + j by omega] at this
            rw [this]
            simp)
        obtain ⟨ao, hao⟩ : ∃ ao : Option Addr, (if k4 = 0 then some ⟨b, 0, none⟩ else some ⟨b, 1, none⟩) = ao := ⟨_, rfl⟩
        rw [hao] at hW5
        obtain rfl | rfl | rfl | rfl | rfl : k = 1 ∨ k = 2 ∨ k = 3 ∨ k = 4 ∨ k = 5 := by omega
        · have hwe : ws = wSt :: ws.drop 1 := by rw [← show w0 = wSt from HW.out]; exact HCONS.out
          have hfc : formL false (fo2 wSt) ws = formL false (prN [wAt, wIs]) (ws.drop 1) := by
            conv => lhs; rw [hwe]
            exact form_cons (by decide)
          have hcl : clR ws = ((formL false (prN [wAt, wIs]) (ws.drop 1)).map fun n => ⟨1, n.getD 0 0, 0, n.getD 1 0, 0⟩) := by
            have e1 : clR ws = plR 1 wSt ws := by
              unfold clR
              rw [HHD.out, show w0 = wSt from HW.out]
              rw [if_pos rfl]
            rw [e1]
            unfold plR
            rw [hfc]
          have HCL := Lib.hid hcl
          clear hwe hcl hfc HW
          have hA5 := (Below.refl w4.heap.size w4).alloc (Nat.le_refl _) (.cells ([wAt, wIs].map (fun x => Value.string (str x))).toArray 9)
          have hpr := pairs_r false [wAt, wIs] (ws.drop 1) (by decide) (by decide) (by decide) w4.heap.size 0 2 ao k4 _ (sw_new [wAt, wIs] w4) (hW5.out _ hA5) hdm hdw
          rw [HDL.out] at hpr
          have HPR := Lib.hid hpr
          clear hpr hW5
          go_wp2_with fail
          refine HPR.out.mono ?_
          rintro e w6 ⟨v6, rfl, hI6, hB6⟩
          have hB46 := bnw hA5 hB6
          have hO6 := hO4.call hB46
          have hbw6 := bnw hBw4 hB46
          clear hA5 hB6 hO4 hBw4 hB46 hS4
          cases hf : formL false (prN [wAt, wIs]) (ws.drop 1) with
          | none =>
            have HR := Lib.hid (show clR ws = none by rw [HCL.out, hf]; rfl)
            clear hf
            have f0 := hO6.free 0
            have f1 := hO6.free 1
            have f2 := hO6.free 2
            have f3 := hO6.free 3
            have f4 := hO6.free 4
            have o0 := hO6.cell 0
            have o1 := hO6.cell 1
            have o2 := hO6.cell 2
            have o3 := hO6.cell 3
            have o4 := hO6.cell 4
            go_wp2
            have hOu : Blk b2 #[.int .i64 0, .int .i64 0, .int .i64 0, .int .i64 0, .int .i64 0] 54 (((((((((w6.setCell ⟨b2, 0, none⟩ (.int .i64 0))).setCell ⟨b2, 1, none⟩ (.int .i64 0))).setCell ⟨b2, 2, none⟩ (.int .i64 0))).setCell ⟨b2, 3, none⟩ (.int .i64 0))).setCell ⟨b2, 4, none⟩ (.int .i64 0)) := (((((hO6.set 0 (.int .i64 0)).set 1 (.int .i64 0)).set 2 (.int .i64 0)).set 3 (.int .i64 0)).set 4 (.int .i64 0))
            have hBu := (((((hbw6.setCell (p := ⟨b2, 0, none⟩) hb2 (.int .i64 0)).setCell (p := ⟨b2, 1, none⟩) hb2 (.int .i64 0)).setCell (p := ⟨b2, 2, none⟩) hb2 (.int .i64 0)).setCell (p := ⟨b2, 3, none⟩) hb2 (.int .i64 0)).setCell (p := ⟨b2, 4, none⟩) hb2 (.int .i64 0))
            generalize (((((((((w6.setCell ⟨b2, 0, none⟩ (.int .i64 0))).setCell ⟨b2, 1, none⟩ (.int .i64 0))).setCell ⟨b2, 2, none⟩ (.int .i64 0))).setCell ⟨b2, 3, none⟩ (.int .i64 0))).setCell ⟨b2, 4, none⟩ (.int .i64 0)) = wf at hOu hBu ⊢
            have x0 := hOu.cell 0
            have x1 := hOu.cell 1
            have x2 := hOu.cell 2
            have x3 := hOu.cell 3
            have x4 := hOu.cell 4
            refine bodyPost_ret (v := .tuple #[.agg #[.int .i64 0, .int .i64 0, .int .i64 0, .int .i64 0, .int .i64 0], .bool false]) (by simp [results, Tryz.results41, go_sem, x0, x1, x2, x3, x4]) rfl ?_
            refine ⟨?_, hBu⟩
            rw [HR.out]
            rfl
          | some l =>
            obtain ⟨a, b3, rfl⟩ := form2 hf
            have HR := Lib.hid (show clR ws = some ⟨1, a, 0, b3, 0⟩ by rw [HCL.out, hf]; rfl)
            rw [hf] at hI6
            have hI6 : Ints (fun q => (w4.alloc (.cells ([wAt, wIs].map (fun x => Value.string (str x))).toArray 9)).heap.size ≤ q) w6 v6 [a, b3] := hI6
            clear hf
            obtain ⟨an, cn, rfl, _, _⟩ := hI6.shape
            obtain ⟨g, og, rfl, -, -, -⟩ := hI6.addr (by simp)
            go_wp2_with fail
            refine wp_region_mix2 (.pur 0 (.pur 1 (.pur 2 (.pur 4 (.pur 5 (.one 3 (.one 6 (.pur 7 (.act 8 (.pur 9 .fin)))))))))) 8 (fun u => u.cell? ⟨g, og, none⟩ = some (.int .i64 a) ∧ u.cell? ⟨g, og + 1, none⟩ = some (.int .i64 b3)) (fun _ => True) (by kernel_rfl) (by kernel_rfl) rfl (by kernel_rfl) ⟨(hI6.qt' ((Qt.refl _).drewN 1)).cell 0 (by simp), (hI6.qt' ((Qt.refl _).drewN 1)).cell 1 (by simp)⟩ (fun w7 hq7 _ => ?_)
            have hO7 := hO6.qt hq7
            have hbw7 := bnw hbw6 (hq7.below _)
            refine mix_pur2 rfl (fun K hK => ?_)
            go_simp
            first | refine ⟨_, fun _ => rfl, hK _ ?_⟩ | refine hK _ ?_
            clear hK K
            refine mix_pur2 rfl (fun K hK => ?_)
            go_simp
            first | refine ⟨_, fun _ => rfl, hK _ ?_⟩ | refine hK _ ?_
            clear hK K
            refine mix_pur2 rfl (fun K hK => ?_)
            go_simp
            first | refine ⟨_, fun _ => rfl, hK _ ?_⟩ | refine hK _ ?_
            clear hK K
            refine mix_pur2 rfl (fun K hK => ?_)
            go_simp
            first | refine ⟨_, fun _ => rfl, hK _ ?_⟩ | refine hK _ ?_
            clear hK K
            refine mix_pur2 rfl (fun K hK => ?_)
            go_simp
            first | refine ⟨_, fun _ => rfl, hK _ ?_⟩ | refine hK _ ?_
            clear hK K
            refine mix_load2 rfl rfl rfl (.int .i64 a) (fun w' h => by have h : (fun u => u.cell? ⟨g, og, none⟩ = some (.int .i64 a) ∧ u.cell? ⟨g, og + 1, none⟩ = some (.int .i64 b3)) w' := h; have h0 := h.1; go_simp) rfl ?_
            refine mix_load2 rfl rfl rfl (.int .i64 b3) (fun w' h => by have h : (fun u => u.cell? ⟨g, og, none⟩ = some (.int .i64 a) ∧ u.cell? ⟨g, og + 1, none⟩ = some (.int .i64 b3)) w' := h; have h0 := h.2; go_simp) rfl ?_
            refine mix_pur2 rfl (fun K hK => ?_)
            go_simp
            first | refine ⟨_, fun _ => rfl, hK _ ?_⟩ | refine hK _ ?_
            clear hK K
            refine mix_eff2 rfl true rfl (fun K hK => ?_)
            have f0 := hO7.free 0
            have f1 := hO7.free 1
            have f2 := hO7.free 2
            have f3 := hO7.free 3
            have f4 := hO7.free 4
            have o0 := hO7.cell 0
            have o1 := hO7.cell 1
            have o2 := hO7.cell 2
            have o3 := hO7.cell 3
            have o4 := hO7.cell 4
            go_simp
            refine hK _ _ trivial ?_
            clear hK K f0 f1 f2 f3 f4 o0 o1 o2 o3 o4
            refine mix_pur2 rfl (fun K hK => ?_)
            go_simp
            first | refine ⟨_, fun _ => rfl, hK _ ?_⟩ | refine hK _ ?_
            clear hK K
            refine mix_done2 ?_
            go_wp2
            have hOu : Blk b2 #[.int .i64 1, .int .i64 a, .int .i64 0, .int .i64 b3, .int .i64 0] 54 (((((((((w7.setCell ⟨b2, 0, none⟩ (.int .i64 1))).setCell ⟨b2, 1, none⟩ (.int .i64 a))).setCell ⟨b2, 2, none⟩ (.int .i64 0))).setCell ⟨b2, 3, none⟩ (.int .i64 b3))).setCell ⟨b2, 4, none⟩ (.int .i64 0)) := (((((hO7.set 0 (.int .i64 1)).set 1 (.int .i64 a)).set 2 (.int .i64 0)).set 3 (.int .i64 b3)).set 4 (.int .i64 0))
            have hBu := (((((hbw7.setCell (p := ⟨b2, 0, none⟩) hb2 (.int .i64 1)).setCell (p := ⟨b2, 1, none⟩) hb2 (.int .i64 a)).setCell (p := ⟨b2, 2, none⟩) hb2 (.int .i64 0)).setCell (p := ⟨b2, 3, none⟩) hb2 (.int .i64 b3)).setCell (p := ⟨b2, 4, none⟩) hb2 (.int .i64 0))
            generalize (((((((((w7.setCell ⟨b2, 0, none⟩ (.int .i64 1))).setCell ⟨b2, 1, none⟩ (.int .i64 a))).setCell ⟨b2, 2, none⟩ (.int .i64 0))).setCell ⟨b2, 3, none⟩ (.int .i64 b3))).setCell ⟨b2, 4, none⟩ (.int .i64 0)) = wf at hOu hBu ⊢
            have x0 := hOu.cell 0
            have x1 := hOu.cell 1
            have x2 := hOu.cell 2
            have x3 := hOu.cell 3
            have x4 := hOu.cell 4
            refine bodyPost_ret (v := .tuple #[.agg #[.int .i64 1, .int .i64 a, .int .i64 0, .int .i64 b3, .int .i64 0], .bool true]) (by simp [results, Tryz.results41, go_sem, x0, x1, x2, x3, x4]) rfl ?_
            refine ⟨?_, hBu⟩
            rw [HR.out]
            rfl
        · have hwe : ws = wMe :: ws.drop 1 := by rw [← show w0 = wMe from HW.out]; exact HCONS.out
          have hfc : formL false fo3 ws = formL false (prN [wAt, wIs, wEr]) (ws.drop 1) := by
            conv => lhs; rw [hwe]
            exact form_cons (by decide)
          have hcl : clR ws = ((formL false (prN [wAt, wIs, wEr]) (ws.drop 1)).map fun n => ⟨2, n.getD 0 0, 0, n.getD 1 0, n.getD 2 0⟩) := by
            have e1 : clR ws = meR ws := by
              unfold clR
              rw [HHD.out, show w0 = wMe from HW.out]
              rw [if_neg (by decide), if_pos rfl]
            rw [e1]
            unfold meR
            rw [hfc]
          have HCL := Lib.hid hcl
          clear hwe hcl hfc HW
          have hA5 := (Below.refl w4.heap.size w4).alloc (Nat.le_refl _) (.cells ([wAt, wIs, wEr].map (fun x => Value.string (str x))).toArray 9)
          have hpr := pairs_r false [wAt, wIs, wEr] (ws.drop 1) (by decide) (by decide) (by decide) w4.heap.size 0 3 ao k4 _ (sw_new [wAt, wIs, wEr] w4) (hW5.out _ hA5) hdm hdw
          rw [HDL.out] at hpr
          have HPR := Lib.hid hpr
          clear hpr hW5
          go_wp2_with fail
          refine HPR.out.mono ?_
          rintro e w6 ⟨v6, rfl, hI6, hB6⟩
          have hB46 := bnw hA5 hB6
          have hO6 := hO4.call hB46
          have hbw6 := bnw hBw4 hB46
          clear hA5 hB6 hO4 hBw4 hB46 hS4
          cases hf : formL false (prN [wAt, wIs, wEr]) (ws.drop 1) with
          | none =>
            have HR := Lib.hid (show clR ws = none by rw [HCL.out, hf]; rfl)
            clear hf
            have f0 := hO6.free 0
            have f1 := hO6.free 1
            have f2 := hO6.free 2
            have f3 := hO6.free 3
            have f4 := hO6.free 4
            have o0 := hO6.cell 0
            have o1 := hO6.cell 1
            have o2 := hO6.cell 2
            have o3 := hO6.cell 3
            have o4 := hO6.cell 4
            go_wp2
            have hOu : Blk b2 #[.int .i64 0, .int .i64 0, .int .i64 0, .int .i64 0, .int .i64 0] 54 (((((((((w6.setCell ⟨b2, 0, none⟩ (.int .i64 0))).setCell ⟨b2, 1, none⟩ (.int .i64 0))).setCell ⟨b2, 2, none⟩ (.int .i64 0))).setCell ⟨b2, 3, none⟩ (.int .i64 0))).setCell ⟨b2, 4, none⟩ (.int .i64 0)) := (((((hO6.set 0 (.int .i64 0)).set 1 (.int .i64 0)).set 2 (.int .i64 0)).set 3 (.int .i64 0)).set 4 (.int .i64 0))
            have hBu := (((((hbw6.setCell (p := ⟨b2, 0, none⟩) hb2 (.int .i64 0)).setCell (p := ⟨b2, 1, none⟩) hb2 (.int .i64 0)).setCell (p := ⟨b2, 2, none⟩) hb2 (.int .i64 0)).setCell (p := ⟨b2, 3, none⟩) hb2 (.int .i64 0)).setCell (p := ⟨b2, 4, none⟩) hb2 (.int .i64 0))
            generalize (((((((((w6.setCell ⟨b2, 0, none⟩ (.int .i64 0))).setCell ⟨b2, 1, none⟩ (.int .i64 0))).setCell ⟨b2, 2, none⟩ (.int .i64 0))).setCell ⟨b2, 3, none⟩ (.int .i64 0))).setCell ⟨b2, 4, none⟩ (.int .i64 0)) = wf at hOu hBu ⊢
            have x0 := hOu.cell 0
            have x1 := hOu.cell 1
            have x2 := hOu.cell 2
            have x3 := hOu.cell 3
            have x4 := hOu.cell 4
            refine bodyPost_ret (v := .tuple #[.agg #[.int .i64 0, .int .i64 0, .int .i64 0, .int .i64 0, .int .i64 0], .bool false]) (by simp [results, Tryz.results41, go_sem, x0, x1, x2, x3, x4]) rfl ?_
            refine ⟨?_, hBu⟩
            rw [HR.out]
            rfl
          | some l =>
            obtain ⟨a, b3, c3, rfl⟩ := form3 hf (by decide)
            have HR := Lib.hid (show clR ws = some ⟨2, a, 0, b3, c3⟩ by rw [HCL.out, hf]; rfl)
            rw [hf] at hI6
            have hI6 : Ints (fun q => (w4.alloc (.cells ([wAt, wIs, wEr].map (fun x => Value.string (str x))).toArray 9)).heap.size ≤ q) w6 v6 [a, b3, c3] := hI6
            clear hf
            obtain ⟨an, cn, rfl, _, _⟩ := hI6.shape
            obtain ⟨g, og, rfl, -, -, -⟩ := hI6.addr (by simp)
            go_wp2_with fail
            refine wp_region_mix2 (.pur 0 (.pur 1 (.pur 2 (.pur 4 (.pur 5 (.pur 7 (.pur 8 (.one 3 (.one 6 (.one 9 (.pur 10 (.act 11 (.pur 12 .fin))))))))))))) 11 (fun u => u.cell? ⟨g, og, none⟩ = some (.int .i64 a) ∧ u.cell? ⟨g, og + 1, none⟩ = some (.int .i64 b3) ∧ u.cell? ⟨g, og + 2, none⟩ = some (.int .i64 c3)) (fun _ => True) (by kernel_rfl) (by kernel_rfl) rfl (by kernel_rfl) ⟨(hI6.qt' ((Qt.refl _).drewN 1)).cell 0 (by simp), (hI6.qt' ((Qt.refl _).drewN 1)).cell 1 (by simp), (hI6.qt' ((Qt.refl _).drewN 1)).cell 2 (by simp)⟩ (fun w7 hq7 _ => ?_)
            have hO7 := hO6.qt hq7
            have hbw7 := bnw hbw6 (hq7.below _)
            refine mix_pur2 rfl (fun K hK => ?_)
            go_simp
            first | refine ⟨_, fun _ => rfl, hK _ ?_⟩ | refine hK _ ?_
            clear hK K
            refine mix_pur2 rfl (fun K hK => ?_)
            go_simp
            first | refine ⟨_, fun _ => rfl, hK _ ?_⟩ | refine hK _ ?_
            clear hK K
            refine mix_pur2 rfl (fun K hK => ?_)
            go_simp
            first | refine ⟨_, fun _ => rfl, hK _ ?_⟩ | refine hK _ ?_
            clear hK K
            refine mix_pur2 rfl (fun K hK => ?_)
            go_simp
            first | refine ⟨_, fun _ => rfl, hK _ ?_⟩ | refine hK _ ?_
            clear hK K
            refine mix_pur2 rfl (fun K hK => ?_)
            go_simp
            first | refine ⟨_, fun _ => rfl, hK _ ?_⟩ | refine hK _ ?_
            clear hK K
            refine mix_pur2 rfl (fun K hK => ?_)
            go_simp
            first | refine ⟨_, fun _ => rfl, hK _ ?_⟩ | refine hK _ ?_
            clear hK K
            refine mix_pur2 rfl (fun K hK => ?_)
            go_simp
            first | refine ⟨_, fun _ => rfl, hK _ ?_⟩ | refine hK _ ?_
            clear hK K
            refine mix_load2 rfl rfl rfl (.int .i64 a) (fun w' h => by have h : (fun u => u.cell? ⟨g, og, none⟩ = some (.int .i64 a) ∧ u.cell? ⟨g, og + 1, none⟩ = some (.int .i64 b3) ∧ u.cell? ⟨g, og + 2, none⟩ = some (.int .i64 c3)) w' := h; have h0 := h.1; go_simp) rfl ?_
            refine mix_load2 rfl rfl rfl (.int .i64 b3) (fun w' h => by have h : (fun u => u.cell? ⟨g, og, none⟩ = some (.int .i64 a) ∧ u.cell? ⟨g, og + 1, none⟩ = some (.int .i64 b3) ∧ u.cell? ⟨g, og + 2, none⟩ = some (.int .i64 c3)) w' := h; have h0 := h.2.1; go_simp) rfl ?_
            refine mix_load2 rfl rfl rfl (.int .i64 c3) (fun w' h => by have h : (fun u => u.cell? ⟨g, og, none⟩ = some (.int .i64 a) ∧ u.cell? ⟨g, og + 1, none⟩ = some (.int .i64 b3) ∧ u.cell? ⟨g, og + 2, none⟩ = some (.int .i64 c3)) w' := h; have h0 := h.2.2; go_simp) rfl ?_
            refine mix_pur2 rfl (fun K hK => ?_)
            go_simp
            first | refine ⟨_, fun _ => rfl, hK _ ?_⟩ | refine hK _ ?_
            clear hK K
            refine mix_eff2 rfl true rfl (fun K hK => ?_)
            have f0 := hO7.free 0
            have f1 := hO7.free 1
            have f2 := hO7.free 2
            have f3 := hO7.free 3
            have f4 := hO7.free 4
            have o0 := hO7.cell 0
            have o1 := hO7.cell 1
            have o2 := hO7.cell 2
            have o3 := hO7.cell 3
            have o4 := hO7.cell 4
            go_simp
            refine hK _ _ trivial ?_
            clear hK K f0 f1 f2 f3 f4 o0 o1 o2 o3 o4
            refine mix_pur2 rfl (fun K hK => ?_)
            go_simp
            first | refine ⟨_, fun _ => rfl, hK _ ?_⟩ | refine hK _ ?_
            clear hK K
            refine mix_done2 ?_
            go_wp2
            have hOu : Blk b2 #[.int .i64 2, .int .i64 a, .int .i64 0, .int .i64 b3, .int .i64 c3] 54 (((((((((w7.setCell ⟨b2, 0, none⟩ (.int .i64 2))).setCell ⟨b2, 1, none⟩ (.int .i64 a))).setCell ⟨b2, 2, none⟩ (.int .i64 0))).setCell ⟨b2, 3, none⟩ (.int .i64 b3))).setCell ⟨b2, 4, none⟩ (.int .i64 c3)) := (((((hO7.set 0 (.int .i64 2)).set 1 (.int .i64 a)).set 2 (.int .i64 0)).set 3 (.int .i64 b3)).set 4 (.int .i64 c3))
            have hBu := (((((hbw7.setCell (p := ⟨b2, 0, none⟩) hb2 (.int .i64 2)).setCell (p := ⟨b2, 1, none⟩) hb2 (.int .i64 a)).setCell (p := ⟨b2, 2, none⟩) hb2 (.int .i64 0)).setCell (p := ⟨b2, 3, none⟩) hb2 (.int .i64 b3)).setCell (p := ⟨b2, 4, none⟩) hb2 (.int .i64 c3))
            generalize (((((((((w7.setCell ⟨b2, 0, none⟩ (.int .i64 2))).setCell ⟨b2, 1, none⟩ (.int .i64 a))).setCell ⟨b2, 2, none⟩ (.int .i64 0))).setCell ⟨b2, 3, none⟩ (.int .i64 b3))).setCell ⟨b2, 4, none⟩ (.int .i64 c3)) = wf at hOu hBu ⊢
            have x0 := hOu.cell 0
            have x1 := hOu.cell 1
            have x2 := hOu.cell 2
            have x3 := hOu.cell 3
            have x4 := hOu.cell 4
            refine bodyPost_ret (v := .tuple #[.agg #[.int .i64 2, .int .i64 a, .int .i64 0, .int .i64 b3, .int .i64 c3], .bool true]) (by simp [results, Tryz.results41, go_sem, x0, x1, x2, x3, x4]) rfl ?_
            refine ⟨?_, hBu⟩
            rw [HR.out]
            rfl
        · have hwe : ws = wWi :: ws.drop 1 := by rw [← show w0 = wWi from HW.out]; exact HCONS.out
          have hfc : formL false (fo2 wWi) ws = formL false (prN [wAt, wIs]) (ws.drop 1) := by
            conv => lhs; rw [hwe]
            exact form_cons (by decide)
          have hcl : clR ws = ((formL false (prN [wAt, wIs]) (ws.drop 1)).map fun n => ⟨3, n.getD 0 0, 0, n.getD 1 0, 0⟩) := by
            have e1 : clR ws = plR 3 wWi ws := by
              unfold clR
              rw [HHD.out, show w0 = wWi from HW.out]
              rw [if_neg (by decide), if_neg (by decide), if_pos rfl]
            rw [e1]
            unfold plR
            rw [hfc]
          have HCL := Lib.hid hcl
          clear hwe hcl hfc HW
          have hA5 := (Below.refl w4.heap.size w4).alloc (Nat.le_refl _) (.cells ([wAt, wIs].map (fun x => Value.string (str x))).toArray 9)
          have hpr := pairs_r false [wAt, wIs] (ws.drop 1) (by decide) (by decide) (by decide) w4.heap.size 0 2 ao k4 _ (sw_new [wAt, wIs] w4) (hW5.out _ hA5) hdm hdw
          rw [HDL.out] at hpr
          have HPR := Lib.hid hpr
          clear hpr hW5
          go_wp2_with fail
          refine HPR.out.mono ?_
          rintro e w6 ⟨v6, rfl, hI6, hB6⟩
          have hB46 := bnw hA5 hB6
          have hO6 := hO4.call hB46
          have hbw6 := bnw hBw4 hB46
          clear hA5 hB6 hO4 hBw4 hB46 hS4
          cases hf : formL false (prN [wAt, wIs]) (ws.drop 1) with
          | none =>
            have HR := Lib.hid (show clR ws = none by rw [HCL.out, hf]; rfl)
            clear hf
            have f0 := hO6.free 0
            have f1 := hO6.free 1
            have f2 := hO6.free 2
            have f3 := hO6.free 3
            have f4 := hO6.free 4
            have o0 := hO6.cell 0
            have o1 := hO6.cell 1
            have o2 := hO6.cell 2
            have o3 := hO6.cell 3
            have o4 := hO6.cell 4
            go_wp2
            have hOu : Blk b2 #[.int .i64 0, .int .i64 0, .int .i64 0, .int .i64 0, .int .i64 0] 54 (((((((((w6.setCell ⟨b2, 0, none⟩ (.int .i64 0))).setCell ⟨b2, 1, none⟩ (.int .i64 0))).setCell ⟨b2, 2, none⟩ (.int .i64 0))).setCell ⟨b2, 3, none⟩ (.int .i64 0))).setCell ⟨b2, 4, none⟩ (.int .i64 0)) := (((((hO6.set 0 (.int .i64 0)).set 1 (.int .i64 0)).set 2 (.int .i64 0)).set 3 (.int .i64 0)).set 4 (.int .i64 0))
            have hBu := (((((hbw6.setCell (p := ⟨b2, 0, none⟩) hb2 (.int .i64 0)).setCell (p := ⟨b2, 1, none⟩) hb2 (.int .i64 0)).setCell (p := ⟨b2, 2, none⟩) hb2 (.int .i64 0)).setCell (p := ⟨b2, 3, none⟩) hb2 (.int .i64 0)).setCell (p := ⟨b2, 4, none⟩) hb2 (.int .i64 0))
            generalize (((((((((w6.setCell ⟨b2, 0, none⟩ (.int .i64 0))).setCell ⟨b2, 1, none⟩ (.int .i64 0))).setCell ⟨b2, 2, none⟩ (.int .i64 0))).setCell ⟨b2, 3, none⟩ (.int .i64 0))).setCell ⟨b2, 4, none⟩ (.int .i64 0)) = wf at hOu hBu ⊢
            have x0 := hOu.cell 0
            have x1 := hOu.cell 1
            have x2 := hOu.cell 2
            have x3 := hOu.cell 3
            have x4 := hOu.cell 4
            refine bodyPost_ret (v := .tuple #[.agg #[.int .i64 0, .int .i64 0, .int .i64 0, .int .i64 0, .int .i64 0], .bool false]) (by simp [results, Tryz.results41, go_sem, x0, x1, x2, x3, x4]) rfl ?_
            refine ⟨?_, hBu⟩
            rw [HR.out]
            rfl
          | some l =>
            obtain ⟨a, b3, rfl⟩ := form2 hf
            have HR := Lib.hid (show clR ws = some ⟨3, a, 0, b3, 0⟩ by rw [HCL.out, hf]; rfl)
            rw [hf] at hI6
            have hI6 : Ints (fun q => (w4.alloc (.cells ([wAt, wIs].map (fun x => Value.string (str x))).toArray 9)).heap.size ≤ q) w6 v6 [a, b3] := hI6
            clear hf
            obtain ⟨an, cn, rfl, _, _⟩ := hI6.shape
            obtain ⟨g, og, rfl, -, -, -⟩ := hI6.addr (by simp)
            go_wp2_with fail
            refine wp_region_mix2 (.pur 0 (.pur 1 (.pur 2 (.pur 4 (.pur 5 (.one 3 (.one 6 (.pur 7 (.act 8 (.pur 9 .fin)))))))))) 8 (fun u => u.cell? ⟨g, og, none⟩ = some (.int .i64 a) ∧ u.cell? ⟨g, og + 1, none⟩ = some (.int .i64 b3)) (fun _ => True) (by kernel_rfl) (by kernel_rfl) rfl (by kernel_rfl) ⟨(hI6.qt' ((Qt.refl _).drewN 1)).cell 0 (by simp), (hI6.qt' ((Qt.refl _).drewN 1)).cell 1 (by simp)⟩ (fun w7 hq7 _ => ?_)
            have hO7 := hO6.qt hq7
            have hbw7 := bnw hbw6 (hq7.below _)
            refine mix_pur2 rfl (fun K hK => ?_)
            go_simp
            first | refine ⟨_, fun _ => rfl, hK _ ?_⟩ | refine hK _ ?_
            clear hK K
            refine mix_pur2 rfl (fun K hK => ?_)
            go_simp
            first | refine ⟨_, fun _ => rfl, hK _ ?_⟩ | refine hK _ ?_
            clear hK K
            refine mix_pur2 rfl (fun K hK => ?_)
            go_simp
            first | refine ⟨_, fun _ => rfl, hK _ ?_⟩ | refine hK _ ?_
            clear hK K
            refine mix_pur2 rfl (fun K hK => ?_)
            go_simp
            first | refine ⟨_, fun _ => rfl, hK _ ?_⟩ | refine hK _ ?_
            clear hK K
            refine mix_pur2 rfl (fun K hK => ?_)
            go_simp
            first | refine ⟨_, fun _ => rfl, hK _ ?_⟩ | refine hK _ ?_
            clear hK K
            refine mix_load2 rfl rfl rfl (.int .i64 a) (fun w' h => by have h : (fun u => u.cell? ⟨g, og, none⟩ = some (.int .i64 a) ∧ u.cell? ⟨g, og + 1, none⟩ = some (.int .i64 b3)) w' := h; have h0 := h.1; go_simp) rfl ?_
            refine mix_load2 rfl rfl rfl (.int .i64 b3) (fun w' h => by have h : (fun u => u.cell? ⟨g, og, none⟩ = some (.int .i64 a) ∧ u.cell? ⟨g, og + 1, none⟩ = some (.int .i64 b3)) w' := h; have h0 := h.2; go_simp) rfl ?_
            refine mix_pur2 rfl (fun K hK => ?_)
            go_simp
            first | refine ⟨_, fun _ => rfl, hK _ ?_⟩ | refine hK _ ?_
            clear hK K
            refine mix_eff2 rfl true rfl (fun K hK => ?_)
            have f0 := hO7.free 0
            have f1 := hO7.free 1
            have f2 := hO7.free 2
            have f3 := hO7.free 3
            have f4 := hO7.free 4
            have o0 := hO7.cell 0
            have o1 := hO7.cell 1
            have o2 := hO7.cell 2
            have o3 := hO7.cell 3
            have o4 := hO7.cell 4
            go_simp
            refine hK _ _ trivial ?_
            clear hK K f0 f1 f2 f3 f4 o0 o1 o2 o3 o4
            refine mix_pur2 rfl (fun K hK => ?_)
            go_simp
            first | refine ⟨_, fun _ => rfl, hK _ ?_⟩ | refine hK _ ?_
            clear hK K
            refine mix_done2 ?_
            go_wp2
            have hOu : Blk b2 #[.int .i64 3, .int .i64 a, .int .i64 0, .int .i64 b3, .int .i64 0] 54 (((((((((w7.setCell ⟨b2, 0, none⟩ (.int .i64 3))).setCell ⟨b2, 1, none⟩ (.int .i64 a))).setCell ⟨b2, 2, none⟩ (.int .i64 0))).setCell ⟨b2, 3, none⟩ (.int .i64 b3))).setCell ⟨b2, 4, none⟩ (.int .i64 0)) := (((((hO7.set 0 (.int .i64 3)).set 1 (.int .i64 a)).set 2 (.int .i64 0)).set 3 (.int .i64 b3)).set 4 (.int .i64 0))
            have hBu := (((((hbw7.setCell (p := ⟨b2, 0, none⟩) hb2 (.int .i64 3)).setCell (p := ⟨b2, 1, none⟩) hb2 (.int .i64 a)).setCell (p := ⟨b2, 2, none⟩) hb2 (.int .i64 0)).setCell (p := ⟨b2, 3, none⟩) hb2 (.int .i64 b3)).setCell (p := ⟨b2, 4, none⟩) hb2 (.int .i64 0))
            generalize (((((((((w7.setCell ⟨b2, 0, none⟩ (.int .i64 3))).setCell ⟨b2, 1, none⟩ (.int .i64 a))).setCell ⟨b2, 2, none⟩ (.int .i64 0))).setCell ⟨b2, 3, none⟩ (.int .i64 b3))).setCell ⟨b2, 4, none⟩ (.int .i64 0)) = wf at hOu hBu ⊢
            have x0 := hOu.cell 0
            have x1 := hOu.cell 1
            have x2 := hOu.cell 2
            have x3 := hOu.cell 3
            have x4 := hOu.cell 4
            refine bodyPost_ret (v := .tuple #[.agg #[.int .i64 3, .int .i64 a, .int .i64 0, .int .i64 b3, .int .i64 0], .bool true]) (by simp [results, Tryz.results41, go_sem, x0, x1, x2, x3, x4]) rfl ?_
            refine ⟨?_, hBu⟩
            rw [HR.out]
            rfl
        · have hwe : ws = wBe :: ws.drop 1 := by rw [← show w0 = wBe from HW.out]; exact HCONS.out
          have hfc : formL false (fo2 wBe) ws = formL false (prN [wAt, wIs]) (ws.drop 1) := by
            conv => lhs; rw [hwe]
            exact form_cons (by decide)
          have hcl : clR ws = ((formL false (prN [wAt, wIs]) (ws.drop 1)).map fun n => ⟨4, n.getD 0 0, 0, n.getD 1 0, 0⟩) := by
            have e1 : clR ws = plR 4 wBe ws := by
              unfold clR
              rw [HHD.out, show w0 = wBe from HW.out]
              rw [if_neg (by decide), if_neg (by decide), if_neg (by decide), if_pos rfl]
            rw [e1]
            unfold plR
            rw [hfc]
          have HCL := Lib.hid hcl
          clear hwe hcl hfc HW
          have hA5 := (Below.refl w4.heap.size w4).alloc (Nat.le_refl _) (.cells ([wAt, wIs].map (fun x => Value.string (str x))).toArray 9)
          have hpr := pairs_r false [wAt, wIs] (ws.drop 1) (by decide) (by decide) (by decide) w4.heap.size 0 2 ao k4 _ (sw_new [wAt, wIs] w4) (hW5.out _ hA5) hdm hdw
          rw [HDL.out] at hpr
          have HPR := Lib.hid hpr
          clear hpr hW5
          go_wp2_with fail
          refine HPR.out.mono ?_
          rintro e w6 ⟨v6, rfl, hI6, hB6⟩
          have hB46 := bnw hA5 hB6
          have hO6 := hO4.call hB46
          have hbw6 := bnw hBw4 hB46
          clear hA5 hB6 hO4 hBw4 hB46 hS4
          cases hf : formL false (prN [wAt, wIs]) (ws.drop 1) with
          | none =>
            have HR := Lib.hid (show clR ws = none by rw [HCL.out, hf]; rfl)
            clear hf
            have f0 := hO6.free 0
            have f1 := hO6.free 1
            have f2 := hO6.free 2
            have f3 := hO6.free 3
            have f4 := hO6.free 4
            have o0 := hO6.cell 0
            have o1 := hO6.cell 1
            have o2 := hO6.cell 2
            have o3 := hO6.cell 3
            have o4 := hO6.cell 4
            go_wp2
            have hOu : Blk b2 #[.int .i64 0, .int .i64 0, .int .i64 0, .int .i64 0, .int .i64 0] 54 (((((((((w6.setCell ⟨b2, 0, none⟩ (.int .i64 0))).setCell ⟨b2, 1, none⟩ (.int .i64 0))).setCell ⟨b2, 2, none⟩ (.int .i64 0))).setCell ⟨b2, 3, none⟩ (.int .i64 0))).setCell ⟨b2, 4, none⟩ (.int .i64 0)) := (((((hO6.set 0 (.int .i64 0)).set 1 (.int .i64 0)).set 2 (.int .i64 0)).set 3 (.int .i64 0)).set 4 (.int .i64 0))
            have hBu := (((((hbw6.setCell (p := ⟨b2, 0, none⟩) hb2 (.int .i64 0)).setCell (p := ⟨b2, 1, none⟩) hb2 (.int .i64 0)).setCell (p := ⟨b2, 2, none⟩) hb2 (.int .i64 0)).setCell (p := ⟨b2, 3, none⟩) hb2 (.int .i64 0)).setCell (p := ⟨b2, 4, none⟩) hb2 (.int .i64 0))
            generalize (((((((((w6.setCell ⟨b2, 0, none⟩ (.int .i64 0))).setCell ⟨b2, 1, none⟩ (.int .i64 0))).setCell ⟨b2, 2, none⟩ (.int .i64 0))).setCell ⟨b2, 3, none⟩ (.int .i64 0))).setCell ⟨b2, 4, none⟩ (.int .i64 0)) = wf at hOu hBu ⊢
            have x0 := hOu.cell 0
            have x1 := hOu.cell 1
            have x2 := hOu.cell 2
            have x3 := hOu.cell 3
            have x4 := hOu.cell 4
            refine bodyPost_ret (v := .tuple #[.agg #[.int .i64 0, .int .i64 0, .int .i64 0, .int .i64 0, .int .i64 0], .bool false]) (by simp [results, Tryz.results41, go_sem, x0, x1, x2, x3, x4]) rfl ?_
            refine ⟨?_, hBu⟩
            rw [HR.out]
            rfl
          | some l =>
            obtain ⟨a, b3, rfl⟩ := form2 hf
            have HR := Lib.hid (show clR ws = some ⟨4, a, 0, b3, 0⟩ by rw [HCL.out, hf]; rfl)
            rw [hf] at hI6
            have hI6 : Ints (fun q => (w4.alloc (.cells ([wAt, wIs].map (fun x => Value.string (str x))).toArray 9)).heap.size ≤ q) w6 v6 [a, b3] := hI6
            clear hf
            obtain ⟨an, cn, rfl, _, _⟩ := hI6.shape
            obtain ⟨g, og, rfl, -, -, -⟩ := hI6.addr (by simp)
            go_wp2_with fail
            refine wp_region_mix2 (.pur 0 (.pur 1 (.pur 2 (.pur 4 (.pur 5 (.one 3 (.one 6 (.pur 7 (.act 8 (.pur 9 .fin)))))))))) 8 (fun u => u.cell? ⟨g, og, none⟩ = some (.int .i64 a) ∧ u.cell? ⟨g, og + 1, none⟩ = some (.int .i64 b3)) (fun _ => True) (by kernel_rfl) (by kernel_rfl) rfl (by kernel_rfl) ⟨(hI6.qt' ((Qt.refl _).drewN 1)).cell 0 (by simp), (hI6.qt' ((Qt.refl _).drewN 1)).cell 1 (by simp)⟩ (fun w7 hq7 _ => ?_)
            have hO7 := hO6.qt hq7
            have hbw7 := bnw hbw6 (hq7.below _)
            refine mix_pur2 rfl (fun K hK => ?_)
            go_simp
            first | refine ⟨_, fun _ => rfl, hK _ ?_⟩ | refine hK _ ?_
            clear hK K
            refine mix_pur2 rfl (fun K hK => ?_)
            go_simp
            first | refine ⟨_, fun _ => rfl, hK _ ?_⟩ | refine hK _ ?_
            clear hK K
            refine mix_pur2 rfl (fun K hK => ?_)
            go_simp
            first | refine ⟨_, fun _ => rfl, hK _ ?_⟩ | refine hK _ ?_
            clear hK K
            refine mix_pur2 rfl (fun K hK => ?_)
            go_simp
            first | refine ⟨_, fun _ => rfl, hK _ ?_⟩ | refine hK _ ?_
            clear hK K
            refine mix_pur2 rfl (fun K hK => ?_)
            go_simp
            first | refine ⟨_, fun _ => rfl, hK _ ?_⟩ | refine hK _ ?_
            clear hK K
            refine mix_load2 rfl rfl rfl (.int .i64 a) (fun w' h => by have h : (fun u => u.cell? ⟨g, og, none⟩ = some (.int .i64 a) ∧ u.cell? ⟨g, og + 1, none⟩ = some (.int .i64 b3)) w' := h; have h0 := h.1; go_simp) rfl ?_
            refine mix_load2 rfl rfl rfl (.int .i64 b3) (fun w' h => by have h : (fun u => u.cell? ⟨g, og, none⟩ = some (.int .i64 a) ∧ u.cell? ⟨g, og + 1, none⟩ = some (.int .i64 b3)) w' := h; have h0 := h.2; go_simp) rfl ?_
            refine mix_pur2 rfl (fun K hK => ?_)
            go_simp
            first | refine ⟨_, fun _ => rfl, hK _ ?_⟩ | refine hK _ ?_
            clear hK K
            refine mix_eff2 rfl true rfl (fun K hK => ?_)
            have f0 := hO7.free 0
            have f1 := hO7.free 1
            have f2 := hO7.free 2
            have f3 := hO7.free 3
            have f4 := hO7.free 4
            have o0 := hO7.cell 0
            have o1 := hO7.cell 1
            have o2 := hO7.cell 2
            have o3 := hO7.cell 3
            have o4 := hO7.cell 4
            go_simp
            refine hK _ _ trivial ?_
            clear hK K f0 f1 f2 f3 f4 o0 o1 o2 o3 o4
            refine mix_pur2 rfl (fun K hK => ?_)
            go_simp
            first | refine ⟨_, fun _ => rfl, hK _ ?_⟩ | refine hK _ ?_
            clear hK K
            refine mix_done2 ?_
            go_wp2
            have hOu : Blk b2 #[.int .i64 4, .int .i64 a, .int .i64 0, .int .i64 b3, .int .i64 0] 54 (((((((((w7.setCell ⟨b2, 0, none⟩ (.int .i64 4))).setCell ⟨b2, 1, none⟩ (.int .i64 a))).setCell ⟨b2, 2, none⟩ (.int .i64 0))).setCell ⟨b2, 3, none⟩ (.int .i64 b3))).setCell ⟨b2, 4, none⟩ (.int .i64 0)) := (((((hO7.set 0 (.int .i64 4)).set 1 (.int .i64 a)).set 2 (.int .i64 0)).set 3 (.int .i64 b3)).set 4 (.int .i64 0))
            have hBu := (((((hbw7.setCell (p := ⟨b2, 0, none⟩) hb2 (.int .i64 4)).setCell (p := ⟨b2, 1, none⟩) hb2 (.int .i64 a)).setCell (p := ⟨b2, 2, none⟩) hb2 (.int .i64 0)).setCell (p := ⟨b2, 3, none⟩) hb2 (.int .i64 b3)).setCell (p := ⟨b2, 4, none⟩) hb2 (.int .i64 0))
            generalize (((((((((w7.setCell ⟨b2, 0, none⟩ (.int .i64 4))).setCell ⟨b2, 1, none⟩ (.int .i64 a))).setCell ⟨b2, 2, none⟩ (.int .i64 0))).setCell ⟨b2, 3, none⟩ (.int .i64 b3))).setCell ⟨b2, 4, none⟩ (.int .i64 0)) = wf at hOu hBu ⊢
            have x0 := hOu.cell 0
            have x1 := hOu.cell 1
            have x2 := hOu.cell 2
            have x3 := hOu.cell 3
            have x4 := hOu.cell 4
            refine bodyPost_ret (v := .tuple #[.agg #[.int .i64 4, .int .i64 a, .int .i64 0, .int .i64 b3, .int .i64 0], .bool true]) (by simp [results, Tryz.results41, go_sem, x0, x1, x2, x3, x4]) rfl ?_
            refine ⟨?_, hBu⟩
            rw [HR.out]
            rfl
        · have hwe : ws = wAb :: ws.drop 1 := by rw [← show w0 = wAb from HW.out]; exact HCONS.out
          have hfc : formL true foA ws = formL true (prN [wAt, wOf, wIs]) (ws.drop 1) := by
            conv => lhs; rw [hwe]
            exact form_cons (by decide)
          have hcl : clR ws = ((formL true (prN [wAt, wOf, wIs]) (ws.drop 1)).map fun n => ⟨5, n.getD 0 0, n.getD 1 0, n.getD 2 0, 0⟩) := by
            have e1 : clR ws = abR ws := by
              unfold clR
              rw [HHD.out, show w0 = wAb from HW.out]
              rw [if_neg (by decide), if_neg (by decide), if_neg (by decide), if_neg (by decide), if_pos rfl]
            rw [e1]
            unfold abR
            rw [hfc]
          have HCL := Lib.hid hcl
          clear hwe hcl hfc HW
          have hA5 := (Below.refl w4.heap.size w4).alloc (Nat.le_refl _) (.cells ([wAt, wOf, wIs].map (fun x => Value.string (str x))).toArray 9)
          have hpr := pairs_r true [wAt, wOf, wIs] (ws.drop 1) (by decide) (by decide) (by decide) w4.heap.size 0 3 ao k4 _ (sw_new [wAt, wOf, wIs] w4) (hW5.out _ hA5) hdm hdw
          rw [HDL.out] at hpr
          have HPR := Lib.hid hpr
          clear hpr hW5
          go_wp2_with fail
          refine HPR.out.mono ?_
          rintro e w6 ⟨v6, rfl, hI6, hB6⟩
          have hB46 := bnw hA5 hB6
          have hO6 := hO4.call hB46
          have hbw6 := bnw hBw4 hB46
          clear hA5 hB6 hO4 hBw4 hB46 hS4
          cases hf : formL true (prN [wAt, wOf, wIs]) (ws.drop 1) with
          | none =>
            have HR := Lib.hid (show clR ws = none by rw [HCL.out, hf]; rfl)
            clear hf
            have f0 := hO6.free 0
            have f1 := hO6.free 1
            have f2 := hO6.free 2
            have f3 := hO6.free 3
            have f4 := hO6.free 4
            have o0 := hO6.cell 0
            have o1 := hO6.cell 1
            have o2 := hO6.cell 2
            have o3 := hO6.cell 3
            have o4 := hO6.cell 4
            go_wp2
            have hOu : Blk b2 #[.int .i64 0, .int .i64 0, .int .i64 0, .int .i64 0, .int .i64 0] 54 (((((((((w6.setCell ⟨b2, 0, none⟩ (.int .i64 0))).setCell ⟨b2, 1, none⟩ (.int .i64 0))).setCell ⟨b2, 2, none⟩ (.int .i64 0))).setCell ⟨b2, 3, none⟩ (.int .i64 0))).setCell ⟨b2, 4, none⟩ (.int .i64 0)) := (((((hO6.set 0 (.int .i64 0)).set 1 (.int .i64 0)).set 2 (.int .i64 0)).set 3 (.int .i64 0)).set 4 (.int .i64 0))
            have hBu := (((((hbw6.setCell (p := ⟨b2, 0, none⟩) hb2 (.int .i64 0)).setCell (p := ⟨b2, 1, none⟩) hb2 (.int .i64 0)).setCell (p := ⟨b2, 2, none⟩) hb2 (.int .i64 0)).setCell (p := ⟨b2, 3, none⟩) hb2 (.int .i64 0)).setCell (p := ⟨b2, 4, none⟩) hb2 (.int .i64 0))
            generalize (((((((((w6.setCell ⟨b2, 0, none⟩ (.int .i64 0))).setCell ⟨b2, 1, none⟩ (.int .i64 0))).setCell ⟨b2, 2, none⟩ (.int .i64 0))).setCell ⟨b2, 3, none⟩ (.int .i64 0))).setCell ⟨b2, 4, none⟩ (.int .i64 0)) = wf at hOu hBu ⊢
            have x0 := hOu.cell 0
            have x1 := hOu.cell 1
            have x2 := hOu.cell 2
            have x3 := hOu.cell 3
            have x4 := hOu.cell 4
            refine bodyPost_ret (v := .tuple #[.agg #[.int .i64 0, .int .i64 0, .int .i64 0, .int .i64 0, .int .i64 0], .bool false]) (by simp [results, Tryz.results41, go_sem, x0, x1, x2, x3, x4]) rfl ?_
            refine ⟨?_, hBu⟩
            rw [HR.out]
            rfl
          | some l =>
            obtain ⟨a, b3, c3, rfl⟩ := form3 hf (by decide)
            have HR := Lib.hid (show clR ws = some ⟨5, a, b3, c3, 0⟩ by rw [HCL.out, hf]; rfl)
            rw [hf] at hI6
            have hI6 : Ints (fun q => (w4.alloc (.cells ([wAt, wOf, wIs].map (fun x => Value.string (str x))).toArray 9)).heap.size ≤ q) w6 v6 [a, b3, c3] := hI6
            clear hf
            obtain ⟨an, cn, rfl, _, _⟩ := hI6.shape
            obtain ⟨g, og, rfl, -, -, -⟩ := hI6.addr (by simp)
            go_wp2_with fail
            refine wp_region_mix2 (.pur 0 (.pur 1 (.pur 2 (.pur 4 (.pur 5 (.pur 7 (.pur 8 (.one 3 (.one 6 (.one 9 (.pur 10 (.act 11 (.pur 12 .fin))))))))))))) 11 (fun u => u.cell? ⟨g, og, none⟩ = some (.int .i64 a) ∧ u.cell? ⟨g, og + 1, none⟩ = some (.int .i64 b3) ∧ u.cell? ⟨g, og + 2, none⟩ = some (.int .i64 c3)) (fun _ => True) (by kernel_rfl) (by kernel_rfl) rfl (by kernel_rfl) ⟨(hI6.qt' ((Qt.refl _).drewN 1)).cell 0 (by simp), (hI6.qt' ((Qt.refl _).drewN 1)).cell 1 (by simp), (hI6.qt' ((Qt.refl _).drewN 1)).cell 2 (by simp)⟩ (fun w7 hq7 _ => ?_)
            have hO7 := hO6.qt hq7
            have hbw7 := bnw hbw6 (hq7.below _)
            refine mix_pur2 rfl (fun K hK => ?_)
            go_simp
            first | refine ⟨_, fun _ => rfl, hK _ ?_⟩ | refine hK _ ?_
            clear hK K
            refine mix_pur2 rfl (fun K hK => ?_)
            go_simp
            first | refine ⟨_, fun _ => rfl, hK _ ?_⟩ | refine hK _ ?_
            clear hK K
            refine mix_pur2 rfl (fun K hK => ?_)
            go_simp
            first | refine ⟨_, fun _ => rfl, hK _ ?_⟩ | refine hK _ ?_
            clear hK K
            refine mix_pur2 rfl (fun K hK => ?_)
            go_simp
            first | refine ⟨_, fun _ => rfl, hK _ ?_⟩ | refine hK _ ?_
            clear hK K
            refine mix_pur2 rfl (fun K hK => ?_)
            go_simp
            first | refine ⟨_, fun _ => rfl, hK _ ?_⟩ | refine hK _ ?_
            clear hK K
            refine mix_pur2 rfl (fun K hK => ?_)
            go_simp
            first | refine ⟨_, fun _ => rfl, hK _ ?_⟩ | refine hK _ ?_
            clear hK K
            refine mix_pur2 rfl (fun K hK => ?_)
            go_simp
            first | refine ⟨_, fun _ => rfl, hK _ ?_⟩ | refine hK _ ?_
            clear hK K
            refine mix_load2 rfl rfl rfl (.int .i64 a) (fun w' h => by have h : (fun u => u.cell? ⟨g, og, none⟩ = some (.int .i64 a) ∧ u.cell? ⟨g, og + 1, none⟩ = some (.int .i64 b3) ∧ u.cell? ⟨g, og + 2, none⟩ = some (.int .i64 c3)) w' := h; have h0 := h.1; go_simp) rfl ?_
            refine mix_load2 rfl rfl rfl (.int .i64 b3) (fun w' h => by have h : (fun u => u.cell? ⟨g, og, none⟩ = some (.int .i64 a) ∧ u.cell? ⟨g, og + 1, none⟩ = some (.int .i64 b3) ∧ u.cell? ⟨g, og + 2, none⟩ = some (.int .i64 c3)) w' := h; have h0 := h.2.1; go_simp) rfl ?_
            refine mix_load2 rfl rfl rfl (.int .i64 c3) (fun w' h => by have h : (fun u => u.cell? ⟨g, og, none⟩ = some (.int .i64 a) ∧ u.cell? ⟨g, og + 1, none⟩ = some (.int .i64 b3) ∧ u.cell? ⟨g, og + 2, none⟩ = some (.int .i64 c3)) w' := h; have h0 := h.2.2; go_simp) rfl ?_
            refine mix_pur2 rfl (fun K hK => ?_)
            go_simp
            first | refine ⟨_, fun _ => rfl, hK _ ?_⟩ | refine hK _ ?_
            clear hK K
            refine mix_eff2 rfl true rfl (fun K hK => ?_)
            have f0 := hO7.free 0
            have f1 := hO7.free 1
            have f2 := hO7.free 2
            have f3 := hO7.free 3
            have f4 := hO7.free 4
            have o0 := hO7.cell 0
            have o1 := hO7.cell 1
            have o2 := hO7.cell 2
            have o3 := hO7.cell 3
            have o4 := hO7.cell 4
            go_simp
            refine hK _ _ trivial ?_
            clear hK K f0 f1 f2 f3 f4 o0 o1 o2 o3 o4
            refine mix_pur2 rfl (fun K hK => ?_)
            go_simp
            first | refine ⟨_, fun _ => rfl, hK _ ?_⟩ | refine hK _ ?_
            clear hK K
            refine mix_done2 ?_
            go_wp2
            have hOu : Blk b2 #[.int .i64 5, .int .i64 a, .int .i64 b3, .int .i64 c3, .int .i64 0] 54 (((((((((w7.setCell ⟨b2, 0, none⟩ (.int .i64 5))).setCell ⟨b2, 1, none⟩ (.int .i64 a))).setCell ⟨b2, 2, none⟩ (.int .i64 b3))).setCell ⟨b2, 3, none⟩ (.int .i64 c3))).setCell ⟨b2, 4, none⟩ (.int .i64 0)) := (((((hO7.set 0 (.int .i64 5)).set 1 (.int .i64 a)).set 2 (.int .i64 b3)).set 3 (.int .i64 c3)).set 4 (.int .i64 0))
            have hBu := (((((hbw7.setCell (p := ⟨b2, 0, none⟩) hb2 (.int .i64 5)).setCell (p := ⟨b2, 1, none⟩) hb2 (.int .i64 a)).setCell (p := ⟨b2, 2, none⟩) hb2 (.int .i64 b3)).setCell (p := ⟨b2, 3, none⟩) hb2 (.int .i64 c3)).setCell (p := ⟨b2, 4, none⟩) hb2 (.int .i64 0))
            generalize (((((((((w7.setCell ⟨b2, 0, none⟩ (.int .i64 5))).setCell ⟨b2, 1, none⟩ (.int .i64 a))).setCell ⟨b2, 2, none⟩ (.int .i64 b3))).setCell ⟨b2, 3, none⟩ (.int .i64 c3))).setCell ⟨b2, 4, none⟩ (.int .i64 0)) = wf at hOu hBu ⊢
            have x0 := hOu.cell 0
            have x1 := hOu.cell 1
            have x2 := hOu.cell 2
            have x3 := hOu.cell 3
            have x4 := hOu.cell 4
            refine bodyPost_ret (v := .tuple #[.agg #[.int .i64 5, .int .i64 a, .int .i64 b3, .int .i64 c3, .int .i64 0], .bool true]) (by simp [results, Tryz.results41, go_sem, x0, x1, x2, x3, x4]) rfl ?_
            refine ⟨?_, hBu⟩
            rw [HR.out]
            rfl
      · have hb1 : (w0 != kw) = true := by rw [bne_iff_ne]; exact hw
        have HW := Lib.hid (show ∀ j, 1 ≤ j → j < k + 1 → w0 ≠ kindsW.getD j [] from fun j h1 h2 => by
          rcases Nat.lt_or_ge j k with h | h
          · exact HK.out j h1 h
          · obtain rfl : j = k := by omega
            rw [← HKW.out]
            exact hw)
        rw [hb1]
        clear hb1 hw
        go_wp2_with fail
        go_roundw
        case rel => exact ⟨k + 1, by omega, by omega, by go_num, HW, hBl⟩
        case measure => simp [intOf]; omega
    · obtain rfl : k = 6 := by omega
      have hR : clR ws = none := by
        have h := HK.out
        unfold clR
        rw [HHD.out, if_neg (show w0 ≠ wSt from h 1 (by omega) (by omega)), if_neg (show w0 ≠ wMe from h 2 (by omega) (by omega)), if_neg (show w0 ≠ wWi from h 3 (by omega) (by omega)), if_neg (show w0 ≠ wBe from h 4 (by omega) (by omega)), if_neg (show w0 ≠ wAb from h 5 (by omega) (by omega))]
      have HR := Lib.hid hR
      clear hR hSr
      have f0 := hOr.free 0
      have f1 := hOr.free 1
      have f2 := hOr.free 2
      have f3 := hOr.free 3
      have f4 := hOr.free 4
      have o0 := hOr.cell 0
      have o1 := hOr.cell 1
      have o2 := hOr.cell 2
      have o3 := hOr.cell 3
      have o4 := hOr.cell 4
      go_wp2
      have hOu : Blk b2 #[.int .i64 0, .int .i64 0, .int .i64 0, .int .i64 0, .int .i64 0] 54 (((((((((wr.setCell ⟨b2, 0, none⟩ (.int .i64 0))).setCell ⟨b2, 1, none⟩ (.int .i64 0))).setCell ⟨b2, 2, none⟩ (.int .i64 0))).setCell ⟨b2, 3, none⟩ (.int .i64 0))).setCell ⟨b2, 4, none⟩ (.int .i64 0)) := (((((hOr.set 0 (.int .i64 0)).set 1 (.int .i64 0)).set 2 (.int .i64 0)).set 3 (.int .i64 0)).set 4 (.int .i64 0))
      have hBu := (((((hBw.setCell (p := ⟨b2, 0, none⟩) hb2 (.int .i64 0)).setCell (p := ⟨b2, 1, none⟩) hb2 (.int .i64 0)).setCell (p := ⟨b2, 2, none⟩) hb2 (.int .i64 0)).setCell (p := ⟨b2, 3, none⟩) hb2 (.int .i64 0)).setCell (p := ⟨b2, 4, none⟩) hb2 (.int .i64 0))
      generalize (((((((((wr.setCell ⟨b2, 0, none⟩ (.int .i64 0))).setCell ⟨b2, 1, none⟩ (.int .i64 0))).setCell ⟨b2, 2, none⟩ (.int .i64 0))).setCell ⟨b2, 3, none⟩ (.int .i64 0))).setCell ⟨b2, 4, none⟩ (.int .i64 0)) = wf at hOu hBu ⊢
      have x0 := hOu.cell 0
      have x1 := hOu.cell 1
      have x2 := hOu.cell 2
      have x3 := hOu.cell 3
      have x4 := hOu.cell 4
      refine bodyPost_ret (v := .tuple #[.agg #[.int .i64 0, .int .i64 0, .int .i64 0, .int .i64 0, .int .i64 0], .bool false]) (by simp [results, Tryz.results41, go_sem, x0, x1, x2, x3, x4]) rfl ?_
      refine ⟨?_, hBu⟩
      rw [HR.out]
      rfl

end Go.Proofs.YtbpfhoihfoojfaaGreatDoor
