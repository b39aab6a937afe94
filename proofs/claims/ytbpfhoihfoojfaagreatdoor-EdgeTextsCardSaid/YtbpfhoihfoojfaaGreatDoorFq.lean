/- Furrows: checked, sorted, taken, fines; conditions: as said. -/
import Derived.Test.YtbpfhoihfoojfaaGreatDoorCk
import Derived.Test.YtbpfhoihfoojfaaGreatDoorGp
import Derived.Test.YtbpfhoihfoojfaaGreatDoorPla
import Derived.Lib.SliceRun
import Derived.Test.YtbpfhoihfoojfaaGreatDoorBn
namespace Go.Proofs.YtbpfhoihfoojfaaGreatDoor
open Go.RowKit

theorem Elems.take {α : Type} {f : α → List Value} {A : Nat → Prop} {w : World} {ao : Option Addr} {n cap : Nat} {l : List α} (h : Elems f A w (.slice ao n cap) l) {i : Nat} (hi : i ≤ l.length) : Elems f A w (.slice ao i cap) (l.take i) := by
  obtain ⟨ao', cap', hv, h1, h2, h3⟩ := h
  injection hv with e1 e2 e3
  subst e1; subst e2; subst e3
  refine ⟨_, _, by rw [List.length_take, Nat.min_eq_left hi], by rw [List.length_take]; omega, h2, ?_⟩
  have hs : l.flatMap f = (l.take i).flatMap f ++ (l.drop i).flatMap f := by rw [← List.flatMap_append, List.take_append_drop]
  rcases h3 with h3 | ⟨b, off, he, hA, hl, hc⟩
  · left
    rw [hs] at h3
    exact (List.append_eq_nil_iff.1 h3).1
  · right
    refine ⟨b, off, he, hA, hl, fun j u hj => hc j u ?_⟩
    rw [hs, List.getElem?_append_left (List.getElem?_eq_some_iff.1 hj).1]
    exact hj

def meetB (f g : Fu) : Bool := decide (g.point = f.point) && decide (g.year = f.year)
theorem meet_c {f g : Fu} {b : Nat} {w : World} (hb : Blk b #[.int .i64 f.point, .int .i64 f.year, .int .i64 f.off] 73 w) :
    Calls Tryz.prog 79 #[.agg #[.int .i64 g.point, .int .i64 g.year, .int .i64 g.off], .pointer (some ⟨b, 0, none⟩)] w fun e w' => e = .returned (.bool (meetB f g)) ∧ Below w.heap.size w w' := by
  have hB := (Below.refl w.heap.size w).alloc (Nat.le_refl _) (.cells #[.int .i64 g.point, .int .i64 g.year, .int .i64 g.off] 73)
  have c0 := hb.cell 0
  have c1 := hb.cell 1
  have hl := hb.lt
  by_cases h1 : g.point = f.point
  · have b1 : (g.point == f.point) = true := by simpa using h1
    have H1 := Lib.hid h1
    clear h1
    go_enter Tryz.func79, Tryz.ntmps79
    go_wp2
    go_ret
    refine ⟨ret_bool ?_, hB⟩
    unfold meetB
    rw [decide_eq_true H1.out, Bool.true_and]
    rw [Bool.eq_iff_iff]; simp
  · have b1 : (g.point == f.point) = false := by simpa using h1
    have H1 := Lib.hid h1
    clear h1
    go_enter Tryz.func79, Tryz.ntmps79
    go_wp2
    go_ret
    refine ⟨ret_bool ?_, hB⟩
    unfold meetB
    rw [decide_eq_false H1.out, Bool.false_and]

set_option maxHeartbeats 400000 in
theorem indexMeet_c {A : Nat → Prop} {w : World} {v : Value} {l : List Fu} (h : FusM A w v l) {f : Fu} {b : Nat} (hb : Blk b #[.int .i64 f.point, .int .i64 f.year, .int .i64 f.off] 73 w) :
    Calls Tryz.prog 102 #[v, .func (.func 79) #[] #[.pointer (some ⟨b, 0, none⟩)]] w fun e w' => ∃ i : Int, e = .returned (.int .i64 i) ∧ decide (0 ≤ i) = l.any (meetB f) ∧ Below w.heap.size w w' := by
  obtain ⟨a1, c1, rfl, hc1, hm1⟩ := h.shape
  have n1 := h.len
  go_enter Tryz.func102, Tryz.ntmps102
  go_wp2_with fail
  go_loopw [8] (fun i wr => ∃ k : Nat, k ≤ l.length ∧ i = .int .i64 k ∧ Hid (l.any (meetB f) = (l.drop k).any (meetB f)) ∧ Below w.heap.size w wr) (fun i _ => l.length - (intOf i).toNat)
  case atStart => exact ⟨0, Nat.zero_le _, rfl, Lib.hid rfl, Below.refl _ _⟩
  case round =>
    obtain ⟨k, hk, rfl, HE, hB⟩ := hrel
    by_cases hlt : k < l.length
    · obtain ⟨g, o, rfl, hA, hg⟩ := fus_addr h (by omega)
      obtain ⟨d0, d1, d2⟩ := fus_at (h.call hB) k hlt
      have HS := Lib.hid (List.drop_eq_getElem_cons hlt)
      cases hm : meetB f l[k] with
      | true =>
        go_wp2_with fail
        refine (meet_c (g := l[k]) (hb.call hB)).mono ?_
        rintro e w2 ⟨rfl, hB2⟩
        go_wp2_with fail
        go_ret
        refine ⟨(k : Int), rfl, ?_, hB.trans (hB2.mono hB.size)⟩
        rw [HE.out, HS.out, List.any_cons, hm]
        simp
      | false =>
        go_wp2_with fail
        refine (meet_c (g := l[k]) (hb.call hB)).mono ?_
        rintro e w2 ⟨rfl, hB2⟩
        go_wp2_with fail
        go_roundw
        case rel => exact ⟨k + 1, by omega, by go_num, Lib.hid (by rw [HE.out, HS.out, List.any_cons, hm, Bool.false_or]), hB.trans (hB2.mono hB.size)⟩
        case measure => simp [intOf]; omega
    · go_wp2_with fail
      go_ret
      refine ⟨-1, rfl, ?_, hB⟩
      rw [HE.out, List.drop_eq_nil_of_le (by omega)]
      rfl

theorem containsMeet_c {A : Nat → Prop} {w : World} {v : Value} {l : List Fu} (h : FusM A w v l) {f : Fu} {b : Nat} (hb : Blk b #[.int .i64 f.point, .int .i64 f.year, .int .i64 f.off] 73 w) :
    Calls Tryz.prog 78 #[v, .func (.func 79) #[] #[.pointer (some ⟨b, 0, none⟩)]] w fun e w' => e = .returned (.bool (l.any (meetB f))) ∧ Below w.heap.size w w' := by
  go_enter Tryz.func78, Tryz.ntmps78
  go_wp2_with fail
  refine (indexMeet_c h hb).mono ?_
  rintro e w2 ⟨i, rfl, hi, hB2⟩
  go_wp2_with fail
  go_ret
  exact ⟨ret_bool (by rw [← hi]), hB2⟩

theorem furE_drop {P : Int} {l : List Fu} {k : Nat} (hk : k < l.length) : furE P (l.take k) (l.drop k) =
    if ¬ (0 ≤ l[k].point ∧ l[k].point ≤ P - 1) then 3 else if ¬ ((0 ≤ l[k].year ∧ l[k].year ≤ 30) ∧ (0 ≤ l[k].off ∧ l[k].off ≤ 9)) then 1 else if (l.take k).any (meetB l[k]) = true then 4 else furE P (l.take (k + 1)) (l.drop (k + 1)) := by
  rw [List.drop_eq_getElem_cons hk, List.take_succ_eq_append_getElem hk]
  rfl

set_option maxHeartbeats 1000000 in
theorem furErr_c {A : Nat → Prop} {w : World} {P : Int} (hP : 1 ≤ P ∧ P ≤ 4) (B : Int) (vx : Value) {v : Value} {l : List Fu} (h : FusM A w v l) :
    Calls Tryz.prog 55 #[.agg #[.int .i64 P, .int .i64 B, vx], v] w fun e w' => e = .returned (.int .i64 (furX P l)) ∧ Below w.heap.size w w' := by
  obtain ⟨a1, c1, rfl, hc1, hm1⟩ := h.shape
  have n1 := h.len
  obtain ⟨w1, hw1⟩ : ∃ w1, w1 = w.alloc (.cells #[.int .i64 P, .int .i64 B, vx] 24) := ⟨_, rfl⟩
  obtain ⟨b0, hb0⟩ : ∃ b, b = w.heap.size := ⟨_, rfl⟩
  have hX : Blk b0 #[.int .i64 P, .int .i64 B, vx] 24 w1 := by rw [hw1, hb0]; exact blk_at rfl _ _
  have hB1 : Below w.heap.size w w1 := by rw [hw1]; exact (Below.refl _ w).alloc (Nat.le_refl _) _
  have h1 := h.call hB1
  have HP := Lib.hid hP
  have bw1 : IntKind.i64.wrap (P - 1) = P - 1 := IntWalk.i64_in _ (by omega)
  clear hP
  by_cases h8 : 8 < l.length
  · have HE := Lib.hid (show furX P l = 6 by unfold furX; rw [if_pos h8])
    go_enter Tryz.func55, Tryz.ntmps55
    go_wp2_with fail
    go_ret
    rw [← hw1]
    exact ⟨ret_int HE.out.symm, hB1⟩
  · have HE := Lib.hid (show furX P l = furE P [] l by unfold furX; rw [if_neg h8])
    go_enter Tryz.func55, Tryz.ntmps55
    go_upto_region 1 with fail
    rw [← hw1, ← hb0]
    clear hw1 hb0
    go_wp2_with fail
    go_loopw [12] (fun i wr => ∃ k : Nat, k ≤ l.length ∧ i = .int .i64 k ∧ Hid (furX P l = furE P (l.take k) (l.drop k)) ∧ Below w1.heap.size w1 wr) (fun i _ => l.length - (intOf i).toNat)
    case atStart => exact ⟨0, Nat.zero_le _, rfl, Lib.hid HE.out, Below.refl _ _⟩
    case round =>
      obtain ⟨k, hk, rfl, HR, hB⟩ := hrel
      have hXr := hX.call hB
      have hbl := hXr.lt
      have hBz := hB1.trans (hB.mono hB1.size)
      by_cases hlt : k < l.length
      · obtain ⟨g, o, rfl, hA, hg⟩ := fus_addr h1 (by omega)
        have hr := h1.call hB
        obtain ⟨d0, d1, d2⟩ := fus_at hr k hlt
        have c0 := hXr.cell 0
        have HD := Lib.hid (furE_drop (P := P) hlt)
        obtain ⟨f, hf⟩ : ∃ f, f = l[k] := ⟨_, rfl⟩
        rw [← hf] at d0 d1 d2 HD
        clear hf
        have hB3 := (Below.refl wr.heap.size wr).alloc (Nat.le_refl _) (.cells #[.int .i64 f.point, .int .i64 f.year, .int .i64 f.off] 73)
        have hF3 : Blk wr.heap.size #[.int .i64 f.point, .int .i64 f.year, .int .i64 f.off] 73 (wr.alloc (.cells #[.int .i64 f.point, .int .i64 f.year, .int .i64 f.off] 73)) := Blk.new _ _ _
        have hr3 := (hr.call hB3).take hk
        have hBq := hB.trans (hB3.mono hB.size)
        cases b1 : btwB f.point 0 (P - 1) with
        | false =>
          have B1 := Lib.hid (show ¬ (0 ≤ f.point ∧ f.point ≤ P - 1) from fun hh => by rw [btwB_iff.2 hh] at b1; exact absurd b1 (by decide))
          go_wp2_with (go_at_call 51; refine (between_c _ _ _ _).mono ?_; rintro e w' ⟨rfl, rfl⟩)
          go_ret
          exact ⟨ret_int (by rw [HR.out, HD.out, if_pos B1.out]), hB1.trans (hBq.mono hB1.size)⟩
        | true =>
          have B1 := Lib.hid (btwB_iff.1 b1)
          cases b2 : (btwB f.year 0 30 && btwB f.off 0 9) with
          | false =>
            have B2 := Lib.hid (show ¬ ((0 ≤ f.year ∧ f.year ≤ 30) ∧ (0 ≤ f.off ∧ f.off ≤ 9)) from fun hh => by rw [btwB_iff.2 hh.1, btwB_iff.2 hh.2] at b2; exact absurd b2 (by decide))
            cases b3 : btwB f.year 0 30 with
            | false =>
              clear b2
              go_wp2_with (go_at_call 51; refine (between_c _ _ _ _).mono ?_; rintro e w' ⟨rfl, rfl⟩)
              go_ret
              exact ⟨ret_int (by rw [HR.out, HD.out, if_neg (not_not_intro B1.out), if_pos B2.out]), hB1.trans (hBq.mono hB1.size)⟩
            | true =>
              rw [b3, Bool.true_and] at b2
              go_wp2_with (go_at_call 51; refine (between_c _ _ _ _).mono ?_; rintro e w' ⟨rfl, rfl⟩)
              go_ret
              exact ⟨ret_int (by rw [HR.out, HD.out, if_neg (not_not_intro B1.out), if_pos B2.out]), hB1.trans (hBq.mono hB1.size)⟩
          | true =>
            rw [Bool.and_eq_true] at b2
            obtain ⟨b3, b4⟩ := b2
            have B2 := Lib.hid (And.intro (btwB_iff.1 b3) (btwB_iff.1 b4))
            cases hany : (l.take k).any (meetB f) with
            | true =>
              go_wp2_with (first | (go_at_call 51; refine (between_c _ _ _ _).mono ?_; rintro e w' ⟨rfl, rfl⟩) | (go_at_call 78; refine (containsMeet_c hr3 hF3).mono ?_; rintro e w4 ⟨rfl, hB4⟩))
              go_ret
              exact ⟨ret_int (by rw [HR.out, HD.out, if_neg (not_not_intro B1.out), if_neg (not_not_intro B2.out), if_pos hany]), hB1.trans ((bnx hBq hB4).mono hB1.size)⟩
            | false =>
              go_wp2_with (first | (go_at_call 51; refine (between_c _ _ _ _).mono ?_; rintro e w' ⟨rfl, rfl⟩) | (go_at_call 78; refine (containsMeet_c hr3 hF3).mono ?_; rintro e w4 ⟨rfl, hB4⟩))
              go_roundw
              case rel => exact ⟨k + 1, by omega, by go_num, Lib.hid (by rw [HR.out, HD.out, if_neg (not_not_intro B1.out), if_neg (not_not_intro B2.out), if_neg (by rw [hany]; decide)]), bnx hBq hB4⟩
              case measure => simp [intOf]; omega
      · obtain rfl : k = l.length := by omega
        go_wp2_with fail
        go_ret
        exact ⟨ret_int (by rw [HR.out, List.drop_length]; rfl), hBz⟩

end Go.Proofs.YtbpfhoihfoojfaaGreatDoor

namespace Go.Proofs.YtbpfhoihfoojfaaGreatDoor
open Go.RowKit

section
variable {P : Program} {ops : Array Oper} {Q : Exit → Act → World → Prop} {C : Bool → World → Prop}
/-- A load under a guard that holds. -/
theorem mix_loadg2 {z i : Nat} {rest : PlanC} {ph : Bool} {a : Act} {w : World} {o : Oper} (hi : ops[i]? = some o) {t : TypeId} {x : Operand} (ho : o.op = .load t x) {p : Addr} (v : Value)
    (hg : Region.wanted o (yielded ops a.tmps) = true) (hv : ∀ w', C ph w' → (loadVar t p).run P w' = .ok v w') (hx : a.eval x = .pointer (some p)) (h : wpMix2 P ops C z Q rest ph (a.put o.dst v) w) : wpMix2 P ops C z Q (.one i rest) ph a w := by
  refine ⟨o, v, hi, .inl ⟨hg, fun w' hS => ?_⟩, h⟩
  simp [execOp, ho, Instr.loadAt, hx, Instr.sureAddr, hv w' hS]
end

theorem year_c (f : Fu) (w : World) : Calls Tryz.prog 101 #[.agg #[.int .i64 f.point, .int .i64 f.year, .int .i64 f.off]] w fun e w' => e = .returned (.int .i64 f.year) ∧ Below w.heap.size w w' := by
  have hB := (Below.refl w.heap.size w).alloc (Nat.le_refl _) (.cells #[.int .i64 f.point, .int .i64 f.year, .int .i64 f.off] 73)
  go_enter Tryz.func101, Tryz.ntmps101
  go_wp2
  go_ret
  exact ⟨rfl, hB⟩

set_option maxRecDepth 100000 in
theorem order_c (f g : Fu) {bk : Nat} {w : World} (hK : Blk bk #[.func (.func 101) #[] #[]] 191 w) : Calls Tryz.prog 124 #[.agg #[.int .i64 f.point, .int .i64 f.year, .int .i64 f.off], .agg #[.int .i64 g.point, .int .i64 g.year, .int .i64 g.off], .pointer (some ⟨bk, 0, none⟩)] w fun e w' => e = .returned (.int .i64 (cmpI f.year g.year)) ∧ Below w.heap.size w w' := by
  obtain ⟨wq, hwq⟩ : ∃ wq, wq = (w.alloc (.cells #[.int .i64 f.point, .int .i64 f.year, .int .i64 f.off] 73)).alloc (.cells #[.int .i64 g.point, .int .i64 g.year, .int .i64 g.off] 73) := ⟨_, rfl⟩
  obtain ⟨ba, hba⟩ : ∃ b, b = w.heap.size := ⟨_, rfl⟩
  obtain ⟨bb, hbb⟩ : ∃ b, b = w.heap.size + 1 := ⟨_, rfl⟩
  have hA0 : Blk ba #[.int .i64 f.point, .int .i64 f.year, .int .i64 f.off] 73 wq := by rw [hwq, hba]; exact (Blk.new w _ _).alloc _
  have hB0 : Blk bb #[.int .i64 g.point, .int .i64 g.year, .int .i64 g.off] 73 wq := by rw [hwq, hbb]; exact blk_at (by simp) _ _
  have hBq : Below w.heap.size w wq := by rw [hwq]; exact ((Below.refl _ w).alloc (Nat.le_refl _) _).alloc (by simp) _
  have hK0 := hK.call hBq
  clear hK
  go_enter Tryz.func124, Tryz.ntmps124
  go_upto_region 1 with fail
  rw [← hwq, ← hbb, ← hba]
  clear hwq hbb hba
  refine wp_region_mix2 (.one 0 (.one 1 (.one 3 (.one 4 (.act 2 (.act 5 (.act 6 (.pur 7 .fin)))))))) 99 (fun w' => Blk bk #[.func (.func 101) #[] #[]] 191 w' ∧ Blk ba #[.int .i64 f.point, .int .i64 f.year, .int .i64 f.off] 73 w' ∧ Blk bb #[.int .i64 g.point, .int .i64 g.year, .int .i64 g.off] 73 w') (fun _ => True) (by kernel_rfl) (by kernel_rfl) rfl (by kernel_rfl) ⟨hK0.qt ((Qt.refl _).drewN 1), hA0.qt ((Qt.refl _).drewN 1), hB0.qt ((Qt.refl _).drewN 1)⟩ (fun wd hqd _ => ?_)
  refine mix_load2 rfl rfl rfl (.func (.func 101) #[] #[]) (fun w' h => by have h : (fun w' => Blk bk #[.func (.func 101) #[] #[]] 191 w' ∧ Blk ba #[.int .i64 f.point, .int .i64 f.year, .int .i64 f.off] 73 w' ∧ Blk bb #[.int .i64 g.point, .int .i64 g.year, .int .i64 g.off] 73 w') w' := h; have c0 := h.1.cell 0; go_simp) rfl ?_
  refine mix_load2 rfl rfl rfl (.agg #[.int .i64 f.point, .int .i64 f.year, .int .i64 f.off]) (fun w' h => by have h : (fun w' => Blk bk #[.func (.func 101) #[] #[]] 191 w' ∧ Blk ba #[.int .i64 f.point, .int .i64 f.year, .int .i64 f.off] 73 w' ∧ Blk bb #[.int .i64 g.point, .int .i64 g.year, .int .i64 g.off] 73 w') w' := h; have c0 := h.2.1.cell 0; have c1 := h.2.1.cell 1; have c2 := h.2.1.cell 2; go_simp) rfl ?_
  refine mix_load2 rfl rfl rfl (.func (.func 101) #[] #[]) (fun w' h => by have h : (fun w' => Blk bk #[.func (.func 101) #[] #[]] 191 w' ∧ Blk ba #[.int .i64 f.point, .int .i64 f.year, .int .i64 f.off] 73 w' ∧ Blk bb #[.int .i64 g.point, .int .i64 g.year, .int .i64 g.off] 73 w') w' := h; have c0 := h.1.cell 0; go_simp) rfl ?_
  refine mix_load2 rfl rfl rfl (.agg #[.int .i64 g.point, .int .i64 g.year, .int .i64 g.off]) (fun w' h => by have h : (fun w' => Blk bk #[.func (.func 101) #[] #[]] 191 w' ∧ Blk ba #[.int .i64 f.point, .int .i64 f.year, .int .i64 f.off] 73 w' ∧ Blk bb #[.int .i64 g.point, .int .i64 g.year, .int .i64 g.off] 73 w') w' := h; have c0 := h.2.2.cell 0; have c1 := h.2.2.cell 1; have c2 := h.2.2.cell 2; go_simp) rfl ?_
  refine mix_eff2 rfl false rfl (fun K hK => ?_)
  go_simp
  refine (year_c f _).mono ?_
  rintro e w3 ⟨rfl, hB3⟩
  have hB3 := bnx (hqd.below wq.heap.size) hB3
  refine hK _ _ ⟨hK0.call hB3, hA0.call hB3, hB0.call hB3⟩ ?_
  clear hK K
  refine mix_eff2 rfl false rfl (fun K hK => ?_)
  go_simp
  refine (year_c g _).mono ?_
  rintro e w4 ⟨rfl, hB4⟩
  have hB4 := bnx hB3 hB4
  refine hK _ _ ⟨hK0.call hB4, hA0.call hB4, hB0.call hB4⟩ ?_
  clear hK K
  refine mix_eff2 rfl false rfl (fun K hK => ?_)
  go_simp
  refine (cmpI_c f.year g.year _).mono ?_
  rintro e w5 ⟨rfl, rfl⟩
  refine hK _ _ ⟨hK0.call hB4, hA0.call hB4, hB0.call hB4⟩ ?_
  clear hK K
  refine mix_pur2 rfl (fun K hK => ?_)
  go_simp
  first | refine ⟨_, fun _ => rfl, hK _ ?_⟩ | refine hK _ ?_
  clear hK K
  refine mix_done2 ?_
  go_wp2
  go_ret
  exact ⟨rfl, bnx hBq hB4⟩

/-- Furrows in a row of the call's own. -/
def FO (N g n cap : Nat) (l : List Fu) (w : World) : Prop := Own N w 73 3 (.slice (some ⟨g, 0, none⟩) n cap) n (l.flatMap fcells)
theorem FO.len {N g n cap : Nat} {l : List Fu} {w : World} (h : FO N g n cap l w) : l.length = n := by
  have := (show World.ownsRow _ _ _ _ _ _ _ from h).1
  rw [flat_len fcells_len] at this
  omega
theorem FO.at {N g n cap : Nat} {l : List Fu} {w : World} (h : FO N g n cap l w) {j : Nat} (hj : j < l.length) :
    w.cell? ⟨g, j * 3, none⟩ = some (.int .i64 l[j].point) ∧ w.cell? ⟨g, j * 3 + 1, none⟩ = some (.int .i64 l[j].year) ∧ w.cell? ⟨g, j * 3 + 2, none⟩ = some (.int .i64 l[j].off) := by
  have hl := h.len
  have h0 := flat_at fcells_len l j hj 0 (by decide)
  have h1 := flat_at fcells_len l j hj 1 (by decide)
  have h2 := flat_at fcells_len l j hj 2 (by decide)
  rw [Nat.add_zero] at h0
  refine ⟨?_, ?_, ?_⟩
  · rw [World.ownsRow.cellAt h _ (by omega)]; exact h0
  · rw [World.ownsRow.cellAt h _ (by omega)]; exact h1
  · rw [World.ownsRow.cellAt h _ (by omega)]; exact h2
theorem FO.free {N g n cap : Nat} {l : List Fu} {w : World} (h : FO N g n cap l w) (j : Nat) : w.frozen? ⟨g, j, none⟩ = false := own_free h j
theorem fu_set : ∀ (l : List Fu) (j : Nat), j < l.length → ∀ f : Fu, (((l.flatMap fcells).set (j * 3) (.int .i64 f.point)).set (j * 3 + 1) (.int .i64 f.year)).set (j * 3 + 2) (.int .i64 f.off) = (l.set j f).flatMap fcells
  | [], j, h, _ => by simp at h
  | a :: l, 0, _, f => by simp [fcells]
  | a :: l, j + 1, h, f => by
    have ih := fu_set l j (by simpa using h) f
    rw [show (j + 1) * 3 = j * 3 + 3 by omega, show j * 3 + 3 + 1 = j * 3 + 1 + 3 by omega, show j * 3 + 3 + 2 = j * 3 + 2 + 3 by omega]
    simp only [List.flatMap_cons, fcells, List.cons_append, List.nil_append, List.set_cons_succ]
    rw [ih]
theorem FO.set {N g n cap : Nat} {l : List Fu} {w : World} (h : FO N g n cap l w) {j : Nat} (hj : j < l.length) (f : Fu) :
    FO N g n cap (l.set j f) (((w.setCell ⟨g, j * 3, none⟩ (.int .i64 f.point)).setCell ⟨g, j * 3 + 1, none⟩ (.int .i64 f.year)).setCell ⟨g, j * 3 + 2, none⟩ (.int .i64 f.off)) := by
  have h1 := (World.ownsRow.stored h (j * 3) (.int .i64 f.point)).1
  have h2 := (World.ownsRow.stored h1 (j * 3 + 1) (.int .i64 f.year)).1
  have h3 := (World.ownsRow.stored h2 (j * 3 + 2) (.int .i64 f.off)).1
  rw [fu_set l j hj f] at h3
  exact h3
theorem keep3 (g : Nat) (w : World) (i j k : Nat) (x y z : Value) : Keep (fun q => q = g) w (((w.setCell ⟨g, i, none⟩ x).setCell ⟨g, j, none⟩ y).setCell ⟨g, k, none⟩ z) :=
  ((Keep.setCell (own := fun q => q = g) w ⟨g, i, none⟩ x rfl).trans (Keep.setCell (own := fun q => q = g) _ ⟨g, j, none⟩ y rfl)).trans (Keep.setCell (own := fun q => q = g) _ ⟨g, k, none⟩ z rfl)
theorem FO.call {N g n cap : Nat} {l : List Fu} {w w' : World} (h : FO N g n cap l w) (hB : Below w.heap.size w w') : FO N g n cap l w' := Own.call h hB
theorem FO.blk {N g n cap : Nat} {l : List Fu} {w : World} (h : FO N g n cap l w) : N ≤ g ∧ g < w.heap.size := World.ownsRow.lt h g rfl
theorem cmpI_lt {a b : Int} : cmpI a b < 0 ↔ a < b := by
  unfold cmpI
  by_cases h : a < b
  · rw [if_pos h]; simp [h]
  · rw [if_neg h]
    by_cases h2 : b < a
    · rw [if_pos h2]; simp; omega
    · rw [if_neg h2]; simp; omega

set_option maxRecDepth 100000 in
set_option maxHeartbeats 2000000 in
theorem insert_c {N n cap bk : Nat} {ao : Option Addr} {l : List Fu} (hl : l.length = n) (hn : n ≤ 8) {w : World} (hO : Own N w 73 3 (.slice ao n cap) n (l.flatMap fcells)) (hK : Blk bk #[.func (.func 101) #[] #[]] 191 w) (hNb : bk < N) :
    Calls Tryz.prog 156 #[.slice ao n cap, .int .i64 0, .int .i64 n, .func (.func 124) #[] #[.pointer (some ⟨bk, 0, none⟩)]] w fun e w' => e = .returned (.tuple #[]) ∧ ∃ l', (l.Perm l' ∧ l'.Pairwise fun f g => f.year ≤ g.year) ∧ Own N w' 73 3 (.slice ao n cap) n (l'.flatMap fcells) ∧ Keep (fun q => N ≤ q) w w' := by
  by_cases hn1 : n ≤ 1
  · go_enter Tryz.func156, Tryz.ntmps156
    go_wp2_with fail
    refine wp_loop_rounds 1 ?_
    rw [rounds_succ]
    go_wp2_with fail
    go_end0
    exact ⟨rfl, l, ⟨List.Perm.refl _, (Srt.start l).done (by omega) |>.2⟩, hO, Keep.refl _ _⟩
  · obtain ⟨g, rfl⟩ : ∃ g, ao = some ⟨g, 0, none⟩ := by
      rcases hO.2 with ⟨h1, h0⟩ | ⟨g, cp, cur, h1, _⟩
      · omega
      · injection h1 with h1 _ _
        exact ⟨g, h1⟩
    have HL := Lib.hid hl
    clear hl
    go_enter Tryz.func156, Tryz.ntmps156
    go_wp2_with fail
    go_loopw [8] (fun vi wr => ∃ (i : Nat) (cur : List Fu), 1 ≤ i ∧ i ≤ n ∧ vi = .int .i64 i ∧ Srt l cur i ∧ FO N g n cap cur wr ∧ Keep (fun q => q = g) w wr) (fun vi _ => n - (intOf vi).toNat)
    case atStart => exact ⟨1, l, by omega, by omega, rfl, Srt.start l, hO, Keep.refl _ _⟩
    case round =>
      obtain ⟨i, cur, hi1, hin, rfl, hS, hF, hKp⟩ := hrel
      by_cases hlt : i < n
      · have hbk : bk ≠ g := by have := hF.blk; omega
        have hKr := hK.keep (hKp.block _ hK.lt hbk)
        go_wp2_with fail
        go_loopw [9] (fun vj wj => ∃ (j : Nat) (cu : List Fu), j ≤ i ∧ vj = .int .i64 j ∧ Ins l cu i j ∧ FO N g n cap cu wj ∧ Keep (fun q => q = g) wr wj) (fun vj _ => (intOf vj).toNat)
        case atStart => exact ⟨i, cur, Nat.le_refl _, rfl, hS.begin, hF, Keep.refl _ _⟩
        case round =>
          rename World => wj
          obtain ⟨j, cu, hji, rfl, hI, hFj, hKj⟩ := hrel
          clear hF
          have hlen := hFj.len
          by_cases hj0 : 0 < j
          · obtain ⟨j1, hj1⟩ : ∃ j1, j1 = j - 1 := ⟨_, rfl⟩
            have bw : IntKind.i64.wrap ((j : Int) - 1) = (j1 : Int) := by rw [IntWalk.i64_in _ (by omega)]; omega
            have hja : j ≤ j1 + 1 := by omega
            have hjb : j1 + 1 ≤ j := by omega
            have HJ := Lib.hid hj1
            clear hj1
            have hjl : j < cu.length := by omega
            have hjl1 : j1 < cu.length := by omega
            have hjn : j < n := by omega
            have hjn1 : j1 < n := by omega
            have hKj2 := hKr.keep (hKj.block _ hKr.lt hbk)
            have hfb := hFj.blk
            by_cases hyr : cu[j].year < cu[j1].year
            · have hc : cmpI cu[j].year cu[j1].year < 0 := cmpI_lt.2 hyr
              have HY := Lib.hid hyr
              clear hyr hlen
              go_wp2_with fail
              refine wp_region_mix2 (.pur 0 (.pur 1 (.pur 2 (.pur 3 (.pur 4 (.pur 5 (.pur 6 (.pur 7 (.one 8 (.pur 9 (.pur 10 (.pur 11 (.pur 12 (.one 13 (.act 14 (.pur 15 (.pur 16 .fin))))))))))))))))) 99 (fun w' => FO N g n cap cu w') (fun w' => FO N g n cap cu w') (by kernel_rfl) (by kernel_rfl) rfl (by kernel_rfl) (hFj.call (((Qt.refl _).drewN 1).below _)) (fun wd4 hq4 _ => ?_)
              refine mix_pur2 rfl (fun K hK => ?_)
              go_simp
              first | refine ⟨_, fun _ => rfl, hK _ ?_⟩ | refine hK _ ?_
              clear hK K
              refine mix_pur2 rfl (fun K hK => ?_)
              go_simp
              first | refine ⟨_, fun _ => rfl, hK _ ?_⟩ | refine hK _ ?_
              clear hK K
              refine mix_pur2 rfl (fun K hK => ?_)
              go_simp
              first | refine ⟨_, fun _ => rfl, hK _ ?_⟩ | refine hK _ ?_
              clear hK K
              refine mix_pur2 rfl (fun K hK => ?_)
              go_simp
              first | refine ⟨_, fun _ => rfl, hK _ ?_⟩ | refine hK _ ?_
              clear hK K
              refine mix_pur2 rfl (fun K hK => ?_)
              go_simp
              first | refine ⟨_, fun _ => rfl, hK _ ?_⟩ | refine hK _ ?_
              clear hK K
              refine mix_pur2 rfl (fun K hK => ?_)
              go_simp
              first | refine ⟨_, fun _ => rfl, hK _ ?_⟩ | refine hK _ ?_
              clear hK K
              refine mix_pur2 rfl (fun K hK => ?_)
              go_simp
              first | refine ⟨_, fun _ => rfl, hK _ ?_⟩ | refine hK _ ?_
              clear hK K
              refine mix_pur2 rfl (fun K hK => ?_)
              go_simp
              first | refine ⟨_, fun _ => rfl, hK _ ?_⟩ | refine hK _ ?_
              clear hK K
              refine mix_loadg2 rfl rfl (.agg #[.int .i64 cu[j].point, .int .i64 cu[j].year, .int .i64 cu[j].off]) (by go_simp) (fun w' h => by have h : (fun w' => FO N g n cap cu w') w' := h; have c := h.at hjl; obtain ⟨c0, c1, c2⟩ := c; go_simp) rfl ?_
              refine mix_pur2 rfl (fun K hK => ?_)
              go_simp
              first | refine ⟨_, fun _ => rfl, hK _ ?_⟩ | refine hK _ ?_
              clear hK K
              refine mix_pur2 rfl (fun K hK => ?_)
              go_simp
              first | refine ⟨_, fun _ => rfl, hK _ ?_⟩ | refine hK _ ?_
              clear hK K
              refine mix_pur2 rfl (fun K hK => ?_)
              go_simp
              first | refine ⟨_, fun _ => rfl, hK _ ?_⟩ | refine hK _ ?_
              clear hK K
              refine mix_pur2 rfl (fun K hK => ?_)
              go_simp
              first | refine ⟨_, fun _ => rfl, hK _ ?_⟩ | refine hK _ ?_
              clear hK K
              refine mix_loadg2 rfl rfl (.agg #[.int .i64 cu[j1].point, .int .i64 cu[j1].year, .int .i64 cu[j1].off]) (by go_simp) (fun w' h => by have h : (fun w' => FO N g n cap cu w') w' := h; have c := h.at hjl1; obtain ⟨c0, c1, c2⟩ := c; go_simp) rfl ?_
              refine mix_eff2 rfl false rfl (fun K hK => ?_)
              go_simp
              refine (order_c cu[j] cu[j1] (hKj2.qt hq4)).mono ?_
              rintro e w5 ⟨rfl, hB5⟩
              have hF5 := (hFj.call (hq4.below _)).call hB5
              have hB5 := bnx (hq4.below wj.heap.size) hB5
              refine hK _ _ hF5 ?_
              clear hK K
              refine mix_pur2 rfl (fun K hK => ?_)
              go_simp
              first | refine ⟨_, fun _ => rfl, hK _ ?_⟩ | refine hK _ ?_
              clear hK K
              refine mix_pur2 rfl (fun K hK => ?_)
              go_simp
              first | refine ⟨_, fun _ => rfl, hK _ ?_⟩ | refine hK _ ?_
              clear hK K
              refine mix_done2 ?_
              go_wp2_with fail
              refine wp_region_mix2 (.pur 0 (.pur 1 (.pur 2 (.pur 3 (.pur 4 (.pur 5 (.pur 6 (.pur 7 (.pur 8 (.one 9 (.pur 10 (.pur 11 (.pur 12 (.one 13 (.pur 14 (.act 15 (.pur 16 (.act 17 .fin)))))))))))))))))) 15 (fun w' => FO N g n cap cu w') (fun _ => True) (by kernel_rfl) (by kernel_rfl) rfl (by kernel_rfl) (hF5.call (((Qt.refl _).drewN 1).below _)) (fun wd6 hq6 _ => ?_)
              refine mix_pur2 rfl (fun K hK => ?_)
              go_simp
              first | refine ⟨_, fun _ => rfl, hK _ ?_⟩ | refine hK _ ?_
              clear hK K
              refine mix_pur2 rfl (fun K hK => ?_)
              go_simp
              first | refine ⟨_, fun _ => rfl, hK _ ?_⟩ | refine hK _ ?_
              clear hK K
              refine mix_pur2 rfl (fun K hK => ?_)
              go_simp
              first | refine ⟨_, fun _ => rfl, hK _ ?_⟩ | refine hK _ ?_
              clear hK K
              refine mix_pur2 rfl (fun K hK => ?_)
              go_simp
              first | refine ⟨_, fun _ => rfl, hK _ ?_⟩ | refine hK _ ?_
              clear hK K
              refine mix_pur2 rfl (fun K hK => ?_)
              go_simp
              first | refine ⟨_, fun _ => rfl, hK _ ?_⟩ | refine hK _ ?_
              clear hK K
              refine mix_pur2 rfl (fun K hK => ?_)
              go_simp
              first | refine ⟨_, fun _ => rfl, hK _ ?_⟩ | refine hK _ ?_
              clear hK K
              refine mix_pur2 rfl (fun K hK => ?_)
              go_simp
              first | refine ⟨_, fun _ => rfl, hK _ ?_⟩ | refine hK _ ?_
              clear hK K
              refine mix_pur2 rfl (fun K hK => ?_)
              go_simp
              first | refine ⟨_, fun _ => rfl, hK _ ?_⟩ | refine hK _ ?_
              clear hK K
              refine mix_pur2 rfl (fun K hK => ?_)
              go_simp
              first | refine ⟨_, fun _ => rfl, hK _ ?_⟩ | refine hK _ ?_
              clear hK K
              refine mix_load2 rfl rfl rfl (.agg #[.int .i64 cu[j1].point, .int .i64 cu[j1].year, .int .i64 cu[j1].off]) (fun w' h => by have h : (fun w' => FO N g n cap cu w') w' := h; have c := h.at hjl1; obtain ⟨c0, c1, c2⟩ := c; go_simp) rfl ?_
              refine mix_pur2 rfl (fun K hK => ?_)
              go_simp
              first | refine ⟨_, fun _ => rfl, hK _ ?_⟩ | refine hK _ ?_
              clear hK K
              refine mix_pur2 rfl (fun K hK => ?_)
              go_simp
              first | refine ⟨_, fun _ => rfl, hK _ ?_⟩ | refine hK _ ?_
              clear hK K
              refine mix_pur2 rfl (fun K hK => ?_)
              go_simp
              first | refine ⟨_, fun _ => rfl, hK _ ?_⟩ | refine hK _ ?_
              clear hK K
              refine mix_load2 rfl rfl rfl (.agg #[.int .i64 cu[j].point, .int .i64 cu[j].year, .int .i64 cu[j].off]) (fun w' h => by have h : (fun w' => FO N g n cap cu w') w' := h; have c := h.at hjl; obtain ⟨c0, c1, c2⟩ := c; go_simp) rfl ?_
              refine mix_pur2 rfl (fun K hK => ?_)
              go_simp
              first | refine ⟨_, fun _ => rfl, hK _ ?_⟩ | refine hK _ ?_
              clear hK K
              refine mix_eff2 rfl true rfl (fun K hK => ?_)
              have hF7 := hF5.call (hq6.below _)
              obtain ⟨e0, e1, e2⟩ := hF7.at hjl
              have f0 := hF7.free (j * 3)
              have f1 := hF7.free (j * 3 + 1)
              have f2 := hF7.free (j * 3 + 2)
              go_simp
              refine hK _ _ trivial ?_
              clear hK K e0 e1 e2 f0 f1 f2
              refine mix_pur2 rfl (fun K hK => ?_)
              go_simp
              first | refine ⟨_, fun _ => rfl, hK _ ?_⟩ | refine hK _ ?_
              clear hK K
              refine mix_eff2 rfl true rfl (fun K hK => ?_)
              have hF8 := hF7.set hjl cu[j1]
              obtain ⟨e0, e1, e2⟩ := hF8.at (j := j1) (by rw [List.length_set]; exact hjl1)
              have f0 := hF8.free (j1 * 3)
              have f1 := hF8.free (j1 * 3 + 1)
              have f2 := hF8.free (j1 * 3 + 2)
              have hk8 := keep3 g wd6 (j * 3) (j * 3 + 1) (j * 3 + 2) (.int .i64 cu[j1].point) (.int .i64 cu[j1].year) (.int .i64 cu[j1].off)
              obtain ⟨w8, hw8⟩ : ∃ w8, w8 = ((wd6.setCell ⟨g, j * 3, none⟩ (.int .i64 cu[j1].point)).setCell ⟨g, j * 3 + 1, none⟩ (.int .i64 cu[j1].year)).setCell ⟨g, j * 3 + 2, none⟩ (.int .i64 cu[j1].off) := ⟨_, rfl⟩
              rw [← hw8] at hF8 e0 e1 e2 f0 f1 f2 hk8 ⊢
              clear hw8
              go_simp
              refine hK _ _ trivial ?_
              clear hK K e0 e1 e2 f0 f1 f2
              refine mix_done2 ?_
              have hk9 := keep3 g w8 (j1 * 3) (j1 * 3 + 1) (j1 * 3 + 2) (.int .i64 cu[j].point) (.int .i64 cu[j].year) (.int .i64 cu[j].off)
              have hF9 := hF8.set (j := j1) (by rw [List.length_set]; exact hjl1) cu[j]
              have hsw : (cu.set j cu[j1]).set j1 cu[j] = swapL cu j := by
                rw [swapL_eq hjl]
                have e : j - 1 = j1 := by omega
                simp only [e]
              rw [hsw] at hF9
              clear hF8 hsw
              generalize ((w8.setCell ⟨g, j1 * 3, none⟩ (.int .i64 cu[j].point)).setCell ⟨g, j1 * 3 + 1, none⟩ (.int .i64 cu[j].year)).setCell ⟨g, j1 * 3 + 2, none⟩ (.int .i64 cu[j].off) = w9 at hk9 hF9 ⊢
              go_wp2_with fail
              go_roundw
              case rel =>
                have hI2 := hI.sink hj0 hji hjl (by have := HY.out; have e : j - 1 = j1 := by omega
                                                    simp only [e]; exact this)
                have e : j - 1 = j1 := by omega
                rw [e] at hI2
                exact ⟨j1, _, by omega, rfl, hI2, hF9, ((hKj.trans (Keep.call hB5)).trans (Keep.qt hq6)).trans (hk8.trans hk9)⟩
              case measure => simp [intOf]; omega
            · have hc : ¬ cmpI cu[j].year cu[j1].year < 0 := fun h => hyr (cmpI_lt.1 h)
              have HY := Lib.hid hyr
              clear hyr hlen
              go_wp2_with fail
              refine wp_region_mix2 (.pur 0 (.pur 1 (.pur 2 (.pur 3 (.pur 4 (.pur 5 (.pur 6 (.pur 7 (.one 8 (.pur 9 (.pur 10 (.pur 11 (.pur 12 (.one 13 (.act 14 (.pur 15 (.pur 16 .fin))))))))))))))))) 99 (fun w' => FO N g n cap cu w') (fun w' => FO N g n cap cu w') (by kernel_rfl) (by kernel_rfl) rfl (by kernel_rfl) (hFj.call (((Qt.refl _).drewN 1).below _)) (fun wd4 hq4 _ => ?_)
              refine mix_pur2 rfl (fun K hK => ?_)
              go_simp
              first | refine ⟨_, fun _ => rfl, hK _ ?_⟩ | refine hK _ ?_
              clear hK K
              refine mix_pur2 rfl (fun K hK => ?_)
              go_simp
              first | refine ⟨_, fun _ => rfl, hK _ ?_⟩ | refine hK _ ?_
              clear hK K
              refine mix_pur2 rfl (fun K hK => ?_)
              go_simp
              first | refine ⟨_, fun _ => rfl, hK _ ?_⟩ | refine hK _ ?_
              clear hK K
              refine mix_pur2 rfl (fun K hK => ?_)
              go_simp
              first | refine ⟨_, fun _ => rfl, hK _ ?_⟩ | refine hK _ ?_
              clear hK K
              refine mix_pur2 rfl (fun K hK => ?_)
              go_simp
              first | refine ⟨_, fun _ => rfl, hK _ ?_⟩ | refine hK _ ?_
              clear hK K
              refine mix_pur2 rfl (fun K hK => ?_)
              go_simp
              first | refine ⟨_, fun _ => rfl, hK _ ?_⟩ | refine hK _ ?_
              clear hK K
              refine mix_pur2 rfl (fun K hK => ?_)
              go_simp
              first | refine ⟨_, fun _ => rfl, hK _ ?_⟩ | refine hK _ ?_
              clear hK K
              refine mix_pur2 rfl (fun K hK => ?_)
              go_simp
              first | refine ⟨_, fun _ => rfl, hK _ ?_⟩ | refine hK _ ?_
              clear hK K
              refine mix_loadg2 rfl rfl (.agg #[.int .i64 cu[j].point, .int .i64 cu[j].year, .int .i64 cu[j].off]) (by go_simp) (fun w' h => by have h : (fun w' => FO N g n cap cu w') w' := h; have c := h.at hjl; obtain ⟨c0, c1, c2⟩ := c; go_simp) rfl ?_
              refine mix_pur2 rfl (fun K hK => ?_)
              go_simp
              first | refine ⟨_, fun _ => rfl, hK _ ?_⟩ | refine hK _ ?_
              clear hK K
              refine mix_pur2 rfl (fun K hK => ?_)
              go_simp
              first | refine ⟨_, fun _ => rfl, hK _ ?_⟩ | refine hK _ ?_
              clear hK K
              refine mix_pur2 rfl (fun K hK => ?_)
              go_simp
              first | refine ⟨_, fun _ => rfl, hK _ ?_⟩ | refine hK _ ?_
              clear hK K
              refine mix_pur2 rfl (fun K hK => ?_)
              go_simp
              first | refine ⟨_, fun _ => rfl, hK _ ?_⟩ | refine hK _ ?_
              clear hK K
              refine mix_loadg2 rfl rfl (.agg #[.int .i64 cu[j1].point, .int .i64 cu[j1].year, .int .i64 cu[j1].off]) (by go_simp) (fun w' h => by have h : (fun w' => FO N g n cap cu w') w' := h; have c := h.at hjl1; obtain ⟨c0, c1, c2⟩ := c; go_simp) rfl ?_
              refine mix_eff2 rfl false rfl (fun K hK => ?_)
              go_simp
              refine (order_c cu[j] cu[j1] (hKj2.qt hq4)).mono ?_
              rintro e w5 ⟨rfl, hB5⟩
              have hF5 := (hFj.call (hq4.below _)).call hB5
              have hB5 := bnx (hq4.below wj.heap.size) hB5
              refine hK _ _ hF5 ?_
              clear hK K
              refine mix_pur2 rfl (fun K hK => ?_)
              go_simp
              first | refine ⟨_, fun _ => rfl, hK _ ?_⟩ | refine hK _ ?_
              clear hK K
              refine mix_pur2 rfl (fun K hK => ?_)
              go_simp
              first | refine ⟨_, fun _ => rfl, hK _ ?_⟩ | refine hK _ ?_
              clear hK K
              refine mix_done2 ?_
              go_wp2_with fail
              have hS2 := hI.stop hji (by have := hFj.len; omega) (.inr ⟨hj0, by
                have := HY.out
                have e : j - 1 = j1 := by omega
                simp only [e]; omega⟩)
              go_roundw
              case rel => exact ⟨i + 1, cu, by omega, by omega, by go_num, hS2, hF5, (hKp.trans hKj).trans (Keep.call hB5)⟩
              case measure => simp [intOf]; omega
          · obtain rfl : j = 0 := by omega
            have hS2 := hI.stop (by omega) (by omega) (.inl rfl)
            go_wp2_with fail
            go_quiet (fail)
            go_wp2_with fail
            go_roundw
            case rel => exact ⟨i + 1, cu, by omega, by omega, by go_num, hS2, hFj.call (((Qt.refl wj).drewN _).below _), (hKp.trans hKj).drewN _⟩
            case measure => simp [intOf]; omega
      · obtain rfl : i = n := by omega
        go_wp2_with fail
        go_end0
        refine ⟨rfl, cur, hS.done (by rw [hF.len]; exact Nat.le_refl _), hF, hKp.mono fun q _ e => by subst e; exact hF.blk.1⟩

end Go.Proofs.YtbpfhoihfoojfaaGreatDoor

namespace Go.Proofs.YtbpfhoihfoojfaaGreatDoor
open Go.RowKit

theorem stable_c {N n cap bk : Nat} {ao : Option Addr} {l : List Fu} (hl : l.length = n) (hn : n ≤ 8) {w : World} (hO : Own N w 73 3 (.slice ao n cap) n (l.flatMap fcells)) (hK : Blk bk #[.func (.func 101) #[] #[]] 191 w) (hNb : bk < N) :
    Calls Tryz.prog 143 #[.slice ao n cap, .int .i64 n, .func (.func 124) #[] #[.pointer (some ⟨bk, 0, none⟩)]] w fun e w' => e = .returned (.tuple #[]) ∧ ∃ l', (l.Perm l' ∧ l'.Pairwise fun f g => f.year ≤ g.year) ∧ Own N w' 73 3 (.slice ao n cap) n (l'.flatMap fcells) ∧ Keep (fun q => N ≤ q) w w' := by
  have HL := Lib.hid hl
  clear hl
  go_enter Tryz.func143, Tryz.ntmps143
  go_wp2_with fail
  refine wp_loop_rounds 1 ?_
  rw [rounds_succ]
  go_wp2_with fail
  refine (insert_c HL.out hn hO hK hNb).mono ?_
  rintro e w2 ⟨rfl, l', hl', hO2, hK2⟩
  go_wp2_with fail
  refine wp_loop_rounds 1 ?_
  rw [rounds_succ]
  go_wp2_with fail
  go_end0
  exact ⟨rfl, l', hl', hO2, hK2⟩

theorem sortStable_c {N n cap bk : Nat} {ao : Option Addr} {l : List Fu} (hl : l.length = n) (hn : n ≤ 8) {w : World} (hO : Own N w 73 3 (.slice ao n cap) n (l.flatMap fcells)) (hK : Blk bk #[.func (.func 101) #[] #[]] 191 w) (hNb : bk < N) :
    Calls Tryz.prog 123 #[.slice ao n cap, .func (.func 124) #[] #[.pointer (some ⟨bk, 0, none⟩)]] w fun e w' => e = .returned (.tuple #[]) ∧ ∃ l', (l.Perm l' ∧ l'.Pairwise fun f g => f.year ≤ g.year) ∧ Own N w' 73 3 (.slice ao n cap) n (l'.flatMap fcells) ∧ Keep (fun q => N ≤ q) w w' := by
  have HL := Lib.hid hl
  clear hl
  go_enter Tryz.func123, Tryz.ntmps123
  go_wp2_with fail
  refine (stable_c HL.out hn hO hK hNb).mono ?_
  rintro e w2 ⟨rfl, l', hl', hO2, hK2⟩
  go_wp2_with fail
  go_end0
  exact ⟨rfl, l', hl', hO2, hK2⟩

theorem Tryz.info73 : (Tryz.prog.info? 73).map (fun i => (i.zero, i.size, i.bytes)) = some (some (.agg #[.int .i64 0, .int .i64 0, .int .i64 0]), 3, 24) := by kernel_rfl
theorem fcells_one (c : Fu) : ∀ u ∈ fcells c, u.oneCell' = true := by
  intro u hu
  simp only [fcells, List.mem_cons, List.not_mem_nil, or_false] at hu
  rcases hu with rfl | rfl | rfl <;> rfl
theorem flat_one {α : Type} {f : α → List Value} (hf : ∀ a, ∀ u ∈ f a, u.oneCell' = true) (l : List α) : ∀ u ∈ l.flatMap f, u.oneCell' = true := by
  intro u hu
  obtain ⟨a, _, h⟩ := List.mem_flatMap.1 hu
  exact hf a u h

theorem cloneF_c {A : Nat → Prop} {w : World} {v : Value} {l : List Fu} (h : FusM A w v l) (hl : l.length ≤ 1000) :
    Calls Tryz.prog 122 #[v] w fun e w' => ∃ v', e = .returned v' ∧ Own w.heap.size w' 73 3 v' l.length (l.flatMap fcells) ∧ Below w.heap.size w w' := by
  obtain ⟨a1, c1, rfl, hc1, hm1⟩ := h.shape
  have n1 := h.len
  have qT : ∀ (w : World) (a : Option Addr) (n c n' c' : Nat), (binOp .eql 25 (.slice a n c) (.slice none n' c')).run Tryz.prog w = .ok (.bool a.isNone) w := fun w a n c n' c' => Lib.run_eql_slice_nil w _ _ a n c n' c' Tryz.underlying25
  cases a1 with
  | none =>
    have h0 : l = [] := by
      obtain ⟨ao, cp, hv, h1, ⟨h2, h3⟩, -⟩ := h
      injection hv with e1 e2 e3
      have := h3 e1.symm
      exact List.eq_nil_of_length_eq_zero (by omega)
    subst h0
    go_enter Tryz.func122, Tryz.ntmps122
    go_wp2_with fail
    go_ret
    exact ⟨_, rfl, Own.nil, Below.refl _ _⟩
  | some ad =>
    have hh := h.call ((Below.refl w.heap.size w).alloc (Nat.le_refl _) (.cells #[] 73))
    have ho := own_lit w 73 3 #[] 0 rfl (by omega)
    go_enter Tryz.func122, Tryz.ntmps122
    go_wp2_with (at_builtin; refine wpList_append_arr rfl _ _ 25 rfl 73 _ 3 24 Tryz.underlying25 Tryz.info73 rfl (by decide) (by decide) (by simp) ho rfl hh rfl (flat_len fcells_len l) (flat_one fcells_one l) (by omega) ?_; intro v' w' hown hT)
    go_ret
    rw [Nat.zero_add, List.nil_append] at hown
    exact ⟨_, rfl, hown, hT.below ho ((Below.refl w.heap.size w).alloc (Nat.le_refl _) _) (by simp)⟩

end Go.Proofs.YtbpfhoihfoojfaaGreatDoor

namespace Go.Proofs.YtbpfhoihfoojfaaGreatDoor
open Go.RowKit

theorem sorted_c {A : Nat → Prop} {w : World} {v : Value} {l : List Fu} (h : FusM A w v l) (hn : l.length ≤ 8) :
    Calls Tryz.prog 100 #[v, .func (.func 101) #[] #[]] w fun e w' => ∃ v' l', e = .returned v' ∧ (l.Perm l' ∧ l'.Pairwise fun f g => f.year ≤ g.year) ∧ FusM (fun k => w.heap.size ≤ k) w' v' l' ∧ Below w.heap.size w w' := by
  have hB1 := (Below.refl w.heap.size w).alloc (Nat.le_refl _) (.cells #[.func (.func 101) #[] #[]] 191)
  have hK1 : Blk w.heap.size #[.func (.func 101) #[] #[]] 191 (w.alloc (.cells #[.func (.func 101) #[] #[]] 191)) := Blk.new _ _ _
  have h1 := h.call hB1
  go_enter Tryz.func100, Tryz.ntmps100
  go_wp2_with fail
  refine (cloneF_c h1 (by omega)).mono ?_
  rintro e w2 ⟨v2, rfl, hO2, hB2⟩
  have hK2 := hK1.call hB2
  obtain ⟨a2, c2, rfl⟩ := own_slice hO2
  have hs1 : w.heap.size < (w.alloc (.cells #[.func (.func 101) #[] #[]] 191)).heap.size := by simp
  have HO2 := Lib.hid hO2
  clear hO2
  go_wp2_with fail
  refine (sortStable_c rfl hn HO2.out hK2 hs1).mono ?_
  rintro e w3 ⟨rfl, l', hl', hO3, hk3⟩
  go_wp2_with fail
  go_ret
  have hll : l'.length = l.length := hl'.1.length_eq.symm
  refine ⟨_, l', rfl, hl', ?_, hB1.trans ((hB2.mono (by omega)).trans (hk3.below (by have := hB2.size; omega) fun k hk => by omega))⟩
  have := Own.arr hO3
  rw [← hll] at this ⊢
  exact Arr.wide this fun k hk _ => by omega

def fldV : Option Fu → Int × Bool
  | none => (0, false)
  | some f => (f.off, true)
theorem fldV_snoc (p y : Int) {l : List Fu} {k : Nat} (hk : k < l.length) : lastF p y (l.take (k + 1)) = if mtch p y l[k] = true then some l[k] else lastF p y (l.take k) := by
  rw [List.take_succ_eq_append_getElem hk, lastF_snoc]

set_option maxHeartbeats 1000000 in
theorem field_c {A : Nat → Prop} {w : World} {v : Value} {l : List Fu} (h : FusM A w v l) (hn : l.length ≤ 8) (h1 : OneEach l) (p y : Int) :
    Calls Tryz.prog 77 #[v, .int .i64 p, .int .i64 y] w fun e w' => e = .returned (.tuple #[.int .i64 (fldV (newG p y l)).1, .bool (fldV (newG p y l)).2]) ∧ Below w.heap.size w w' := by
  go_enter Tryz.func77, Tryz.ntmps77
  go_wp2_with fail
  refine (sorted_c h hn).mono ?_
  rintro e w2 ⟨v2, l', rfl, hl', hF, hB2⟩
  have HN := Lib.hid (last_new h1 hl'.1 hl'.2 p y)
  clear hl'
  obtain ⟨a1, c1, rfl, hc1, hm1⟩ := hF.shape
  have n1 := hF.len
  go_wp2_with fail
  go_loopw [8, 9, 15] (fun va vb vi wr => ∃ k : Nat, k ≤ l'.length ∧ vi = .int .i64 k ∧ va = .int .i64 (fldV (lastF p y (l'.take k))).1 ∧ vb = .bool (fldV (lastF p y (l'.take k))).2 ∧ Below w2.heap.size w2 wr) (fun _ _ vi _ => l'.length - (intOf vi).toNat)
  case atStart => exact ⟨0, Nat.zero_le _, rfl, rfl, rfl, Below.refl _ _⟩
  case round =>
    obtain ⟨k, hk, rfl, rfl, rfl, hB⟩ := hrel
    by_cases hlt : k < l'.length
    · obtain ⟨g, o, rfl, hA, hg⟩ := fus_addr hF (by omega)
      obtain ⟨d0, d1, d2⟩ := fus_at (hF.call hB) k hlt
      have HS := Lib.hid (fldV_snoc p y hlt)
      obtain ⟨f, hf⟩ : ∃ f, f = l'[k] := ⟨_, rfl⟩
      rw [← hf] at d0 d1 d2 HS
      clear hf
      have hBx := hB.trans ((Below.refl wr.heap.size wr).alloc (Nat.le_refl _) (.cells #[.int .i64 f.point, .int .i64 f.year, .int .i64 f.off] 73) |>.mono hB.size)
      by_cases hp : f.point = p
      · have bp : (f.point == p) = true := by simpa using hp
        by_cases hy : f.year ≤ y
        · have by' : decide (f.year ≤ y) = true := decide_eq_true hy
          have HM := Lib.hid (show mtch p y f = true by unfold mtch; rw [decide_eq_true hp, by']; rfl)
          clear hp
          go_wp2_with fail
          go_roundw
          case rel => exact ⟨k + 1, by omega, by go_num, by rw [HS.out, if_pos HM.out]; rfl, by rw [HS.out, if_pos HM.out]; rfl, hBx⟩
          case measure => simp [intOf]; omega
        · have by' : decide (f.year ≤ y) = false := decide_eq_false hy
          have HM := Lib.hid (show ¬ mtch p y f = true by unfold mtch; rw [by']; simp)
          clear hp
          go_wp2_with fail
          go_roundw
          case rel => exact ⟨k + 1, by omega, by go_num, by rw [HS.out, if_neg HM.out], by rw [HS.out, if_neg HM.out], hBx⟩
          case measure => simp [intOf]; omega
      · have bp : (f.point == p) = false := by simpa using hp
        have HM := Lib.hid (show ¬ mtch p y f = true by unfold mtch; rw [decide_eq_false hp]; simp)
        clear hp
        go_wp2_with fail
        go_roundw
        case rel => exact ⟨k + 1, by omega, by go_num, by rw [HS.out, if_neg HM.out], by rw [HS.out, if_neg HM.out], hBx⟩
        case measure => simp [intOf]; omega
    · obtain rfl : k = l'.length := by omega
      go_wp2_with fail
      go_ret2
      rw [List.take_length, HN.out]
      exact ⟨rfl, hB2.trans (hB.mono hB2.size)⟩

theorem verdict_c (a b : Int) (w : World) : Calls Tryz.prog 50 #[.agg #[.int .i64 a, .int .i64 b]] w fun e w' => e = .returned (.int .i64 (verdE (a, b))) ∧ Below w.heap.size w w' := by
  have hB := (Below.refl w.heap.size w).alloc (Nat.le_refl _) (.cells #[.int .i64 a, .int .i64 b] 107)
  by_cases h : 0 < a
  · have HE := Lib.hid (show verdE (a, b) = 1 by unfold verdE; rw [if_pos h])
    go_enter Tryz.func50, Tryz.ntmps50
    go_wp2_with fail
    go_ret
    exact ⟨ret_int HE.out.symm, hB⟩
  · by_cases h2 : b = 0
    · have hb2 : (b == 0) = true := by simpa using h2
      have HE := Lib.hid (show verdE (a, b) = 2 by unfold verdE; rw [if_neg h, if_pos h2])
      clear h2
      go_enter Tryz.func50, Tryz.ntmps50
      go_wp2_with fail
      go_ret
      exact ⟨ret_int HE.out.symm, hB⟩
    · have hb2 : (b == 0) = false := by simpa using h2
      have HE := Lib.hid (show verdE (a, b) = 3 by unfold verdE; rw [if_neg h, if_neg h2])
      clear h2
      go_enter Tryz.func50, Tryz.ntmps50
      go_wp2_with fail
      go_ret
      exact ⟨ret_int HE.out.symm, hB⟩

theorem checked_c {A A' : Nat → Prop} {w : World} {x : Edg} {vx v : Value} {l : List Fu} (hx : ClsM A w vx x.claims) (h : FusM A' w v l) :
    Calls Tryz.prog 31 #[.agg #[.int .i64 x.points, .int .i64 x.bend, vx], v] w fun e w' => e = .returned (.int .i64 (bothX x l)) ∧ Below w.heap.size w w' := by
  obtain ⟨ax, cx, rfl, _, _⟩ := hx.shape
  have hB1 := (Below.refl w.heap.size w).alloc (Nat.le_refl _) (.cells #[.int .i64 x.points, .int .i64 x.bend, .slice ax x.claims.length cx] 24)
  have hX1 : Blk w.heap.size #[.int .i64 x.points, .int .i64 x.bend, .slice ax x.claims.length cx] 24 (w.alloc (.cells #[.int .i64 x.points, .int .i64 x.bend, .slice ax x.claims.length cx] 24)) := Blk.new _ _ _
  have hx1 := hx.call hB1
  have h1 := h.call hB1
  go_enter Tryz.func31, Tryz.ntmps31
  go_wp2_with fail
  refine (check_c hx1).mono ?_
  rintro e w2 ⟨rfl, hB2⟩
  have hX2 := hX1.call hB2
  have h2 := h1.call hB2
  have c0 := hX2.cell 0
  have c1 := hX2.cell 1
  have c2 := hX2.cell 2
  by_cases hck : checkX x = 0
  · have hb : (checkX x != 0) = false := by rw [hck]; rfl
    have hok := checkX_zero.1 hck
    have HE := Lib.hid (show bothX x l = furX x.points l by unfold bothX; rw [if_neg (not_not_intro hck)])
    clear hck
    go_wp2_with fail
    refine (furErr_c hok.p _ _ h2).mono ?_
    rintro e w3 ⟨rfl, hB3⟩
    go_wp2_with fail
    go_ret
    exact ⟨ret_int HE.out.symm, bnx (bnx hB1 hB2) hB3⟩
  · have hb : (checkX x != 0) = true := by simpa using hck
    have HE := Lib.hid (show bothX x l = checkX x by unfold bothX; rw [if_pos hck])
    clear hck
    go_wp2_with fail
    go_ret
    exact ⟨ret_int HE.out.symm, bnx hB1 hB2⟩

end Go.Proofs.YtbpfhoihfoojfaaGreatDoor

namespace Go.Proofs.YtbpfhoihfoojfaaGreatDoor
open Go.RowKit

theorem newG_mem {p y : Int} {l : List Fu} {f : Fu} (h : newG p y l = some f) : f ∈ l := by
  have := new_field (p := p) (y := y) l
  rw [h] at this
  exact this.1

theorem taken_fin {w w2 : World} {b0 : Nat} {x y : Value} (hR2 : Blk (b0 + 1) #[x, y] 107 w2) (hB : Below w.heap.size w w2) (hbw : w.heap.size ≤ b0) {u z U Z : Int} (hu : u = U) (hz : z = Z) {a : Act} (hd : a.defers = []) (h8 : a.tmps[8]? = some (.pointer (some ⟨b0 + 1, 0, none⟩))) :
    bodyPost Tryz.prog Tryz.f52 (fun e w' => e = .returned (.agg #[.int .i64 U, .int .i64 Z]) ∧ Below w.heap.size w w') .ret a ((w2.setCell ⟨b0 + 1, 0, none⟩ (.int .i64 u)).setCell ⟨b0 + 1, 1, none⟩ (.int .i64 z)) := by
  subst hu
  subst hz
  have hR3 := (hR2.set 0 (.int .i64 u)).set 1 (.int .i64 z)
  have hB3 := (hB.setCell (p := ⟨b0 + 1, 0, none⟩) (by show w.heap.size ≤ b0 + 1; omega) (.int .i64 u)).setCell (p := ⟨b0 + 1, 1, none⟩) (by show w.heap.size ≤ b0 + 1; omega) (.int .i64 z)
  generalize (w2.setCell ⟨b0 + 1, 0, none⟩ (.int .i64 u)).setCell ⟨b0 + 1, 1, none⟩ (.int .i64 z) = wf at hR3 hB3 ⊢
  have x0 := hR3.cell 0
  have x1 := hR3.cell 1
  exact bodyPost_ret (v := .agg #[.int .i64 u, .int .i64 z]) (by rw [results, Tryz.results52]; simp [go_sem, h8, x0, x1]) hd ⟨rfl, hB3⟩

set_option maxHeartbeats 1000000 in
theorem taken_c {A : Nat → Prop} {w : World} {v : Value} {l : List Fu} (h : FusM A w v l) (hn : l.length ≤ 8) (h1 : OneEach l) (ho : ∀ f ∈ l, 0 ≤ f.off ∧ f.off ≤ 9) {a b : Int} (ha : -100 ≤ a ∧ a ≤ 100) (hb : -100 ≤ b ∧ b ≤ 100) (p y : Int) :
    Calls Tryz.prog 52 #[v, .agg #[.int .i64 a, .int .i64 b], .int .i64 p, .int .i64 y] w fun e w' => e = .returned (.agg #[.int .i64 (tkF (newG p y l) a), .int .i64 (tkF (newG p y l) b)]) ∧ Below w.heap.size w w' := by
  obtain ⟨a1, c1, rfl, _, _⟩ := h.shape
  obtain ⟨w1, hw1⟩ : ∃ w1, w1 = (w.alloc (.cells #[.int .i64 a, .int .i64 b] 107)).alloc (.cells #[.int .i64 0, .int .i64 0] 107) := ⟨_, rfl⟩
  obtain ⟨b0, hb0⟩ : ∃ b, b = w.heap.size := ⟨_, rfl⟩
  have hA1 : Blk b0 #[.int .i64 a, .int .i64 b] 107 w1 := by rw [hw1, hb0]; exact (Blk.new w _ _).alloc _
  have hR1 : Blk (b0 + 1) #[.int .i64 0, .int .i64 0] 107 w1 := by rw [hw1, hb0]; exact blk_at (by simp) _ _
  have hB1 : Below w.heap.size w w1 := by rw [hw1]; exact ((Below.refl _ w).alloc (Nat.le_refl _) _).alloc (by simp) _
  have hF1 := h.call hB1
  have hbw : w.heap.size ≤ b0 := Nat.le_of_eq hb0.symm
  go_enter Tryz.func52, Tryz.ntmps52
  go_upto_region 1 with fail
  rw [← hw1, ← hb0]
  clear hw1 hb0
  go_wp2_with fail
  refine (field_c hF1 hn h1 p y).mono ?_
  rintro e w2 ⟨rfl, hB2⟩
  have hA2 := hA1.call hB2
  have hR2 := hR1.call hB2
  have c0 := hA2.cell 0
  have c1' := hA2.cell 1
  have d0 := hR2.cell 0
  have d1 := hR2.cell 1
  have f0 := hR2.free 0
  have f1 := hR2.free 1
  have hl2 := hR2.lt
  cases hg : newG p y l with
  | none =>
    have e1 : fldV none = (0, false) := rfl
    rw [e1]
    go_wp2_with fail
    exact taken_fin hR2 (hB1.trans (hB2.mono hB1.size)) hbw (by rw [hg]; rfl) (by rw [hg]; rfl) rfl rfl
  | some f =>
    have e1 : fldV (some f) = (f.off, true) := rfl
    rw [e1]
    have hf := ho f (newG_mem hg)
    have HG := Lib.hid hg
    clear hg
    go_wp2_with fail
    all_goals exact taken_fin hR2 (hB1.trans (hB2.mono hB1.size)) hbw (by rw [HG.out]; simp only [tkF]; omega) (by rw [HG.out]; simp only [tkF]; omega) rfl rfl

end Go.Proofs.YtbpfhoihfoojfaaGreatDoor

namespace Go.Proofs.YtbpfhoihfoojfaaGreatDoor
open Go.RowKit

theorem bnd_reach {x : Edg} {s : Bs} (h : IsBnd x s) {p : Nat} (hp : p < x.n) : 0 ≤ gl s p ∧ gl s p ≤ gh s p ∧ gh s p ≤ 9 := by
  have h1 := h.lo.reach p hp
  have h2 := h.hi.reach p hp
  have h3 := h.all _ h.lo p (by rw [h.len]; exact hp)
  rw [atL_fst] at h1 h3
  rw [atL_snd] at h2
  omega
theorem Tryz.info59 : (Tryz.prog.info? 59).map (fun i => (i.zero, i.size, i.bytes)) = some (some (.agg #[.int .i64 0, .int .i64 0]), 2, 16) := by kernel_rfl
theorem rcells_one' (r : Int × Int) : ∀ u ∈ rcells r, u.oneCell' = true := rcells_one r
theorem rgs_snoc (l : List (Int × Int)) (c : Int × Int) : (l ++ [c]).flatMap rcells = l.flatMap rcells ++ rcells c := by simp
theorem Own.rgs {B : Nat} {w : World} {e : TypeId} {v : Value} {n : Nat} {l : List (Int × Int)} (h : Own B w e 2 v n (l.flatMap rcells)) (hl : l.length = n) : RgsM (fun k => B ≤ k) w v l := by
  subst hl
  exact Own.arr h
theorem rgs_nil (A : Nat → Prop) (w : World) : RgsM A w (.slice none 0 0) [] := ⟨none, 0, rfl, Nat.le_refl _, ⟨by unfold maxLen; omega, fun _ => rfl⟩, .inl rfl⟩
def tkL (l : List Fu) (s : Bs) (y : Int) (k : Nat) : List (Int × Int) := (List.range k).map fun p => tkE l s p y
theorem tkL_succ (l : List Fu) (s : Bs) (y : Int) (k : Nat) : tkL l s y (k + 1) = tkL l s y k ++ [tkE l s k y] := by
  unfold tkL
  rw [List.range_succ, List.map_append]
  rfl
theorem tkL_len (l : List Fu) (s : Bs) (y : Int) (k : Nat) : (tkL l s y k).length = k := by simp [tkL]
theorem furX_facts {P : Int} {l : List Fu} (h : furX P l = 0) : l.length ≤ 8 ∧ OneEach l ∧ ∀ f ∈ l, 0 ≤ f.off ∧ f.off ≤ 9 := by
  obtain ⟨h1, h2, h3⟩ := furX_zero.1 h
  exact ⟨h1, h3, fun f hf => (h2 f hf).2.2⟩
theorem both_zero {x : Edg} {l : List Fu} (h : bothX x l = 0) : x.Ok ∧ furX x.points l = 0 := by
  unfold bothX at h
  by_cases hc : checkX x = 0
  · rw [if_neg (not_not_intro hc)] at h
    exact ⟨checkX_zero.1 hc, h⟩
  · rw [if_pos hc] at h
    exact absurd h hc

set_option maxRecDepth 100000 in
set_option maxHeartbeats 2000000 in
theorem takens_c {A A' : Nat → Prop} {w : World} {x : Edg} {vx v : Value} {l : List Fu} (hx : ClsM A w vx x.claims) (h : FusM A' w v l) (y : Int) :
    Calls Tryz.prog 49 #[.agg #[.int .i64 x.points, .int .i64 x.bend, vx], v, .int .i64 y] w fun e w' => ∃ v', e = .returned (.tuple #[v', .int .i64 (takenX x l y).2]) ∧ RgsM (fun k => w.heap.size ≤ k) w' v' (takenX x l y).1 ∧ Below w.heap.size w w' := by
  obtain ⟨ax, cx, rfl, _, _⟩ := hx.shape
  have hsh := h.shape
  obtain ⟨w1, hw1⟩ : ∃ w1, w1 = w.alloc (.cells #[.int .i64 x.points, .int .i64 x.bend, .slice ax x.claims.length cx] 24) := ⟨_, rfl⟩
  obtain ⟨b0, hb0⟩ : ∃ b, b = w.heap.size := ⟨_, rfl⟩
  have hX1 : Blk b0 #[.int .i64 x.points, .int .i64 x.bend, .slice ax x.claims.length cx] 24 w1 := by rw [hw1, hb0]; exact blk_at rfl _ _
  have hB1 : Below w.heap.size w w1 := by rw [hw1]; exact (Below.refl _ w).alloc (Nat.le_refl _) _
  have hx1 := hx.call hB1
  have h1 := h.call hB1
  go_enter Tryz.func49, Tryz.ntmps49
  go_upto_region 1 with fail
  rw [← hw1, ← hb0]
  clear hw1 hb0
  have c0 := hX1.cell 0
  have c1 := hX1.cell 1
  have c2 := hX1.cell 2
  go_wp2_with fail
  clear c0 c1 c2
  refine (checked_c hx1 h1).mono ?_
  rintro e w2 ⟨rfl, hB2⟩
  have hX2 := hX1.call hB2
  have hx2 := hx1.call hB2
  have h2 := h1.call hB2
  by_cases hck : bothX x l = 0
  · have hb : (bothX x l != 0) = false := by rw [hck]; rfl
    obtain ⟨hok, hfx⟩ := both_zero hck
    obtain ⟨hf8, hf1, hfo⟩ := furX_facts hfx
    have HCK := Lib.hid hck
    clear hck hfx
    cases hy : btwB y 0 30 with
    | false =>
      have HE := Lib.hid (show takenX x l y = ([], 1) by unfold takenX; rw [if_neg (not_not_intro HCK.out), if_pos hy])
      go_wp2_with (go_at_call 51; refine (between_c _ _ _ _).mono ?_; rintro e w' ⟨rfl, rfl⟩)
      go_ret2
      rw [HE.out]
      exact ⟨_, rfl, rgs_nil _ _, bnx hB1 hB2⟩
    | true =>
      have c0 := hX2.cell 0
      have c1 := hX2.cell 1
      have c2 := hX2.cell 2
      go_wp2_with (go_at_call 51; refine (between_c _ _ _ _).mono ?_; rintro e w' ⟨rfl, rfl⟩)
      clear c0 c1 c2
      refine (bounds_c hx2 hok).mono ?_
      rintro e w3 ⟨v3, b3, rfl, hB3, (⟨rfl, hbn⟩ | ⟨rfl, s, g, hbs, rfl, hg, hE3⟩)⟩
      · have HE := Lib.hid (show takenX x l y = ([], 12) by unfold takenX; rw [if_neg (not_not_intro HCK.out), if_neg (by rw [hy]; decide), hbn])
        go_wp2_with fail
        go_ret2
        rw [HE.out]
        exact ⟨_, rfl, rgs_nil _ _, bnx (bnx hB1 hB2) hB3⟩
      · have HE := Lib.hid (show takenX x l y = (tkL l s y x.n, 0) by unfold takenX; rw [if_neg (not_not_intro HCK.out), if_neg (by rw [hy]; decide), hbs.eq]; rfl)
        have h3 := h2.call hB3
        obtain ⟨n, hn⟩ : ∃ n, n = x.n := ⟨_, rfl⟩
        have hn4 : n ≤ 4 := by have := hok.p; unfold Edg.n at hn; omega
        have hsl : s.length = n := by rw [hbs.len, hn]
        have HSL := Lib.hid hsl
        have hreach : ∀ p < n, 0 ≤ gl s p ∧ gl s p ≤ gh s p ∧ gh s p ≤ 9 := fun p hp => bnd_reach hbs (by rw [← hn]; exact hp)
        rw [← hn] at HE ⊢
        have hBa := bnx (bnx hB1 hB2) hB3
        clear hn hsl hX1 hX2 hx1 hx2 hB1 hB2 hB3
        go_wp2_with fail
        go_loopw [11, 32] (fun vo i wr => ∃ k : Nat, k ≤ n ∧ i = .int .i64 k ∧ Own w3.heap.size wr 59 2 vo k ((tkL l s y k).flatMap rcells) ∧ Below w3.heap.size w3 wr) (fun _ i _ => n - (intOf i).toNat)
        case atStart => exact ⟨0, Nat.zero_le _, rfl, Own.nil, Below.refl _ _⟩
        case round =>
          obtain ⟨k, hk, rfl, hO, hB⟩ := hrel
          have hsz := hB.size
          have hsa := hBa.size
          by_cases hlt : k < n
          · have hEr : EB g s wr := Blk.call hE3 hB
            have hgl := Blk.lt hEr
            have hks : k < s.length := by rw [HSL.out]; exact hlt
            obtain ⟨d0, d1⟩ := hEr.cells hks
            have hr := hreach k hlt
            have hTk := Lib.hid (tkL_succ l s y k)
            go_wp2_with fail
            refine (taken_c (h3.call hB) hf8 hf1 hfo (by omega) (by omega) (k : Int) y).mono ?_
            rintro e w5 ⟨rfl, hB5⟩
            have hTe := Lib.hid (show tkE l s k y = (tkF (newG (k : Int) y l) (gl s k), tkF (newG (k : Int) y l) (gh s k)) from rfl)
            generalize tkF (newG (k : Int) y l) (gl s k) = u at hTe ⊢
            generalize tkF (newG (k : Int) y l) (gh s k) = z at hTe ⊢
            have hO7 := Own.alloc (Own.alloc (hO.call hB5) (.cells #[.int .i64 u, .int .i64 z] 107)) (.cells #[.int .i64 u, .int .i64 z] 59)
            have hB7 := ((hB.trans (hB5.mono hsz)).alloc (by have := hB5.size; omega) (.cells #[.int .i64 u, .int .i64 z] 107)).alloc (by simp; have := hB5.size; omega) (.cells #[.int .i64 u, .int .i64 z] 59)
            have ha := Own.arr (own_lit (w5.alloc (.cells #[.int .i64 u, .int .i64 z] 107)) 59 2 #[.int .i64 u, .int .i64 z] 1 rfl (by omega))
            rw [World.size_alloc] at ha
            have hz5 := hB5.size
            go_wp2_with (at_builtin; refine wpList_append_arr rfl _ _ 48 rfl 59 _ 2 16 Tryz.underlying48 Tryz.info59 rfl (by decide) (by decide) (by simp; omega) hO7 rfl ha rfl rfl (rcells_one (u, z)) (by omega) ?_; intro v' w8 hown hT)
            go_roundw
            case rel => exact ⟨k + 1, by omega, by go_num, by rw [hTk.out, rgs_snoc, hTe.out]; exact hown, hT.below2 hO7 hB7 (by simp; omega) (Nat.le_refl _)⟩
            case measure => simp [intOf]; omega
          · obtain rfl : k = n := by omega
            go_wp2_with fail
            go_ret2
            rw [HE.out]
            exact ⟨_, rfl, (hO.rgs (tkL_len ..)).wide fun q hq _ => Nat.le_trans hsa hq, hBa.trans (hB.mono hBa.size)⟩
  · have hb : (bothX x l != 0) = true := by simpa using hck
    have HE := Lib.hid (show takenX x l y = ([], bothX x l) by unfold takenX; rw [if_pos hck])
    clear hck
    go_wp2_with fail
    go_ret2
    rw [HE.out]
    exact ⟨_, rfl, rgs_nil _ _, bnx hB1 hB2⟩

def verdL (l : List (Int × Int)) (k : Nat) : List Int := (l.take k).map verdE
theorem verdL_succ {l : List (Int × Int)} {k : Nat} (hk : k < l.length) : verdL l (k + 1) = verdL l k ++ [verdE l[k]] := by
  unfold verdL
  rw [List.take_succ_eq_append_getElem hk, List.map_append]
  rfl
theorem verdL_len {l : List (Int × Int)} {k : Nat} (hk : k ≤ l.length) : (verdL l k).length = k := by simp [verdL]; omega
theorem taken_len (x : Edg) (l : List Fu) (y : Int) : (takenX x l y).1.length ≤ x.n := by
  unfold takenX
  split
  · simp
  · split
    · simp
    · split <;> simp

set_option maxHeartbeats 2000000 in
theorem encr_c {A A' : Nat → Prop} {w : World} {x : Edg} {vx v : Value} {l : List Fu} (hx : ClsM A w vx x.claims) (h : FusM A' w v l) (y : Int) :
    Calls Tryz.prog 21 #[.agg #[.int .i64 x.points, .int .i64 x.bend, vx], v, .int .i64 y] w fun e w' => ∃ v', e = .returned (.tuple #[v', .int .i64 (encrX x l y).2]) ∧ Ints (fun k => w.heap.size ≤ k) w' v' (encrX x l y).1 ∧ Below w.heap.size w w' := by
  obtain ⟨ax, cx, rfl, _, _⟩ := hx.shape
  have hB1 : Below w.heap.size w (w.alloc (.cells #[.int .i64 x.points, .int .i64 x.bend, .slice ax x.claims.length cx] 24)) := (Below.refl _ w).alloc (Nat.le_refl _) _
  have hx1 := hx.call hB1
  have h1 := h.call hB1
  go_enter Tryz.func21, Tryz.ntmps21
  go_wp2_with fail
  refine (takens_c hx1 h1 y).mono ?_
  rintro e w2 ⟨v2, rfl, hR, hB2⟩
  by_cases hz : (takenX x l y).2 = 0
  · have hb : ((takenX x l y).2 != 0) = false := by rw [hz]; rfl
    have HE := Lib.hid (show encrX x l y = ((takenX x l y).1.map verdE, 0) by unfold encrX; rw [if_neg (not_not_intro hz)])
    have HZ := Lib.hid hz
    have hn4 : (takenX x l y).1.length ≤ 4 := by
      have h1 := taken_len x l y
      have h2 : bothX x l = 0 := by
        unfold takenX at hz
        by_cases hc : bothX x l = 0
        · exact hc
        · rw [if_pos hc] at hz; exact absurd hz hc
      have h3 := (both_zero h2).1.p
      unfold Edg.n at h1
      omega
    clear hz
    obtain ⟨R, hR0⟩ : ∃ R, R = (takenX x l y).1 := ⟨_, rfl⟩
    rw [← hR0] at hR HE hn4
    clear hR0
    obtain ⟨a2, c2, rfl, _, _⟩ := hR.shape
    have hBa := bnx hB1 hB2
    go_wp2_with fail
    go_loopw [10, 25] (fun vo i wr => ∃ k : Nat, k ≤ R.length ∧ i = .int .i64 k ∧ Own w2.heap.size wr 3 1 vo k (I64 (verdL R k)) ∧ Below w2.heap.size w2 wr) (fun _ i _ => R.length - (intOf i).toNat)
    case atStart => exact ⟨0, Nat.zero_le _, rfl, Own.nil, Below.refl _ _⟩
    case round =>
      obtain ⟨k, hk, rfl, hO, hB⟩ := hrel
      have hsz := hB.size
      have hsa := hBa.size
      by_cases hlt : k < R.length
      · obtain ⟨g, o, rfl, hA, hg⟩ := rgs_addr hR (by omega)
        obtain ⟨d0, d1⟩ := rgs_at (hR.call hB) k hlt
        have hV := Lib.hid (verdL_succ hlt)
        obtain ⟨r, hr⟩ : ∃ r, r = R[k] := ⟨_, rfl⟩
        rw [← hr] at d0 d1 hV
        clear hr
        have hB3 := hB.alloc hsz (.cells #[.int .i64 r.1, .int .i64 r.2] 59)
        go_wp2_with fail
        refine (verdict_c r.1 r.2 _).mono ?_
        rintro e w5 ⟨rfl, hB5⟩
        have hz5 := hB5.size
        simp only [World.size_alloc] at hz5
        have hO6 := Own.alloc ((Own.alloc hO (.cells #[.int .i64 r.1, .int .i64 r.2] 59)).call hB5) (.cells #[.int .i64 (verdE (r.1, r.2))] 3)
        have hB6 := (bnx hB3 hB5).alloc (by omega) (.cells #[.int .i64 (verdE (r.1, r.2))] 3)
        have ha := arr_one w5 3 (.int .i64 (verdE (r.1, r.2)))
        go_wp2_with (at_builtin; refine wpList_append_arr rfl _ _ 26 rfl 3 (.int .i64 0) 1 8 Tryz.underlying26 Tryz.info3 rfl (by decide) (by decide) (by simp; omega) hO6 rfl ha rfl rfl (one_int _) (by omega) ?_; intro v' w8 hown hT)
        go_roundw
        case rel => exact ⟨k + 1, by omega, by go_num, by rw [hV.out, I64_append]; exact hown, hT.below2 hO6 hB6 (by simp; omega) (Nat.le_refl _)⟩
        case measure => simp [intOf]; omega
      · obtain rfl : k = R.length := by omega
        go_wp2_with fail
        go_ret2
        rw [HE.out]
        have e1 : verdL R R.length = R.map verdE := by unfold verdL; rw [List.take_length]
        rw [e1] at hO
        exact ⟨_, rfl, hO.ints.wide fun q hq _ => Nat.le_trans hsa hq, hBa.trans (hB.mono hsa)⟩
  · have hb : ((takenX x l y).2 != 0) = true := by simpa using hz
    have HE := Lib.hid (show encrX x l y = ([], (takenX x l y).2) by unfold encrX; rw [if_pos hz])
    clear hz
    go_wp2_with fail
    go_ret2
    rw [HE.out]
    exact ⟨_, rfl, ⟨none, 0, rfl, Nat.le_refl _, ⟨by unfold maxLen; omega, fun _ => rfl⟩, .inl rfl⟩, bnx hB1 hB2⟩

end Go.Proofs.YtbpfhoihfoojfaaGreatDoor

namespace Go.Proofs.YtbpfhoihfoojfaaGreatDoor
open Go.RowKit

theorem tk_le {p y : Int} {l : List Fu} (ho : ∀ f ∈ l, 0 ≤ f.off ∧ f.off ≤ 9) {n : Int} (hn : 0 ≤ n ∧ n ≤ 9) : 0 ≤ tkF (newG p y l) n ∧ tkF (newG p y l) n ≤ 9 := by
  cases h : newG p y l with
  | none => simp only [tkF]; omega
  | some f =>
    have := ho f (newG_mem h)
    simp only [tkF]; omega
/-- What one year gives, up to some points. -/
def fineP (rate : Int) (n : Nat) (g : Int → Nat → Int) (y : Int) : Int := ((List.range n).map fun p => rate * g y p).sum
theorem fineP_succ (rate : Int) (n : Nat) (g : Int → Nat → Int) (y : Int) : fineP rate (n + 1) g y = fineP rate n g y + rate * g y n := by
  unfold fineP
  rw [List.range_succ, List.map_append, List.sum_append]
  simp
theorem fineF_succ {rate : Int} {n : Nat} {g : Int → Nat → Int} {lo y : Int} (h : lo ≤ y) : fineF rate n g lo y = fineF rate n g lo (y - 1) + fineP rate n g y := by
  unfold fineF
  have := rng_snoc (lo := lo) (hi := y - 1) (by omega)
  rw [show y - 1 + 1 = y by omega] at this
  rw [this, List.map_append, List.sum_append]
  simp [fineY, fineP]
theorem fineF_none {rate : Int} {n : Nat} {g : Int → Nat → Int} {lo : Int} : fineF rate n g lo (lo - 1) = 0 := by
  unfold fineF
  rw [rng_none (by omega)]
  rfl
theorem ix0 (a b : Int) (w : World) : (Instr.index 107 (.agg #[.int .i64 a, .int .i64 b]) (.int .i64 0)).run Tryz.prog w = .ok (.int .i64 a) w := by kernel_rfl
theorem ix1 (a b : Int) (w : World) : (Instr.index 107 (.agg #[.int .i64 a, .int .i64 b]) (.int .i64 1)).run Tryz.prog w = .ok (.int .i64 b) w := by kernel_rfl

theorem fine_fin {w w2 : World} {b0 : Nat} {x y : Value} (hR2 : Blk b0 #[x, y] 59 w2) (hB : Below w.heap.size w w2) (hbw : w.heap.size ≤ b0) {u z e U Z E : Int} (hu : u = U) (hz : z = Z) (he : e = E) {a : Act} (hd : a.defers = []) (h10 : a.tmps[10]? = some (.pointer (some ⟨b0, 0, none⟩))) (h11 : a.tmps[11]? = some (.int .i64 e)) :
    bodyPost Tryz.prog Tryz.f23 (fun e w' => e = .returned (.tuple #[.agg #[.int .i64 U, .int .i64 Z], .int .i64 E]) ∧ Below w.heap.size w w') .ret a ((w2.setCell ⟨b0, 0, none⟩ (.int .i64 u)).setCell ⟨b0, 1, none⟩ (.int .i64 z)) := by
  subst hu
  subst hz
  subst he
  have hR3 := (hR2.set 0 (.int .i64 u)).set 1 (.int .i64 z)
  have hB3 := (hB.setCell (p := ⟨b0, 0, none⟩) hbw (.int .i64 u)).setCell (p := ⟨b0, 1, none⟩) hbw (.int .i64 z)
  generalize (w2.setCell ⟨b0, 0, none⟩ (.int .i64 u)).setCell ⟨b0, 1, none⟩ (.int .i64 z) = wf at hR3 hB3 ⊢
  have x0 := hR3.cell 0
  have x1 := hR3.cell 1
  exact bodyPost_ret (v := .tuple #[.agg #[.int .i64 u, .int .i64 z], .int .i64 e]) (by rw [results, Tryz.results23]; simp [go_sem, h10, h11, x0, x1]) hd ⟨rfl, hB3⟩

def fL (l : List Fu) (s : Bs) : Int → Nat → Int := fun y p => (tkE l s p y).1
def fM (l : List Fu) (s : Bs) : Int → Nat → Int := fun y p => (tkE l s p y).2

set_option maxRecDepth 100000 in
set_option maxHeartbeats 2000000 in
theorem fine_c {A A' : Nat → Prop} {w : World} {x : Edg} {vx v : Value} {l : List Fu} (hx : ClsM A w vx x.claims) (h : FusM A' w v l) (rate lo hi : Int) :
    Calls Tryz.prog 23 #[.agg #[.int .i64 x.points, .int .i64 x.bend, vx], v, .int .i64 rate, .int .i64 lo, .int .i64 hi] w fun e w' => e = .returned (.tuple #[.agg #[.int .i64 (fineX x l rate lo hi).1.1, .int .i64 (fineX x l rate lo hi).1.2], .int .i64 (fineX x l rate lo hi).2]) ∧ Below w.heap.size w w' := by
  obtain ⟨ax, cx, rfl, _, _⟩ := hx.shape
  replace h := h.wide (A' := fun k => k < w.heap.size) fun k _ hk => hk
  obtain ⟨w1, hw1⟩ : ∃ w1, w1 = (w.alloc (.cells #[.int .i64 x.points, .int .i64 x.bend, .slice ax x.claims.length cx] 24)).alloc (.cells #[.int .i64 0, .int .i64 0] 59) := ⟨_, rfl⟩
  obtain ⟨b0, hb0⟩ : ∃ b, b = w.heap.size := ⟨_, rfl⟩
  obtain ⟨br, hbr⟩ : ∃ b, b = w.heap.size + 1 := ⟨_, rfl⟩
  have hX1 : Blk b0 #[.int .i64 x.points, .int .i64 x.bend, .slice ax x.claims.length cx] 24 w1 := by rw [hw1, hb0]; exact (Blk.new w _ _).alloc _
  have hR1 : Blk br #[.int .i64 0, .int .i64 0] 59 w1 := by rw [hw1, hbr]; exact blk_at (by simp) _ _
  have hB1 : Below w.heap.size w w1 := by rw [hw1]; exact ((Below.refl _ w).alloc (Nat.le_refl _) _).alloc (by simp) _
  have hx1 := hx.call hB1
  have h1 := h.call hB1
  have hbw : w.heap.size ≤ br := by omega
  go_enter Tryz.func23, Tryz.ntmps23
  go_upto_region 1 with fail
  rw [← hw1, ← hbr, ← hb0]
  clear hw1 hb0 hbr
  have c0 := hX1.cell 0
  have c1 := hX1.cell 1
  have c2 := hX1.cell 2
  go_wp2_with fail
  clear c0 c1 c2
  refine (checked_c hx1 h1).mono ?_
  rintro e w2 ⟨rfl, hB2⟩
  have hX2 := hX1.call hB2
  have hR2 := hR1.call hB2
  have hx2 := hx1.call hB2
  have h2 := h1.call hB2
  have hBb := bnx hB1 hB2
  have r0 := hR2.cell 0
  have r1 := hR2.cell 1
  have s0 := hR2.free 0
  have s1 := hR2.free 1
  by_cases hck : bothX x l = 0
  · have hb : (bothX x l != 0) = false := by rw [hck]; rfl
    obtain ⟨hok, hfx⟩ := both_zero hck
    obtain ⟨hf8, hf1, hfo⟩ := furX_facts hfx
    have HCK := Lib.hid hck
    clear hck hfx
    cases hr : (btwB rate 1 9 && (btwB lo 0 30 && btwB hi 0 30)) with
    | false =>
      have HE := Lib.hid (show fineX x l rate lo hi = ((0, 0), 1) by unfold fineX; rw [if_neg (not_not_intro HCK.out), if_pos (fun hh => by rw [hh.1, hh.2.1, hh.2.2] at hr; exact absurd hr (by decide))])
      cases b1 : btwB rate 1 9 with
      | false =>
        go_wp2_with (go_at_call 51; refine (between_c _ _ _ _).mono ?_; rintro e w' ⟨rfl, rfl⟩)
        exact fine_fin hR2 hBb hbw (by rw [HE.out]) (by rw [HE.out]) (by rw [HE.out]) rfl rfl rfl
      | true =>
        cases b2 : btwB lo 0 30 with
        | false =>
          go_wp2_with (go_at_call 51; refine (between_c _ _ _ _).mono ?_; rintro e w' ⟨rfl, rfl⟩)
          exact fine_fin hR2 hBb hbw (by rw [HE.out]) (by rw [HE.out]) (by rw [HE.out]) rfl rfl rfl
        | true =>
          have b3 : btwB hi 0 30 = false := by rw [b1, b2] at hr; simpa using hr
          go_wp2_with (go_at_call 51; refine (between_c _ _ _ _).mono ?_; rintro e w' ⟨rfl, rfl⟩)
          exact fine_fin hR2 hBb hbw (by rw [HE.out]) (by rw [HE.out]) (by rw [HE.out]) rfl rfl rfl
    | true =>
      rw [Bool.and_eq_true, Bool.and_eq_true] at hr
      obtain ⟨b1, b2, b3⟩ := hr
      have hrt := btwB_iff.1 b1
      have hlo := btwB_iff.1 b2
      have hhi := btwB_iff.1 b3
      have HIF := Lib.hid (show ¬ ¬ (btwB rate 1 9 = true ∧ btwB lo 0 30 = true ∧ btwB hi 0 30 = true) from not_not_intro ⟨b1, b2, b3⟩)
      by_cases hord : hi < lo
      · have HE := Lib.hid (show fineX x l rate lo hi = ((0, 0), 5) by unfold fineX; rw [if_neg (not_not_intro HCK.out), if_neg HIF.out, if_pos hord])
        go_wp2_with (go_at_call 51; refine (between_c _ _ _ _).mono ?_; rintro e w' ⟨rfl, rfl⟩)
        exact fine_fin hR2 hBb hbw (by rw [HE.out]) (by rw [HE.out]) (by rw [HE.out]) rfl rfl rfl
      · have c0 := hX2.cell 0
        have c1 := hX2.cell 1
        have c2 := hX2.cell 2
        go_wp2_with (go_at_call 51; refine (between_c _ _ _ _).mono ?_; rintro e w' ⟨rfl, rfl⟩)
        clear c0 c1 c2 r0 r1 s0 s1
        refine (bounds_c hx2 hok).mono ?_
        rintro e w3 ⟨v3, b4, rfl, hB3, (⟨rfl, hbn⟩ | ⟨rfl, s, g, hbs, rfl, hg, hE3⟩)⟩
        · have hR3 := hR2.call hB3
          have HE := Lib.hid (show fineX x l rate lo hi = ((0, 0), 12) by unfold fineX; rw [if_neg (not_not_intro HCK.out), if_neg HIF.out, if_neg (by omega), hbn])
          have r0 := hR3.cell 0
          have r1 := hR3.cell 1
          have s0 := hR3.free 0
          have s1 := hR3.free 1
          go_wp2_with fail
          exact fine_fin hR3 (bnx hBb hB3) hbw (by rw [HE.out]) (by rw [HE.out]) (by rw [HE.out]) rfl rfl rfl
        · have hR3 := hR2.call hB3
          have h3 := h2.call hB3
          obtain ⟨n, hn⟩ : ∃ n, n = x.n := ⟨_, rfl⟩
          have HE := Lib.hid (show fineX x l rate lo hi = ((fineF rate n (fL l s) lo hi, fineF rate n (fM l s) lo hi), 0) by unfold fineX; rw [if_neg (not_not_intro HCK.out), if_neg HIF.out, if_neg (by omega), hbs.eq, hn]; rfl)
          have hn4 : n ≤ 4 := by have := hok.p; unfold Edg.n at hn; omega
          have hsl : s.length = n := by rw [hbs.len, hn]
          have HSL := Lib.hid hsl
          have hreach : ∀ p < n, 0 ≤ gl s p ∧ gl s p ≤ gh s p ∧ gh s p ≤ 9 := fun p hp => bnd_reach hbs (by rw [← hn]; exact hp)
          rw [← hn]
          have hBa := bnx hBb hB3
          clear hn hsl hX1 hX2 hx1 hx2 hB1 hB2 hBb b1 b2 b3 HIF
          obtain ⟨w4, hw4⟩ : ∃ w4, w4 = w3.alloc (.cells #[.int .i64 0, .int .i64 0] 107) := ⟨_, rfl⟩
          obtain ⟨bs, hbs4⟩ : ∃ b, b = w3.heap.size := ⟨_, rfl⟩
          have hS4 : Blk bs #[.int .i64 0, .int .i64 0] 107 w4 := by rw [hw4, hbs4]; exact Blk.new _ _ _
          have hE4 : EB g s w4 := by rw [hw4]; exact Blk.alloc hE3 _
          have hR4 := hR3.alloc (.cells #[.int .i64 0, .int .i64 0] 107)
          have h4 := h3.call ((Below.refl _ w3).alloc (Nat.le_refl _) (.cells #[.int .i64 0, .int .i64 0] 107))
          have hB4 := hBa.alloc hBa.size (.cells #[.int .i64 0, .int .i64 0] 107)
          rw [← hw4] at hR4 h4 hB4
          have hapart : g ≠ bs ∧ br ≠ bs ∧ w.heap.size ≤ bs := by have h1 := Blk.lt hE3; have h2 := hR3.lt; have h3 := hBa.size; omega
          go_upto_region 12 with fail
          rw [← hw4, ← hbs4]
          clear hw4 hbs4 hE3 hR3 h3
          go_wp2_with fail
          go_loopw [16] (fun vy wr => ∃ (y A B : Int), lo ≤ y ∧ y ≤ hi + 1 ∧ vy = .int .i64 y ∧ Hid (A = fineF rate n (fL l s) lo (y - 1)) ∧ Hid (B = fineF rate n (fM l s) lo (y - 1)) ∧ (0 ≤ A ∧ A ≤ 400 * (y - lo)) ∧ (0 ≤ B ∧ B ≤ 400 * (y - lo)) ∧ Blk bs #[.int .i64 A, .int .i64 B] 107 wr ∧ Keep (fun q => q = bs) w4 wr) (fun vy _ => (hi + 1 - intOf vy).toNat)
          case atStart => exact ⟨lo, 0, 0, by omega, by omega, rfl, Lib.hid fineF_none.symm, Lib.hid fineF_none.symm, by omega, by omega, hS4, Keep.refl _ _⟩
          case round =>
            obtain ⟨y, A, B, hy1, hy2, rfl, HA, HB, hA, hB, hS, hK⟩ := hrel
            clear hS4
            by_cases hyl : y ≤ hi
            · go_wp2_with fail
              go_loopw [61] (fun vi wp => ∃ (p : Nat) (C D : Int), p ≤ n ∧ vi = .int .i64 p ∧ Hid (C = A + fineP rate p (fL l s) y) ∧ Hid (D = B + fineP rate p (fM l s) y) ∧ (0 ≤ C ∧ C ≤ 400 * (y - lo) + 100 * p) ∧ (0 ≤ D ∧ D ≤ 400 * (y - lo) + 100 * p) ∧ Blk bs #[.int .i64 C, .int .i64 D] 107 wp ∧ Keep (fun q => q = bs) w4 wp) (fun vi _ => n - (intOf vi).toNat)
              case atStart => exact ⟨0, A, B, Nat.zero_le _, rfl, Lib.hid (by simp [fineP]), Lib.hid (by simp [fineP]), by omega, by omega, hS, hK⟩
              case round =>
                rename World => wp
                obtain ⟨p, C, D, hpn, rfl, HC, HD, hC, hD, hSp, hKp⟩ := hrel
                clear hS hK
                by_cases hlt : p < n
                · have hEr : EB g s wp := Blk.keep hE4 (hKp.block g (Blk.lt hE4) hapart.1)
                  have hps : p < s.length := by rw [HSL.out]; exact hlt
                  obtain ⟨d0, d1⟩ := hEr.cells hps
                  have hrp := hreach p hlt
                  have h5 := h4.step hKp.size (fun k hA hk => hKp.block k hk (by have := hapart.2.2; omega))
                  go_wp2_with fail
                  refine (taken_c h5 hf8 hf1 hfo (by omega) (by omega) (p : Int) y).mono ?_
                  rintro e w6 ⟨rfl, hB6⟩
                  have hS6 := hSp.call hB6
                  have hu := tk_le (p := (p : Int)) (y := y) hfo (n := gl s p) (by omega)
                  have hz := tk_le (p := (p : Int)) (y := y) hfo (n := gh s p) (by omega)
                  have HTE := Lib.hid (show tkE l s p y = (tkF (newG (p : Int) y l) (gl s p), tkF (newG (p : Int) y l) (gh s p)) from rfl)
                  generalize tkF (newG (p : Int) y l) (gl s p) = u at hu HTE ⊢
                  generalize tkF (newG (p : Int) y l) (gh s p) = z at hz HTE ⊢
                  have hm1 : 0 ≤ rate * u ∧ rate * u ≤ 81 := ⟨Int.mul_nonneg (by omega) hu.1, by have := Int.mul_le_mul hrt.2 hu.2 hu.1 (by decide); omega⟩
                  have hm2 : 0 ≤ rate * z ∧ rate * z ≤ 81 := ⟨Int.mul_nonneg (by omega) hz.1, by have := Int.mul_le_mul hrt.2 hz.2 hz.1 (by decide); omega⟩
                  obtain ⟨m1, hm1e⟩ : ∃ m, rate * u = m := ⟨_, rfl⟩
                  obtain ⟨m2, hm2e⟩ : ∃ m, rate * z = m := ⟨_, rfl⟩
                  rw [hm1e] at hm1
                  rw [hm2e] at hm2
                  have i0 := ix0 u z
                  have i1 := ix1 u z
                  go_wp2_with fail
                  refine wp_loop_rounds 3 ?_
                  rw [rounds_succ]
                  have e0 := hS6.cell 0
                  have f0 := hS6.free 0
                  go_wp2_with fail
                  have hS7 := hS6.set 0 (.int .i64 (C + m1))
                  have hK7 : Keep (fun q => q = bs) w6 (w6.setCell ⟨bs, 0, none⟩ (.int .i64 (C + m1))) := Keep.setCell _ _ _ rfl
                  generalize w6.setCell ⟨bs, 0, none⟩ (.int .i64 (C + m1)) = w7 at hS7 hK7 ⊢
                  clear e0 f0
                  rw [rounds_succ]
                  have e1 := hS7.cell 1
                  have f1 := hS7.free 1
                  go_wp2_with fail
                  have hS8 := hS7.set 1 (.int .i64 (D + m2))
                  have hK8 : Keep (fun q => q = bs) w7 (w7.setCell ⟨bs, 1, none⟩ (.int .i64 (D + m2))) := Keep.setCell _ _ _ rfl
                  generalize w7.setCell ⟨bs, 1, none⟩ (.int .i64 (D + m2)) = w8 at hS8 hK8 ⊢
                  clear e1 f1
                  rw [rounds_succ]
                  go_wp2_with fail
                  go_roundw
                  case rel =>
                    refine ⟨p + 1, C + m1, D + m2, by omega, by go_num, Lib.hid ?_, Lib.hid ?_, by omega, by omega, hS8, ((hKp.trans (Keep.call hB6)).trans hK7).trans hK8⟩
                    · rw [fineP_succ, HC.out, ← hm1e, Int.add_assoc]
                      show _ = _ + (_ + rate * (tkE l s p y).1)
                      rw [HTE.out]
                    · rw [fineP_succ, HD.out, ← hm2e, Int.add_assoc]
                      show _ = _ + (_ + rate * (tkE l s p y).2)
                      rw [HTE.out]
                  case measure => simp [intOf]; omega
                · obtain rfl : p = n := by omega
                  go_wp2_with fail
                  go_roundw
                  case rel =>
                    refine ⟨y + 1, C, D, by omega, by omega, by go_num, Lib.hid ?_, Lib.hid ?_, by omega, by omega, hSp, hKp⟩
                    · rw [show y + 1 - 1 = y by omega, fineF_succ hy1, HC.out, HA.out]
                    · rw [show y + 1 - 1 = y by omega, fineF_succ hy1, HD.out, HB.out]
                  case measure => simp [intOf]; omega
            · obtain rfl : y = hi + 1 := by omega
              have hRr := hR4.keep (hK.block br hR4.lt hapart.2.1)
              have e0 := hS.cell 0
              have e1 := hS.cell 1
              have r0 := hRr.cell 0
              have r1 := hRr.cell 1
              have s0 := hRr.free 0
              have s1 := hRr.free 1
              have hBf : Below w.heap.size w wr := hB4.trans ⟨hK.os, hK.tape, hK.output, hK.size, fun q hq => hK.block q (by have := hB4.size; omega) (by omega)⟩
              have ey : hi + 1 - 1 = hi := by omega
              go_wp2_with fail
              exact fine_fin hRr hBf hbw (by rw [HE.out]; show A = fineF rate n (fL l s) lo hi; rw [HA.out, ey]) (by rw [HE.out]; show B = fineF rate n (fM l s) lo hi; rw [HB.out, ey]) (by rw [HE.out]) rfl rfl rfl
  · have hb : (bothX x l != 0) = true := by simpa using hck
    have HE := Lib.hid (show fineX x l rate lo hi = ((0, 0), bothX x l) by unfold fineX; rw [if_pos hck])
    clear hck
    go_wp2_with fail
    exact fine_fin hR2 hBb hbw (by rw [HE.out]) (by rw [HE.out]) (by rw [HE.out]) rfl rfl rfl

end Go.Proofs.YtbpfhoihfoojfaaGreatDoor

