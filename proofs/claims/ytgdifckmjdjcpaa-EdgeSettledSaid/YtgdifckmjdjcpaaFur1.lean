/- Contracts of furrowsError and checked (edge); conditions: furrows and claims read as lists. -/
import Derived.Test.YtgdifckmjdjcpaaChk3
namespace Go.Proofs.Ytgdifckmjdjcpaa
open Go.RowKit

theorem Elems.take {α : Type} {f : α → List Value} {A : Nat → Prop} {w : World} {ao : Option Addr} {n cap : Nat} {l : List α} (h : Elems f A w (.slice ao n cap) l) {i : Nat} (hi : i ≤ l.length) : Elems f A w (.slice ao i cap) (l.take i) := by
  obtain ⟨ao', cap', hv, h1, h2, h3⟩ := h
  injection hv with e1 e2 e3
  subst e1; subst e2; subst e3
  refine ⟨_, _, by rw [List.length_take, Nat.min_eq_left hi], by rw [List.length_take]; omega, h2, ?_⟩
  have hs : l.flatMap f = (l.take i).flatMap f ++ (l.drop i).flatMap f := by rw [← List.flatMap_append, List.take_append_drop]
  rcases h3 with h3 | ⟨b, off, he, hA, hl, hc⟩
  · left
    rw [hs] at h3
    exact (List.append_eq_nil_iff.1 h3).1
  · right
    refine ⟨b, off, he, hA, hl, fun j u hj => hc j u ?_⟩
    rw [hs, List.getElem?_append_left (List.getElem?_eq_some_iff.1 hj).1]
    exact hj

def meetB (f g : Fu) : Bool := decide (g.point = f.point) && decide (g.year = f.year)
theorem meet_c {f g : Fu} {b : Nat} {w : World} (hb : Blk b #[.int .i64 f.point, .int .i64 f.year, .int .i64 f.off] 76 w) :
    Calls Try.prog 123 #[.agg #[.int .i64 g.point, .int .i64 g.year, .int .i64 g.off], .pointer (some ⟨b, 0, none⟩)] w fun e w' => e = .returned (.bool (meetB f g)) ∧ Below w.heap.size w w' := by
  have hB := (Below.refl w.heap.size w).alloc (Nat.le_refl _) (.cells #[.int .i64 g.point, .int .i64 g.year, .int .i64 g.off] 76)
  have c0 := hb.cell 0
  have c1 := hb.cell 1
  have hl := hb.lt
  by_cases h1 : g.point = f.point
  · have b1 : (g.point == f.point) = true := by simpa using h1
    have H1 := Lib.hid h1
    clear h1
    go_enter Try.func123, Try.ntmps123
    go_wp2
    go_ret
    refine ⟨ret_bool ?_, hB⟩
    unfold meetB
    rw [decide_eq_true H1.out, Bool.true_and]
    rw [Bool.eq_iff_iff]; simp
  · have b1 : (g.point == f.point) = false := by simpa using h1
    have H1 := Lib.hid h1
    clear h1
    go_enter Try.func123, Try.ntmps123
    go_wp2
    go_ret
    refine ⟨ret_bool ?_, hB⟩
    unfold meetB
    rw [decide_eq_false H1.out, Bool.false_and]

set_option maxHeartbeats 400000 in
theorem indexMeet_c {A : Nat → Prop} {w : World} {v : Value} {l : List Fu} (h : FusM A w v l) {f : Fu} {b : Nat} (hb : Blk b #[.int .i64 f.point, .int .i64 f.year, .int .i64 f.off] 76 w) :
    Calls Try.prog 130 #[v, .func (.func 123) #[] #[.pointer (some ⟨b, 0, none⟩)]] w fun e w' => ∃ i : Int, e = .returned (.int .i64 i) ∧ decide (0 ≤ i) = l.any (meetB f) ∧ Below w.heap.size w w' := by
  obtain ⟨a1, c1, rfl, hc1, hm1⟩ := h.shape
  have n1 := h.len
  go_enter Try.func130, Try.ntmps130
  go_wp2_with fail
  go_loopw [8] (fun i wr => ∃ k : Nat, k ≤ l.length ∧ i = .int .i64 k ∧ Hid (l.any (meetB f) = (l.drop k).any (meetB f)) ∧ Below w.heap.size w wr) (fun i _ => l.length - (intOf i).toNat)
  case atStart => exact ⟨0, Nat.zero_le _, rfl, Lib.hid rfl, Below.refl _ _⟩
  case round =>
    obtain ⟨k, hk, rfl, HE, hB⟩ := hrel
    by_cases hlt : k < l.length
    · obtain ⟨g, o, rfl, hA, hg⟩ := fus_addr h (by omega)
      obtain ⟨d0, d1, d2⟩ := fus_at (h.call hB) k hlt
      have HS := Lib.hid (List.drop_eq_getElem_cons hlt)
      cases hm : meetB f l[k] with
      | true =>
        go_wp2_with fail
        refine (meet_c (g := l[k]) (hb.call hB)).mono ?_
        rintro e w2 ⟨rfl, hB2⟩
        go_wp2_with fail
        go_ret
        refine ⟨(k : Int), rfl, ?_, hB.trans (hB2.mono hB.size)⟩
        rw [HE.out, HS.out, List.any_cons, hm]
        simp
      | false =>
        go_wp2_with fail
        refine (meet_c (g := l[k]) (hb.call hB)).mono ?_
        rintro e w2 ⟨rfl, hB2⟩
        go_wp2_with fail
        go_roundw
        case rel => exact ⟨k + 1, by omega, by go_num, Lib.hid (by rw [HE.out, HS.out, List.any_cons, hm, Bool.false_or]), hB.trans (hB2.mono hB.size)⟩
        case measure => simp [intOf]; omega
    · go_wp2_with fail
      go_ret
      refine ⟨-1, rfl, ?_, hB⟩
      rw [HE.out, List.drop_eq_nil_of_le (by omega)]
      rfl

theorem containsMeet_c {A : Nat → Prop} {w : World} {v : Value} {l : List Fu} (h : FusM A w v l) {f : Fu} {b : Nat} (hb : Blk b #[.int .i64 f.point, .int .i64 f.year, .int .i64 f.off] 76 w) :
    Calls Try.prog 122 #[v, .func (.func 123) #[] #[.pointer (some ⟨b, 0, none⟩)]] w fun e w' => e = .returned (.bool (l.any (meetB f))) ∧ Below w.heap.size w w' := by
  go_enter Try.func122, Try.ntmps122
  go_wp2_with fail
  refine (indexMeet_c h hb).mono ?_
  rintro e w2 ⟨i, rfl, hi, hB2⟩
  go_wp2_with fail
  go_ret
  exact ⟨ret_bool (by rw [← hi]), hB2⟩

theorem furE_drop {P : Int} {l : List Fu} {k : Nat} (hk : k < l.length) : furE P (l.take k) (l.drop k) =
    if ¬ (0 ≤ l[k].point ∧ l[k].point ≤ P - 1) then 3 else if ¬ ((0 ≤ l[k].year ∧ l[k].year ≤ 30) ∧ (0 ≤ l[k].off ∧ l[k].off ≤ 9)) then 1 else if (l.take k).any (meetB l[k]) = true then 4 else furE P (l.take (k + 1)) (l.drop (k + 1)) := by
  rw [List.drop_eq_getElem_cons hk, List.take_succ_eq_append_getElem hk]
  rfl

set_option maxHeartbeats 1000000 in
theorem furErr_c {A : Nat → Prop} {w : World} {P : Int} (hP : 1 ≤ P ∧ P ≤ 4) (B : Int) (vx : Value) {v : Value} {l : List Fu} (h : FusM A w v l) :
    Calls Try.prog 109 #[.agg #[.int .i64 P, .int .i64 B, vx], v] w fun e w' => e = .returned (.int .i64 (furX P l)) ∧ Below w.heap.size w w' := by
  obtain ⟨a1, c1, rfl, hc1, hm1⟩ := h.shape
  have n1 := h.len
  obtain ⟨w1, hw1⟩ : ∃ w1, w1 = w.alloc (.cells #[.int .i64 P, .int .i64 B, vx] 24) := ⟨_, rfl⟩
  obtain ⟨b0, hb0⟩ : ∃ b, b = w.heap.size := ⟨_, rfl⟩
  have hX : Blk b0 #[.int .i64 P, .int .i64 B, vx] 24 w1 := by rw [hw1, hb0]; exact blk_at rfl _ _
  have hB1 : Below w.heap.size w w1 := by rw [hw1]; exact (Below.refl _ w).alloc (Nat.le_refl _) _
  have h1 := h.call hB1
  have HP := Lib.hid hP
  have bw1 : IntKind.i64.wrap (P - 1) = P - 1 := IntWalk.i64_in _ (by omega)
  clear hP
  by_cases h8 : 8 < l.length
  · have HE := Lib.hid (show furX P l = 6 by unfold furX; rw [if_pos h8])
    go_enter Try.func109, Try.ntmps109
    go_wp2_with fail
    go_ret
    rw [← hw1]
    exact ⟨ret_int HE.out.symm, hB1⟩
  · have HE := Lib.hid (show furX P l = furE P [] l by unfold furX; rw [if_neg h8])
    go_enter Try.func109, Try.ntmps109
    go_upto_region 1 with fail
    rw [← hw1, ← hb0]
    clear hw1 hb0
    go_wp2_with fail
    go_loopw [12] (fun i wr => ∃ k : Nat, k ≤ l.length ∧ i = .int .i64 k ∧ Hid (furX P l = furE P (l.take k) (l.drop k)) ∧ Below w1.heap.size w1 wr) (fun i _ => l.length - (intOf i).toNat)
    case atStart => exact ⟨0, Nat.zero_le _, rfl, Lib.hid HE.out, Below.refl _ _⟩
    case round =>
      obtain ⟨k, hk, rfl, HR, hB⟩ := hrel
      have hXr := hX.call hB
      have hbl := hXr.lt
      have hBz := hB1.trans (hB.mono hB1.size)
      by_cases hlt : k < l.length
      · obtain ⟨g, o, rfl, hA, hg⟩ := fus_addr h1 (by omega)
        have hr := h1.call hB
        obtain ⟨d0, d1, d2⟩ := fus_at hr k hlt
        have c0 := hXr.cell 0
        have HD := Lib.hid (furE_drop (P := P) hlt)
        obtain ⟨f, hf⟩ : ∃ f, f = l[k] := ⟨_, rfl⟩
        rw [← hf] at d0 d1 d2 HD
        clear hf
        have hB3 := (Below.refl wr.heap.size wr).alloc (Nat.le_refl _) (.cells #[.int .i64 f.point, .int .i64 f.year, .int .i64 f.off] 76)
        have hF3 : Blk wr.heap.size #[.int .i64 f.point, .int .i64 f.year, .int .i64 f.off] 76 (wr.alloc (.cells #[.int .i64 f.point, .int .i64 f.year, .int .i64 f.off] 76)) := Blk.new _ _ _
        have hr3 := (hr.call hB3).take hk
        have hBq := hB.trans (hB3.mono hB.size)
        cases b1 : btwB f.point 0 (P - 1) with
        | false =>
          have B1 := Lib.hid (show ¬ (0 ≤ f.point ∧ f.point ≤ P - 1) from fun hh => by rw [btwB_iff.2 hh] at b1; exact absurd b1 (by decide))
          go_wp2_with (go_at_call 80; refine (between_c _ _ _ _).mono ?_; rintro e w' ⟨rfl, rfl⟩)
          go_ret
          exact ⟨ret_int (by rw [HR.out, HD.out, if_pos B1.out]), hB1.trans (hBq.mono hB1.size)⟩
        | true =>
          have B1 := Lib.hid (btwB_iff.1 b1)
          cases b2 : (btwB f.year 0 30 && btwB f.off 0 9) with
          | false =>
            have B2 := Lib.hid (show ¬ ((0 ≤ f.year ∧ f.year ≤ 30) ∧ (0 ≤ f.off ∧ f.off ≤ 9)) from fun hh => by rw [btwB_iff.2 hh.1, btwB_iff.2 hh.2] at b2; exact absurd b2 (by decide))
            cases b3 : btwB f.year 0 30 with
            | false =>
              clear b2
              go_wp2_with (go_at_call 80; refine (between_c _ _ _ _).mono ?_; rintro e w' ⟨rfl, rfl⟩)
              go_ret
              exact ⟨ret_int (by rw [HR.out, HD.out, if_neg (not_not_intro B1.out), if_pos B2.out]), hB1.trans (hBq.mono hB1.size)⟩
            | true =>
              rw [b3, Bool.true_and] at b2
              go_wp2_with (go_at_call 80; refine (between_c _ _ _ _).mono ?_; rintro e w' ⟨rfl, rfl⟩)
              go_ret
              exact ⟨ret_int (by rw [HR.out, HD.out, if_neg (not_not_intro B1.out), if_pos B2.out]), hB1.trans (hBq.mono hB1.size)⟩
          | true =>
            rw [Bool.and_eq_true] at b2
            obtain ⟨b3, b4⟩ := b2
            have B2 := Lib.hid (And.intro (btwB_iff.1 b3) (btwB_iff.1 b4))
            cases hany : (l.take k).any (meetB f) with
            | true =>
              go_wp2_with (first | (go_at_call 80; refine (between_c _ _ _ _).mono ?_; rintro e w' ⟨rfl, rfl⟩) | (go_at_call 122; refine (containsMeet_c hr3 hF3).mono ?_; rintro e w4 ⟨rfl, hB4⟩))
              go_ret
              exact ⟨ret_int (by rw [HR.out, HD.out, if_neg (not_not_intro B1.out), if_neg (not_not_intro B2.out), if_pos hany]), hB1.trans ((bnx hBq hB4).mono hB1.size)⟩
            | false =>
              go_wp2_with (first | (go_at_call 80; refine (between_c _ _ _ _).mono ?_; rintro e w' ⟨rfl, rfl⟩) | (go_at_call 122; refine (containsMeet_c hr3 hF3).mono ?_; rintro e w4 ⟨rfl, hB4⟩))
              go_roundw
              case rel => exact ⟨k + 1, by omega, by go_num, Lib.hid (by rw [HR.out, HD.out, if_neg (not_not_intro B1.out), if_neg (not_not_intro B2.out), if_neg (by rw [hany]; decide)]), bnx hBq hB4⟩
              case measure => simp [intOf]; omega
      · obtain rfl : k = l.length := by omega
        go_wp2_with fail
        go_ret
        exact ⟨ret_int (by rw [HR.out, List.drop_length]; rfl), hBz⟩

end Go.Proofs.Ytgdifckmjdjcpaa
