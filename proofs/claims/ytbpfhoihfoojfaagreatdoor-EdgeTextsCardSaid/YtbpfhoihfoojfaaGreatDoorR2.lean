/- The reference's pairs of names and numbers; conditions: as said at each. -/
import Derived.Test.YtbpfhoihfoojfaaGreatDoorR1
import Derived.Test.YtbpfhoihfoojfaaGreatDoorNu1
namespace Go.Proofs.YtbpfhoihfoojfaaGreatDoor
open Go.RowKit

/-- Names and numbers in turn. -/
def prN (names : List (List UInt8)) : List (List UInt8) := names.flatMap fun n => [n, []]
theorem prN_cons (n : List UInt8) (ns : List (List UInt8)) : prN (n :: ns) = n :: [] :: prN ns := rfl
theorem prN_len : ∀ names : List (List UInt8), (prN names).length = 2 * names.length
  | [] => rfl
  | n :: ns => by rw [prN_cons, List.length_cons, List.length_cons, prN_len ns, List.length_cons]; omega
theorem prN_empty (names : List (List UInt8)) (k : Nat) (h : k < names.length) : (prN (names.drop (k + 1))).isEmpty = decide (k + 1 = names.length) := by
  rw [← drop_empty names k h]
  cases names.drop (k + 1) <;> rfl
theorem pair_at {sg : Bool} {names ws : List (List UInt8)} {k : Nat} (h1 : k < names.length) (h2 : 2 * k + 1 < ws.length) (hn : names[k] ≠ []) :
    formL sg (prN (names.drop k)) (ws.drop (2 * k)) = if ws[2 * k] = names[k] then (sgnL (sg && (prN (names.drop (k + 1))).isEmpty) ws[2 * k + 1]).bind fun a => (formL sg (prN (names.drop (k + 1))) (ws.drop (2 * (k + 1)))).map (a :: ·) else none := by
  rw [List.drop_eq_getElem_cons h1, prN_cons, List.drop_eq_getElem_cons (show 2 * k < ws.length by omega), List.drop_eq_getElem_cons h2]
  conv => lhs; unfold formL
  rw [if_neg hn]
  split
  · conv => lhs; unfold formL
    rw [if_pos rfl]
    rw [show 2 * (k + 1) = 2 * k + 1 + 1 by omega]
    cases sgnL (sg && (prN (names.drop (k + 1))).isEmpty) ws[2 * k + 1] <;> rfl
  · rfl
/-- The reference's test of a sign. -/
def cndP (sg : Bool) (k n : Nat) (wd : List UInt8) : Bool := sg && (decide (k + 1 = n) && (decide (1 < wd.length) && (decide (wd.head? = some 45) && decide (wd ≠ [45, 48]))))
theorem sgnL_ref (sg : Bool) (k n : Nat) (e : Bool) (wd : List UInt8) (h : e = decide (k + 1 = n)) :
    sgnL (sg && e) wd = (numL (if cndP sg k n wd then wd.tail else wd)).map fun m => (if cndP sg k n wd then -1 else 1) * m := by
  subst h
  by_cases hc : cndP sg k n wd = true
  · have h2 := hc
    simp only [cndP, Bool.and_eq_true, decide_eq_true_eq] at h2
    obtain ⟨a, b, c, d, f⟩ := h2
    have ht : wd.tail ≠ [48] := fun x => f (by
      cases wd with
      | nil => simp at c
      | cons y r => simp at d x; rw [d, x])
    unfold sgnL
    rw [if_pos ⟨by simp [a, b], d, ht⟩]
    simp only [hc, if_true]
    congr 1
    funext m
    omega
  · simp only [hc, if_false, Int.one_mul, Option.map_id', Bool.false_eq_true]
    unfold sgnL
    split
    · rename_i hx
      obtain ⟨x1, x2, x3⟩ := hx
      simp only [Bool.and_eq_true, decide_eq_true_eq] at x1
      cases wd with
      | nil => cases x2
      | cons y r =>
        have hy : y = 45 := by simpa using x2
        subst hy
        cases r with
        | nil => simp [numL]
        | cons z q =>
          refine absurd ?_ hc
          have x3 : (z :: q) ≠ [48] := x3
          simp only [cndP, Bool.and_eq_true, decide_eq_true_eq]
          refine ⟨x1.1, x1.2, by simp, rfl, fun e => x3 ?_⟩
          injection e
    · rfl

attribute [local go_sem] str_toList
set_option maxRecDepth 100000 in
set_option maxHeartbeats 4000000 in
theorem pairs_r (sg : Bool) (names ws : List (List UInt8)) (hnn : ∀ n ∈ names, n ≠ []) (hn0 : 0 < names.length) (hnl : names.length ≤ 1000) (bn on cn : Nat) (ao : Option Addr) (cap : Nat) (w : World) (hN : SW bn on names w) (hW : ws = [] ∨ ∃ b off, ao = some ⟨b, off, none⟩ ∧ SW b off ws w) (hwl : ∀ s ∈ ws, s.length ≤ 100000) (hwm : ws.length ≤ 100000) :
    Calls Tryz.prog 40 #[.slice ao ws.length cap, .slice (some ⟨bn, on, none⟩) names.length cn, .bool sg] w (NmPost sg (prN names) ws w) := by
  have bm : IntKind.i64.wrap (2 * (names.length : Int)) = 2 * (names.length : Int) := IntWalk.i64_in _ (by omega)
  by_cases hll : ws.length = 2 * names.length
  · obtain ⟨b, off, rfl, hS⟩ := hW.resolve_left (fun e => by rw [e] at hll; simp at hll; omega)
    have e1 : ((ws.length : Int) != 2 * (names.length : Int)) = false := by rw [bne_eq_false_iff_eq]; omega
    have hle1 : ws.length ≤ 2 * names.length := Nat.le_of_eq hll
    have hle2 : 2 * names.length ≤ ws.length := Nat.le_of_eq hll.symm
    have HNN := Lib.hid hnn
    clear hll hnn
    go_enter Tryz.func40, Tryz.ntmps40
    go_wp2_with fail
    go_loopw [8, 9] (fun vo vi wr => ∃ (k : Nat) (l : List Int), k ≤ names.length ∧ vi = .int .i64 k ∧ l.length ≤ k ∧ Hid (formL sg (prN names) ws = (formL sg (prN (names.drop k)) (ws.drop (2 * k))).map (l ++ ·)) ∧ Own w.heap.size wr 3 1 vo l.length (I64 l) ∧ Below w.heap.size w wr) (fun _ vi _ => names.length - (intOf vi).toNat)
    case atStart => exact ⟨0, [], Nat.zero_le _, rfl, Nat.le_refl _, Lib.hid (by simp), Own.nil, Below.refl _ _⟩
    case round =>
      obtain ⟨k, l, hk, rfl, hlk, HI, hO, hB⟩ := hrel
      obtain ⟨av, cv, rfl⟩ := own_slice hO
      have hNr := hN.call hB
      have hSr := hS.call hB
      have hzr := hB.size
      by_cases hlt : k < names.length
      · have hltw : 2 * k + 1 < ws.length := by omega
        have hfa := pair_at (sg := sg) hlt hltw (HNN.out _ (List.getElem_mem hlt))
        have hde := prN_empty names k hlt
        have d0 := hNr.2 k hlt
        have d1 := hSr.2 (2 * k) (by omega)
        have d2 := hSr.2 (2 * k + 1) hltw
        have hwk := hwl _ (List.getElem_mem hltw)
        obtain ⟨nm, hnm⟩ : ∃ x, x = names[k] := ⟨_, rfl⟩
        obtain ⟨wa, hwa⟩ : ∃ x, x = ws[2 * k] := ⟨_, rfl⟩
        obtain ⟨wd, hwd⟩ : ∃ x, x = ws[2 * k + 1] := ⟨_, rfl⟩
        rw [← hnm, ← hwa, ← hwd] at hfa
        rw [← hnm] at d0
        rw [← hwa] at d1
        rw [← hwd] at d2 hwk
        rw [sgnL_ref sg k names.length _ wd hde] at hfa
        obtain ⟨j, hj⟩ : ∃ j, j = 2 * k := ⟨_, rfl⟩
        have b2k : IntKind.i64.wrap (2 * (k : Int)) = (j : Int) := by rw [IntWalk.i64_in _ (by omega)]; omega
        have b2k1 : IntKind.i64.wrap ((j : Int) + 1) = ((j + 1 : Nat) : Int) := by rw [IntWalk.i64_in _ (by omega)]; omega
        rw [← hj] at d1 d2
        have hj1 : j + 1 < ws.length := by omega
        have HFA := Lib.hid hfa
        have HJ := Lib.hid hj
        clear hfa hde hnm hwa hwd hj
        obtain ⟨cn', hcn⟩ : ∃ x, x = cndP sg k names.length wd := ⟨_, rfl⟩
        have HCN := Lib.hid hcn
        clear hcn
        go_upto_region 8 with fail
        go_cut [53] from 32 to 54 (fun s53 wx => s53 = .bool cn' ∧ wx = wr)
        case first =>
          cases sg with
          | false =>
            go_wp2_with fail
            go_meet
            case rel => exact ⟨by rw [HCN.out]; simp [cndP], rfl⟩
          | true =>
            have bnn : IntKind.i64.wrap ((names.length : Int) - 1) = (names.length : Int) - 1 := IntWalk.i64_in _ (by omega)
            by_cases hl : k + 1 = names.length
            · have bl : ((k : Int) == (names.length : Int) - 1) = true := by rw [beq_iff_eq]; omega
              have HL := Lib.hid hl
              clear hl
              have hz := str_size wd
              by_cases h1 : 1 < wd.length
              · have bd1 : decide ((1 : Int) < (wd.length : Int)) = true := decide_eq_true (by omega)
                obtain ⟨x0, hx0⟩ : ∃ x, x = wd[0] := ⟨_, rfl⟩
                have hix : (str wd)[0]'(by rw [str_size]; omega) = x0 := by rw [hx0]; rfl
                have hh : wd.head? = some x0 := by rw [List.head?_eq_getElem?, List.getElem?_eq_getElem (by omega), hx0]
                have HH := Lib.hid hh
                clear hx0 hh
                by_cases h45 : x0 = 45
                · have b45 : ((x0.toNat : Int) == 45) = true := by rw [h45]; rfl
                  have H45 := Lib.hid h45
                  clear h45
                  by_cases h0 : wd = [45, 48]
                  · have b0 : (wd == [45, 48]) = true := by rw [h0]; rfl
                    have b1 : (wd != [45, 48]) = false := by rw [h0]; rfl
                    have H0 := Lib.hid h0
                    clear h0
                    go_wp2_with fail
                    go_meet
                    case rel => exact ⟨by rw [HCN.out]; simp [cndP, H0.out], rfl⟩
                  · have b0 : (wd == [45, 48]) = false := by rw [beq_eq_false_iff_ne]; exact h0
                    have b1 : (wd != [45, 48]) = true := by rw [bne_iff_ne]; exact h0
                    have H0 := Lib.hid h0
                    clear h0
                    go_wp2_with fail
                    go_meet
                    case rel => exact ⟨by rw [HCN.out]; simp [cndP, H0.out, HL.out, h1, HH.out, H45.out], rfl⟩
                · have b45 : ((x0.toNat : Int) == 45) = false := by
                    rw [beq_eq_false_iff_ne]
                    intro e
                    exact h45 (by rw [← UInt8.toNat_inj]; have : x0.toNat = 45 := by omega
                                  rw [this]; rfl)
                  have H45 := Lib.hid h45
                  clear h45
                  go_wp2_with fail
                  go_meet
                  case rel => exact ⟨by rw [HCN.out]; simp [cndP, HH.out, H45.out], rfl⟩
              · have bd1 : decide ((1 : Int) < (wd.length : Int)) = false := decide_eq_false (by omega)
                have H1 := Lib.hid h1
                go_wp2_with fail
                go_meet
                case rel => exact ⟨by rw [HCN.out]; simp [cndP, H1.out], rfl⟩
            · have bl : ((k : Int) == (names.length : Int) - 1) = false := by rw [beq_eq_false_iff_ne]; omega
              have HL := Lib.hid hl
              clear hl
              go_wp2_with fail
              go_meet
              case rel => exact ⟨by rw [HCN.out]; simp [cndP, HL.out], rfl⟩
        case rest =>
        obtain ⟨rfl, rfl⟩ := hcut
        rename World => wr
        obtain ⟨t, ht⟩ : ∃ t, t = (if cn' then wd.tail else wd) := ⟨_, rfl⟩
        obtain ⟨sn, hsn⟩ : ∃ t : Int, t = (if cn' then -1 else 1) := ⟨_, rfl⟩
        have htl : t.length ≤ 100000 := by
          rw [ht]
          split
          · rw [List.length_tail]; omega
          · exact hwk
        have hHF := HFA.out
        rw [← HCN.out, ← ht, ← hsn] at hHF
        have HF3 := Lib.hid hHF
        have HT := Lib.hid ht
        have HSN := Lib.hid hsn
        clear ht hsn hHF HFA
        go_upto_if 53 with fail
        go_cut [10, 11] from 54 to 56 (fun s10 s11 wx => s10 = .string (str t) ∧ s11 = .int .i64 sn ∧ wx = wr)
        case first =>
          cases cn' with
          | true =>
            have hz := str_size wd
            have hw1 : 1 < wd.length := by
              have := HCN.out
              simp only [cndP, eq_comm (a := true), Bool.and_eq_true, decide_eq_true_eq] at this
              exact this.2.2.1
            have hse : (str wd).extract 1 wd.length = str wd.tail := by
              rw [str_ext, List.drop_one, List.take_of_length_le (by rw [List.length_tail]; omega)]
            go_wp2_with fail
            go_meet
            case rel => exact ⟨by rw [HT.out]; rfl, by rw [HSN.out]; rfl, rfl⟩
          | false =>
            go_wp2_with fail
            go_meet
            case rel => exact ⟨by rw [HT.out]; rfl, by rw [HSN.out]; rfl, rfl⟩
        case rest =>
        obtain ⟨rfl, rfl, rfl⟩ := hcut
        rename World => wr
        have HDG := Lib.hid (digits_r t wr htl)
        go_wp2_with fail
        refine HDG.out.mono ?_
        rintro e w' ⟨(⟨m, hm, rfl⟩ | ⟨hm, rfl⟩), rfl⟩
        · rename World => wr
          have q1 := (Qt.refl wr).drewN 1
          have f0 := (q1.below wr.heap.size).cell (p := ⟨bn, on + k, none⟩) (show bn < wr.heap.size from hNr.1)
          have f1 := (q1.below wr.heap.size).cell (p := ⟨b, off + j, none⟩) (show b < wr.heap.size from hSr.1)
          rw [d0] at f0
          rw [d1] at f1
          clear q1
          by_cases hw : wa = nm
          · have hb1 : (wa == nm) = true := by rw [beq_iff_eq]; exact hw
            have hb2 : (wa != nm) = false := by rw [bne_eq_false_iff_eq]; exact hw
            have hmb := numL_some hm
            have hv : -100 < sn * m ∧ sn * m < 100 := by
              rw [HSN.out]
              cases cn'
              · simp; omega
              · simp; omega
            obtain ⟨v, hv'⟩ : ∃ v, v = sn * m := ⟨_, rfl⟩
            have bw : IntKind.i64.wrap (sn * m) = v := by rw [hv']; exact IntWalk.i64_in _ (by omega)
            rw [← hv'] at hv
            have HFI := Lib.hid (show formL sg (prN names) ws = (formL sg (prN (names.drop (k + 1))) (ws.drop (2 * (k + 1)))).map (fun r => (l ++ [v]) ++ r) by
              rw [HI.out, HF3.out, hm, if_pos hw]
              show Option.map _ (Option.map _ (formL sg (prN (names.drop (k + 1))) (ws.drop (2 * (k + 1))))) = _
              rw [Option.map_map]
              congr 1
              funext r
              simp [hv'])
            clear hm hv' hmb hw
            go_wp2_with fail
            go_quiet (fail)
            have hq : Qt wr (wr.drewN nq) := ⟨nq, rfl⟩
            generalize wr.drewN nq = wq at hq ⊢
            clear d0 d1 d2 f0 f1
            have hOq := hO.qt hq
            have hBq := bnw hB (hq.below _)
            have hO2 := hOq.alloc (.cells #[.int .i64 v] 3)
            have hzq : wr.heap.size ≤ wq.heap.size := Nat.le_of_eq hq.size.symm
            go_wp2_with (at_builtin; go_loud (refine wpList_append_arr rfl _ _ 26 rfl 3 (.int .i64 0) 1 8 Tryz.underlying26 Tryz.info3 rfl (by decide) (by decide) (by simp; omega) hO2 rfl (arr_one wq 3 (.int .i64 v)) rfl rfl (one_int _) (by omega) ?_); intro v9 w9 hown hT9)
            have hB9 := hT9.below2 (B' := w.heap.size) hO2 (hBq.alloc (by omega) _) (by simp; omega) (Nat.le_refl _)
            go_roundw
            case rel =>
              refine ⟨k + 1, l ++ [v], by omega, by go_num, by simp; omega, HFI, ?_, hB9⟩
              rw [I64_append, List.length_append]
              exact hown
            case measure => simp [intOf]; omega
          · have hb1 : (wa == nm) = false := by rw [beq_eq_false_iff_ne]; exact hw
            have hb2 : (wa != nm) = true := by rw [bne_iff_ne]; exact hw
            have HN := Lib.hid (show formL sg (prN names) ws = none by
              rw [HI.out, HF3.out, if_neg hw]; rfl)
            clear hm hw
            go_wp2_with fail
            go_quiet (fail)
            have hq : Qt wr (wr.drewN nq) := ⟨nq, rfl⟩
            generalize wr.drewN nq = wq at hq ⊢
            go_wp2_with fail
            go_ret2
            exact nm_none HN.out (bnw hB (hq.below _))
        · rename World => wr
          have HN := Lib.hid (show formL sg (prN names) ws = none by
            rw [HI.out, HF3.out, hm]
            split <;> rfl)
          clear hm
          go_wp2_with fail
          go_quiet (fail)
          have hq : Qt wr (wr.drewN nq) := ⟨nq, rfl⟩
          generalize wr.drewN nq = wq at hq ⊢
          go_wp2_with fail
          go_ret2
          exact nm_none HN.out (bnw hB (hq.below _))
      · obtain rfl : k = names.length := by omega
        have HR := Lib.hid (show formL sg (prN names) ws = some l by
          rw [HI.out, List.drop_length, List.drop_of_length_le (by omega)]
          simp [formL, prN])
        go_wp2_with fail
        go_ret2
        refine ⟨_, by rw [HR.out]; rfl, ?_, hB⟩
        rw [HR.out]
        exact (Own.ints hO).wide fun q hq _ => hq
  · have e1 : ((ws.length : Int) != 2 * (names.length : Int)) = true := by rw [bne_iff_ne]; omega
    have hn := formL_ne (sg := sg) (ns := prN names) (ws := ws) (by rw [prN_len]; exact hll)
    have HN := Lib.hid hn
    clear hll hn
    go_enter Tryz.func40, Tryz.ntmps40
    go_wp2_with fail
    go_ret2
    exact nm_none HN.out (Below.refl _ _)

end Go.Proofs.YtbpfhoihfoojfaaGreatDoor
