/- The list of the numbers that words are (lots); conditions: the library's error variable holds an error or nil. -/
import Derived.Test.YtmlikgjfpmjdcaaGreatDoorA9
import Derived.Test.YtmlikgjfpmjdcaaGreatDoorRd1
namespace Go.Proofs.YtmlikgjfpmjdcaaGreatDoor
open Go.RowKit

theorem EV.call {w w' : World} (h : EV w) (h3 : 3 ≤ w.heap.size) (hB : Below w.heap.size w w') : EV w' := by
  obtain ⟨ev, hv, hev⟩ := h
  refine ⟨ev, ?_, hev⟩
  rw [← hv]
  exact hB.cell (p := ⟨2, 0, none⟩) (show 2 < w.heap.size by omega)
/-- Words in memory. -/
def SW (b off : Nat) (ws : List (List UInt8)) (w : World) : Prop := b < w.heap.size ∧ ∀ j (h : j < ws.length), w.cell? ⟨b, off + j, none⟩ = some (.string (str ws[j]))
theorem SW.call {b off : Nat} {ws : List (List UInt8)} {w w' : World} (h : SW b off ws w) (hB : Below w.heap.size w w') : SW b off ws w' :=
  ⟨by have := hB.size; have := h.1; omega, fun j hj => (hB.cell (p := ⟨b, off + j, none⟩) (show b < w.heap.size from h.1)).trans (h.2 j hj)⟩
theorem SW.below {B b off : Nat} {ws : List (List UInt8)} {w w' : World} (h : SW b off ws w) (hB : Below B w w') (hb : b < B) : SW b off ws w' :=
  ⟨by have := hB.size; have := h.1; omega, fun j hj => (hB.cell (p := ⟨b, off + j, none⟩) (show b < B from hb)).trans (h.2 j hj)⟩
theorem numsL_app : ∀ {a : List (List UInt8)} {l : List Int} {s : List UInt8} {x : Int}, numsL a = some l → numL s = some x → numsL (a ++ [s]) = some (l ++ [x])
  | [], l, s, x, h, hx => by
    injection h with h
    subst h
    show numsL [s] = _
    unfold numsL
    rw [hx]
    rfl
  | b :: a, l, s, x, h, hx => by
    unfold numsL at h
    cases hb : numL b with
    | none => rw [hb] at h; cases h
    | some n =>
      cases hr : numsL a with
      | none => rw [hb, hr] at h; cases h
      | some l' =>
        rw [hb, hr] at h
        injection h with h
        subst h
        rw [List.cons_append]
        unfold numsL
        rw [hb, numsL_app hr hx]
        rfl
theorem numsL_none : ∀ {a : List (List UInt8)} {s : List UInt8}, s ∈ a → numL s = none → numsL a = none
  | b :: a, s, h, hs => by
    unfold numsL
    rcases List.mem_cons.1 h with rfl | h
    · rw [hs]
    · rw [numsL_none h hs]
      cases numL b <;> rfl

set_option maxRecDepth 100000 in
set_option maxHeartbeats 2000000 in
theorem list2_c (n : Int) (ws : List (List UInt8)) (ao : Option Addr) (cap : Nat) (w : World) (hE : EV w) (h3 : 3 ≤ w.heap.size) (hs : ∀ s ∈ ws, s.length ≤ 100000) (hw : ws.length ≤ 100000) (hW : ws = [] ∨ ∃ b off, ao = some ⟨b, off, none⟩ ∧ SW b off ws w) :
    Calls Tryz.prog 65 #[.agg #[.int .i64 n], .slice ao ws.length cap] w fun e w' => ((∃ l v', listR ws = some l ∧ e = .returned v' ∧ Ints (fun k => w.heap.size ≤ k) w' v' l ∧ ∃ a c, v' = .slice a l.length c) ∨ (listR ws = none ∧ e = badP n)) ∧ Below w.heap.size w w' := by
  obtain ⟨w1, hw1⟩ : ∃ w1, w1 = w.alloc (.cells #[.int .i64 n] 114) := ⟨_, rfl⟩
  obtain ⟨b1, hb1⟩ : ∃ b, b = w.heap.size := ⟨_, rfl⟩
  have hX1 : Blk b1 #[.int .i64 n] 114 w1 := by rw [hw1, hb1]; exact Blk.new _ _ _
  have hB1 : Below w.heap.size w w1 := by rw [hw1]; exact (Below.refl _ w).alloc (Nat.le_refl _) _
  have hE1 := hE.call h3 hB1
  by_cases hnil : ws = []
  · subst hnil
    have hn : listR [] = none := rfl
    go_enter Tryz.func65, Tryz.ntmps65
    go_upto_region 1 with fail
    rw [← hw1, ← hb1]
    clear hw1 hb1
    have c0 := hX1.cell 0
    go_wp2_with fail
    first | exact ⟨.inr ⟨hn, rfl⟩, hB1⟩ | exact ⟨rfl, .inr ⟨hn, rfl⟩, hB1⟩ | exact ⟨rfl, hB1⟩ | exact ⟨rfl, rfl, hB1⟩ | exact ⟨rfl, rfl, rfl, hB1⟩
  · obtain ⟨b, off, rfl, hS⟩ := hW.resolve_left hnil
    have hpos : 0 < ws.length := List.length_pos_iff.2 hnil
    have hS1 := hS.call hB1
    have e0 : ((ws.length : Int) == 0) = false := by rw [beq_eq_false_iff_ne]; omega
    have hls : listR ws = numsL ws := by unfold listR; rw [if_neg hnil]
    have HLS := Lib.hid hls
    clear hls
    go_enter Tryz.func65, Tryz.ntmps65
    go_upto_region 1 with fail
    rw [← hw1, ← hb1]
    have hb1w : w.heap.size ≤ b1 := Nat.le_of_eq hb1.symm
    have h31 : 3 ≤ w1.heap.size := by have := hB1.size; omega
    clear hw1 hb1
    go_wp2_with fail
    go_loopw [5, 15] (fun vo vi wr => ∃ (k : Nat) (l : List Int), k ≤ ws.length ∧ vi = .int .i64 k ∧ Hid (numsL (ws.take k) = some l) ∧ Own w1.heap.size wr 3 1 vo l.length (I64 l) ∧ Below w1.heap.size w1 wr) (fun _ vi _ => ws.length - (intOf vi).toNat)
    case atStart => exact ⟨0, [], Nat.zero_le _, rfl, Lib.hid rfl, Own.nil, Below.refl _ _⟩
    case round =>
      obtain ⟨k, l, hk, rfl, HL, hO, hB⟩ := hrel
      have hXr := hX1.call hB
      have hSr := hS1.call hB
      have hEr := hE1.call h31 hB
      have h3r : 3 ≤ wr.heap.size := by have := hB.size; omega
      obtain ⟨av, cv, rfl⟩ := own_slice hO
      have hll : l.length ≤ 100000 := by
        have e := (numsL_some HL.out).1
        have := congrArg List.length e
        simp only [List.length_take, List.length_map] at this
        omega
      by_cases hlt : k < ws.length
      · have d0 := hSr.2 k hlt
        have c0 := hXr.cell 0
        obtain ⟨s, hsd⟩ : ∃ s, s = ws[k] := ⟨_, rfl⟩
        have hsm : s ∈ ws := by rw [hsd]; exact List.getElem_mem _
        rw [← hsd] at d0
        have HSD := Lib.hid hsd
        clear hsd
        go_wp2_with fail
        refine (number_c n s wr hEr h3r (hs s hsm)).mono ?_
        rintro e w2 ⟨(⟨x, hx, rfl⟩ | ⟨hx, rfl⟩), hB2⟩
        · have hz2 : w1.heap.size ≤ w2.heap.size := by have := hB.size; have := hB2.size; omega
          have hO2 := (hO.call hB2).alloc (.cells #[.int .i64 x] 3)
          clear c0 d0
          go_wp2_with (at_builtin; go_loud (refine wpList_append_arr rfl _ _ 22 rfl 3 (.int .i64 0) 1 8 Tryz.underlying22 Tryz.info3 rfl (by decide) (by decide) (by simp; omega) hO2 rfl (arr_one w2 3 (.int .i64 x)) rfl rfl (one_int _) (by omega) ?_); intro v9 w9 hown hT9)
          have hB9 := hT9.below2 (B' := w1.heap.size) hO2 ((bnw hB hB2).alloc hz2 _) (by simp; omega) (Nat.le_refl _)
          go_roundw
          case rel =>
            refine ⟨k + 1, l ++ [x], by omega, by go_num, Lib.hid ?_, ?_, hB9⟩
            · rw [List.take_succ_eq_append_getElem hlt, ← HSD.out]
              exact numsL_app HL.out hx
            · rw [I64_append, List.length_append]
              exact hown
          case measure => simp [intOf]; omega
        · have hn : listR ws = none := by rw [HLS.out]; exact numsL_none hsm hx
          have hBn := bnw hB1 (bnw hB hB2)
          go_wp2_with fail
          first | exact ⟨.inr ⟨hn, rfl⟩, hBn⟩ | exact ⟨rfl, .inr ⟨hn, rfl⟩, hBn⟩
      · obtain rfl : k = ws.length := by omega
        have hl := HL.out
        rw [List.take_length] at hl
        have HL2 := Lib.hid hl
        clear hl HL
        go_wp2_with fail
        go_ret
        refine ⟨.inl ⟨l, _, by rw [HLS.out]; exact HL2.out, rfl, ?_, _, _, rfl⟩, bnw hB1 hB⟩
        exact (Own.ints hO).wide fun q hq _ => by have := hB1.size; omega

end Go.Proofs.YtmlikgjfpmjdcaaGreatDoor
