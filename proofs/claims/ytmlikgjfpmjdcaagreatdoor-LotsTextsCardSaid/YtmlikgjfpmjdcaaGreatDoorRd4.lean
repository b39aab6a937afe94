/- The lines of a text taken (lots.take); conditions: the library's variables hold what their types let them. -/
import Derived.Test.YtmlikgjfpmjdcaaGreatDoorRdM
namespace Go.Proofs.YtmlikgjfpmjdcaaGreatDoor
open Go.RowKit

theorem blk_at {w : World} {k : Nat} (h : k = w.heap.size) (c : Array Value) (t : TypeId) : Blk k c t (w.alloc (.cells c t)) := by
  subst h
  exact Blk.new _ _ _
theorem cut_len (c : UInt8) : ∀ l, (cutL c l).length ≤ l.length + 1
  | [] => by simp [cutL]
  | x :: r => by
    have ih := cut_len c r
    have hn := List.length_pos_iff.2 (cutL_ne c r)
    unfold cutL
    split
    · simp; omega
    · simp; omega
theorem cut_word (c : UInt8) : ∀ l, ∀ a ∈ cutL c l, a.length ≤ l.length
  | [], a, h => by
    simp [cutL] at h
    simp [h]
  | x :: r, a, h => by
    have ih := cut_word c r
    unfold cutL at h
    split at h
    · rcases List.mem_cons.1 h with rfl | h
      · simp
      · have := ih a h
        simp; omega
    · cases hc : cutL c r with
      | nil => exact absurd hc (cutL_ne c r)
      | cons y t =>
        rw [hc] at h ih
        rcases List.mem_cons.1 h with rfl | h
        · have := ih y (by simp)
          simp; omega
        · have := ih a (by simp at h; simp [h])
          simp; omega
theorem TS.same {w0 w : World} {bc bl : Nat} {c : Com} {vm vv : Value} {ls : List Value} (h : TS w0 bc bl c vm vv ls w) : TS w0 bc bl c vm vv ls (((w.setCell ⟨bc, 0, none⟩ vm).setCell ⟨bc, 1, none⟩ vv).setCell ⟨bl, 0, none⟩ (.int .i64 0)) := by
  have ho := h.o
  have hk : ∀ q, q ≠ bc → q ≠ bl → (((w.setCell ⟨bc, 0, none⟩ vm).setCell ⟨bc, 1, none⟩ vv).setCell ⟨bl, 0, none⟩ (.int .i64 0)).heap[q]? = w.heap[q]? := fun q h1 h2 =>
    (Below.heap_setCell _ ⟨bl, 0, none⟩ _ q h2).trans ((Below.heap_setCell _ ⟨bc, 1, none⟩ _ q h1).trans (Below.heap_setCell _ ⟨bc, 0, none⟩ _ q h1))
  have hs : w.heap.size ≤ (((w.setCell ⟨bc, 0, none⟩ vm).setCell ⟨bc, 1, none⟩ vv).setCell ⟨bl, 0, none⟩ (.int .i64 0)).heap.size := by simp [World.setCell]
  exact ⟨((h.box.set 0 vm).set 1 vv).other (a := ⟨bl, 0, none⟩) (show bc ≠ bl by omega) _, (((h.line.other (a := ⟨bc, 0, none⟩) (show bl ≠ bc by omega) vm).other (a := ⟨bc, 1, none⟩) (show bl ≠ bc by omega) vv).set 0 (.int .i64 0)),
    h.im.step hs fun q hq _ => hk q (by have := hq.1; omega) (by have := hq.1; omega), Own.step h.ov fun q _ hq _ => hk q (by omega) (by omega), h.ll, fun i a b => (h.li i a b).step hs fun q hq _ => hk q (by have := hq.1; omega) (by have := hq.1; omega), h.o,
    ((h.bel.setCell (p := ⟨bc, 0, none⟩) ho.1 vm).setCell (p := ⟨bc, 1, none⟩) ho.1 vv).setCell (p := ⟨bl, 0, none⟩) (show w0.heap.size ≤ bl by omega) _⟩
theorem take_nil (fin : List UInt8) (i : Nat) (c : Com) : takeG fin i c [] = .error (i + 1) := by unfold takeG; rfl
theorem take_h0 {fin s : List UInt8} {c : Com} {r : List (List UInt8)} (h : headR (cutL 32 s) = none) : takeG fin 0 c (s :: r) = .error 1 := by
  unfold takeG
  rw [if_pos rfl, h]
theorem take_h1 {fin s : List UInt8} {c : Com} {r : List (List UInt8)} {m : List Int} (h : headR (cutL 32 s) = some m) : takeG fin 0 c (s :: r) = takeG fin 1 ⟨m, c.villages⟩ r := by
  conv => lhs; unfold takeG
  rw [if_pos rfl, h]
theorem take_s1 {fin : List UInt8} {i : Nat} {c : Com} {r : List (List UInt8)} (hi : i ≠ 0) (h : r ≠ [] ∨ fin ≠ []) : takeG fin i c (wS :: r) = .error (i + 2) := by
  unfold takeG
  rw [if_neg hi, if_pos rfl, if_pos h]
theorem take_s0 {i : Nat} {c : Com} (hi : i ≠ 0) : takeG [] i c [wS] = .ok c := by
  unfold takeG
  rw [if_neg hi, if_pos rfl, if_neg (by simp)]
theorem take_v0 {fin s : List UInt8} {i : Nat} {c : Com} {r : List (List UInt8)} (hi : i ≠ 0) (hs : s ≠ wS) (h : vilR (cutL 32 s) = none) : takeG fin i c (s :: r) = .error (i + 1) := by
  unfold takeG
  rw [if_neg hi, if_neg hs, h]
theorem take_v1 {fin s : List UInt8} {i : Nat} {c : Com} {r : List (List UInt8)} {v : Vil} (hi : i ≠ 0) (hs : s ≠ wS) (h : vilR (cutL 32 s) = some v) : takeG fin i c (s :: r) = takeG fin (i + 1) ⟨c.mountains, c.villages ++ [v]⟩ r := by
  conv => lhs; unfold takeG
  rw [if_neg hi, if_neg hs, h]
theorem vil_short : ∀ {ws : List (List UInt8)}, ws.length < 6 → vilR ws = none
  | [], _ => rfl
  | [_], _ => rfl
  | [_, _], _ => rfl
  | [_, _, _], _ => rfl
  | [_, _, _, _], _ => rfl
  | [_, _, _, _, _], _ => rfl
  | _ :: _ :: _ :: _ :: _ :: _ :: _, h => by simp at h; omega
theorem vil_word {a h b d e f : List UInt8} {r : List (List UInt8)} (hn : ¬ (a = wV ∧ b = wH ∧ e = wD ∧ f = wL)) : vilR (a :: h :: b :: d :: e :: f :: r) = none := by
  simp only [vilR, if_neg hn]
theorem vil_num1 {h d : List UInt8} {r : List (List UInt8)} (hn : numL h = none) : vilR (wV :: h :: wH :: d :: wD :: wL :: r) = none := by simp [vilR, hn]
theorem vil_num2 {h d : List UInt8} {r : List (List UInt8)} (hn : numL d = none) : vilR (wV :: h :: wH :: d :: wD :: wL :: r) = none := by
  cases hh : numL h <;> simp [vilR, hn, hh]
theorem vil_list {h d : List UInt8} {r : List (List UInt8)} (hn : listR r = none) : vilR (wV :: h :: wH :: d :: wD :: wL :: r) = none := by
  cases hh : numL h <;> cases hd : numL d <;> simp [vilR, hn, hh, hd]
theorem vil_ok {h d : List UInt8} {r : List (List UInt8)} {x y : Int} {l : List Int} (h1 : numL h = some x) (h2 : numL d = some y) (h3 : listR r = some l) : vilR (wV :: h :: wH :: d :: wD :: wL :: r) = some ⟨x, y, l⟩ := by simp [vilR, h1, h2, h3]
theorem six_words : ∀ {ws : List (List UInt8)}, 6 ≤ ws.length → ∃ a h b d e f r, ws = a :: h :: b :: d :: e :: f :: r
  | a :: h :: b :: d :: e :: f :: r, _ => ⟨a, h, b, d, e, f, r, rfl⟩
theorem head_cons (a : List UInt8) (r : List (List UInt8)) : headR (a :: r) = if a = wM then listR r else none := rfl
theorem drop_at {ws : List (List UInt8)} {i : Nat} (h : i < ws.dropLast.length) : ws.dropLast.drop i = (ws[i]'(by rw [List.length_dropLast] at h; omega)) :: ws.dropLast.drop (i + 1) := by
  rw [List.drop_eq_getElem_cons h]
  simp

set_option maxRecDepth 100000 in
set_option maxHeartbeats 4000000 in
theorem take_c (ws : List (List UInt8)) (hne : ws ≠ []) (b : Nat) (w : World) (hS : SW b 0 ws w) (hlen : ∀ s ∈ ws, s.length ≤ 1000) (hwl : ws.length ≤ 1000) (hE : EV w) (hM : MX w) (h3 : 3 ≤ w.heap.size) :
    Calls Tryz.prog 35 #[.slice (some ⟨b, 0, none⟩) ws.length ws.length] w fun e w' => TkPost ws w e w' := by
  have hmf : ∀ (fn : Fn) (first cap : Array Value) (w : World), (Instr.makeFunc fn first cap).run Tryz.prog w = .ok (.func fn first cap) w := fun _ _ _ _ => rfl
  have hpos : 0 < ws.length := List.length_pos_iff.2 hne
  obtain ⟨w1, hw1⟩ : ∃ w1, w1 = (w.alloc (.cells #[.slice none 0 0, .slice none 0 0] 25)).alloc (.cells #[.int .i64 0] 3) := ⟨_, rfl⟩
  obtain ⟨bc, hbc⟩ : ∃ b, b = w.heap.size := ⟨_, rfl⟩
  obtain ⟨bl, hbl⟩ : ∃ b, b = bc + 1 := ⟨_, rfl⟩
  have hC1 : Blk bc #[.slice none 0 0, .slice none 0 0] 25 w1 := by rw [hw1, hbc]; exact (Blk.new _ _ _).alloc _
  have hL1 : Blk bl #[.int .i64 0] 3 w1 := by rw [hw1]; exact blk_at (by rw [hbl, hbc]; simp) _ _
  have hB1 : Below w.heap.size w w1 := by rw [hw1]; exact ((Below.refl _ w).alloc (Nat.le_refl _) _).alloc (by simp) _
  have hT1 : TS w bc bl emptyC (.slice none 0 0) (.slice none 0 0) [] w1 := ⟨hC1, hL1, ⟨none, 0, rfl, Nat.le_refl _, ⟨by unfold maxLen; omega, fun _ => rfl⟩, .inl rfl⟩, Own.nil, rfl, fun i a => by simp at a, ⟨Nat.le_of_eq hbc.symm, by omega⟩, hB1⟩
  have hS1 := hS.call hB1
  have hE1 := hE.call h3 hB1
  have hM1 := hM.call h3 hB1
  have h31 : 3 ≤ w1.heap.size := by have := hB1.size; omega
  obtain ⟨fin, hfin⟩ : ∃ f, f = ws.getLastD [] := ⟨_, rfl⟩
  have hR0 := Lib.hid (show takeR ws = takeG fin 0 emptyC (ws.dropLast.drop 0) by unfold takeR; rw [hfin]; rfl)
  have hfl : ws[ws.length - 1]'(by omega) = fin := by
    rw [hfin, List.getLastD_eq_getLast?, List.getLast?_eq_getElem?, List.getElem?_eq_getElem (by omega)]
    rfl
  have HFL := Lib.hid hfl
  clear hfin hfl
  go_enter_defers Tryz.func35, Tryz.ntmps35
  go_upto_region 2 with fail
  rw [← hw1, ← hbc, ← hbl]
  clear hw1 hbc hbl hC1 hL1 hB1
  obtain ⟨n, hn⟩ : ∃ n, ws.length = n + 1 := ⟨ws.length - 1, by omega⟩
  have HN := Lib.hid hn
  have hn1 : n + 1 ≤ ws.length ∧ ws.length ≤ n + 1 := ⟨by omega, by omega⟩
  rw [hn]
  clear hn
  go_wp2_with fail
  go_loopw [17] (fun vi wr => ∃ (i : Nat) (c : Com) (vm vv : Value) (ls : List Value), i ≤ n ∧ vi = .int .i64 i ∧ TS w bc bl c vm vv ls wr ∧ Hid (takeR ws = takeG fin i c (ws.dropLast.drop i)) ∧ c.villages.length ≤ i) (fun vi _ => n - (intOf vi).toNat)
  case atStart => exact ⟨0, emptyC, _, _, [], Nat.zero_le _, rfl, hT1, hR0, Nat.le_refl _⟩
  case round =>
    obtain ⟨i, c, vm, vv, ls, hi, rfl, hT, HR, hvi⟩ := hrel
    have hSr := hS.call hT.bel
    have hEr := hE.call h3 hT.bel
    have hMr := hM.call h3 hT.bel
    have h3r : 3 ≤ wr.heap.size := by have := hT.bel.size; omega
    have hdl : ws.dropLast.length = n := by rw [List.length_dropLast]; omega
    have HDL := Lib.hid hdl
    clear hdl
    by_cases hlt : i < n
    · have hiw : i < ws.length := by omega
      have hin : (i : Int) < n := by omega
      have d0 := hSr.2 i hiw
      rw [Nat.zero_add] at d0
      obtain ⟨s, hs⟩ : ∃ s, s = ws[i] := ⟨_, rfl⟩
      have hsl : s.length ≤ 1000 := hlen s (by rw [hs]; exact List.getElem_mem _)
      rw [← hs] at d0
      have hR := HR.out
      rw [drop_at (by rw [HDL.out]; exact hlt)] at hR
      have hR2 : takeR ws = takeG fin i c (s :: ws.dropLast.drop (i + 1)) := by rw [hs]; exact hR
      have HR2 := Lib.hid hR2
      have HSS := Lib.hid hs
      clear hR hR2 HR hs
      go_wp2_with fail
      have hsp := split_c 32 s wr hMr (by omega)
      refine hsp.mono ?_
      rintro e w2 ⟨rfl, hW2, hB2⟩
      obtain ⟨ws2, hws2⟩ : ∃ x, x = cutL 32 s := ⟨_, rfl⟩
      obtain ⟨q2, hq2⟩ : ∃ x, x = wr.heap.size := ⟨_, rfl⟩
      have hws2n : 0 < ws2.length := by rw [hws2]; exact List.length_pos_iff.2 (cutL_ne 32 s)
      have hws2l : ∀ x ∈ ws2, x.length ≤ 1000 := fun x hx => by have := cut_word 32 s x (by rw [← hws2]; exact hx); omega
      have hws2m : ws2.length ≤ 1001 := by rw [hws2]; have := cut_len 32 s; omega
      rw [← hws2, ← hq2] at hW2
      have HWS := Lib.hid hws2
      obtain ⟨w3, hw3⟩ : ∃ w3, w3 = w2.alloc (.cells #[.int .i64 ((i : Int) + 1)] 114) := ⟨_, rfl⟩
      obtain ⟨b7, hb7⟩ : ∃ b, b = w2.heap.size := ⟨_, rfl⟩
      have hB3 : Below w2.heap.size w2 w3 := by rw [hw3]; exact (Below.refl _ w2).alloc (Nat.le_refl _) _
      have hX3 : Blk b7 #[.int .i64 ((i : Int) + 1)] 114 w3 := by rw [hw3, hb7]; exact Blk.new _ _ _
      have hBr3 := bnw hB2 hB3
      have hW3 := hW2.call hB3
      have hT3 := hT.call hBr3
      have hS3 := hSr.call hBr3
      have hE3 := hEr.call h3r hBr3
      have hM3 := hMr.call h3r hBr3
      have h33 : 3 ≤ w3.heap.size := by have := hBr3.size; omega
      go_upto_region 10 with fail
      rw [← hws2, ← hq2, ← hw3, ← hb7]
      clear hws2 hq2 hw3 hb7 hT hSr hEr hMr hB2 hB3 hW2 d0
      by_cases hi0 : i = 0
      · subst hi0
        have g0 := hW3.2 0 hws2n
        rw [Nat.zero_add] at g0
        obtain ⟨a0, ha0⟩ : ∃ x, x = ws2[0] := ⟨_, rfl⟩
        rw [← ha0] at g0
        have HA0 := Lib.hid ha0
        clear ha0
        have hts : (str a0).toList = a0 := ByteArray.toList_mk a0
        have hcons : ws2 = a0 :: ws2.drop 1 := by
          rw [HA0.out]
          conv => lhs; rw [← List.drop_zero (l := ws2), List.drop_eq_getElem_cons hws2n]
        by_cases haM : a0 = wM
        · rw [haM, show wM = [109, 111, 117, 110, 116, 97, 105, 110, 115] from rfl] at g0
          have hL0 : (str [109, 111, 117, 110, 116, 97, 105, 110, 115]).toList = [109, 111, 117, 110, 116, 97, 105, 110, 115] := ByteArray.toList_mk _
          clear hts
          have hhr : headR (cutL 32 s) = listR (ws2.drop 1) := by rw [← HWS.out, hcons, head_cons, if_pos haM]; rfl
          have HHR := Lib.hid hhr
          have hdw : (ws2.drop 1).length ≤ 1000 := by rw [List.length_drop]; omega
          have hdm : ∀ x ∈ ws2.drop 1, x.length ≤ 100000 := fun x hx => by have := hws2l x (List.mem_of_mem_drop hx); omega
          clear hhr hcons haM
          obtain ⟨m, hm⟩ : ∃ m, ws2.length = m + 1 := ⟨ws2.length - 1, by omega⟩
          have hdl : (ws2.drop 1).length = m := by rw [List.length_drop]; omega
          obtain ⟨ao, hao⟩ : ∃ ao : Option Addr, (if m = 0 then some ⟨q2, 0, none⟩ else some ⟨q2, 1, none⟩) = ao := ⟨_, rfl⟩
          have hm1 : (1 : Int) ≤ m + 1 := by omega
          have hW31 : ws2.drop 1 = [] ∨ ∃ b off, ao = some ⟨b, off, none⟩ ∧ SW b off (ws2.drop 1) w3 := by
            by_cases hm0 : m = 0
            · exact .inl (List.eq_nil_of_length_eq_zero (by omega))
            · exact .inr ⟨q2, 1, by rw [← hao, if_neg hm0], hW3.1, fun j hj => by
                have := hW3.2 (j + 1) (by rw [List.length_drop] at hj; omega)
                rw [show 0 + (j + 1) = 1 + j by omega] at this
                rw [this]
                simp⟩
          have HM := Lib.hid hm
          have HDLL := Lib.hid hdl
          rw [hm]
          go_upto_region 13 with fail
          refine wp_region_mixR (.one 0 (.pur 1 (.pur 2 (.act 3 (.pur 4 (.act 5 .fin)))))) 5 (fun w' => Blk b7 #[.int .i64 (((0 : Nat) : Int) + 1)] 114 w') (fun _ => True) (RP ws w bc bl) ?_ ?_ ?_ ?_ ?_ ?_ ?_ ?_
          · kernel_rfl
          · kernel_rfl
          · rfl
          · kernel_rfl
          · exact (hX3.keep rfl)
          rotate_left
          · exact fun c a w h => RP.end h
          · exact RP.put (by kernel_rfl)
          intro wd hqd hRd
          have hTd := hT3.call (hqd.below _)
          have hEd := hE3.call h33 (hqd.below _)
          have h3d : 3 ≤ wd.heap.size := by rw [hqd.size]; exact h33
          have hWd : ws2.drop 1 = [] ∨ ∃ b off, ao = some ⟨b, off, none⟩ ∧ SW b off (ws2.drop 1) wd := hW31.imp id fun ⟨b, off, e, h⟩ => ⟨b, off, e, h.call (hqd.below _)⟩
          refine mix_load2 rfl rfl rfl (.agg #[.int .i64 (((0 : Nat) : Int) + 1)]) (fun w' h => by have h : (fun w' => Blk b7 #[.int .i64 (((0 : Nat) : Int) + 1)] 114 w') w' := h; have h0 := h.cell 0; go_simp) rfl ?_
          refine mix_pur2 rfl (fun K hK => ?_)
          go_simp
          first | refine ⟨_, fun _ => rfl, hK _ ?_⟩ | refine hK _ ?_
          clear hK K
          refine mix_pur2 rfl (fun K hK => ?_)
          go_simp
          first | refine ⟨_, fun _ => rfl, hK _ ?_⟩ | refine hK _ ?_
          clear hK K
          refine mix_eff2 rfl false rfl (fun K hK => ?_)
          go_simp
          have hl2 := list2_c (((0 : Nat) : Int) + 1) (ws2.drop 1) ao m wd hEd h3d hdm (by omega) hWd
          rw [HDLL.out] at hl2
          refine hl2.mono ?_
          rintro e w4 ⟨(⟨l, v4, hl, rfl, hI4, a4, c4, rfl⟩ | ⟨hl, rfl⟩), hB4⟩
          rotate_left
          · exact ⟨⟨1, rfl, by rw [HR2.out]; exact take_h0 (by rw [HHR.out]; exact hl)⟩, rfl, rfl, rfl, _, _, _, _, hTd.call hB4⟩
          have hT4 := hTd.call hB4
          have hR4 : Blk b7 #[.int .i64 (((0 : Nat) : Int) + 1)] 114 w4 := hRd.call hB4
          have hI5 : Ints (fun b => bl < b ∧ vv.ownBlock ≠ some b) w4 (.slice a4 l.length c4) l := hI4.wide fun q hq _ => ⟨by have hq : wd.heap.size ≤ q := hq; have := hTd.line.lt; omega, fun e => by have hq : wd.heap.size ≤ q := hq; have := (World.ownsRow.lt hTd.ov q e).2; omega⟩
          refine hK _ _ hR4 ?_
          clear hK K
          refine mix_pur2 rfl (fun K hK => ?_)
          go_simp
          first | refine ⟨_, fun _ => rfl, hK _ ?_⟩ | refine hK _ ?_
          clear hK K
          refine mix_eff2 rfl true rfl (fun K hK => ?_)
          have f0 := hT4.box.free 0
          have q0 := hT4.box.cell 0
          go_simp
          have hT5 := hT4.keepM hI5
          have hz5 := hB4.size
          generalize w4.setCell ⟨bc, 0, none⟩ (.slice a4 l.length c4) = w5 at hT5 ⊢
          refine hK _ _ trivial ?_
          clear hK K f0 q0
          refine mix_doneR ?_
          go_wp2_with fail
          go_roundw
          case rel => exact ⟨1, ⟨l, c.villages⟩, _, vv, ls, by omega, by go_num, hT5, Lib.hid (by rw [HR2.out, take_h1 (by rw [HHR.out]; exact hl)]), Nat.le_succ_of_le hvi⟩
          case measure => simp [intOf]; omega
        · have hb0 : (a0 == [109, 111, 117, 110, 116, 97, 105, 110, 115]) = false := by rw [beq_eq_false_iff_ne]; exact haM
          have hhr : headR (cutL 32 s) = none := by rw [← HWS.out, hcons, head_cons, if_neg haM]
          have hE0 : takeR ws = .error 1 := by rw [HR2.out]; exact take_h0 hhr
          have HE0 := Lib.hid hE0
          clear hhr hcons hE0
          have z0 := hX3.cell 0
          go_wp2_with fail
          exact take_panic (n := 1) _ rfl rfl hT3 HE0.out
      · have hi1 : ((i : Int) == 0) = false := by rw [beq_eq_false_iff_ne]; omega
        obtain ⟨av, cv, rfl⟩ := own_slice hT3.ov
        obtain ⟨am, cm, rfl, -, -⟩ := hT3.im.shape
        by_cases hsS : s = wS
        · rw [hsS, show wS = [115, 104, 97, 114, 101, 100] from rfl]
          have hLs : (str [115, 104, 97, 114, 101, 100]).toList = [115, 104, 97, 114, 101, 100] := ByteArray.toList_mk _
          by_cases hl : i + 1 < n
          · have hd1 : decide ((i : Int) + 1 < n) = true := decide_eq_true (by omega)
            have hE0 : takeR ws = .error (i + 2) := by
              rw [HR2.out, hsS]
              exact take_s1 hi0 (.inl fun e => by
                have := congrArg List.length e
                rw [List.length_drop, HDL.out] at this
                simp at this
                omega)
            have HE0 := Lib.hid hE0
            clear hE0 hsS
            go_wp2_with fail
            exact take_panic (n := i + 2) _ rfl rfl hT3 HE0.out
          · have hin1 : i + 1 = n := by omega
            have hd1 : decide ((i : Int) + 1 < n) = false := decide_eq_false (by omega)
            have hrest : ws.dropLast.drop (i + 1) = [] := List.drop_of_length_le (by rw [HDL.out]; omega)
            have gf := hS3.2 n (by omega)
            rw [Nat.zero_add] at gf
            have hfn : ws[n]'(by omega) = fin := by
              rw [← HFL.out]
              congr 1
              omega
            rw [hfn] at gf
            have hnn : (n : Int) < n + 1 := by omega
            have HRS := Lib.hid hrest
            clear hrest hfn
            by_cases hff : fin = []
            · have hE0 : takeR ws = .ok c := by
                rw [HR2.out, hsS, HRS.out, hff]
                exact take_s0 hi0
              have HE0 := Lib.hid hE0
              rw [hff] at gf
              have hLf : (str []).toList = [] := ByteArray.toList_mk _
              clear hE0 hsS hff
              have x0 := hT3.box.cell 0
              have x1 := hT3.box.cell 1
              have y0 := hT3.line.cell 0
              have fx0 := hT3.box.free 0
              have fx1 := hT3.box.free 1
              have fy0 := hT3.line.free 0
              have hnb : ¬ bc = bl := by have := hT3.o; omega
              have hnb2 : ¬ bl = bc := by have := hT3.o; omega
              go_wp2_with fail
              exact take_ret _ rfl rfl hT3.same HE0.out
            · have htf : (str fin).toList = fin := ByteArray.toList_mk _
              have hbf : (fin == []) = false := by rw [beq_eq_false_iff_ne]; exact hff
              have hE0 : takeR ws = .error (i + 2) := by
                rw [HR2.out, hsS]
                exact take_s1 hi0 (.inr hff)
              have HE0 := Lib.hid hE0
              clear hE0 hsS
              go_wp2_with fail
              exact take_panic (n := i + 2) _ rfl rfl hT3 HE0.out
        · have hts : (str s).toList = s := ByteArray.toList_mk s
          have hbs : (s == [115, 104, 97, 114, 101, 100]) = false := by rw [beq_eq_false_iff_ne]; exact hsS
          have z0 := hX3.cell 0
          by_cases hm6 : ws2.length < 6
          · have hd6 : decide ((ws2.length : Int) < 6) = true := decide_eq_true (by omega)
            have hE0 : takeR ws = .error (i + 1) := by rw [HR2.out]; exact take_v0 hi0 hsS (by rw [← HWS.out]; exact vil_short hm6)
            have HE0 := Lib.hid hE0
            clear hE0
            go_wp2_with fail
            exact take_panic (n := i + 1) _ rfl rfl hT3 HE0.out
          · obtain ⟨a, h', b', d, e', f, r, rfl⟩ := six_words (ws := ws2) (by omega)
            obtain ⟨m, hm⟩ : ∃ m, (a :: h' :: b' :: d :: e' :: f :: r).length = m + 6 := ⟨r.length, by simp⟩
            have hrl : r.length = m := by simp at hm; omega
            have hr1 : r.length ≤ 1000 := by simp at hws2m; omega
            have HRL := Lib.hid hrl
            have hd6 : decide (((m : Int) + 6) < 6) = false := decide_eq_false (by omega)
            have p0 : (0 : Int) < (m : Int) + 6 := by omega
            have p1 : (1 : Int) < (m : Int) + 6 := by omega
            have p2 : (2 : Int) < (m : Int) + 6 := by omega
            have p3 : (3 : Int) < (m : Int) + 6 := by omega
            have p4 : (4 : Int) < (m : Int) + 6 := by omega
            have p5 : (5 : Int) < (m : Int) + 6 := by omega
            have p6 : (6 : Int) ≤ (m : Int) + 6 := by omega
            have g0 : w3.cell? ⟨q2, 0, none⟩ = some (.string (str a)) := by have := hW3.2 0 (by simp); simpa using this
            have g2 : w3.cell? ⟨q2, 2, none⟩ = some (.string (str b')) := by have := hW3.2 2 (by simp); simpa using this
            have g4 : w3.cell? ⟨q2, 4, none⟩ = some (.string (str e')) := by have := hW3.2 4 (by simp); simpa using this
            have g5 : w3.cell? ⟨q2, 5, none⟩ = some (.string (str f)) := by have := hW3.2 5 (by simp); simpa using this
            obtain ⟨ao, hao⟩ : ∃ ao : Option Addr, (if m = 0 then some ⟨q2, 0, none⟩ else some ⟨q2, 6, none⟩) = ao := ⟨_, rfl⟩
            have hW6 : r = [] ∨ ∃ b off, ao = some ⟨b, off, none⟩ ∧ SW b off r w3 := by
              by_cases hm0 : m = 0
              · exact .inl (List.eq_nil_of_length_eq_zero (by omega))
              · exact .inr ⟨q2, 6, by rw [← hao, if_neg hm0], hW3.1, fun j hj => by
                  have := hW3.2 (j + 6) (by simp; omega)
                  rw [show 0 + (j + 6) = 6 + j by omega] at this
                  rw [this]
                  simp⟩
            rw [hm]
            have HM := Lib.hid hm
            clear hm hrl
            by_cases hw0 : a = wV
            · rw [hw0, show wV = [118, 105, 108, 108, 97, 103, 101] from rfl] at g0
              have hL0 : (str [118, 105, 108, 108, 97, 103, 101]).toList = [118, 105, 108, 108, 97, 103, 101] := ByteArray.toList_mk _
              by_cases hw2 : b' = wH
              · rw [hw2, show wH = [104, 101, 97, 114, 116, 104, 115] from rfl] at g2
                have hL2 : (str [104, 101, 97, 114, 116, 104, 115]).toList = [104, 101, 97, 114, 116, 104, 115] := ByteArray.toList_mk _
                by_cases hw4 : e' = wD
                · rw [hw4, show wD = [104, 101, 97, 100, 115] from rfl] at g4
                  have hL4 : (str [104, 101, 97, 100, 115]).toList = [104, 101, 97, 100, 115] := ByteArray.toList_mk _
                  by_cases hw5 : f = wL
                  · rw [hw5, show wL = [108, 105, 107, 101, 115] from rfl] at g5
                    have hL5 : (str [108, 105, 107, 101, 115]).toList = [108, 105, 107, 101, 115] := ByteArray.toList_mk _
                    go_upto_region 9 with fail
                    clear g0 g2 g4 g5 hL0 hL2 hL4 hL5 z0
                    subst hw0 hw2 hw4 hw5
                    refine wp_region_mixR (.pur 0 (.one 1 (.one 2 (.pur 3 (.pur 4 (.one 5 (.one 7 (.pur 8 (.pur 9 (.one 10 (.one 12 (.pur 13 (.pur 14 (.act 6 (.act 11 (.act 15 (.pur 16 (.act 17 (.act 18 (.pur 19 (.act 20 .fin))))))))))))))))))))) 18 (fun w' => Blk b7 #[.int .i64 ((i : Int) + 1)] 114 w' ∧ SW q2 0 (wV :: h' :: wH :: d :: wD :: wL :: r) w' ∧ Blk bc #[(.slice am c.mountains.length cm), (Value.slice av c.villages.length cv)] 25 w') (fun _ => True) (RP ws w bc bl) ?_ ?_ ?_ ?_ ?_ ?_ ?_ ?_
                    · kernel_rfl
                    · kernel_rfl
                    · rfl
                    · kernel_rfl
                    · exact (⟨hX3.keep rfl, hW3.call ((Qt.refl _).drewN 1 |>.below _), hT3.box.keep rfl⟩)
                    rotate_left
                    · exact fun c a w h => RP.end h
                    · exact RP.put (by kernel_rfl)
                    intro wd hqd hRd
                    have hTd := hT3.call (hqd.below _)
                    have hEd := hE3.call h33 (hqd.below _)
                    have h3d : 3 ≤ wd.heap.size := by rw [hqd.size]; exact h33
                    refine mix_pur2 rfl (fun K hK => ?_)
                    go_simp
                    first | refine ⟨_, fun _ => rfl, hK _ ?_⟩ | refine hK _ ?_
                    clear hK K
                    refine mix_load2 rfl rfl rfl (Value.slice av c.villages.length cv) (fun w' h => by have h : (fun w' => Blk b7 #[.int .i64 ((i : Int) + 1)] 114 w' ∧ SW q2 0 (wV :: h' :: wH :: d :: wD :: wL :: r) w' ∧ Blk bc #[(.slice am c.mountains.length cm), (Value.slice av c.villages.length cv)] 25 w') w' := h; have h1 := h.2.2.cell 1; go_simp) rfl ?_
                    refine mix_load2 rfl rfl rfl (.agg #[.int .i64 ((i : Int) + 1)]) (fun w' h => by have h : (fun w' => Blk b7 #[.int .i64 ((i : Int) + 1)] 114 w' ∧ SW q2 0 (wV :: h' :: wH :: d :: wD :: wL :: r) w' ∧ Blk bc #[(.slice am c.mountains.length cm), (Value.slice av c.villages.length cv)] 25 w') w' := h; have h0 := h.1.cell 0; go_simp) rfl ?_
                    refine mix_pur2 rfl (fun K hK => ?_)
                    go_simp
                    first | refine ⟨_, fun _ => rfl, hK _ ?_⟩ | refine hK _ ?_
                    clear hK K
                    refine mix_pur2 rfl (fun K hK => ?_)
                    go_simp
                    first | refine ⟨_, fun _ => rfl, hK _ ?_⟩ | refine hK _ ?_
                    clear hK K
                    refine mix_load2 rfl rfl rfl (.string (str h')) (fun w' h => by have h : (fun w' => Blk b7 #[.int .i64 ((i : Int) + 1)] 114 w' ∧ SW q2 0 (wV :: h' :: wH :: d :: wD :: wL :: r) w' ∧ Blk bc #[(.slice am c.mountains.length cm), (Value.slice av c.villages.length cv)] 25 w') w' := h; have h1 := h.2.1.2 1 (by simp); simp only [Nat.zero_add] at h1; have h1 : w'.cell? ⟨q2, 1, none⟩ = some (.string (str h')) := h1; go_simp) rfl ?_
                    refine mix_load2 rfl rfl rfl (.agg #[.int .i64 ((i : Int) + 1)]) (fun w' h => by have h : (fun w' => Blk b7 #[.int .i64 ((i : Int) + 1)] 114 w' ∧ SW q2 0 (wV :: h' :: wH :: d :: wD :: wL :: r) w' ∧ Blk bc #[(.slice am c.mountains.length cm), (Value.slice av c.villages.length cv)] 25 w') w' := h; have h0 := h.1.cell 0; go_simp) rfl ?_
                    refine mix_pur2 rfl (fun K hK => ?_)
                    go_simp
                    first | refine ⟨_, fun _ => rfl, hK _ ?_⟩ | refine hK _ ?_
                    clear hK K
                    refine mix_pur2 rfl (fun K hK => ?_)
                    go_simp
                    first | refine ⟨_, fun _ => rfl, hK _ ?_⟩ | refine hK _ ?_
                    clear hK K
                    refine mix_load2 rfl rfl rfl (.string (str d)) (fun w' h => by have h : (fun w' => Blk b7 #[.int .i64 ((i : Int) + 1)] 114 w' ∧ SW q2 0 (wV :: h' :: wH :: d :: wD :: wL :: r) w' ∧ Blk bc #[(.slice am c.mountains.length cm), (Value.slice av c.villages.length cv)] 25 w') w' := h; have h1 := h.2.1.2 3 (by simp); simp only [Nat.zero_add] at h1; have h1 : w'.cell? ⟨q2, 3, none⟩ = some (.string (str d)) := h1; go_simp) rfl ?_
                    refine mix_load2 rfl rfl rfl (.agg #[.int .i64 ((i : Int) + 1)]) (fun w' h => by have h : (fun w' => Blk b7 #[.int .i64 ((i : Int) + 1)] 114 w' ∧ SW q2 0 (wV :: h' :: wH :: d :: wD :: wL :: r) w' ∧ Blk bc #[(.slice am c.mountains.length cm), (Value.slice av c.villages.length cv)] 25 w') w' := h; have h0 := h.1.cell 0; go_simp) rfl ?_
                    refine mix_pur2 rfl (fun K hK => ?_)
                    go_simp
                    first | refine ⟨_, fun _ => rfl, hK _ ?_⟩ | refine hK _ ?_
                    clear hK K
                    refine mix_pur2 rfl (fun K hK => ?_)
                    go_simp
                    first | refine ⟨_, fun _ => rfl, hK _ ?_⟩ | refine hK _ ?_
                    clear hK K
                    refine mix_eff2 rfl false rfl (fun K hK => ?_)
                    go_simp
                    refine (number_c ((i : Int) + 1) h' wd hEd h3d (by have := hws2l h' (by simp); omega)).mono ?_
                    rintro e w4 ⟨(⟨x, hx, rfl⟩ | ⟨hx, rfl⟩), hB4⟩
                    rotate_left
                    · exact ⟨⟨i + 1, rfl, by rw [HR2.out]; exact take_v0 hi0 hsS (by rw [← HWS.out]; exact vil_num1 hx)⟩, rfl, rfl, rfl, _, _, _, _, hTd.call hB4⟩
                    have hT4 := hTd.call hB4
                    have hE4 := hEd.call h3d hB4
                    have h34 : 3 ≤ w4.heap.size := by have := hB4.size; omega
                    have hR4 : Blk b7 #[.int .i64 ((i : Int) + 1)] 114 w4 ∧ SW q2 0 (wV :: h' :: wH :: d :: wD :: wL :: r) w4 ∧ Blk bc #[(.slice am c.mountains.length cm), (Value.slice av c.villages.length cv)] 25 w4 := ⟨hRd.1.call hB4, hRd.2.1.call hB4, hRd.2.2.call hB4⟩
                    refine hK _ _ hR4 ?_
                    clear hK K
                    refine mix_eff2 rfl false rfl (fun K hK => ?_)
                    go_simp
                    refine (number_c ((i : Int) + 1) d w4 hE4 h34 (by have := hws2l d (by simp); omega)).mono ?_
                    rintro e w5 ⟨(⟨y, hy, rfl⟩ | ⟨hy, rfl⟩), hB5⟩
                    rotate_left
                    · exact ⟨⟨i + 1, rfl, by rw [HR2.out]; exact take_v0 hi0 hsS (by rw [← HWS.out]; exact vil_num2 hy)⟩, rfl, rfl, rfl, _, _, _, _, hT4.call hB5⟩
                    have hT5 := hT4.call hB5
                    have hE5 := hE4.call h34 hB5
                    have h35 : 3 ≤ w5.heap.size := by have := hB5.size; omega
                    have hR5 : Blk b7 #[.int .i64 ((i : Int) + 1)] 114 w5 ∧ SW q2 0 (wV :: h' :: wH :: d :: wD :: wL :: r) w5 ∧ Blk bc #[(.slice am c.mountains.length cm), (Value.slice av c.villages.length cv)] 25 w5 := ⟨hR4.1.call hB5, hR4.2.1.call hB5, hR4.2.2.call hB5⟩
                    refine hK _ _ hR5 ?_
                    clear hK K
                    refine mix_eff2 rfl false rfl (fun K hK => ?_)
                    go_simp
                    have hl2 := list2_c ((i : Int) + 1) r ao m w5 hE5 h35 (fun x hx => by have := hws2l x (by simp [hx]); omega) (by omega) (by rcases hW6 with h | ⟨b, off, e, h⟩; exact .inl h; exact .inr ⟨b, off, e, (h.call (hqd.below _)).call (bnw hB4 hB5)⟩)
                    rw [HRL.out] at hl2
                    refine hl2.mono ?_
                    rintro e w6 ⟨(⟨l, v6, hl, rfl, hI6, a6, c6, rfl⟩ | ⟨hl, rfl⟩), hB6⟩
                    rotate_left
                    · exact ⟨⟨i + 1, rfl, by rw [HR2.out]; exact take_v0 hi0 hsS (by rw [← HWS.out]; exact vil_list hl)⟩, rfl, rfl, rfl, _, _, _, _, hT5.call hB6⟩
                    have hT6 := hT5.call hB6
                    have hR6 : Blk b7 #[.int .i64 ((i : Int) + 1)] 114 w6 ∧ SW q2 0 (wV :: h' :: wH :: d :: wD :: wL :: r) w6 ∧ Blk bc #[(.slice am c.mountains.length cm), (Value.slice av c.villages.length cv)] 25 w6 := ⟨hR5.1.call hB6, hR5.2.1.call hB6, hR5.2.2.call hB6⟩
                    refine hK _ _ hR6 ?_
                    clear hK K
                    refine mix_pur2 rfl (fun K hK => ?_)
                    go_simp
                    first | refine ⟨_, fun _ => rfl, hK _ ?_⟩ | refine hK _ ?_
                    clear hK K
                    refine mix_eff2 rfl false rfl (fun K hK => ?_)
                    go_simp
                    have hA7 := (Below.refl w6.heap.size w6).alloc (Nat.le_refl _) (.cells #[.int .i64 x, .int .i64 y, .slice a6 l.length c6] 43)
                    have hT7 := hT6.call hA7
                    have hR7 : Blk b7 #[.int .i64 ((i : Int) + 1)] 114 _ ∧ SW q2 0 (wV :: h' :: wH :: d :: wD :: wL :: r) _ ∧ Blk bc #[(.slice am c.mountains.length cm), (Value.slice av c.villages.length cv)] 25 _ := ⟨hR6.1.call hA7, hR6.2.1.call hA7, hR6.2.2.call hA7⟩
                    have hI7 : Ints (fun b => bl < b ∧ (Value.slice av c.villages.length cv).ownBlock ≠ some b) _ (.slice a6 l.length c6) l := (hI6.wide (A' := fun b => bl < b ∧ (Value.slice av c.villages.length cv).ownBlock ≠ some b) fun q hq _ => ⟨by have hq : w5.heap.size ≤ q := hq; have := hT5.line.lt; omega, fun e => by have hq : w5.heap.size ≤ q := hq; have := (World.ownsRow.lt hT5.ov q e).2; omega⟩).call hA7
                    refine hK _ _ hR7 ?_
                    clear hK K
                    refine mix_eff2 rfl true rfl (fun K hK => ?_)
                    refine step_append_arr rfl _ _ 23 rfl 43 _ 3 40 Tryz.underlying23 Tryz.info43 rfl (by decide) (by decide) (by have := hT7.line.lt; omega) hT7.ov rfl (Own.arr (own_lit w6 43 3 #[.int .i64 x, .int .i64 y, .slice a6 l.length c6] 1 rfl (by omega))) rfl rfl (vil_one _ _ _ _ _) (by omega) ?_
                    intro v8 w8 hown8 hTu8
                    obtain ⟨a8, c8, rfl⟩ := own_slice hown8
                    have hm8 : ∀ q, (Value.slice av c.villages.length cv).ownBlock = some q → bl + 1 ≤ q := fun q hq => (World.ownsRow.lt hT7.ov q hq).1
                    have hbx8 : Blk bc #[(.slice am c.mountains.length cm), (Value.slice av c.villages.length cv)] 25 w8 := hT7.box.keep (hTu8.block _ hT7.box.lt (fun e => by have := hm8 _ e; have := hT7.o; omega))
                    have hT9 := TS.vill (x := ⟨x, y, l⟩) hT7 hI7 hown8 hTu8
                    refine hK _ _ trivial ?_
                    clear hK K
                    refine mix_pur2 rfl (fun K hK => ?_)
                    go_simp
                    first | refine ⟨_, fun _ => rfl, hK _ ?_⟩ | refine hK _ ?_
                    clear hK K
                    refine mix_eff2 rfl true rfl (fun K hK => ?_)
                    have f0 := hbx8.free 1
                    have q0 := hbx8.cell 1
                    go_simp
                    generalize w8.setCell ⟨bc, 1, none⟩ (.slice a8 (c.villages.length + 1) c8) = w9 at hT9 ⊢
                    refine hK _ _ trivial ?_
                    clear hK K f0 q0
                    refine mix_doneR ?_
                    go_wp2_with fail
                    go_roundw
                    case rel => exact ⟨i + 1, ⟨c.mountains, c.villages ++ [⟨x, y, l⟩]⟩, _, _, ls ++ [_], by omega, by go_num, hT9, Lib.hid (by rw [HR2.out]; exact take_v1 hi0 hsS (by rw [← HWS.out]; exact vil_ok hx hy hl)), by simp; omega⟩
                    case measure => simp [intOf]; omega
                  · have ht5 : (str f).toList = f := ByteArray.toList_mk _
                    have hb5 : (f == [108, 105, 107, 101, 115]) = false := by rw [beq_eq_false_iff_ne]; exact hw5
                    have hE0 : takeR ws = .error (i + 1) := by rw [HR2.out]; exact take_v0 hi0 hsS (by rw [← HWS.out]; exact vil_word (fun hh => by obtain ⟨q1, q3, q4, q5⟩ := hh; first | exact hw5 q1 | exact hw5 q3 | exact hw5 q4 | exact hw5 q5))
                    have HE0 := Lib.hid hE0
                    clear hE0
                    go_wp2_with fail
                    exact take_panic (n := i + 1) _ rfl rfl hT3 HE0.out
                · have ht4 : (str e').toList = e' := ByteArray.toList_mk _
                  have hb4 : (e' == [104, 101, 97, 100, 115]) = false := by rw [beq_eq_false_iff_ne]; exact hw4
                  have hE0 : takeR ws = .error (i + 1) := by rw [HR2.out]; exact take_v0 hi0 hsS (by rw [← HWS.out]; exact vil_word (fun hh => by obtain ⟨q1, q3, q4, q5⟩ := hh; first | exact hw4 q1 | exact hw4 q3 | exact hw4 q4 | exact hw4 q5))
                  have HE0 := Lib.hid hE0
                  clear hE0
                  go_wp2_with fail
                  exact take_panic (n := i + 1) _ rfl rfl hT3 HE0.out
              · have ht2 : (str b').toList = b' := ByteArray.toList_mk _
                have hb2 : (b' == [104, 101, 97, 114, 116, 104, 115]) = false := by rw [beq_eq_false_iff_ne]; exact hw2
                have hE0 : takeR ws = .error (i + 1) := by rw [HR2.out]; exact take_v0 hi0 hsS (by rw [← HWS.out]; exact vil_word (fun hh => by obtain ⟨q1, q3, q4, q5⟩ := hh; first | exact hw2 q1 | exact hw2 q3 | exact hw2 q4 | exact hw2 q5))
                have HE0 := Lib.hid hE0
                clear hE0
                go_wp2_with fail
                exact take_panic (n := i + 1) _ rfl rfl hT3 HE0.out
            · have ht0 : (str a).toList = a := ByteArray.toList_mk _
              have hb0 : (a == [118, 105, 108, 108, 97, 103, 101]) = false := by rw [beq_eq_false_iff_ne]; exact hw0
              have hE0 : takeR ws = .error (i + 1) := by rw [HR2.out]; exact take_v0 hi0 hsS (by rw [← HWS.out]; exact vil_word (fun hh => by obtain ⟨q1, q3, q4, q5⟩ := hh; first | exact hw0 q1 | exact hw0 q3 | exact hw0 q4 | exact hw0 q5))
              have HE0 := Lib.hid hE0
              clear hE0
              go_wp2_with fail
              exact take_panic (n := i + 1) _ rfl rfl hT3 HE0.out
    · have hin : i = n := by omega
      subst hin
      have hR := HR.out
      rw [List.drop_of_length_le (by rw [HDL.out]; exact Nat.le_refl _), take_nil] at hR
      have HE0 := Lib.hid hR
      clear hR
      go_wp2_with fail
      exact take_panic (n := i + 1) _ rfl rfl hT HE0.out

end Go.Proofs.YtmlikgjfpmjdcaaGreatDoor
