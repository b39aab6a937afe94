/- Reading commons (lots.Read); conditions: the library's variables hold what their types let them. -/
import Derived.Test.YtmlikgjfpmjdcaaGreatDoorRd4
namespace Go.Proofs.YtmlikgjfpmjdcaaGreatDoor
open Go.RowKit

theorem takeG_pos {fin : List UInt8} : ∀ (ls : List (List UInt8)) (i : Nat) (c : Com) {n : Nat}, takeG fin i c ls = .error n → 1 ≤ n
  | [], i, c, n, h => by
    unfold takeG at h
    injection h with h
    omega
  | s :: r, i, c, n, h => by
    unfold takeG at h
    split at h
    · split at h
      · injection h with h; omega
      · exact takeG_pos r _ _ h
    · split at h
      · split at h
        · injection h with h; omega
        · cases h
      · split at h
        · injection h with h; omega
        · exact takeG_pos r _ _ h
theorem cm_empty {A : Nat → Prop} (w : World) : Cm A w (.slice none 0 0) (.slice none 0 0) emptyC :=
  ⟨⟨none, 0, rfl, Nat.le_refl _, ⟨by unfold maxLen; omega, fun _ => rfl⟩, .inl rfl⟩, [], rfl, ⟨none, 0, rfl, Nat.le_refl _, ⟨by unfold maxLen; omega, fun _ => rfl⟩, .inl rfl⟩, fun i a => by simp at a⟩

set_option maxRecDepth 100000 in
set_option maxHeartbeats 2000000 in
theorem read_c (t : List UInt8) (ht : t.length ≤ 9000000000000000000) (w : World) (hE : EV w) (hM : MX w) (h3 : 3 ≤ w.heap.size) :
    Calls Tryz.prog 12 #[.string (str t)] w fun e w' => ∃ vm vv, e = .returned (.tuple #[.agg #[vm, vv], .int .i64 (readR t).2.1, .int .i64 (readR t).2.2]) ∧ Cm (fun q => w.heap.size ≤ q) w' vm vv (readR t).1 ∧ Below w.heap.size w w' := by
  obtain ⟨w1, hw1⟩ : ∃ w1, w1 = w.alloc (.cells #[.slice none 0 0, .slice none 0 0] 25) := ⟨_, rfl⟩
  obtain ⟨b2, hb2⟩ : ∃ b, b = w.heap.size := ⟨_, rfl⟩
  have hX1 : Blk b2 #[.slice none 0 0, .slice none 0 0] 25 w1 := by rw [hw1, hb2]; exact Blk.new _ _ _
  have hB1 : Below w.heap.size w w1 := by rw [hw1]; exact (Below.refl _ w).alloc (Nat.le_refl _) _
  have hb2w : w.heap.size ≤ b2 := Nat.le_of_eq hb2.symm
  have hE1 := hE.call h3 hB1
  have hM1 := hM.call h3 hB1
  have h31 : 3 ≤ w1.heap.size := by have := hB1.size; omega
  have hz := str_size t
  by_cases hl : 400 < t.length
  · have hd : decide ((400 : Int) < t.length) = true := decide_eq_true (by omega)
    have HR := Lib.hid (show readR t = (emptyC, 0, 10) by unfold readR; rw [if_pos hl])
    have f0 := hX1.free 0
    have f1 := hX1.free 1
    have c0 := hX1.cell 0
    have c1 := hX1.cell 1
    go_enter Tryz.func12, Tryz.ntmps12
    go_upto_region 1 with fail
    rw [← hw1, ← hb2]
    clear hw1 hb2
    go_wp2
    have hX2 : Blk b2 #[.slice none 0 0, .slice none 0 0] 25 ((w1.setCell ⟨b2, 0, none⟩ (.slice none 0 0)).setCell ⟨b2, 1, none⟩ (.slice none 0 0)) := (hX1.set 0 (.slice none 0 0)).set 1 (.slice none 0 0)
    have hB2 := (hB1.setCell (p := ⟨b2, 0, none⟩) hb2w (.slice none 0 0)).setCell (p := ⟨b2, 1, none⟩) hb2w (.slice none 0 0)
    generalize (w1.setCell ⟨b2, 0, none⟩ (.slice none 0 0)).setCell ⟨b2, 1, none⟩ (.slice none 0 0) = wf at hX2 hB2 ⊢
    have x0 := hX2.cell 0
    have x1 := hX2.cell 1
    refine bodyPost_ret (v := .tuple #[.agg #[.slice none 0 0, .slice none 0 0], .int .i64 0, .int .i64 10]) (by simp [results, Tryz.results12, go_sem, x0, x1]) rfl ?_
    rw [HR.out]
    exact ⟨_, _, rfl, cm_empty _, hB2⟩
  · have hd : decide ((400 : Int) < t.length) = false := decide_eq_false (by omega)
    obtain ⟨ws, hws⟩ : ∃ x, x = cutL 10 t := ⟨_, rfl⟩
    have hwn : ws ≠ [] := by rw [hws]; exact cutL_ne 10 t
    have hwl : ∀ x ∈ ws, x.length ≤ 1000 := fun x hx => by have := cut_word 10 t x (by rw [← hws]; exact hx); omega
    have hwm : ws.length ≤ 1000 := by rw [hws]; have := cut_len 10 t; omega
    have hRR : ∀ n, takeR ws = .error n → readR t = (emptyC, (n : Int), 2) := fun n h => by
      unfold readR
      rw [if_neg hl, ← hws, h]
    have hRO : ∀ c, takeR ws = .ok c → readR t = if checkE c = 0 then (c, 0, 0) else (emptyC, 0, checkE c) := fun c h => by
      unfold readR
      rw [if_neg hl, ← hws, h]
    have HRR := Lib.hid hRR
    have HRO := Lib.hid hRO
    clear hRR hRO
    have hsp := split_c 10 t w1 hM1 (by omega)
    rw [← hws] at hsp
    have HSP := Lib.hid hsp
    clear hsp hws
    go_enter Tryz.func12, Tryz.ntmps12
    go_upto_region 1 with fail
    rw [← hw1, ← hb2]
    clear hw1 hb2
    go_wp2_with fail
    refine HSP.out.mono ?_
    rintro e w2 ⟨rfl, hW2, hB2⟩
    have hE2 := hE1.call h31 hB2
    have hM2 := hM1.call h31 hB2
    have h32 : 3 ≤ w2.heap.size := by have := hB2.size; omega
    obtain ⟨q, hq⟩ : ∃ q, q = w1.heap.size := ⟨_, rfl⟩
    rw [← hq] at hW2 ⊢
    clear hq
    go_wp2_with fail
    refine (take_c ws hwn q w2 hW2 hwl hwm hE2 hM2 h32).mono ?_
    rintro e w3 ⟨(⟨n, hn, rfl⟩ | ⟨c, vm, vv, hc, rfl, hC3⟩), hB3⟩
    · have hX3 := (hX1.call hB2).call hB3
      have hBw3 := bnw hB1 (bnw hB2 hB3)
      obtain ⟨w4, hw4⟩ : ∃ w4, w4 = w3.alloc (.cells #[.slice none 0 0, .slice none 0 0] 25) := ⟨_, rfl⟩
      have hX4 : Blk b2 #[.slice none 0 0, .slice none 0 0] 25 w4 := by rw [hw4]; exact hX3.alloc _
      have hBw4 : Below w.heap.size w w4 := by rw [hw4]; exact bal2 hBw3
      have hpos : 1 ≤ n := by unfold takeR at hn; exact takeG_pos _ _ _ hn
      have hdn : decide ((0 : Int) < (n : Int)) = true := decide_eq_true (by omega)
      have hn0 : 0 < n := by omega
      have HR := Lib.hid (HRR.out n hn)
      clear hn hX3 hBw3
      go_upto_region 4 with fail
      rw [← hw4]
      clear hw4
      have f0 := hX4.free 0
      have f1 := hX4.free 1
      have c0 := hX4.cell 0
      have c1 := hX4.cell 1
      go_wp2
      have hX2 : Blk b2 #[.slice none 0 0, .slice none 0 0] 25 ((w4.setCell ⟨b2, 0, none⟩ (.slice none 0 0)).setCell ⟨b2, 1, none⟩ (.slice none 0 0)) := (hX4.set 0 (.slice none 0 0)).set 1 (.slice none 0 0)
      have hB9 := (hBw4.setCell (p := ⟨b2, 0, none⟩) hb2w (.slice none 0 0)).setCell (p := ⟨b2, 1, none⟩) hb2w (.slice none 0 0)
      generalize (w4.setCell ⟨b2, 0, none⟩ (.slice none 0 0)).setCell ⟨b2, 1, none⟩ (.slice none 0 0) = wf at hX2 hB9 ⊢
      have x0 := hX2.cell 0
      have x1 := hX2.cell 1
      refine bodyPost_ret (v := .tuple #[.agg #[.slice none 0 0, .slice none 0 0], .int .i64 (n : Int), .int .i64 2]) (by simp [results, Tryz.results12, go_sem, x0, x1]) rfl ?_
      rw [HR.out]
      exact ⟨_, _, rfl, cm_empty _, hB9⟩
    · have hX3 := (hX1.call hB2).call hB3
      have hBw3 := bnw hB1 (bnw hB2 hB3)
      have hwz : w.heap.size ≤ w2.heap.size := by have := hB1.size; have := hB2.size; omega
      have hb2l : b2 < w2.heap.size := (hX1.call hB2).lt
      obtain ⟨am, cm, rfl, _, _⟩ := hC3.1.shape
      obtain ⟨av, cv, rfl, _, _⟩ := hC3.2.shape
      obtain ⟨w4, hw4⟩ : ∃ w4, w4 = w3.alloc (.cells #[.slice am c.mountains.length cm, .slice av c.villages.length cv] 25) := ⟨_, rfl⟩
      obtain ⟨b5, hb5⟩ : ∃ b, b = w3.heap.size := ⟨_, rfl⟩
      have hX5 : Blk b5 #[.slice am c.mountains.length cm, .slice av c.villages.length cv] 25 w4 := by rw [hw4, hb5]; exact Blk.new _ _ _
      have hA4 : Below w3.heap.size w3 w4 := by rw [hw4]; exact (Below.refl _ w3).alloc (Nat.le_refl _) _
      have hX4 := hX3.call hA4
      have hBw4 := bnw hBw3 hA4
      have hC4 := hC3.call hA4
      have hdn : decide ((0 : Int) < (0 : Int)) = false := by decide
      have HR := Lib.hid (HRO.out c hc)
      clear hc hX3 hBw3 hC3
      go_upto_region 4 with fail
      rw [← hw4, ← hb5]
      clear hw4 hb5
      have d0 := hX5.cell 0
      have d1 := hX5.cell 1
      go_wp2_with fail
      clear d0 d1
      refine (check_c hC4).mono ?_
      rintro e w5 ⟨rfl, hB5⟩
      have hX6 := hX4.call hB5
      have hX7 := hX5.call hB5
      have hC5 := hC4.call hB5
      have hBw5 := bnw hBw4 hB5
      have f0 := hX6.free 0
      have f1 := hX6.free 1
      have c0 := hX6.cell 0
      have c1 := hX6.cell 1
      have d0 := hX7.cell 0
      have d1 := hX7.cell 1
      by_cases hck : checkE c = 0
      · have hb : (checkE c != 0) = false := by rw [hck]; rfl
        have HR2 := Lib.hid (show readR t = (c, 0, 0) by rw [HR.out, if_pos hck])
        clear hck
        go_wp2
        have hX2 : Blk b2 #[.slice am c.mountains.length cm, .slice av c.villages.length cv] 25 ((w5.setCell ⟨b2, 0, none⟩ (.slice am c.mountains.length cm)).setCell ⟨b2, 1, none⟩ (.slice av c.villages.length cv)) := (hX6.set 0 (.slice am c.mountains.length cm)).set 1 (.slice av c.villages.length cv)
        have hB9 := (hBw5.setCell (p := ⟨b2, 0, none⟩) hb2w (.slice am c.mountains.length cm)).setCell (p := ⟨b2, 1, none⟩) hb2w (.slice av c.villages.length cv)
        have hC9 : Cm (fun q => w2.heap.size ≤ q) ((w5.setCell ⟨b2, 0, none⟩ (.slice am c.mountains.length cm)).setCell ⟨b2, 1, none⟩ (.slice av c.villages.length cv)) (.slice am c.mountains.length cm) (.slice av c.villages.length cv) c :=
          hC5.step (by simp [World.setCell]) fun q hq _ => (Below.heap_setCell _ ⟨b2, 1, none⟩ _ q (show q ≠ b2 by have hq : w2.heap.size ≤ q := hq; omega)).trans (Below.heap_setCell _ ⟨b2, 0, none⟩ _ q (show q ≠ b2 by have hq : w2.heap.size ≤ q := hq; omega))
        generalize (w5.setCell ⟨b2, 0, none⟩ (.slice am c.mountains.length cm)).setCell ⟨b2, 1, none⟩ (.slice av c.villages.length cv) = wf at hX2 hB9 hC9 ⊢
        have x0 := hX2.cell 0
        have x1 := hX2.cell 1
        refine bodyPost_ret (v := .tuple #[.agg #[.slice am c.mountains.length cm, .slice av c.villages.length cv], .int .i64 0, .int .i64 0]) (by simp [results, Tryz.results12, go_sem, x0, x1]) rfl ?_
        rw [HR2.out]
        exact ⟨_, _, rfl, hC9.wide fun q hq _ => by have hq : w2.heap.size ≤ q := hq
                                                    omega, hB9⟩
      · have hb : (checkE c != 0) = true := by simpa using hck
        have HR2 := Lib.hid (show readR t = (emptyC, 0, checkE c) by rw [HR.out, if_neg hck])
        clear hck
        go_wp2
        have hX2 : Blk b2 #[.slice none 0 0, .slice none 0 0] 25 ((w5.setCell ⟨b2, 0, none⟩ (.slice none 0 0)).setCell ⟨b2, 1, none⟩ (.slice none 0 0)) := (hX6.set 0 (.slice none 0 0)).set 1 (.slice none 0 0)
        have hB9 := (hBw5.setCell (p := ⟨b2, 0, none⟩) hb2w (.slice none 0 0)).setCell (p := ⟨b2, 1, none⟩) hb2w (.slice none 0 0)
        generalize (w5.setCell ⟨b2, 0, none⟩ (.slice none 0 0)).setCell ⟨b2, 1, none⟩ (.slice none 0 0) = wf at hX2 hB9 ⊢
        have x0 := hX2.cell 0
        have x1 := hX2.cell 1
        refine bodyPost_ret (v := .tuple #[.agg #[.slice none 0 0, .slice none 0 0], .int .i64 0, .int .i64 (checkE c)]) (by simp [results, Tryz.results12, go_sem, x0, x1]) rfl ?_
        rw [HR2.out]
        exact ⟨_, _, rfl, cm_empty _, hB9⟩

end Go.Proofs.YtmlikgjfpmjdcaaGreatDoor
