/- LotsRead's walk: what is written is read again, what is read is what is written; conditions: the library's variables hold what their types let them. -/
import Derived.Test.YtmlikgjfpmjdcaaGreatDoorB3
import Derived.Test.YtmlikgjfpmjdcaaGreatDoorRd5
namespace Go.Proofs.YtmlikgjfpmjdcaaGreatDoor
open Go.RowKit

def numK (i : Int) : List UInt8 := if 0 ≤ i ∧ i < 100 then Lib.decDigits i.toNat else []
theorem numK_len (i : Int) : (numK i).length ≤ 20 := by
  unfold numK
  split
  · rename_i h
    obtain ⟨k, hk⟩ : ∃ k : Nat, k = i.toNat := ⟨_, rfl⟩
    have : k < 100 := by omega
    rw [← hk]
    exact (show ∀ k < 100, (Lib.decDigits k).length ≤ 20 by decide +kernel) k this
  · simp
theorem numK_eq {i : Int} (h : In99 i) : numK i = numD i := by
  unfold numK numD
  rw [if_pos (show 0 ≤ i ∧ i < 100 from h)]
theorem itoa_k (i : Int) (h : 0 ≤ i ∧ i < 100) (w : World) : Calls Tryz.prog 30 #[.int .i64 i] w fun e u => e = .returned (.string (str (numK i))) ∧ u = w := by
  have h1 := Tryz.strconv_Itoa_small i.toNat (by omega) w
  rw [show ((i.toNat : Nat) : Int) = i by omega] at h1
  unfold numK str
  rw [if_pos h]
  exact h1
theorem flatMap_eq {α : Type} {f g : α → List UInt8} : ∀ {l : List α}, (∀ a ∈ l, f a = g a) → l.flatMap f = l.flatMap g
  | [], _ => rfl
  | a :: l, h => by
    rw [List.flatMap_cons, List.flatMap_cons, h a (by simp), flatMap_eq fun b hb => h b (by simp [hb])]
theorem lsT_eqK {l : List Int} (h : ∀ i ∈ l, In99 i) : lsT numK l = lsT numD l := by
  unfold lsT
  rw [flatMap_eq (f := fun n => [32] ++ numK n) (g := fun n => [32] ++ numD n) fun i hi => by rw [numK_eq (h i hi)]]
theorem cmT_eqK {c : Com} (h : c.Ok 4) : cmT numK c = cmT numD c := by
  obtain ⟨h1, _, h3⟩ := okV h
  unfold cmT
  rw [lsT_eqK h1, flatMap_eq (f := vlT numK) (g := vlT numD) fun v hv => by
    obtain ⟨a, b, d, _⟩ := h3 v hv
    unfold vlT
    rw [numK_eq a, numK_eq b, lsT_eqK d]]
theorem wr_c {A : Nat → Prop} {w : World} {vm vv : Value} {c : Com} (h : Cm A w vm vv c) (hok : c.Ok 4) :
    Calls Tryz.prog 9 #[.agg #[vm, vv]] w fun e w' => e = .returned (.tuple #[.string (str (cmT numD c)), .int .i64 0]) ∧ Below w.heap.size w w' := by
  have hc := (checkE_zero c).2 hok
  obtain ⟨h1, _, h3⟩ := okV hok
  have := cwrite_c h (num := numK) (Pn := fun i => 0 ≤ i ∧ i < 100) (fun i hi w' _ => itoa_k i hi w') numK_len (fun _ => ⟨h1, fun v hv => ⟨(h3 v hv).1, (h3 v hv).2.1, (h3 v hv).2.2.1⟩⟩)
  rw [hc, if_pos rfl, cmT_eqK hok] at this
  exact this

set_option maxRecDepth 100000 in
set_option maxHeartbeats 4000000 in
theorem lotsRead_c {A : Nat → Prop} {w : World} {v : Value} {nums : List Int} (hn : Ints A w v nums) (t : List UInt8) (htl : t.length ≤ 9000000000000000000) (hE : EV w) (hM : MX w) (h3 : 3 ≤ w.heap.size) :
    Calls Tryz.prog 4 #[v, .string (str t)] w fun e w' => e = .returned (.bool true) ∧ Below w.heap.size w w' := by
  have hz := str_size t
  by_cases hl : 200 < t.length
  · have hd : decide ((200 : Int) < t.length) = true := decide_eq_true (by omega)
    go_enter Tryz.func4, Tryz.ntmps4
    go_wp2_with fail
    refine (drawn_c _).mono ?_
    rintro e w1 ⟨rfl, hB1⟩
    go_wp2_with fail
    go_ret
    exact ⟨rfl, hB1⟩
  · have hd : decide ((200 : Int) < t.length) = false := decide_eq_false (by omega)
    go_enter Tryz.func4, Tryz.ntmps4
    go_wp2_with fail
    refine (newHand_c hn).mono ?_
    rintro e w1 ⟨rfl, hH, hB1⟩
    have hs1 := hH.lt
    go_wp2_with fail
    refine (commonsOf_c hH (by omega) 4 (by omega) (by omega)).mono ?_
    rintro e w2 ⟨vm, vv, rfl, ⟨c, hC, hok⟩, -, hG⟩
    have hB2 : Below w.heap.size w w2 := hB1.grown hG (by omega) (fun k e => by injection e with e; omega)
    clear hG hB1 hH
    obtain ⟨am, cpm, rfl, _, _⟩ := hC.1.shape
    obtain ⟨av, cpv, rfl, _, _⟩ := hC.2.shape
    obtain ⟨w3, hw3⟩ : ∃ w3, w3 = w2.alloc (.cells #[.slice am c.mountains.length cpm, .slice av c.villages.length cpv] 25) := ⟨_, rfl⟩
    obtain ⟨b5, hb5⟩ : ∃ b, b = w2.heap.size := ⟨_, rfl⟩
    have hX3 : Blk b5 #[.slice am c.mountains.length cpm, .slice av c.villages.length cpv] 25 w3 := by rw [hw3, hb5]; exact Blk.new _ _ _
    have hA3 : Below w2.heap.size w2 w3 := by rw [hw3]; exact (Below.refl _ w2).alloc (Nat.le_refl _) _
    have hC3 := hC.call hA3
    have hB3 := bnw hB2 hA3
    have hE3 := hE.call h3 hB3
    have hM3 := hM.call h3 hB3
    have h33 : 3 ≤ w3.heap.size := by have := hB3.size; omega
    go_upto_region 4 with fail
    rw [← hw3, ← hb5]
    clear hw3 hb5 hA3 hC hB2
    have c0 := hX3.cell 0
    have c1 := hX3.cell 1
    go_wp2_with fail
    clear c0 c1
    refine (wr_c hC3 hok).mono ?_
    rintro e w4 ⟨rfl, hB4⟩
    have hE4 := hE3.call h33 hB4
    have hM4 := hM3.call h33 hB4
    have h34 : 3 ≤ w4.heap.size := by have := hB4.size; omega
    have hrw := read_written hok
    have hrd := read_c (cmT numD c) (by have := cmT_len hok; omega) w4 hE4 hM4 h34
    rw [hrw] at hrd
    have HRD := Lib.hid hrd
    clear hrd hrw
    go_wp2_with fail
    refine HRD.out.mono ?_
    rintro e w5 ⟨vm5, vv5, rfl, hC5, hB5⟩
    obtain ⟨am5, cm5, rfl, _, _⟩ := hC5.1.shape
    obtain ⟨av5, cv5, rfl, _, _⟩ := hC5.2.shape
    obtain ⟨w6, hw6⟩ : ∃ w6, w6 = w5.alloc (.cells #[.slice am5 c.mountains.length cm5, .slice av5 c.villages.length cv5] 25) := ⟨_, rfl⟩
    obtain ⟨b8, hb8⟩ : ∃ b, b = w5.heap.size := ⟨_, rfl⟩
    have hX6 : Blk b8 #[.slice am5 c.mountains.length cm5, .slice av5 c.villages.length cv5] 25 w6 := by rw [hw6, hb8]; exact Blk.new _ _ _
    have hA6 : Below w5.heap.size w5 w6 := by rw [hw6]; exact (Below.refl _ w5).alloc (Nat.le_refl _) _
    have hB36 := bnw hB4 (bnw hB5 hA6)
    have hB6 := bnw hB3 hB36
    have hC6 := hC5.call hA6
    have hX56 := hX3.call hB36
    have hC36 := hC3.call hB36
    go_upto_region 6 with fail
    rw [← hw6, ← hb8]
    clear hw6 hb8 hA6 hC5 hB36 hX3 hC3
    have c0 := hX56.cell 0
    have c1 := hX56.cell 1
    have d0 := hX6.cell 0
    have d1 := hX6.cell 1
    go_wp2_with fail
    clear c0 c1 d0 d1
    refine (sameCommons_c hC36 hC6).mono ?_
    rintro e w7 ⟨rfl, hB7⟩
    have hcc : decide (c = c) = true := by simp
    rw [hcc]
    have hB7w := bnw hB6 hB7
    have hE7 := hE.call h3 hB7w
    have hM7 := hM.call h3 hB7w
    have h37 : 3 ≤ w7.heap.size := by have := hB7w.size; omega
    have HRD2 := Lib.hid (read_c t htl w7 hE7 hM7 h37)
    go_wp2_with fail
    refine HRD2.out.mono ?_
    rintro e w8 ⟨vm8, vv8, rfl, hC8, hB8⟩
    obtain ⟨y, hy⟩ : ∃ y, y = (readR t).1 := ⟨_, rfl⟩
    obtain ⟨n8, hn8⟩ : ∃ y, y = (readR t).2.1 := ⟨_, rfl⟩
    obtain ⟨e8, he8⟩ : ∃ y, y = (readR t).2.2 := ⟨_, rfl⟩
    have HT := Lib.hid (show readR t = (y, n8, e8) by rw [hy, hn8, he8])
    rw [← hy] at hC8
    rw [← hn8, ← he8]
    clear hy hn8 he8
    obtain ⟨am8, cm8, rfl, _, _⟩ := hC8.1.shape
    obtain ⟨av8, cv8, rfl, _, _⟩ := hC8.2.shape
    obtain ⟨w9, hw9⟩ : ∃ w9, w9 = w8.alloc (.cells #[.slice am8 y.mountains.length cm8, .slice av8 y.villages.length cv8] 25) := ⟨_, rfl⟩
    obtain ⟨b11, hb11⟩ : ∃ b, b = w8.heap.size := ⟨_, rfl⟩
    have hX9 : Blk b11 #[.slice am8 y.mountains.length cm8, .slice av8 y.villages.length cv8] 25 w9 := by rw [hw9, hb11]; exact Blk.new _ _ _
    have hA9 : Below w8.heap.size w8 w9 := by rw [hw9]; exact (Below.refl _ w8).alloc (Nat.le_refl _) _
    have hC9 := hC8.call hA9
    have hB9 := bnw hB7w (bnw hB8 hA9)
    go_upto_region 9 with fail
    rw [← hw9, ← hb11]
    clear hw9 hb11 hA9 hC8
    by_cases he : e8 = 0
    · subst he
      obtain ⟨hck, htt⟩ := written_read HT.out
      have hoky := (checkE_zero y).1 hck
      have HTT := Lib.hid htt
      clear htt
      have c0 := hX9.cell 0
      have c1 := hX9.cell 1
      go_wp2_with fail
      clear c0 c1
      refine (wr_c hC9 hoky).mono ?_
      rintro e w10 ⟨rfl, hB10⟩
      rw [← HTT.out]
      have htl2 : (str t).toList = t := ByteArray.toList_mk t
      have htt2 : (t == t) = true := by simp
      have hB10w := bnw hB9 hB10
      go_wp2_with fail
      refine (drawn_c _).mono ?_
      rintro e w11 ⟨rfl, hB11⟩
      go_wp2_with fail
      go_ret
      exact ⟨rfl, bnw hB10w hB11⟩
    · have hne : (e8 != 0) = true := by simpa using he
      go_wp2_with fail
      refine (drawn_c _).mono ?_
      rintro e w10 ⟨rfl, hB10⟩
      go_wp2_with fail
      go_ret
      exact ⟨rfl, bnw hB9 hB10⟩

end Go.Proofs.YtmlikgjfpmjdcaaGreatDoor
