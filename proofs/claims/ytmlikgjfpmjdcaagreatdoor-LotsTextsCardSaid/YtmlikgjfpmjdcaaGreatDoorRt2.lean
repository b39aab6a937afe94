/- The reference's village of a line; conditions: none but bounds. -/
import Derived.Test.YtmlikgjfpmjdcaaGreatDoorRt1
import Derived.Test.YtmlikgjfpmjdcaaGreatDoorRd4
namespace Go.Proofs.YtmlikgjfpmjdcaaGreatDoor
open Go.RowKit

theorem own_words {B : Nat} {w : World} {v : Value} {ws : List (List UInt8)} (h : Own B w 9 1 v ws.length (SL ws)) (hne : ws ≠ []) : ∃ b cap, v = .slice (some ⟨b, 0, none⟩) ws.length cap ∧ B ≤ b ∧ ws.length ≤ cap ∧ SW b 0 ws w := by
  obtain ⟨b, off, cap, e, hA, hS⟩ := arr_words (Own.arr h) hne
  rcases h.2 with ⟨rfl, _⟩ | ⟨g, cap2, cur, rfl, _, _, hc, _⟩
  · cases e
  · injection e with e1 e2 e3
    injection e1 with e1
    injection e1 with e4 e5 e6
    subst e4 e5 e3
    exact ⟨_, _, rfl, hA, hc, hS⟩
theorem digits_b (s : List UInt8) (w : World) (hs : s.length ≤ 100000) :
    Calls Tryz.prog 68 #[.string (str s)] w fun e w' => (∃ x b, e = .returned (.tuple #[.int .i64 x, .bool b]) ∧ Hid (numL s = if b = true then some x else none)) ∧ w' = w :=
  (digits_r s w hs).mono fun e w' ⟨h, hw⟩ => ⟨h.elim (fun ⟨x, h1, h2⟩ => ⟨x, true, h2, Lib.hid (by rw [h1]; rfl)⟩) (fun ⟨h1, h2⟩ => ⟨0, false, h2, Lib.hid (by rw [h1]; rfl)⟩), hw⟩
theorem ints_none {A : Nat → Prop} (w : World) : Ints A w (.slice none 0 0) [] := ⟨none, 0, rfl, Nat.le_refl _, ⟨by unfold maxLen; omega, fun _ => rfl⟩, .inl rfl⟩
theorem numbers_b (ws : List (List UInt8)) (ao : Option Addr) (cap : Nat) (w : World) (hs : ∀ s ∈ ws, s.length ≤ 100000) (hw : ws.length ≤ 100000) (hW : ws = [] ∨ ∃ b off, ao = some ⟨b, off, none⟩ ∧ SW b off ws w) :
    Calls Tryz.prog 38 #[.slice ao ws.length cap] w fun e w' => (∃ l v' b, e = .returned (.tuple #[v', .bool b]) ∧ Ints (fun k => w.heap.size ≤ k) w' v' l ∧ Hid (listR ws = if b = true then some l else none)) ∧ Below w.heap.size w w' :=
  (numbers_r ws ao cap w hs hw hW).mono fun e w' ⟨h, hB⟩ => ⟨h.elim (fun ⟨l, v', h1, h2, h3⟩ => ⟨l, v', true, h2, h3, Lib.hid (by rw [h1]; rfl)⟩) (fun ⟨h1, h2⟩ => ⟨[], _, false, h2, ints_none _, Lib.hid (by rw [h1]; rfl)⟩), hB⟩
theorem vil_eq {h d : List UInt8} {r : List (List UInt8)} {x y : Int} {l : List Int} {b1 b2 b3 : Bool} (h1 : numL h = if b1 = true then some x else none) (h2 : numL d = if b2 = true then some y else none) (h3 : listR r = if b3 = true then some l else none) :
    vilR (wV :: h :: wH :: d :: wD :: wL :: r) = if (b1 && b2 && b3) = true then some ⟨x, y, l⟩ else none := by
  cases b1 <;> cases b2 <;> cases b3 <;> simp_all [vilR]
theorem seven_words : ∀ {ws : List (List UInt8)}, 7 ≤ ws.length → ∃ a h b d e f r, ws = a :: h :: b :: d :: e :: f :: r ∧ 1 ≤ r.length
  | a :: h :: b :: d :: e :: f :: g :: r, _ => ⟨a, h, b, d, e, f, g :: r, rfl, by simp⟩
theorem vil_six : ∀ {ws : List (List UInt8)}, ws.length < 7 → vilR ws = none
  | [], _ => rfl
  | [_], _ => rfl
  | [_, _], _ => rfl
  | [_, _, _], _ => rfl
  | [_, _, _, _], _ => rfl
  | [_, _, _, _, _], _ => rfl
  | [a, h, b, d, e, f], _ => by
    simp only [vilR]
    split
    · cases numL h <;> cases numL d <;> rfl
    · rfl
  | _ :: _ :: _ :: _ :: _ :: _ :: _ :: _, h => by simp at h; omega

/-- What the reference's village hands back. -/
def VilP (ws : List (List UInt8)) (w : World) (e : Ending) (w' : World) : Prop :=
  (∃ x y al l cl b, e = .returned (.tuple #[.agg #[.int .i64 x, .int .i64 y, .slice al l.length cl], .bool b]) ∧ Ints (fun k => w.heap.size ≤ k) w' (.slice al l.length cl) l ∧ Hid (vilR ws = if b = true then some ⟨x, y, l⟩ else none)) ∧ Below w.heap.size w w'

set_option maxRecDepth 100000 in
set_option maxHeartbeats 4000000 in
theorem village_r (ws : List (List UInt8)) (b cap : Nat) (w : World) (hS : SW b 0 ws w) (hlen : ∀ s ∈ ws, s.length ≤ 1000) (hwl : ws.length ≤ 1001) (hcap : ws.length ≤ cap) :
    Calls Tryz.prog 39 #[.slice (some ⟨b, 0, none⟩) ws.length cap] w fun e w' => VilP ws w e w' := by
  obtain ⟨w1, hw1⟩ : ∃ w1, w1 = w.alloc (.cells #[.int .i64 0, .int .i64 0, .slice none 0 0] 43) := ⟨_, rfl⟩
  obtain ⟨b2, hb2⟩ : ∃ b, b = w.heap.size := ⟨_, rfl⟩
  have hX1 : Blk b2 #[.int .i64 0, .int .i64 0, .slice none 0 0] 43 w1 := by rw [hw1, hb2]; exact Blk.new _ _ _
  have hB1 : Below w.heap.size w w1 := by rw [hw1]; exact (Below.refl _ w).alloc (Nat.le_refl _) _
  have hb2w : w.heap.size ≤ b2 := Nat.le_of_eq hb2.symm
  have hS1 := hS.call hB1
  have early : ∀ (T : Array Value), vilR ws = none → T.getD 2 undef = .pointer (some ⟨b2, 0, none⟩) → T.getD 3 undef = .bool false →
      bodyPost Tryz.prog Tryz.f39 (fun e w' => VilP ws w e w') .ret { tmps := T, defers := [] } (((w1.setCell ⟨b2, 0, none⟩ (.int .i64 0)).setCell ⟨b2, 1, none⟩ (.int .i64 0)).setCell ⟨b2, 2, none⟩ (.slice none 0 0)) := by
    intro T hv h2 h3
    have hX2 := ((hX1.set 0 (.int .i64 0)).set 1 (.int .i64 0)).set 2 (.slice none 0 0)
    have hB2 := ((hB1.setCell (p := ⟨b2, 0, none⟩) hb2w (.int .i64 0)).setCell (p := ⟨b2, 1, none⟩) hb2w (.int .i64 0)).setCell (p := ⟨b2, 2, none⟩) hb2w (.slice none 0 0)
    generalize ((w1.setCell ⟨b2, 0, none⟩ (.int .i64 0)).setCell ⟨b2, 1, none⟩ (.int .i64 0)).setCell ⟨b2, 2, none⟩ (.slice none 0 0) = wf at hX2 hB2 ⊢
    have x0 := hX2.cell 0
    have x1 := hX2.cell 1
    have x2 := hX2.cell 2
    have g2 : T[2]?.getD undef = .pointer (some ⟨b2, 0, none⟩) := by simpa using h2
    have g3 : T[3]?.getD undef = .bool false := by simpa using h3
    refine bodyPost_ret (v := .tuple #[.agg #[.int .i64 0, .int .i64 0, .slice none 0 0], .bool false]) (by simp [results, Tryz.results39, go_sem, g2, g3, x0, x1, x2]) rfl ?_
    exact ⟨⟨0, 0, none, [], 0, false, rfl, ints_none _, Lib.hid (by rw [hv]; rfl)⟩, hB2⟩
  have EA := Lib.hid early
  clear early
  have f0 := hX1.free 0
  have f1 := hX1.free 1
  have f2 := hX1.free 2
  have k0 := hX1.cell 0
  have k1 := hX1.cell 1
  have k2 := hX1.cell 2
  by_cases h7 : ws.length < 7
  · have HN := Lib.hid (vil_six h7)
    go_enter Tryz.func39, Tryz.ntmps39
    go_upto_region 1 with fail
    rw [← hw1, ← hb2]
    clear hw1 hb2
    go_wp2_with fail
    exact EA.out _ HN.out rfl rfl
  obtain ⟨a, h, x, d, f, t, r, hws, hr1⟩ := seven_words (ws := ws) (by omega)
  have hrm : r.length + 6 ≤ ws.length ∧ ws.length ≤ r.length + 6 := by rw [hws]; simp
  obtain ⟨m, hm⟩ : ∃ m, m = r.length := ⟨_, rfl⟩
  have hm1 : 1 ≤ m := by omega
  obtain ⟨n, hn⟩ : ∃ n, n = ws.length := ⟨_, rfl⟩
  have hn6 : m + 6 ≤ n ∧ n ≤ m + 6 := by omega
  have hnc : n ≤ cap := by omega
  have cells : ∀ j (hj : j < 6), w1.cell? ⟨b, j, none⟩ = some (.string (str ([a, h, x, d, f, t].getD j []))) := fun j hj => by
    have := hS1.2 j (by omega)
    rw [Nat.zero_add] at this
    rw [this]
    congr 2
    subst hws
    rcases (show j = 0 ∨ j = 1 ∨ j = 2 ∨ j = 3 ∨ j = 4 ∨ j = 5 by omega) with h | h | h | h | h | h <;> subst h <;> rfl
  have g0 := cells 0 (by decide)
  have g1 := cells 1 (by decide)
  have g2 := cells 2 (by decide)
  have g3 := cells 3 (by decide)
  have g4 := cells 4 (by decide)
  have g5 := cells 5 (by decide)
  clear cells
  simp only [List.getD_cons_zero, List.getD_cons_succ] at g0 g1 g2 g3 g4 g5
  have ta : (str a).toList = a := ByteArray.toList_mk a
  have tx : (str x).toList = x := ByteArray.toList_mk x
  have tf : (str f).toList = f := ByteArray.toList_mk f
  have tt : (str t).toList = t := ByteArray.toList_mk t
  have hVN : ¬ (a = wV ∧ x = wH ∧ f = wD ∧ t = wL) → vilR ws = none := fun hn => by rw [hws]; exact vil_word hn
  have HVN := Lib.hid hVN
  have hlh : h.length ≤ 100000 := by have := hlen h (by rw [hws]; simp); omega
  have hld : d.length ≤ 100000 := by have := hlen d (by rw [hws]; simp); omega
  have hlr : ∀ y ∈ r, y.length ≤ 100000 := fun y hy => by have := hlen y (by rw [hws]; simp [hy]); omega
  have hrl : r.length ≤ 100000 := by omega
  have hSr : ∀ w', Below w1.heap.size w1 w' → SW b 6 r w' := fun w' hB => by
    have hS2 := hS1.call hB
    refine ⟨hS2.1, fun j hj => ?_⟩
    have := hS2.2 (6 + j) (by omega)
    rw [Nat.zero_add] at this
    rw [this]
    subst hws
    simp only [Nat.add_comm 6 j, List.getElem_cons_succ]
  have HSR := Lib.hid hSr
  have HWS := Lib.hid hws
  rw [← hn]
  clear hVN hws hrm h7 hn hSr
  have HM := Lib.hid hm
  have HRL := Lib.hid hrl
  clear hm hr1 hrl
  by_cases qa : a = wV
  rotate_left
  · have ba : (a == [118, 105, 108, 108, 97, 103, 101]) = false := by rw [beq_eq_false_iff_ne]; exact qa
    have HN := Lib.hid (HVN.out fun h => qa h.1)
    clear qa
    go_enter Tryz.func39, Tryz.ntmps39
    go_upto_region 1 with fail
    rw [← hw1, ← hb2]
    clear hw1 hb2
    go_wp2_with fail
    exact EA.out _ HN.out rfl rfl
  rw [qa, show wV = [118, 105, 108, 108, 97, 103, 101] from rfl] at g0
  have La : (str [118, 105, 108, 108, 97, 103, 101]).toList = [118, 105, 108, 108, 97, 103, 101] := ByteArray.toList_mk _
  have HQa := Lib.hid qa
  clear qa ta
  by_cases qx : x = wH
  rotate_left
  · have bx : (x == [104, 101, 97, 114, 116, 104, 115]) = false := by rw [beq_eq_false_iff_ne]; exact qx
    have HN := Lib.hid (HVN.out fun h => qx h.2.1)
    clear qx
    go_enter Tryz.func39, Tryz.ntmps39
    go_upto_region 1 with fail
    rw [← hw1, ← hb2]
    clear hw1 hb2
    go_wp2_with fail
    exact EA.out _ HN.out rfl rfl
  rw [qx, show wH = [104, 101, 97, 114, 116, 104, 115] from rfl] at g2
  have Lx : (str [104, 101, 97, 114, 116, 104, 115]).toList = [104, 101, 97, 114, 116, 104, 115] := ByteArray.toList_mk _
  have HQx := Lib.hid qx
  clear qx tx
  by_cases qf : f = wD
  rotate_left
  · have bf : (f == [104, 101, 97, 100, 115]) = false := by rw [beq_eq_false_iff_ne]; exact qf
    have HN := Lib.hid (HVN.out fun h => qf h.2.2.1)
    clear qf
    go_enter Tryz.func39, Tryz.ntmps39
    go_upto_region 1 with fail
    rw [← hw1, ← hb2]
    clear hw1 hb2
    go_wp2_with fail
    exact EA.out _ HN.out rfl rfl
  rw [qf, show wD = [104, 101, 97, 100, 115] from rfl] at g4
  have Lf : (str [104, 101, 97, 100, 115]).toList = [104, 101, 97, 100, 115] := ByteArray.toList_mk _
  have HQf := Lib.hid qf
  clear qf tf
  by_cases qt : t = wL
  rotate_left
  · have bt : (t == [108, 105, 107, 101, 115]) = false := by rw [beq_eq_false_iff_ne]; exact qt
    have HN := Lib.hid (HVN.out fun h => qt h.2.2.2)
    clear qt
    go_enter Tryz.func39, Tryz.ntmps39
    go_upto_region 1 with fail
    rw [← hw1, ← hb2]
    clear hw1 hb2
    go_wp2_with fail
    exact EA.out _ HN.out rfl rfl
  rw [qt, show wL = [108, 105, 107, 101, 115] from rfl] at g5
  have Lt : (str [108, 105, 107, 101, 115]).toList = [108, 105, 107, 101, 115] := ByteArray.toList_mk _
  have HQt := Lib.hid qt
  clear qt tt
  clear EA
  go_enter Tryz.func39, Tryz.ntmps39
  go_upto_region 1 with fail
  rw [← hw1, ← hb2]
  clear hw1 hb2
  go_upto_region 3 with fail
  go_wp2_with fail
  refine (digits_b h w1 hlh).mono ?_
  rintro e w2 ⟨⟨y1, b1, rfl, H1⟩, rfl⟩
  go_wp2_with fail
  refine (digits_b d w2 hld).mono ?_
  rintro e w3 ⟨⟨y2, b2', rfl, H2⟩, rfl⟩
  clear g0 g1 g2 g3 g4 g5
  go_upto_region 5 with fail
  have hnum := numbers_b r (some ⟨b, 6, none⟩) (cap - 6) w3 hlr HRL.out (.inr ⟨b, 6, rfl, HSR.out _ (Below.refl _ _)⟩)
  rw [← HM.out] at hnum
  have HNM := Lib.hid hnum
  clear hnum
  have hmn : n - 6 = m := by omega
  have hmi : (n : Int) - 6 = m := by omega
  go_wp2_with fail
  refine HNM.out.mono ?_
  rintro e w4 ⟨⟨l, v4, b3, rfl, hI4, H3⟩, hB4⟩
  obtain ⟨al, cl, rfl, _, _⟩ := hI4.shape
  have hV := vil_eq H1.out H2.out H3.out
  have hVV : vilR ws = if (b1 && b2' && b3) = true then some ⟨y1, y2, l⟩ else none := by rw [HWS.out, HQa.out, HQx.out, HQf.out, HQt.out]; exact hV
  have HV := Lib.hid hVV
  clear hV hVV H1 H2 H3 k0 k1 k2 f0 f1 f2
  have hX4 := hX1.call hB4
  have hBw4 := bnw hB1 hB4
  have hb2l : b2 < w3.heap.size := hX1.lt
  have f0 := hX4.free 0
  have f1 := hX4.free 1
  have f2 := hX4.free 2
  have k0 := hX4.cell 0
  have k1 := hX4.cell 1
  have k2 := hX4.cell 2
  have fin : ∀ (T : Array Value) (b9 : Bool), b9 = (b1 && b2' && b3) → T.getD 2 undef = .pointer (some ⟨b2, 0, none⟩) → T.getD 3 undef = .bool b9 →
      bodyPost Tryz.prog Tryz.f39 (fun e w' => VilP ws w e w') .ret { tmps := T, defers := [] } (((w4.setCell ⟨b2, 0, none⟩ (.int .i64 y1)).setCell ⟨b2, 1, none⟩ (.int .i64 y2)).setCell ⟨b2, 2, none⟩ (.slice al l.length cl)) := by
    intro T b9 hb9 h2 h3
    have hX2 := ((hX4.set 0 (.int .i64 y1)).set 1 (.int .i64 y2)).set 2 (.slice al l.length cl)
    have hB2 := ((hBw4.setCell (p := ⟨b2, 0, none⟩) hb2w (.int .i64 y1)).setCell (p := ⟨b2, 1, none⟩) hb2w (.int .i64 y2)).setCell (p := ⟨b2, 2, none⟩) hb2w (.slice al l.length cl)
    have hI9 : Ints (fun q => w3.heap.size ≤ q) (((w4.setCell ⟨b2, 0, none⟩ (.int .i64 y1)).setCell ⟨b2, 1, none⟩ (.int .i64 y2)).setCell ⟨b2, 2, none⟩ (.slice al l.length cl)) (.slice al l.length cl) l :=
      hI4.step (by simp [World.setCell]) fun q hq _ => (Below.heap_setCell _ ⟨b2, 2, none⟩ _ q (show q ≠ b2 by have hq : w3.heap.size ≤ q := hq; omega)).trans ((Below.heap_setCell _ ⟨b2, 1, none⟩ _ q (show q ≠ b2 by have hq : w3.heap.size ≤ q := hq; omega)).trans (Below.heap_setCell _ ⟨b2, 0, none⟩ _ q (show q ≠ b2 by have hq : w3.heap.size ≤ q := hq; omega)))
    generalize ((w4.setCell ⟨b2, 0, none⟩ (.int .i64 y1)).setCell ⟨b2, 1, none⟩ (.int .i64 y2)).setCell ⟨b2, 2, none⟩ (.slice al l.length cl) = wf at hX2 hB2 hI9 ⊢
    have x0 := hX2.cell 0
    have x1 := hX2.cell 1
    have x2 := hX2.cell 2
    have g2 : T[2]?.getD undef = .pointer (some ⟨b2, 0, none⟩) := by simpa using h2
    have g3 : T[3]?.getD undef = .bool b9 := by simpa using h3
    refine bodyPost_ret (v := .tuple #[.agg #[.int .i64 y1, .int .i64 y2, .slice al l.length cl], .bool b9]) (by simp [results, Tryz.results39, go_sem, g2, g3, x0, x1, x2]) rfl ?_
    exact ⟨⟨y1, y2, al, l, cl, b9, rfl, hI9.wide fun q hq _ => by have hq : w3.heap.size ≤ q := hq; have := hB1.size; omega, Lib.hid (by rw [HV.out, hb9])⟩, hB2⟩
  have HF := Lib.hid fin
  clear fin
  have HB := Lib.hid hBw4
  clear hI4 HV
  cases b1 <;> cases b2' <;> cases b3 <;> (go_wp2_with fail; exact HF.out _ _ rfl rfl rfl)

end Go.Proofs.YtmlikgjfpmjdcaaGreatDoor
