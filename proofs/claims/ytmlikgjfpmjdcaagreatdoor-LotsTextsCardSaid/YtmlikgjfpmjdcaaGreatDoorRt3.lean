/- The reference reads commons; conditions: none but a bound on the text's length. -/
import Derived.Test.YtmlikgjfpmjdcaaGreatDoorRt2
import Derived.Test.YtmlikgjfpmjdcaaGreatDoorRd5
namespace Go.Proofs.YtmlikgjfpmjdcaaGreatDoor
open Go.RowKit

/-- The commons so far, in a box of the call's own. -/
structure RS (w0 : World) (bc : Nat) (c : Com) (vm vv : Value) (ls : List Value) (w : World) : Prop where
  box : Blk bc #[vm, vv] 25 w
  im : Ints (fun b => bc < b ∧ vv.ownBlock ≠ some b) w vm c.mountains
  ov : Own (bc + 1) w 43 3 vv c.villages.length (vcells c.villages ls)
  ll : ls.length = c.villages.length
  li : ∀ i (a : i < ls.length) (b : i < c.villages.length), Ints (fun b => bc < b ∧ vv.ownBlock ≠ some b) w ls[i] c.villages[i].likes
  o : w0.heap.size ≤ bc
  bel : Below w0.heap.size w0 w
section
variable {w0 w w' : World} {bc : Nat} {c : Com} {vm vv : Value} {ls : List Value}
theorem RS.call (h : RS w0 bc c vm vv ls w) (hB : Below w.heap.size w w') : RS w0 bc c vm vv ls w' :=
  ⟨h.box.call hB, h.im.call hB, h.ov.call hB, h.ll, fun i a b => (h.li i a b).call hB, h.o, bnw h.bel hB⟩
theorem RS.keepM (h : RS w0 bc c vm vv ls w) {vm' : Value} {l : List Int} (hl : Ints (fun b => bc < b ∧ vv.ownBlock ≠ some b) w vm' l) : RS w0 bc ⟨l, c.villages⟩ vm' vv ls (w.setCell ⟨bc, 0, none⟩ vm') := by
  have ho := h.o
  have hb : ∀ q, q ≠ bc → (w.setCell ⟨bc, 0, none⟩ vm').heap[q]? = w.heap[q]? := fun q hq => Below.heap_setCell _ _ _ _ hq
  have hs : w.heap.size ≤ (w.setCell ⟨bc, 0, none⟩ vm').heap.size := by simp [World.setCell]
  exact ⟨h.box.set 0 vm', hl.step hs fun q hq _ => hb q (by have := hq.1; omega), Own.step h.ov fun q _ hq _ => hb q (by omega), h.ll, fun i a b => (h.li i a b).step hs fun q hq _ => hb q (by have := hq.1; omega), h.o, h.bel.setCell (p := ⟨bc, 0, none⟩) h.o vm'⟩
theorem RS.vill (h : RS w0 bc c vm vv ls w) {vv' vl : Value} {x : Vil} (hli : Ints (fun b => bc < b ∧ vv.ownBlock ≠ some b) w vl x.likes)
    (ho : Own (bc + 1) w' 43 3 vv' (c.villages.length + 1) (vcells c.villages ls ++ [.int .i64 x.hearths, .int .i64 x.herd, vl])) (ht : Turned w w' vv vv') :
    RS w0 bc ⟨c.mountains, c.villages ++ [x]⟩ vm vv' (ls ++ [vl]) (w'.setCell ⟨bc, 1, none⟩ vv') := by
  have hoo := h.o
  have hz := h.box.lt
  have hm : ∀ i, vv.ownBlock = some i → bc + 1 ≤ i := fun i hi => (World.ownsRow.lt h.ov i hi).1
  have hkeep : ∀ i, i < w.heap.size → vv.ownBlock ≠ some i → i ≠ bc → (w'.setCell ⟨bc, 1, none⟩ vv').heap[i]? = w.heap[i]? := fun i hi hne h1 =>
    (Below.heap_setCell _ _ _ _ h1).trans (ht.block i hi hne)
  have hpl : ∀ i, vv'.ownBlock = some i → vv.ownBlock = some i ∨ i = w.heap.size := fun i hi => by
    rcases ht.place with e | e
    · exact .inl (e ▸ hi)
    · exact .inr (Option.some.inj (hi.symm.trans e))
  have hs := ht.size
  have hgen : ∀ (u : Value) (l : List Int), Ints (fun b => bc < b ∧ vv.ownBlock ≠ some b) w u l → Ints (fun b => bc < b ∧ vv'.ownBlock ≠ some b) (w'.setCell ⟨bc, 1, none⟩ vv') u l := by
    intro u l hu
    refine ((hu.wide (A' := fun b => bc < b ∧ vv.ownBlock ≠ some b ∧ vv'.ownBlock ≠ some b) fun d hd hl => ⟨hd.1, hd.2, fun e => ?_⟩).step
      (by simp [World.setCell]; omega) fun d hd hl => hkeep d hl hd.2.1 (by have := hd.1; omega)).wide fun d hd _ => ⟨hd.1, hd.2.2⟩
    rcases hpl d e with e | e
    · exact hd.2 e
    · omega
  have hbx : Blk bc #[vm, vv] 25 w' := h.box.keep (ht.block _ (by omega) (fun e => by have := hm _ e; omega))
  refine ⟨hbx.set 1 vv', hgen _ _ h.im, ?_, by simp [h.ll], ?_, hoo, (ht.below2 (B' := w0.heap.size) h.ov h.bel (by omega) (by omega)).setCell (p := ⟨bc, 1, none⟩) hoo vv'⟩
  · rw [List.length_append]
    show Own _ _ 43 3 vv' (c.villages.length + 1) _
    rw [vcells_append c.villages ls h.ll]
    exact Own.step ho fun i _ h1 _ => Below.heap_setCell _ _ _ _ (show i ≠ bc by omega)
  · intro i a b
    rcases Nat.lt_or_ge i ls.length with hi | hi
    · have hb : i < c.villages.length := by rw [← h.ll]; exact hi
      have := hgen _ _ (h.li i hi hb)
      simpa [List.getElem_append_left, hi, hb] using this
    · have hil : i = ls.length := by simp at a; omega
      subst hil
      have := hgen _ _ hli
      simpa [h.ll] using this
theorem RS.cm (h : RS w0 bc c vm vv ls w) : Cm (fun q => w0.heap.size ≤ q) w vm vv c := by
  have ho := h.o
  exact ⟨h.im.wide fun q hq _ => by have := hq.1; omega, ls, h.ll, (Own.arr h.ov).wide fun q hq _ => by have hq : bc + 1 ≤ q := hq
                                                                                                        omega, fun i a b => (h.li i a b).wide fun q hq _ => by have := hq.1; omega⟩
end
/-- How a reading stands at the i-th line: lines taken so far, or ended. -/
def RI (ws : List (List UInt8)) (fin : List UInt8) (i : Nat) (c : Com) (eb : Bool) : Prop :=
  (eb = false ∧ takeR ws = takeG fin i c (ws.dropLast.drop i)) ∨ (eb = true ∧ 1 ≤ i ∧ takeR ws = if ws.dropLast.drop i ≠ [] ∨ fin ≠ [] then .error (i + 1) else .ok c)

set_option maxRecDepth 100000 in
set_option maxHeartbeats 4000000 in
theorem read_r (t : List UInt8) (ht : t.length ≤ 9000000000000000000) (w : World) :
    Calls Tryz.prog 13 #[.string (str t)] w fun e w' => ∃ vm vv, e = .returned (.tuple #[.agg #[vm, vv], .int .i64 (readR t).2.1, .int .i64 (readR t).2.2]) ∧ Cm (fun q => w.heap.size ≤ q) w' vm vv (readR t).1 ∧ Below w.heap.size w w' := by
  obtain ⟨w1, hw1⟩ : ∃ w1, w1 = w.alloc (.cells #[.slice none 0 0, .slice none 0 0] 25) := ⟨_, rfl⟩
  obtain ⟨b2, hb2⟩ : ∃ b, b = w.heap.size := ⟨_, rfl⟩
  have hX1 : Blk b2 #[.slice none 0 0, .slice none 0 0] 25 w1 := by rw [hw1, hb2]; exact Blk.new _ _ _
  have hB1 : Below w.heap.size w w1 := by rw [hw1]; exact (Below.refl _ w).alloc (Nat.le_refl _) _
  have hb2w : w.heap.size ≤ b2 := Nat.le_of_eq hb2.symm
  have hz := str_size t
  have out : ∀ (T : Array Value) (x : World) (q k : Int), Blk b2 #[.slice none 0 0, .slice none 0 0] 25 x → Below w.heap.size w x → readR t = (emptyC, q, k) → T.getD 2 undef = .pointer (some ⟨b2, 0, none⟩) → T.getD 3 undef = .int .i64 q → T.getD 4 undef = .int .i64 k →
      bodyPost Tryz.prog Tryz.f13 (fun e w' => ∃ vm vv, e = .returned (.tuple #[.agg #[vm, vv], .int .i64 (readR t).2.1, .int .i64 (readR t).2.2]) ∧ Cm (fun q => w.heap.size ≤ q) w' vm vv (readR t).1 ∧ Below w.heap.size w w') .ret { tmps := T, defers := [] } ((x.setCell ⟨b2, 0, none⟩ (.slice none 0 0)).setCell ⟨b2, 1, none⟩ (.slice none 0 0)) := by
    intro T x q k hX hB hR h2 h3 h4
    have hX2 := (hX.set 0 (.slice none 0 0)).set 1 (.slice none 0 0)
    have hB2 := (hB.setCell (p := ⟨b2, 0, none⟩) hb2w (.slice none 0 0)).setCell (p := ⟨b2, 1, none⟩) hb2w (.slice none 0 0)
    generalize (x.setCell ⟨b2, 0, none⟩ (.slice none 0 0)).setCell ⟨b2, 1, none⟩ (.slice none 0 0) = wf at hX2 hB2 ⊢
    have x0 := hX2.cell 0
    have x1 := hX2.cell 1
    have g2 : T[2]?.getD undef = .pointer (some ⟨b2, 0, none⟩) := by simpa using h2
    have g3 : T[3]?.getD undef = .int .i64 q := by simpa using h3
    have g4 : T[4]?.getD undef = .int .i64 k := by simpa using h4
    refine bodyPost_ret (v := .tuple #[.agg #[.slice none 0 0, .slice none 0 0], .int .i64 q, .int .i64 k]) (by simp [results, Tryz.results13, go_sem, g2, g3, g4, x0, x1]) rfl ?_
    rw [hR]
    exact ⟨_, _, rfl, cm_empty _, hB2⟩
  have OUT := Lib.hid out
  clear out
  by_cases hl : 400 < t.length
  · have hd : decide ((400 : Int) < t.length) = true := decide_eq_true (by omega)
    have HR := Lib.hid (show readR t = (emptyC, 0, 10) by unfold readR; rw [if_pos hl])
    have f0 := hX1.free 0
    have f1 := hX1.free 1
    have c0 := hX1.cell 0
    have c1 := hX1.cell 1
    go_enter Tryz.func13, Tryz.ntmps13
    go_upto_region 1 with fail
    rw [← hw1, ← hb2]
    clear hw1 hb2
    go_wp2
    exact OUT.out _ _ _ _ hX1 hB1 HR.out rfl rfl rfl
  · have hd : decide ((400 : Int) < t.length) = false := decide_eq_false (by omega)
    obtain ⟨ws, hws⟩ : ∃ x, x = cutL 10 t := ⟨_, rfl⟩
    have hwn : ws ≠ [] := by rw [hws]; exact cutL_ne 10 t
    have hwl : ∀ x ∈ ws, x.length ≤ 1000 := fun x hx => by have := cut_word 10 t x (by rw [← hws]; exact hx); omega
    have hwm : ws.length ≤ 1000 := by rw [hws]; have := cut_len 10 t; omega
    have hpos : 0 < ws.length := List.length_pos_iff.2 hwn
    have hRR : ∀ n, takeR ws = .error n → readR t = (emptyC, (n : Int), 2) := fun n h => by
      unfold readR
      rw [if_neg hl, ← hws, h]
    have hRO : ∀ c, takeR ws = .ok c → readR t = if checkE c = 0 then (c, 0, 0) else (emptyC, 0, checkE c) := fun c h => by
      unfold readR
      rw [if_neg hl, ← hws, h]
    have HRR := Lib.hid hRR
    have HRO := Lib.hid hRO
    clear hRR hRO
    have hsp := split_r 10 t w1 (by omega)
    rw [← hws] at hsp
    have HSP := Lib.hid hsp
    clear hsp hws
    obtain ⟨fin, hfin⟩ : ∃ f, f = ws.getLastD [] := ⟨_, rfl⟩
    have hR0 := Lib.hid (show takeR ws = takeG fin 0 emptyC (ws.dropLast.drop 0) by unfold takeR; rw [hfin]; rfl)
    have hfl : ws[ws.length - 1]'(by omega) = fin := by
      rw [hfin, List.getLastD_eq_getLast?, List.getLast?_eq_getElem?, List.getElem?_eq_getElem (by omega)]
      rfl
    have HFL := Lib.hid hfl
    clear hfin hfl
    go_enter Tryz.func13, Tryz.ntmps13
    go_upto_region 1 with fail
    rw [← hw1, ← hb2]
    clear hw1 hb2
    go_wp2_with fail
    refine HSP.out.mono ?_
    rintro e w2 ⟨v2, rfl, hO2, hB2⟩
    obtain ⟨q, cap, rfl, hqw, hcap, hW2⟩ := own_words hO2 hwn
    clear hO2
    obtain ⟨w3, hw3⟩ : ∃ w3, w3 = w2.alloc (.cells #[.slice none 0 0, .slice none 0 0] 25) := ⟨_, rfl⟩
    obtain ⟨bc, hbc⟩ : ∃ b, b = w2.heap.size := ⟨_, rfl⟩
    have hC3 : Blk bc #[.slice none 0 0, .slice none 0 0] 25 w3 := by rw [hw3, hbc]; exact Blk.new _ _ _
    have hA3 : Below w2.heap.size w2 w3 := by rw [hw3]; exact (Below.refl _ w2).alloc (Nat.le_refl _) _
    have hB3 := bnw hB1 (bnw hB2 hA3)
    have hbcw : w2.heap.size ≤ bc := Nat.le_of_eq hbc.symm
    have hT3 : RS w2 bc emptyC (.slice none 0 0) (.slice none 0 0) [] w3 := ⟨hC3, ⟨none, 0, rfl, Nat.le_refl _, ⟨by unfold maxLen; omega, fun _ => rfl⟩, .inl rfl⟩, Own.nil, rfl, fun i a => by simp at a, hbcw, hA3⟩
    have hX2 := hX1.call hB2
    have hb2l : b2 < w2.heap.size := hX2.lt
    obtain ⟨n, hn⟩ : ∃ n, ws.length = n + 1 := ⟨ws.length - 1, by omega⟩
    have HN := Lib.hid hn
    have hn1 : n + 1 ≤ ws.length ∧ ws.length ≤ n + 1 := ⟨by omega, by omega⟩
    rw [hn]
    clear hn
    go_upto_region 6 with fail
    rw [← hw3, ← hbc]
    clear hw3 hbc hC3 hA3
    go_wp2_with fail
    go_loopw [8, 9] (fun vb vi wr => ∃ (i : Nat) (c : Com) (vm vv : Value) (ls : List Value) (eb : Bool), i ≤ n ∧ vi = .int .i64 i ∧ vb = .bool eb ∧ RS w2 bc c vm vv ls wr ∧ Hid (RI ws fin i c eb) ∧ c.villages.length ≤ i) (fun _ vi _ => n - (intOf vi).toNat)
    case atStart => exact ⟨0, emptyC, _, _, [], false, Nat.zero_le _, rfl, rfl, hT3, Lib.hid (.inl ⟨rfl, hR0.out⟩), Nat.le_refl _⟩
    case round =>
      obtain ⟨i, c, vm, vv, ls, eb, hi, rfl, rfl, hT, HR, hvi⟩ := hrel
      have hSr := hW2.call hT.bel
      have hXr := hX2.call hT.bel
      have hBr := bnw hB1 (bnw hB2 hT.bel)
      have hdl : ws.dropLast.length = n := by rw [List.length_dropLast]; omega
      have HDL := Lib.hid hdl
      clear hdl
      obtain ⟨av, cv, rfl⟩ := own_slice hT.ov
      obtain ⟨am, cm, rfl, -, -⟩ := hT.im.shape
      by_cases hlt : i < n
      · have hiw : i < ws.length := by omega
        have hin : (i : Int) < n := by omega
        have d0 := hSr.2 i hiw
        rw [Nat.zero_add] at d0
        obtain ⟨s, hs⟩ : ∃ s, s = ws[i] := ⟨_, rfl⟩
        have hsl : s.length ≤ 1000 := hwl s (by rw [hs]; exact List.getElem_mem _)
        rw [← hs] at d0
        have hdr : ws.dropLast.drop i = s :: ws.dropLast.drop (i + 1) := by
          rw [hs]
          exact drop_at (by rw [HDL.out]; exact hlt)
        have HDR := Lib.hid hdr
        have HSI := Lib.hid hs
        clear hs hdr
        go_wp2_with fail
        refine (split_r 32 s wr (by omega)).mono ?_
        rintro e w4 ⟨v4, rfl, hO4, hB4⟩
        obtain ⟨ws2, hws2⟩ : ∃ x, x = cutL 32 s := ⟨_, rfl⟩
        have hws2n : 0 < ws2.length := by rw [hws2]; exact List.length_pos_iff.2 (cutL_ne 32 s)
        have hws2l : ∀ x ∈ ws2, x.length ≤ 1000 := fun x hx => by have := cut_word 32 s x (by rw [← hws2]; exact hx); omega
        have hws2m : ws2.length ≤ 1001 := by rw [hws2]; have := cut_len 32 s; omega
        rw [← hws2] at hO4
        have HWS := Lib.hid hws2
        clear hws2 d0
        obtain ⟨q4, cap4, rfl, hq4w, hcap4, hW4⟩ := own_words hO4 (List.length_pos_iff.1 hws2n)
        clear hO4
        have hT4 := hT.call hB4
        have hX4 := hXr.call hB4
        have hS4 := hSr.call hB4
        have hBw4 := bnw hBr hB4
        have f0 := hX4.free 0
        have f1 := hX4.free 1
        have c0 := hX4.cell 0
        have c1 := hX4.cell 1
        have d4 := hS4.2 i hiw
        rw [Nat.zero_add, ← HSI.out] at d4
        clear hT hXr hSr
        cases eb with
        | true =>
          have hRt : takeR ws = .error (i + 1) := by
            rcases HR.out with ⟨h, _⟩ | ⟨_, _, h⟩
            · cases h
            · rw [h, if_pos (.inl (by rw [HDR.out]; simp))]
          have HE := Lib.hid (HRR.out _ hRt)
          clear hRt
          go_wp2_with fail
          exact OUT.out _ _ ((i : Int) + 1) 2 hX4 hBw4 (by rw [HE.out]; rfl) rfl (by go_num) rfl
        | false =>
          have hR2 : takeR ws = takeG fin i c (s :: ws.dropLast.drop (i + 1)) := by
            rcases HR.out with ⟨_, h⟩ | ⟨h, _⟩
            · rw [h, HDR.out]
            · cases h
          have HR2 := Lib.hid hR2
          clear hR2
          by_cases hi0 : i = 0
          · subst hi0
            have g0 := hW4.2 0 hws2n
            rw [Nat.zero_add] at g0
            obtain ⟨a0, ha0⟩ : ∃ x, x = ws2[0] := ⟨_, rfl⟩
            rw [← ha0] at g0
            have HA0 := Lib.hid ha0
            clear ha0
            have hts : (str a0).toList = a0 := ByteArray.toList_mk a0
            have hcons : ws2 = a0 :: ws2.drop 1 := by
              rw [HA0.out]
              conv => lhs; rw [← List.drop_zero (l := ws2), List.drop_eq_getElem_cons hws2n]
            by_cases haM : a0 = wM
            · rw [haM, show wM = [109, 111, 117, 110, 116, 97, 105, 110, 115] from rfl] at g0
              have hL0 : (str [109, 111, 117, 110, 116, 97, 105, 110, 115]).toList = [109, 111, 117, 110, 116, 97, 105, 110, 115] := ByteArray.toList_mk _
              clear hts
              have hhr : headR (cutL 32 s) = listR (ws2.drop 1) := by rw [← HWS.out, hcons, head_cons, if_pos haM]; rfl
              have HHR := Lib.hid hhr
              have hdw : (ws2.drop 1).length ≤ 1000 := by rw [List.length_drop]; omega
              have hdm : ∀ x ∈ ws2.drop 1, x.length ≤ 100000 := fun x hx => by have := hws2l x (List.mem_of_mem_drop hx); omega
              clear hhr hcons haM
              obtain ⟨m, hm⟩ : ∃ m, ws2.length = m + 1 := ⟨ws2.length - 1, by omega⟩
              obtain ⟨k4, hk4⟩ : ∃ k, cap4 = k + 1 := ⟨cap4 - 1, by omega⟩
              have hmk : m ≤ k4 := by omega
              have hdl : (ws2.drop 1).length = m := by rw [List.length_drop]; omega
              obtain ⟨ao, hao⟩ : ∃ ao : Option Addr, (if k4 = 0 then some ⟨q4, 0, none⟩ else some ⟨q4, 1, none⟩) = ao := ⟨_, rfl⟩
              have hm1 : (1 : Int) ≤ m + 1 := by omega
              have hk1 : (1 : Int) ≤ k4 + 1 := by omega
              have hmk1 : (m : Int) + 1 ≤ k4 + 1 := by omega
              have hW31 : ws2.drop 1 = [] ∨ ∃ b off, ao = some ⟨b, off, none⟩ ∧ SW b off (ws2.drop 1) w4 := by
                by_cases hm0 : m = 0
                · exact .inl (List.eq_nil_of_length_eq_zero (by omega))
                · exact .inr ⟨q4, 1, by rw [← hao, if_neg (by omega)], hW4.1, fun j hj => by
                    have := hW4.2 (j + 1) (by rw [List.length_drop] at hj; omega)
                    rw [show 0 + (j + 1) = 1 + j by omega] at this
                    rw [this]
                    simp⟩
              have hnum := numbers_b (ws2.drop 1) ao k4 w4 hdm (by omega) hW31
              rw [hdl] at hnum
              have HNM := Lib.hid hnum
              have HM := Lib.hid hm
              have HK := Lib.hid hk4
              clear hnum hW31
              rw [hm, hk4]
              clear hm hk4 hdl
              go_wp2_with fail
              refine HNM.out.mono ?_
              rintro e w5 ⟨⟨l, v5, b3, rfl, hI5, H3⟩, hB5⟩
              obtain ⟨a5, c5, rfl, _, _⟩ := hI5.shape
              have hT5 := hT4.call hB5
              have hI6 : Ints (fun b => bc < b ∧ (Value.slice av c.villages.length cv).ownBlock ≠ some b) w5 (.slice a5 l.length c5) l := hI5.wide fun q hq _ => ⟨by have hq : w4.heap.size ≤ q := hq; have := hT4.box.lt; omega, fun e => by have hq : w4.heap.size ≤ q := hq; have := (World.ownsRow.lt hT4.ov q e).2; omega⟩
              have hT6 := hT5.keepM hI6
              have hX6 := hX2.call hT6.bel
              have hBw6 := bnw hB1 (bnw hB2 hT6.bel)
              clear f0 f1 c0 c1
              have f0 := hT5.box.free 0
              have k0 := hT5.box.cell 0
              have k1 := hT5.box.cell 1
              go_upto_region 21 with fail
              generalize w5.setCell ⟨bc, 0, none⟩ (.slice a5 l.length c5) = w6 at hT6 hX6 hBw6 ⊢
              clear f0 k0 k1
              have f0 := hX6.free 0
              have f1 := hX6.free 1
              have c0 := hX6.cell 0
              have c1 := hX6.cell 1
              cases b3 with
              | true =>
                go_wp2_with fail
                go_roundw
                case rel => exact ⟨1, ⟨l, c.villages⟩, _, _, ls, false, by omega, by go_num, rfl, hT6, Lib.hid (.inl ⟨rfl, by rw [HR2.out, take_h1 (by rw [HHR.out]; exact H3.out)]⟩), Nat.le_succ_of_le hvi⟩
                case measure => simp [intOf]; omega
              | false =>
                have HE := Lib.hid (HRR.out 1 (by rw [HR2.out]; exact take_h0 (by rw [HHR.out]; exact H3.out)))
                go_wp2_with fail
                exact OUT.out _ _ 1 2 hX6 hBw6 (by rw [HE.out]; rfl) rfl rfl rfl
            · have hb0 : (a0 == [109, 111, 117, 110, 116, 97, 105, 110, 115]) = false := by rw [beq_eq_false_iff_ne]; exact haM
              have hhr : headR (cutL 32 s) = none := by rw [← HWS.out, hcons, head_cons, if_neg haM]
              have HE := Lib.hid (HRR.out 1 (by rw [HR2.out]; exact take_h0 hhr))
              clear hhr hcons
              go_wp2_with fail
              exact OUT.out _ _ 1 2 hX4 hBw4 (by rw [HE.out]; rfl) rfl rfl rfl
          · have hi1 : ((i : Int) == 0) = false := by rw [beq_eq_false_iff_ne]; omega
            by_cases hsS : s = wS
            · rw [hsS, show wS = [115, 104, 97, 114, 101, 100] from rfl] at d4
              have hLs : (str [115, 104, 97, 114, 101, 100]).toList = [115, 104, 97, 114, 101, 100] := ByteArray.toList_mk _
              have hRI : takeR ws = if ws.dropLast.drop (i + 1) ≠ [] ∨ fin ≠ [] then .error (i + 1 + 1) else .ok c := by
                rw [HR2.out, hsS]
                split
                · rename_i h
                  exact take_s1 hi0 h
                · rename_i h
                  have h1 : ws.dropLast.drop (i + 1) = [] := Classical.byContradiction fun e => h (.inl e)
                  have h2 : fin = [] := Classical.byContradiction fun e => h (.inr e)
                  rw [h1, h2]
                  exact take_s0 hi0
              have HRI := Lib.hid hRI
              clear hRI hsS
              go_wp2_with fail
              go_roundw
              case rel => exact ⟨i + 1, c, _, _, ls, true, by omega, by go_num, rfl, hT4, Lib.hid (.inr ⟨rfl, by omega, HRI.out⟩), by omega⟩
              case measure => simp [intOf]; omega
            · have hts : (str s).toList = s := ByteArray.toList_mk s
              have hbs : (s == [115, 104, 97, 114, 101, 100]) = false := by rw [beq_eq_false_iff_ne]; exact hsS
              have HSS := Lib.hid hsS
              clear hsS
              go_upto_region 13 with fail
              obtain ⟨w5, hw5⟩ : ∃ w5, w5 = w4.alloc (.cells #[.int .i64 0, .int .i64 0, .slice none 0 0] 43) := ⟨_, rfl⟩
              obtain ⟨b12, hb12⟩ : ∃ b, b = w4.heap.size := ⟨_, rfl⟩
              have hV5 : Blk b12 #[.int .i64 0, .int .i64 0, .slice none 0 0] 43 w5 := by rw [hw5, hb12]; exact Blk.new _ _ _
              have hB5 : Below w4.heap.size w4 w5 := by rw [hw5]; exact (Below.refl _ w4).alloc (Nat.le_refl _) _
              have hb12w : w4.heap.size ≤ b12 := Nat.le_of_eq hb12.symm
              have hb12l : b12 < w5.heap.size := hV5.lt
              rw [← hw5, ← hb12]
              clear hw5 hb12 d4 f0 f1 c0 c1
              have hW5 := hW4.call hB5
              go_wp2_with fail
              refine (village_r ws2 q4 cap4 w5 hW5 hws2l hws2m hcap4).mono ?_
              rintro e w6 ⟨⟨x, y, al, l, cl, bv, rfl, hI6, HV⟩, hB6⟩
              have hV6 := hV5.call hB6
              have hB46 := bnw hB5 hB6
              have f0 := hV6.free 0
              have f1 := hV6.free 1
              have f2 := hV6.free 2
              have k0 := hV6.cell 0
              have k1 := hV6.cell 1
              have k2 := hV6.cell 2
              go_upto_region 14 with fail
              have hV7 := ((hV6.set 0 (.int .i64 x)).set 1 (.int .i64 y)).set 2 (.slice al l.length cl)
              have hB47 := ((hB46.setCell (p := ⟨b12, 0, none⟩) hb12w (.int .i64 x)).setCell (p := ⟨b12, 1, none⟩) hb12w (.int .i64 y)).setCell (p := ⟨b12, 2, none⟩) hb12w (.slice al l.length cl)
              have hI7 : Ints (fun q => w5.heap.size ≤ q) (((w6.setCell ⟨b12, 0, none⟩ (.int .i64 x)).setCell ⟨b12, 1, none⟩ (.int .i64 y)).setCell ⟨b12, 2, none⟩ (.slice al l.length cl)) (.slice al l.length cl) l :=
                hI6.step (by simp [World.setCell]) fun q hq _ => (Below.heap_setCell _ ⟨b12, 2, none⟩ _ q (show q ≠ b12 by have hq : w5.heap.size ≤ q := hq; omega)).trans ((Below.heap_setCell _ ⟨b12, 1, none⟩ _ q (show q ≠ b12 by have hq : w5.heap.size ≤ q := hq; omega)).trans (Below.heap_setCell _ ⟨b12, 0, none⟩ _ q (show q ≠ b12 by have hq : w5.heap.size ≤ q := hq; omega)))
              generalize ((w6.setCell ⟨b12, 0, none⟩ (.int .i64 x)).setCell ⟨b12, 1, none⟩ (.int .i64 y)).setCell ⟨b12, 2, none⟩ (.slice al l.length cl) = w7 at hV7 hB47 hI7 ⊢
              clear f0 f1 f2 k0 k1 k2 hI6 hV6 hB46 hV5
              have hz5 := hB5.size
              have hz7 := hB47.size
              have hT7 := hT4.call hB47
              have hA8 := (Below.refl w7.heap.size w7).alloc (Nat.le_refl _) (.cells #[.int .i64 x, .int .i64 y, .slice al l.length cl] 43)
              have hT8 := hT7.call hA8
              have hI8 : Ints (fun b => bc < b ∧ (Value.slice av c.villages.length cv).ownBlock ≠ some b) _ (.slice al l.length cl) l := (hI7.wide (A' := fun b => bc < b ∧ (Value.slice av c.villages.length cv).ownBlock ≠ some b) fun q hq _ => ⟨by have hq : w5.heap.size ≤ q := hq; have := hT4.box.lt; omega, fun e => by have hq : w5.heap.size ≤ q := hq; have := (World.ownsRow.lt hT4.ov q e).2; omega⟩).call hA8
              have k0 := hV7.cell 0
              have k1 := hV7.cell 1
              have k2 := hV7.cell 2
              have y0 := hT7.box.cell 0
              have y1 := hT7.box.cell 1
              have hcl : c.villages.length ≤ 1000 := by omega
              have hm8 : ∀ q, (Value.slice av c.villages.length cv).ownBlock = some q → bc + 1 ≤ q := fun q hq => (World.ownsRow.lt hT8.ov q hq).1
              go_upto_region 21 with (at_builtin; go_loud (refine wpList_append_arr rfl _ _ 23 rfl 43 _ 3 40 Tryz.underlying23 Tryz.info43 rfl (by decide) (by decide) (by have := hT8.box.lt; omega) hT8.ov rfl (Own.arr (own_lit w7 43 3 #[.int .i64 x, .int .i64 y, .slice al l.length cl] 1 rfl (by omega))) rfl rfl (vil_one _ _ _ _ _) (by omega) ?_); intro v8 w8 hown8 hTu8; obtain ⟨a8, c8, rfl⟩ := own_slice hown8; have hbx8 : Blk bc #[(.slice am c.mountains.length cm), (Value.slice av c.villages.length cv)] 25 w8 := hT8.box.keep (hTu8.block _ hT8.box.lt (fun e => by have := hm8 _ e; omega)); have f9 := hbx8.free 1; have k9 := hbx8.cell 1; have hT9 := RS.vill (x := ⟨x, y, l⟩) hT8 hI8 hown8 hTu8)
              generalize w8.setCell ⟨bc, 1, none⟩ (.slice a8 (c.villages.length + 1) c8) = w9 at hT9 ⊢
              have hX9 := hX2.call hT9.bel
              have hBw9 := bnw hB1 (bnw hB2 hT9.bel)
              clear f9 k9 hbx8 hTu8 hown8 k0 k1 k2 y0 y1 hT8 hI8 hA8 hT7 hI7 hV7
              have f0 := hX9.free 0
              have f1 := hX9.free 1
              have c0 := hX9.cell 0
              have c1 := hX9.cell 1
              cases bv with
              | true =>
                go_wp2_with fail
                go_roundw
                case rel => exact ⟨i + 1, ⟨c.mountains, c.villages ++ [⟨x, y, l⟩]⟩, _, _, ls ++ [_], false, by omega, by go_num, rfl, hT9, Lib.hid (.inl ⟨rfl, by rw [HR2.out]; exact take_v1 hi0 HSS.out (by rw [← HWS.out]; exact HV.out)⟩), by simp; omega⟩
                case measure => simp [intOf]; omega
              | false =>
                have HE := Lib.hid (HRR.out (i + 1) (by rw [HR2.out]; exact take_v0 hi0 HSS.out (by rw [← HWS.out]; exact HV.out)))
                go_wp2_with fail
                exact OUT.out _ _ ((i : Int) + 1) 2 hX9 hBw9 (by rw [HE.out]; rfl) rfl (by go_num) rfl
      · obtain rfl : i = n := by omega
        have hdr : ws.dropLast.drop i = [] := List.drop_of_length_le (by rw [HDL.out]; exact Nat.le_refl _)
        have gf := hSr.2 i (by omega)
        rw [Nat.zero_add] at gf
        have hfn : ws[i]'(by omega) = fin := by
          rw [← HFL.out]
          congr 1
          omega
        rw [hfn] at gf
        have HDR := Lib.hid hdr
        clear hdr hfn
        have f0 := hXr.free 0
        have f1 := hXr.free 1
        have c0 := hXr.cell 0
        have c1 := hXr.cell 1
        have hni : (i : Int) < i + 1 := by omega
        have hn11 : (i : Int) + 1 - 1 = i := by omega
        cases eb with
        | false =>
          have hRt : takeR ws = .error (i + 1) := by
            rcases HR.out with ⟨_, h⟩ | ⟨h, _⟩
            · rw [h, HDR.out]; exact take_nil _ _ _
            · cases h
          have HE := Lib.hid (HRR.out _ hRt)
          clear hRt
          go_wp2_with fail
          exact OUT.out _ _ ((i : Int) + 1) 2 hXr hBr (by rw [HE.out]; rfl) rfl (by go_num) rfl
        | true =>
          have hRt : takeR ws = if fin ≠ [] then .error (i + 1) else .ok c := by
            rcases HR.out with ⟨h, _⟩ | ⟨_, _, h⟩
            · cases h
            · rw [h, HDR.out]; simp
          by_cases hff : fin = []
          · have HE := Lib.hid (HRO.out c (by rw [hRt, if_neg (by simp [hff])]))
            rw [hff] at gf
            have hLf : (str []).toList = [] := ByteArray.toList_mk _
            clear hRt hff
            have x0 := hT.box.cell 0
            have x1 := hT.box.cell 1
            go_wp2_with fail
            refine (rcheck_c hT.cm).mono ?_
            rintro e w5 ⟨rfl, hB5⟩
            clear f0 f1 c0 c1 x0 x1 gf
            have hT5 := hT.call hB5
            have hX5 := hXr.call hB5
            have hBw5 := bnw hBr hB5
            have hC5 := hT5.cm
            have f0 := hX5.free 0
            have f1 := hX5.free 1
            have c0 := hX5.cell 0
            have c1 := hX5.cell 1
            have d0 := hT5.box.cell 0
            have d1 := hT5.box.cell 1
            by_cases hck : checkE c = 0
            · have hb : (checkE c != 0) = false := by rw [hck]; rfl
              have HR2 := Lib.hid (show readR t = (c, 0, 0) by rw [HE.out, if_pos hck])
              clear hck
              go_wp2
              have hX9 : Blk b2 #[.slice am c.mountains.length cm, .slice av c.villages.length cv] 25 ((w5.setCell ⟨b2, 0, none⟩ (.slice am c.mountains.length cm)).setCell ⟨b2, 1, none⟩ (.slice av c.villages.length cv)) := (hX5.set 0 (.slice am c.mountains.length cm)).set 1 (.slice av c.villages.length cv)
              have hB9 := (hBw5.setCell (p := ⟨b2, 0, none⟩) hb2w (.slice am c.mountains.length cm)).setCell (p := ⟨b2, 1, none⟩) hb2w (.slice av c.villages.length cv)
              have hC9 : Cm (fun q => w2.heap.size ≤ q) ((w5.setCell ⟨b2, 0, none⟩ (.slice am c.mountains.length cm)).setCell ⟨b2, 1, none⟩ (.slice av c.villages.length cv)) (.slice am c.mountains.length cm) (.slice av c.villages.length cv) c :=
                hC5.step (by simp [World.setCell]) fun q hq _ => (Below.heap_setCell _ ⟨b2, 1, none⟩ _ q (show q ≠ b2 by have hq : w2.heap.size ≤ q := hq; omega)).trans (Below.heap_setCell _ ⟨b2, 0, none⟩ _ q (show q ≠ b2 by have hq : w2.heap.size ≤ q := hq; omega))
              generalize (w5.setCell ⟨b2, 0, none⟩ (.slice am c.mountains.length cm)).setCell ⟨b2, 1, none⟩ (.slice av c.villages.length cv) = wf at hX9 hB9 hC9 ⊢
              have x0 := hX9.cell 0
              have x1 := hX9.cell 1
              refine bodyPost_ret (v := .tuple #[.agg #[.slice am c.mountains.length cm, .slice av c.villages.length cv], .int .i64 0, .int .i64 0]) (by simp [results, Tryz.results13, go_sem, x0, x1]) rfl ?_
              rw [HR2.out]
              exact ⟨_, _, rfl, hC9.wide fun q hq _ => by have hq : w2.heap.size ≤ q := hq
                                                          have := hB1.size
                                                          have := hB2.size
                                                          omega, hB9⟩
            · have hb : (checkE c != 0) = true := by simpa using hck
              have HR2 := Lib.hid (show readR t = (emptyC, 0, checkE c) by rw [HE.out, if_neg hck])
              clear hck
              go_wp2
              exact OUT.out _ _ 0 (checkE c) hX5 hBw5 HR2.out rfl rfl rfl
          · have htf : (str fin).toList = fin := ByteArray.toList_mk _
            have hbf : (fin == []) = false := by rw [beq_eq_false_iff_ne]; exact hff
            have HE := Lib.hid (HRR.out (i + 1) (by rw [hRt, if_pos hff]))
            clear hRt hff
            go_wp2_with fail
            exact OUT.out _ _ ((i : Int) + 1) 2 hXr hBr (by rw [HE.out]; rfl) rfl (by go_num) rfl

end Go.Proofs.YtmlikgjfpmjdcaaGreatDoor
