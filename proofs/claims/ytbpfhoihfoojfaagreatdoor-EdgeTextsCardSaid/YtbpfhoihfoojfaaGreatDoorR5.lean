/- The reference's Read; conditions: the library's variables hold what they are laid with. -/
import Derived.Test.YtbpfhoihfoojfaaGreatDoorR4
import Derived.Test.YtbpfhoihfoojfaaGreatDoorRdd
namespace Go.Proofs.YtbpfhoihfoojfaaGreatDoor
open Go.RowKit

theorem own_words {B : Nat} {w : World} {v : Value} {ws : List (List UInt8)} (h : Own B w 9 1 v ws.length (SL ws)) (hne : ws ≠ []) : ∃ b cap, v = .slice (some ⟨b, 0, none⟩) ws.length cap ∧ B ≤ b ∧ ws.length ≤ cap ∧ cap ≤ maxLen ∧ SW b 0 ws w := by
  obtain ⟨b, off, cap, e, hA, hS⟩ := arr_words (Own.arr h) hne
  rcases h.2 with ⟨rfl, _⟩ | ⟨g, cap2, cur, rfl, _, _, hc, hc2, _⟩
  · cases e
  · injection e with e1 e2 e3
    injection e1 with e1
    injection e1 with e4 e5 e6
    subst e4 e5 e3
    exact ⟨_, _, rfl, hA, hc, hc2, hS⟩
/-- The first line's numbers. -/
theorem form_nm {sg : Bool} {n a : List UInt8} {ns r : List (List UInt8)} (hn : n ≠ []) : formL sg (n :: ns) (a :: r) = if a = n then formL sg ns r else none := by
  conv => lhs; unfold formL
  rw [if_neg hn]
theorem form_no {sg : Bool} {a : List UInt8} {ns r : List (List UInt8)} : formL sg ([] :: ns) (a :: r) = (sgnL (sg && ns.isEmpty) a).bind fun x => (formL sg ns r).map (x :: ·) := by
  conv => lhs; unfold formL
  rw [if_pos rfl]
  cases sgnL (sg && ns.isEmpty) a <;> rfl
theorem hd_len {ws : List (List UInt8)} (h : ws.length ≠ 5) : formL false foH ws = none := formL_ne (by simp [foH]; exact h)
theorem hd_pts {ws : List (List UInt8)} (hl : 2 < ws.length) (h : ws[2] ≠ wPs) : formL false foH ws = none := by
  match ws, hl with
  | a :: b :: c :: r, _ =>
    have h : c ≠ wPs := h
    show formL false [wE, [], wPs, wBd, []] (a :: b :: c :: r) = none
    rw [form_nm (by decide), form_no, form_nm (by decide), if_neg h]
    split
    · cases sgnL (false && [wPs, wBd, []].isEmpty) b <;> rfl
    · rfl
theorem hd_five {ws : List (List UInt8)} (hl : ws.length = 5) (h : ws[2]'(by omega) = wPs) : formL false foH ws = formL false (prN [wE, wBd]) [ws[0], ws[1], ws[3], ws[4]] := by
  match ws, hl with
  | [a, b, c, d, e], _ =>
    have h : c = wPs := h
    subst h
    show formL false [wE, [], wPs, wBd, []] [a, b, wPs, d, e] = formL false [wE, [], wBd, []] [a, b, d, e]
    rw [form_nm (n := wE) (ns := [[], wPs, wBd, []]) (by decide), form_nm (n := wE) (ns := [[], wBd, []]) (by decide), form_no, form_no, form_cons (n := wPs) (by decide)]
    rfl
/-- What is known when i lines are read. -/
def Iv (ls : List (List UInt8)) (fin : List UInt8) (bd : List (List UInt8)) (m : Nat) (en : Bool) (k : Nat) (x : Edg) (l : List Fu) : Prop :=
  (en = false → takeR ls = takeG fin k x l (bd.drop k)) ∧ (en = true → (k < m → takeR ls = .error (k + 1)) ∧ (k = m → (fin = [] → takeR ls = .ok (x, l)) ∧ (fin ≠ [] → takeR ls = .error (m + 1))))

/-- A store into one block. -/
structure Keep7 (w w' : World) (b : Nat) : Prop where
  s : w'.heap.size = w.heap.size
  k : ∀ q, q ≠ b → w'.heap[q]? = w.heap[q]?
  o : w'.os = w.os
  t : w'.tape = w.tape
  u : w'.output = w.output
theorem PS.keep7 {w0 wl w w' : World} {b5 b : Nat} {x : Edg} {vx vl : Value} {l : List Fu} (h : PS w0 wl b5 x vx l vl w) (hk : Keep7 w w' b) (hb : wl.heap.size ≤ b) (hb5 : b5 ≠ b) (hx : vx.ownBlock ≠ some b) (hl : vl.ownBlock ≠ some b) : PS w0 wl b5 x vx l vl w' := by
  have ho := h.o
  refine ⟨fun k hk' hne => (hk.k k (by omega)).trans (h.fx k hk' hne), by rw [hk.s]; exact h.sz, h.box.keep (hk.k _ hb5), h.c.step fun q hq _ _ => hk.k q (fun e => hx (by rw [hq, e])), h.f.step fun q hq _ _ => hk.k q (fun e => hl (by rw [hq, e])), h.bel.trans ⟨hk.o, hk.t, hk.u, by rw [hk.s]; exact Nat.le_refl _, fun q hq => hk.k q (by omega)⟩, ho⟩
theorem Ints.addr_lt {A : Nat → Prop} {w : World} {g o n cap : Nat} {l : List Int} (h : Ints A w (.slice (some ⟨g, o, none⟩) n cap) l) (hl : 0 < l.length) : g < w.heap.size := by
  obtain ⟨b, off, e, -, hb, -⟩ := h.addr hl
  injection e with e
  injection e with e1
  rw [e1]; exact hb

attribute [local go_sem] str_toList
set_option maxRecDepth 100000 in
set_option maxHeartbeats 4000000 in
theorem read_r (t : List UInt8) (ht : t.length ≤ 9000000000000000000) (w : World) :
    Calls Tryz.prog 13 #[.string (str t)] w (RdPost (readR t) w) := by
  obtain ⟨w1, hw1⟩ : ∃ x, x = w.alloc (.cells #[.int .i64 0, .int .i64 0, .slice none 0 0] 24) := ⟨_, rfl⟩
  obtain ⟨b2, hb2e⟩ : ∃ x, x = w.heap.size := ⟨_, rfl⟩
  have hO1 : Blk b2 #[.int .i64 0, .int .i64 0, .slice none 0 0] 24 w1 := by rw [hw1, hb2e]; exact Blk.new _ _ _
  have hB1 : Below w.heap.size w w1 := by rw [hw1]; exact (Below.refl _ w).alloc (Nat.le_refl _) _
  have hb2 : w.heap.size ≤ b2 := Nat.le_of_eq hb2e.symm
  have hz := str_size t
  have hlt1 := hO1.lt
  by_cases hl : 500 < t.length
  · have hd : decide ((500 : Int) < t.length) = true := decide_eq_true (by omega)
    have HR := Lib.hid (show readR t = ⟨emptyX, [], 0, 10⟩ by unfold readR; rw [if_pos hl])
    have o0 := hO1.cell 0
    have o1 := hO1.cell 1
    have o2 := hO1.cell 2
    have f0 := hO1.free 0
    have f1 := hO1.free 1
    have f2 := hO1.free 2
    go_enter Tryz.func13, Tryz.ntmps13
    go_upto_region 1 with fail
    rw [← hw1, ← hb2e]
    clear hw1 hb2e
    go_wp2
    have hOu : Blk b2 #[.int .i64 0, .int .i64 0, .slice none 0 0] 24 (((w1.setCell ⟨b2, 0, none⟩ (.int .i64 0)).setCell ⟨b2, 1, none⟩ (.int .i64 0)).setCell ⟨b2, 2, none⟩ (.slice none 0 0)) := ((hO1.set 0 (.int .i64 0)).set 1 (.int .i64 0)).set 2 (.slice none 0 0)
    have hBu := ((hB1.setCell (p := ⟨b2, 0, none⟩) hb2 (.int .i64 0)).setCell (p := ⟨b2, 1, none⟩) hb2 (.int .i64 0)).setCell (p := ⟨b2, 2, none⟩) hb2 (.slice none 0 0)
    generalize ((w1.setCell ⟨b2, 0, none⟩ (.int .i64 0)).setCell ⟨b2, 1, none⟩ (.int .i64 0)).setCell ⟨b2, 2, none⟩ (.slice none 0 0) = wf at hOu hBu ⊢
    have x0 := hOu.cell 0
    have x1 := hOu.cell 1
    have x2 := hOu.cell 2
    refine bodyPost_ret (v := .tuple #[.agg #[.int .i64 0, .int .i64 0, .slice none 0 0], .slice none 0 0, .int .i64 0, .int .i64 10]) (by simp [results, Tryz.results13, go_sem, x0, x1, x2]) rfl ?_
    rw [HR.out]
    exact ⟨_, _, rfl, cls_nil _ _, fus_nil _ _, hBu⟩
  · have hd : decide ((500 : Int) < t.length) = false := decide_eq_false (by omega)
    have hsp := split_r 10 t w1 (by omega)
    have hlm := cut_len 10 t
    have hlw := cut_word 10 t
    have hln := cutL_ne 10 t
    have hRR : ∀ n : Nat, takeR (cutL 10 t) = .error n → readR t = ⟨emptyX, [], (n : Int), 2⟩ := fun n h => by
      unfold readR
      rw [if_neg hl, h]
    have hRO : ∀ m, takeR (cutL 10 t) = .ok m → readR t = if bothX m.1 m.2 = 0 then ⟨m.1, m.2, 0, 0⟩ else ⟨emptyX, [], 0, bothX m.1 m.2⟩ := fun m h => by
      unfold readR
      rw [if_neg hl, h]
    obtain ⟨ls, hls⟩ : ∃ x, x = cutL 10 t := ⟨_, rfl⟩
    rw [← hls] at hsp hlm hlw hln hRR hRO
    have hpos : 0 < ls.length := List.length_pos_iff.2 hln
    obtain ⟨m, hm⟩ : ∃ m, m = ls.length - 1 := ⟨_, rfl⟩
    have hlm1 : ls.length = m + 1 := by omega
    have hm1 : ls.length ≤ m + 1 := Nat.le_of_eq hlm1
    have hm2 : m + 1 ≤ ls.length := Nat.le_of_eq hlm1.symm
    have hfin : ls[m]? = some (ls.getLastD []) := by
      rw [List.getLastD_eq_getLast?, List.getLast?_eq_getElem?, show ls.length - 1 = m by omega, List.getElem?_eq_getElem (by omega)]
      rfl
    obtain ⟨fin, hfe⟩ : ∃ x, x = ls.getLastD [] := ⟨_, rfl⟩
    obtain ⟨bd, hbe⟩ : ∃ x, x = ls.dropLast := ⟨_, rfl⟩
    have hTR : takeR ls = takeG fin 0 emptyX [] bd := by rw [hfe, hbe]; rfl
    rw [← hfe] at hfin
    have hbdl : bd.length = m := by rw [hbe, List.length_dropLast, hlm1]; rfl
    have hbd1 : bd.length ≤ m := Nat.le_of_eq hbdl
    have hbd2 : m ≤ bd.length := Nat.le_of_eq hbdl.symm
    have hbda : ∀ k, k < m → bd[k]? = ls[k]? := fun k h => by rw [hbe, List.getElem?_dropLast, if_pos (by omega)]
    have HTR := Lib.hid hTR
    have HFIN := Lib.hid hfin
    have HBDA := Lib.hid hbda
    have HSP := Lib.hid hsp
    have HRR := Lib.hid hRR
    have HRO := Lib.hid hRO
    have HLN := Lib.hid hln
    clear hsp hls hln hm hlm1 hTR hfin hbdl hbda hfe hbe hRR hRO
    go_enter Tryz.func13, Tryz.ntmps13
    go_upto_region 1 with fail
    rw [← hw1, ← hb2e]
    clear hw1 hb2e
    go_wp2_with fail
    refine HSP.out.mono ?_
    rintro e w2 ⟨v2, rfl, hW2, hB2⟩
    obtain ⟨bl, capl, rfl, hblw, hcapl, hcapm, hS2⟩ := own_words hW2 HLN.out
    have hcapm9 : (capl : Int) ≤ 9223372036854775807 := by unfold maxLen at hcapm; omega
    have hlast : IntKind.i64.wrap ((ls.length : Int) - 1) = (m : Int) := by rw [IntWalk.i64_in _ (by omega)]; omega
    obtain ⟨wl, hwl⟩ : ∃ x, x = w2.alloc (.cells #[.int .i64 0, .int .i64 0, .slice none 0 0] 24) := ⟨_, rfl⟩
    obtain ⟨b5, hb5e⟩ : ∃ x, x = w2.heap.size := ⟨_, rfl⟩
    have hXl : Blk b5 #[.int .i64 0, .int .i64 0, .slice none 0 0] 24 wl := by rw [hwl, hb5e]; exact Blk.new _ _ _
    have hA3 : Below w2.heap.size w2 wl := by rw [hwl]; exact (Below.refl _ w2).alloc (Nat.le_refl _) _
    have hOl := (hO1.call hB2).call hA3
    have hSl := hS2.call hA3
    have hBl := bnw hB1 (bnw hB2 hA3)
    have hb25 : b2 < b5 := by rw [hb5e]; have := hB2.size; omega
    have hbl5 : bl < b5 := by rw [hb5e]; exact hS2.1
    have hb5l : b5 < wl.heap.size := hXl.lt
    go_upto_region 6 with fail
    rw [← hwl, ← hb5e]
    clear hwl hb5e hW2 hS2 hA3 hO1 hB1 hB2 hlast hlt1
    go_wp2_with fail
    go_loopw [9, 10, 11] (fun vl ve vi wr => ∃ (k : Nat) (en : Bool) (x : Edg) (vx : Value) (l : List Fu), k ≤ m ∧ vi = .int .i64 k ∧ ve = .bool en ∧ x.claims.length ≤ k ∧ l.length ≤ k ∧ Hid (Iv ls fin bd m en k x l) ∧ PS w wl b5 x vx l vl wr) (fun _ _ vi _ => m - (intOf vi).toNat)
    case atStart => exact ⟨0, false, emptyX, _, [], Nat.zero_le _, rfl, rfl, Nat.le_refl _, Nat.le_refl _, Lib.hid ⟨fun _ => HTR.out, fun e => by cases e⟩, fun k hk _ => rfl, Nat.le_refl _, hXl, Own.nil, Own.nil, hBl, by omega, by omega⟩
    case round =>
      obtain ⟨k, en, x, vx, l, hk, rfl, rfl, hxk, hlk, HI, hP⟩ := hrel
      obtain ⟨ax, cx, rfl⟩ := own_slice hP.c
      obtain ⟨al, cl, rfl⟩ := own_slice hP.f
      by_cases hlt : k < m
      · have hSr := hP.sw hSl (by omega)
        have d0 := hSr.2 k (by omega)
        rw [Nat.zero_add] at d0
        obtain ⟨s, hs⟩ : ∃ x, x = ls[k]'(by omega) := ⟨_, rfl⟩
        obtain ⟨rs, hrs⟩ : ∃ x, x = bd.drop (k + 1) := ⟨_, rfl⟩
        have hdk : bd.drop k = s :: rs := by
          have h1 := HBDA.out k hlt
          rw [List.getElem?_eq_getElem (show k < bd.length by omega), List.getElem?_eq_getElem (show k < ls.length by omega)] at h1
          rw [hs, hrs, List.drop_eq_getElem_cons (show k < bd.length by omega), Option.some.inj h1]
        have hrsl : rs.length + k + 1 = m := by rw [hrs, List.length_drop]; omega
        have hsl : s.length ≤ 1000 := by rw [hs]; have := hlw _ (List.getElem_mem (show k < ls.length by omega)); omega
        rw [← hs] at d0
        have HRS := Lib.hid hrs
        have HDK := Lib.hid hdk
        have hr1 : rs.length + k + 1 ≤ m := Nat.le_of_eq hrsl
        have hr2 : m ≤ rs.length + k + 1 := Nat.le_of_eq hrsl.symm
        have hws := split_r 32 s wr (by omega)
        have hwl' := cut_word 32 s
        have hwm := cut_len 32 s
        have hwn := cutL_ne 32 s
        obtain ⟨ws, hwse⟩ : ∃ x, x = cutL 32 s := ⟨_, rfl⟩
        rw [← hwse] at hws hwl' hwm hwn
        have HWS := Lib.hid hws
        have HWE := Lib.hid hwse
        have HWN := Lib.hid hwn
        have HWL := Lib.hid (show ∀ q ∈ ws, q.length ≤ 100000 from fun q hq => by have := hwl' q hq; omega)
        have hw0 : 0 < ws.length := List.length_pos_iff.2 hwn
        clear hs hrs hdk hrsl hws hwse hwn hwl'
        go_wp2_with fail
        refine HWS.out.mono ?_
        rintro e w4 ⟨v4, rfl, hW4, hB4⟩
        obtain ⟨bw, capw, rfl, hbww, hcapw, hcapw2, hS4⟩ := own_words hW4 HWN.out
        have hbwl : wl.heap.size ≤ bw := by have := hP.sz; omega
        have hcw9 : (capw : Int) ≤ 9223372036854775807 := by unfold maxLen at hcapw2; omega
        have hP4 := hP.call hB4
        have hSr4 := hSr.call hB4
        clear HWS hP hSr hW4 hB4 d0
        go_upto_block 2 with fail
        go_cut [9, 10, 13, 14, 15, 16] from 37 to 125 (fun s9 s10 s13 _ _ _ wx => ∃ (x' : Edg) (vx' : Value) (l' : List Fu) (en' ib : Bool), s10 = .bool en' ∧ s13 = .bool ib ∧ x'.claims.length ≤ k + 1 ∧ l'.length ≤ k + 1 ∧ (ib = true → Iv ls fin bd m en' (k + 1) x' l') ∧ (ib = false → takeR ls = .error (k + 1)) ∧ PS w wl b5 x' vx' l' s9 wx)
        case first =>
          cases en with
          | true =>
            have HE := Lib.hid ((HI.out.2 rfl).1 hlt)
            go_wp2_with fail
            go_meet
            case rel => exact ⟨x, _, l, true, false, rfl, rfl, by omega, by omega, (fun e => by cases e), fun _ => HE.out, hP4⟩
          | false =>
            have HI := Lib.hid (show takeR ls = takeG fin k x l (s :: rs) by rw [← HDK.out]; exact HI.out.1 rfl)
            by_cases hk0 : k = 0
            · subst hk0
              by_cases h5 : ws.length = 5
              · have b55 : ((ws.length : Int) == 5) = true := by rw [h5]; rfl
                have d2 := hS4.2 2 (by omega)
                rw [Nat.zero_add] at d2
                have H5 := Lib.hid h5
                have h5g : 5 ≤ ws.length := Nat.le_of_eq h5.symm
                obtain ⟨p2, hp2⟩ : ∃ x, x = ws[2]'(Nat.lt_of_lt_of_le (by decide) h5g) := ⟨_, rfl⟩
                rw [← hp2] at d2
                have HP2 := Lib.hid hp2
                clear h5 hp2
                by_cases hpp : p2 = wPs
                · have bpp : (p2 == [112, 111, 105, 110, 116, 115]) = true := by rw [hpp]; rfl
                  have HF5 := Lib.hid (hd_five H5.out (by rw [← HP2.out]; exact hpp))
                  clear hpp
                  have e0 := hS4.2 0 (by omega)
                  have e1 := hS4.2 1 (by omega)
                  have e3 := hS4.2 3 (by omega)
                  have e4 := hS4.2 4 (by omega)
                  obtain ⟨a0, ha0⟩ : ∃ x, x = ws[0]'(by omega) := ⟨_, rfl⟩
                  obtain ⟨a1, ha1⟩ : ∃ x, x = ws[1]'(by omega) := ⟨_, rfl⟩
                  obtain ⟨a3, ha3⟩ : ∃ x, x = ws[3]'(by omega) := ⟨_, rfl⟩
                  obtain ⟨a4, ha4⟩ : ∃ x, x = ws[4]'(by omega) := ⟨_, rfl⟩
                  rw [← ha0, Nat.zero_add] at e0
                  rw [← ha1, Nat.zero_add] at e1
                  rw [← ha3, Nat.zero_add] at e3
                  rw [← ha4, Nat.zero_add] at e4
                  have hF5 := HF5.out
                  rw [← ha0, ← ha1, ← ha3, ← ha4] at hF5
                  have hq0 := HWL.out _ (List.getElem_mem (show 0 < ws.length by omega))
                  have hq1 := HWL.out _ (List.getElem_mem (show 1 < ws.length by omega))
                  have hq3 := HWL.out _ (List.getElem_mem (show 3 < ws.length by omega))
                  have hq4 := HWL.out _ (List.getElem_mem (show 4 < ws.length by omega))
                  rw [← ha0] at hq0
                  rw [← ha1] at hq1
                  rw [← ha3] at hq3
                  rw [← ha4] at hq4
                  have HQ := Lib.hid (show ∀ q ∈ [a0, a1, a3, a4], q.length ≤ 100000 from fun q hq => by
                    simp only [List.mem_cons, List.not_mem_nil, or_false] at hq
                    rcases hq with rfl | rfl | rfl | rfl <;> assumption)
                  have HF5 := Lib.hid hF5
                  clear ha0 ha1 ha3 ha4 hF5 hq0 hq1 hq3 hq4
                  have i0 : (0 : Int) < (ws.length : Int) := by omega
                  have i1 : (1 : Int) < (ws.length : Int) := by omega
                  have i3 : (3 : Int) < (ws.length : Int) := by omega
                  have i4 : (4 : Int) < (ws.length : Int) := by omega
                  go_upto_region 17 with fail
                  go_cut [13, 14] from 51 to 69 (fun s13 s14 wx => s13 = .bool (formL false foH ws).isSome ∧ Ints (fun q => w4.heap.size ≤ q) wx s14 ((formL false foH ws).getD []) ∧ Below w4.heap.size w4 wx)
                  case first =>
                    have hbw4 : bw < w4.heap.size := hS4.1
                    have hsw : SW bw 0 ws w4 := hS4
                    go_wp2_with fail
                    have hs0 := ((Qt.refl w4).drewN 1).below w4.heap.size
                    refine wp_region_mix2 (.pur 0 (.pur 1 (.pur 3 (.pur 4 (.pur 6 (.pur 7 (.pur 9 (.pur 10 (.one 2 (.one 5 (.one 8 (.one 11 (.two 12 (.act 13 (.act 14 (.pur 15 (.pur 16 (.pur 17 (.pur 18 (.pur 19 .fin))))))) 13 (.act 12 (.act 14 (.pur 15 (.pur 16 (.pur 17 (.pur 18 (.pur 19 .fin)))))))))))))))))))) 14 (fun u => u.cell? ⟨bw, 0, none⟩ = some (.string (str a0)) ∧ u.cell? ⟨bw, 1, none⟩ = some (.string (str a1)) ∧ u.cell? ⟨bw, 3, none⟩ = some (.string (str a3)) ∧ u.cell? ⟨bw, 4, none⟩ = some (.string (str a4))) (fun _ => True) (by kernel_rfl) (by kernel_rfl) rfl (by kernel_rfl) ⟨((hs0.cell (p := ⟨bw, 0, none⟩) hbw4).trans e0), ((hs0.cell (p := ⟨bw, 1, none⟩) hbw4).trans e1), ((hs0.cell (p := ⟨bw, 3, none⟩) hbw4).trans e3), ((hs0.cell (p := ⟨bw, 4, none⟩) hbw4).trans e4)⟩ (fun wd hqd _ => ?_)
                    have hBd := hqd.below w4.heap.size
                    have hsz := hqd.size
                    have hbwd : bw < wd.heap.size := by rw [hsz]; exact hbw4
                    have g0 := (hBd.cell (p := ⟨bw, 0, none⟩) hbw4).trans e0
                    have g1 := (hBd.cell (p := ⟨bw, 1, none⟩) hbw4).trans e1
                    have g3 := (hBd.cell (p := ⟨bw, 3, none⟩) hbw4).trans e3
                    have g4 := (hBd.cell (p := ⟨bw, 4, none⟩) hbw4).trans e4
                    have hszl : w4.heap.size ≤ wd.heap.size := Nat.le_of_eq hsz.symm
                    clear hsz
                    refine mix_pur2 rfl (fun K hK => ?_)
                    go_simp
                    first | refine ⟨_, fun _ => rfl, hK _ ?_⟩ | refine hK _ ?_
                    clear hK K
                    refine mix_pur2 rfl (fun K hK => ?_)
                    go_simp
                    first | refine ⟨_, fun _ => rfl, hK _ ?_⟩ | refine hK _ ?_
                    clear hK K
                    refine mix_pur2 rfl (fun K hK => ?_)
                    go_simp
                    first | refine ⟨_, fun _ => rfl, hK _ ?_⟩ | refine hK _ ?_
                    clear hK K
                    refine mix_pur2 rfl (fun K hK => ?_)
                    go_simp
                    first | refine ⟨_, fun _ => rfl, hK _ ?_⟩ | refine hK _ ?_
                    clear hK K
                    refine mix_pur2 rfl (fun K hK => ?_)
                    go_simp
                    first | refine ⟨_, fun _ => rfl, hK _ ?_⟩ | refine hK _ ?_
                    clear hK K
                    refine mix_pur2 rfl (fun K hK => ?_)
                    go_simp
                    first | refine ⟨_, fun _ => rfl, hK _ ?_⟩ | refine hK _ ?_
                    clear hK K
                    refine mix_pur2 rfl (fun K hK => ?_)
                    go_simp
                    first | refine ⟨_, fun _ => rfl, hK _ ?_⟩ | refine hK _ ?_
                    clear hK K
                    refine mix_pur2 rfl (fun K hK => ?_)
                    go_simp
                    first | refine ⟨_, fun _ => rfl, hK _ ?_⟩ | refine hK _ ?_
                    clear hK K
                    refine mix_load2 rfl rfl rfl (.string (str a0)) (fun w' h => by have h : (fun u => u.cell? ⟨bw, 0, none⟩ = some (.string (str a0)) ∧ u.cell? ⟨bw, 1, none⟩ = some (.string (str a1)) ∧ u.cell? ⟨bw, 3, none⟩ = some (.string (str a3)) ∧ u.cell? ⟨bw, 4, none⟩ = some (.string (str a4))) w' := h; have h0 := h.1; go_simp) rfl ?_
                    refine mix_load2 rfl rfl rfl (.string (str a1)) (fun w' h => by have h : (fun u => u.cell? ⟨bw, 0, none⟩ = some (.string (str a0)) ∧ u.cell? ⟨bw, 1, none⟩ = some (.string (str a1)) ∧ u.cell? ⟨bw, 3, none⟩ = some (.string (str a3)) ∧ u.cell? ⟨bw, 4, none⟩ = some (.string (str a4))) w' := h; have h0 := h.2.1; go_simp) rfl ?_
                    refine mix_load2 rfl rfl rfl (.string (str a3)) (fun w' h => by have h : (fun u => u.cell? ⟨bw, 0, none⟩ = some (.string (str a0)) ∧ u.cell? ⟨bw, 1, none⟩ = some (.string (str a1)) ∧ u.cell? ⟨bw, 3, none⟩ = some (.string (str a3)) ∧ u.cell? ⟨bw, 4, none⟩ = some (.string (str a4))) w' := h; have h0 := h.2.2.1; go_simp) rfl ?_
                    refine mix_load2 rfl rfl rfl (.string (str a4)) (fun w' h => by have h : (fun u => u.cell? ⟨bw, 0, none⟩ = some (.string (str a0)) ∧ u.cell? ⟨bw, 1, none⟩ = some (.string (str a1)) ∧ u.cell? ⟨bw, 3, none⟩ = some (.string (str a3)) ∧ u.cell? ⟨bw, 4, none⟩ = some (.string (str a4))) w' := h; have h0 := h.2.2.2; go_simp) rfl ?_
                    refine mix_two2 rfl rfl false false rfl rfl (fun K hK => ?_) (fun K hK => ?_)
                    · go_simp
                      have hA := (Below.refl wd.heap.size wd).alloc (Nat.le_refl _) (.cells #[.string (str a0), .string (str a1), .string (str a3), .string (str a4)] 9)
                      refine hK _ _ ⟨((hA).cell (p := ⟨bw, 0, none⟩) (show bw < wd.heap.size by omega)).trans g0, ((hA).cell (p := ⟨bw, 1, none⟩) (show bw < wd.heap.size by omega)).trans g1, ((hA).cell (p := ⟨bw, 3, none⟩) (show bw < wd.heap.size by omega)).trans g3, ((hA).cell (p := ⟨bw, 4, none⟩) (show bw < wd.heap.size by omega)).trans g4⟩ ?_
                      clear hK K
                      refine mix_eff2 rfl false rfl (fun K hK => ?_)
                      go_simp
                      have hA2 := hA.alloc (o := .cells ([wE, wBd].map (fun x => Value.string (str x))).toArray 9) (by simp)
                      refine hK _ _ ⟨((hA2).cell (p := ⟨bw, 0, none⟩) (show bw < wd.heap.size by omega)).trans g0, ((hA2).cell (p := ⟨bw, 1, none⟩) (show bw < wd.heap.size by omega)).trans g1, ((hA2).cell (p := ⟨bw, 3, none⟩) (show bw < wd.heap.size by omega)).trans g3, ((hA2).cell (p := ⟨bw, 4, none⟩) (show bw < wd.heap.size by omega)).trans g4⟩ ?_
                      clear hK K
                      refine mix_eff2 rfl true rfl (fun K hK => ?_)
                      go_simp
                      have hs4 : SW wd.heap.size 0 [a0, a1, a3, a4] ((wd.alloc (.cells #[.string (str a0), .string (str a1), .string (str a3), .string (str a4)] 9)).alloc (.cells ([wE, wBd].map (fun x => Value.string (str x))).toArray 9)) := (sw_new [a0, a1, a3, a4] wd).call ((Below.refl _ _).alloc (Nat.le_refl _) _)
                      have hsn := sw_new [wE, wBd] (wd.alloc (.cells #[.string (str a0), .string (str a1), .string (str a3), .string (str a4)] 9))
                      rw [show (wd.alloc (.cells #[.string (str a0), .string (str a1), .string (str a3), .string (str a4)] 9)).heap.size = wd.heap.size + 1 by simp] at hsn
                      refine (pairs_r false [wE, wBd] [a0, a1, a3, a4] (by decide) (by decide) (by decide) (wd.heap.size + 1) 0 2 (some ⟨wd.heap.size, 0, none⟩) 4 _ hsn (.inr ⟨_, _, rfl, hs4⟩) HQ.out (by simp)).mono ?_
                      rintro e w6 ⟨v6, rfl, hI6, hB6⟩
                      refine hK _ _ trivial ?_
                      clear hK K
                      refine mix_pur2 rfl (fun K hK => ?_)
                      go_simp
                      first | refine ⟨_, fun _ => rfl, hK _ ?_⟩ | refine hK _ ?_
                      clear hK K
                      refine mix_pur2 rfl (fun K hK => ?_)
                      go_simp
                      first | refine ⟨_, fun _ => rfl, hK _ ?_⟩ | refine hK _ ?_
                      clear hK K
                      refine mix_pur2 rfl (fun K hK => ?_)
                      go_simp
                      first | refine ⟨_, fun _ => rfl, hK _ ?_⟩ | refine hK _ ?_
                      clear hK K
                      refine mix_pur2 rfl (fun K hK => ?_)
                      go_simp
                      first | refine ⟨_, fun _ => rfl, hK _ ?_⟩ | refine hK _ ?_
                      clear hK K
                      refine mix_pur2 rfl (fun K hK => ?_)
                      go_simp
                      first | refine ⟨_, fun _ => rfl, hK _ ?_⟩ | refine hK _ ?_
                      clear hK K
                      refine mix_done2 ?_
                      have hB6x := (hBd.trans (hA2.mono hszl)).trans (hB6.mono (by have := hA2.size; omega))
                      go_wp2_with fail
                      go_meet
                      case rel =>
                        rw [← HF5.out] at hI6
                        exact ⟨by rw [HF5.out], hI6.wide fun q hq _ => by have hq := hq; simp at hq; omega, hB6x⟩
                    · go_simp
                      have hA := (Below.refl wd.heap.size wd).alloc (Nat.le_refl _) (.cells ([wE, wBd].map (fun x => Value.string (str x))).toArray 9)
                      refine hK _ _ ⟨((hA).cell (p := ⟨bw, 0, none⟩) (show bw < wd.heap.size by omega)).trans g0, ((hA).cell (p := ⟨bw, 1, none⟩) (show bw < wd.heap.size by omega)).trans g1, ((hA).cell (p := ⟨bw, 3, none⟩) (show bw < wd.heap.size by omega)).trans g3, ((hA).cell (p := ⟨bw, 4, none⟩) (show bw < wd.heap.size by omega)).trans g4⟩ ?_
                      clear hK K
                      refine mix_eff2 rfl false rfl (fun K hK => ?_)
                      go_simp
                      have hA2 := hA.alloc (o := .cells #[.string (str a0), .string (str a1), .string (str a3), .string (str a4)] 9) (by simp)
                      refine hK _ _ ⟨((hA2).cell (p := ⟨bw, 0, none⟩) (show bw < wd.heap.size by omega)).trans g0, ((hA2).cell (p := ⟨bw, 1, none⟩) (show bw < wd.heap.size by omega)).trans g1, ((hA2).cell (p := ⟨bw, 3, none⟩) (show bw < wd.heap.size by omega)).trans g3, ((hA2).cell (p := ⟨bw, 4, none⟩) (show bw < wd.heap.size by omega)).trans g4⟩ ?_
                      clear hK K
                      refine mix_eff2 rfl true rfl (fun K hK => ?_)
                      go_simp
                      have hsn : SW wd.heap.size 0 [wE, wBd] ((wd.alloc (.cells ([wE, wBd].map (fun x => Value.string (str x))).toArray 9)).alloc (.cells #[.string (str a0), .string (str a1), .string (str a3), .string (str a4)] 9)) := (sw_new [wE, wBd] wd).call ((Below.refl _ _).alloc (Nat.le_refl _) _)
                      have hs4 := sw_new [a0, a1, a3, a4] (wd.alloc (.cells ([wE, wBd].map (fun x => Value.string (str x))).toArray 9))
                      rw [show (wd.alloc (.cells ([wE, wBd].map (fun x => Value.string (str x))).toArray 9)).heap.size = wd.heap.size + 1 by simp] at hs4
                      refine (pairs_r false [wE, wBd] [a0, a1, a3, a4] (by decide) (by decide) (by decide) wd.heap.size 0 2 (some ⟨wd.heap.size + 1, 0, none⟩) 4 _ hsn (.inr ⟨_, _, rfl, hs4⟩) HQ.out (by simp)).mono ?_
                      rintro e w6 ⟨v6, rfl, hI6, hB6⟩
                      refine hK _ _ trivial ?_
                      clear hK K
                      refine mix_pur2 rfl (fun K hK => ?_)
                      go_simp
                      first | refine ⟨_, fun _ => rfl, hK _ ?_⟩ | refine hK _ ?_
                      clear hK K
                      refine mix_pur2 rfl (fun K hK => ?_)
                      go_simp
                      first | refine ⟨_, fun _ => rfl, hK _ ?_⟩ | refine hK _ ?_
                      clear hK K
                      refine mix_pur2 rfl (fun K hK => ?_)
                      go_simp
                      first | refine ⟨_, fun _ => rfl, hK _ ?_⟩ | refine hK _ ?_
                      clear hK K
                      refine mix_pur2 rfl (fun K hK => ?_)
                      go_simp
                      first | refine ⟨_, fun _ => rfl, hK _ ?_⟩ | refine hK _ ?_
                      clear hK K
                      refine mix_pur2 rfl (fun K hK => ?_)
                      go_simp
                      first | refine ⟨_, fun _ => rfl, hK _ ?_⟩ | refine hK _ ?_
                      clear hK K
                      refine mix_done2 ?_
                      have hB6x := (hBd.trans (hA2.mono hszl)).trans (hB6.mono (by have := hA2.size; omega))
                      go_wp2_with fail
                      go_meet
                      case rel =>
                        rw [← HF5.out] at hI6
                        exact ⟨by rw [HF5.out], hI6.wide fun q hq _ => by have hq := hq; simp at hq; omega, hB6x⟩
                  case rest =>
                  obtain ⟨rfl, hI6, hB6⟩ := hcut
                  rename World => w6
                  have hP6 := hP4.call hB6
                  cases hf : formL false foH ws with
                  | none =>
                    have HE := Lib.hid (show takeR ls = .error 1 by rw [HI.out]; exact takeG_h0 (by rw [← HWE.out]; unfold hdR; rw [hf]; rfl))
                    rw [hf] at hI6
                    have hI6 : Ints (fun q => w4.heap.size ≤ q) w6 _ [] := hI6
                    clear hf
                    go_wp2_with fail
                    go_meet
                    case rel => exact ⟨x, _, l, false, false, rfl, rfl, by omega, by omega, (fun e => by cases e), fun _ => HE.out, hP6⟩
                  | some nl =>
                    obtain ⟨a, b, rfl, -⟩ := foH_some hf
                    have HE := Lib.hid (show takeR ls = takeG fin 1 ⟨a, b, x.claims⟩ l rs by rw [HI.out]; exact takeG_h1 (m := (a, b)) (by rw [← HWE.out]; unfold hdR; rw [hf]; rfl))
                    rw [hf] at hI6
                    have hI6 : Ints (fun q => w4.heap.size ≤ q) w6 _ [a, b] := hI6
                    clear hf
                    obtain ⟨an, cn, rfl, _, _⟩ := hI6.shape
                    obtain ⟨g, og, rfl, hgA, -, -⟩ := hI6.addr (by simp)
                    have hgA : w4.heap.size ≤ g := hgA
                    have hg5 : g ≠ b5 := by have := hP4.sz; omega
                    go_wp2_with fail
                    refine wp_region_mix2 (.pur 0 (.pur 1 (.pur 3 (.pur 4 (.one 2 (.one 5 (.pur 6 (.act 7 (.pur 8 (.act 9 .fin)))))))))) 9 (fun w => w.cell? ⟨g, og, none⟩ = some (.int .i64 a) ∧ w.cell? ⟨g, og + 1, none⟩ = some (.int .i64 b)) (fun _ => True) (by kernel_rfl) (by kernel_rfl) rfl (by kernel_rfl) ⟨(hI6.qt' ((Qt.refl _).drewN 1)).cell 0 (by simp), (hI6.qt' ((Qt.refl _).drewN 1)).cell 1 (by simp)⟩ (fun w7 hq7 _ => ?_)
                    have hP7 := hP6.qt hq7
                    have s0 := (hI6.qt' hq7).cell 0 (by simp)
                    have s1 := (hI6.qt' hq7).cell 1 (by simp)
                    refine mix_pur2 rfl (fun K hK => ?_)
                    go_simp
                    first | refine ⟨_, fun _ => rfl, hK _ ?_⟩ | refine hK _ ?_
                    clear hK K
                    refine mix_pur2 rfl (fun K hK => ?_)
                    go_simp
                    first | refine ⟨_, fun _ => rfl, hK _ ?_⟩ | refine hK _ ?_
                    clear hK K
                    refine mix_pur2 rfl (fun K hK => ?_)
                    go_simp
                    first | refine ⟨_, fun _ => rfl, hK _ ?_⟩ | refine hK _ ?_
                    clear hK K
                    refine mix_pur2 rfl (fun K hK => ?_)
                    go_simp
                    first | refine ⟨_, fun _ => rfl, hK _ ?_⟩ | refine hK _ ?_
                    clear hK K
                    refine mix_load2 rfl rfl rfl (.int .i64 a) (fun w' h => by have h : (fun w => w.cell? ⟨g, og, none⟩ = some (.int .i64 a) ∧ w.cell? ⟨g, og + 1, none⟩ = some (.int .i64 b)) w' := h; have h0 := h.1; go_simp) rfl ?_
                    refine mix_load2 rfl rfl rfl (.int .i64 b) (fun w' h => by have h : (fun w => w.cell? ⟨g, og, none⟩ = some (.int .i64 a) ∧ w.cell? ⟨g, og + 1, none⟩ = some (.int .i64 b)) w' := h; have h0 := h.2; go_simp) rfl ?_
                    refine mix_pur2 rfl (fun K hK => ?_)
                    go_simp
                    first | refine ⟨_, fun _ => rfl, hK _ ?_⟩ | refine hK _ ?_
                    clear hK K
                    refine mix_eff2 rfl false rfl (fun K hK => ?_)
                    have f0 := hP7.box.free 0
                    have c0 := hP7.box.cell 0
                    go_simp
                    refine hK _ _ ⟨(cell_heap (Below.heap_setCell _ _ _ _ hg5)).trans s0, (cell_heap (Below.heap_setCell _ _ _ _ hg5)).trans s1⟩ ?_
                    clear hK K f0 c0
                    refine mix_pur2 rfl (fun K hK => ?_)
                    go_simp
                    first | refine ⟨_, fun _ => rfl, hK _ ?_⟩ | refine hK _ ?_
                    clear hK K
                    refine mix_eff2 rfl true rfl (fun K hK => ?_)
                    have f1 := ((hP7.box.set 0 (.int .i64 a)).free 1)
                    have c1 := ((hP7.box.set 0 (.int .i64 a)).cell 1)
                    go_simp
                    refine hK _ _ trivial ?_
                    clear hK K f1 c1
                    refine mix_done2 ?_
                    have hP8 := hP7.head (a := a) (b := b)
                    clear hP7 hI6 s0 s1
                    generalize (w7.setCell ⟨b5, 0, none⟩ (.int .i64 a)).setCell ⟨b5, 1, none⟩ (.int .i64 b) = w8 at hP8 ⊢
                    go_wp2_with fail
                    go_meet
                    case rel => exact ⟨⟨a, b, x.claims⟩, _, l, false, true, rfl, rfl, by show x.claims.length ≤ 1; omega, by omega, (fun _ => ⟨fun _ => by rw [HE.out, HRS.out], fun e => by cases e⟩), (fun e => by cases e), hP8⟩
                · have bpp : (p2 == [112, 111, 105, 110, 116, 115]) = false := by rw [beq_eq_false_iff_ne]; exact hpp
                  have HE := Lib.hid (show takeR ls = .error 1 by rw [HI.out]; exact takeG_h0 (by rw [← HWE.out]; unfold hdR; rw [hd_pts (by omega) (by rw [← HP2.out]; exact hpp)]; rfl))
                  clear hpp
                  go_wp2_with fail
                  go_meet
                  case rel => exact ⟨x, _, l, false, false, rfl, rfl, by omega, by omega, (fun e => by cases e), fun _ => HE.out, hP4⟩
              · have b55 : ((ws.length : Int) == 5) = false := by rw [beq_eq_false_iff_ne]; omega
                have HE := Lib.hid (show takeR ls = .error 1 by rw [HI.out]; exact takeG_h0 (by rw [← HWE.out]; unfold hdR; rw [hd_len h5]; rfl))
                clear h5
                go_wp2_with fail
                go_meet
                case rel => exact ⟨x, _, l, false, false, rfl, rfl, by omega, by omega, (fun e => by cases e), fun _ => HE.out, hP4⟩
            · have hi0 : ((k : Int) == 0) = false := by rw [beq_eq_false_iff_ne]; omega
              have HK0 := Lib.hid hk0
              clear hk0
              have d1 := hSr4.2 k (by omega)
              have d1 : w4.cell? ⟨bl, k, none⟩ = some (.string (str s)) := by
                have hb := HBDA.out k hlt
                have hd' := HDK.out
                rw [List.getElem?_eq_getElem (show k < ls.length by omega)] at hb
                have hs' : bd[k]? = some s := by
                  have := congrArg List.head? hd'
                  rw [List.head?_drop] at this
                  simpa using this
                rw [hs'] at hb
                rw [Nat.zero_add] at d1
                rw [d1, ← Option.some.inj hb]
              by_cases hsE : s = wEd
              · have hbE : (s == [101, 100, 103, 101, 100]) = true := by rw [hsE]; rfl
                have HSE := Lib.hid hsE
                clear hsE
                go_wp2_with fail
                go_meet
                case rel =>
                  refine ⟨x, _, l, true, true, rfl, rfl, by omega, by omega, (fun _ => ⟨(fun e => by cases e), fun _ => ⟨fun h => ?_, fun h => ⟨fun hf => ?_, fun hf => ?_⟩⟩⟩), (fun e => by cases e), hP4⟩
                  · rw [HI.out]; exact takeG_e1 HK0.out HSE.out (.inl fun e => by rw [e] at hr2; simp at hr2; omega)
                  · rw [HI.out]; exact takeG_e2 HK0.out HSE.out (List.length_eq_zero_iff.1 (by omega)) hf
                  · rw [HI.out, ← h]; exact takeG_e1 HK0.out HSE.out (.inr hf)
              · have hbE : (s == [101, 100, 103, 101, 100]) = false := by rw [beq_eq_false_iff_ne]; exact hsE
                have HSE := Lib.hid hsE
                clear hsE
                have d2 := hS4.2 0 hw0
                rw [Nat.zero_add] at d2
                obtain ⟨hd0, hhd⟩ : ∃ x, x = ws[0]'hw0 := ⟨_, rfl⟩
                rw [← hhd] at d2
                have hhd2 : ws.headD [] = hd0 := by
                  rw [hhd]
                  cases ws with
                  | nil => exact absurd rfl HWN.out
                  | cons a r => rfl
                have hcons : ws = hd0 :: ws.drop 1 := by
                  rw [hhd]
                  conv => lhs; rw [← List.drop_zero (l := ws), List.drop_eq_getElem_cons hw0]
                have HHD := Lib.hid hhd2
                have HCONS := Lib.hid hcons
                clear hhd hhd2 hcons
                by_cases hfw : hd0 = wFw
                · have bfw : (hd0 == [102, 117, 114, 114, 111, 119]) = true := by rw [hfw]; rfl
                  have hfo : fOf ws = fwR ws := by unfold fOf; rw [HHD.out, if_pos hfw]
                  have hco : cOf ws = none := by unfold cOf; rw [HHD.out, if_pos hfw]
                  have hfc : formL false foF ws = formL false (prN [wAt, wYr, wIs]) (ws.drop 1) := by
                    have h1 := HCONS.out
                    rw [hfw] at h1
                    conv => lhs; rw [h1]
                    exact form_cons (by decide)
                  have HFO := Lib.hid hfo
                  have HCO := Lib.hid hco
                  have HFC := Lib.hid hfc
                  clear hfw hfo hco hfc
                  have hdm : ∀ q ∈ ws.drop 1, q.length ≤ 100000 := fun q hq => HWL.out q (List.mem_of_mem_drop hq)
                  have hdw : (ws.drop 1).length ≤ 100000 := by rw [List.length_drop]; omega
                  obtain ⟨m4, hm4⟩ : ∃ m, ws.length = m + 1 := ⟨ws.length - 1, by omega⟩
                  obtain ⟨k4, hk4⟩ : ∃ k, capw = k + 1 := ⟨capw - 1, by omega⟩
                  have hmk : m4 ≤ k4 := by omega
                  have hdl : (ws.drop 1).length = m4 := by rw [List.length_drop]; omega
                  have hm41 : (1 : Int) ≤ m4 + 1 := by omega
                  have hk41 : (1 : Int) ≤ k4 + 1 := by omega
                  have hmk1 : (m4 : Int) + 1 ≤ k4 + 1 := by omega
                  have hW5 := Lib.hid (show ∀ (u : World), Below w4.heap.size w4 u → ws.drop 1 = [] ∨ ∃ b' off, (if k4 = 0 then some (⟨bw, 0, none⟩ : Addr) else some ⟨bw, 1, none⟩) = some ⟨b', off, none⟩ ∧ SW b' off (ws.drop 1) u from fun u hu => by
                    by_cases hm0 : m4 = 0
                    · exact .inl (List.eq_nil_of_length_eq_zero (by omega))
                    · refine .inr ⟨bw, 1, by rw [if_neg (by omega)], ?_⟩
                      have hSu := hS4.call hu
                      refine ⟨hSu.1, fun j hj => ?_⟩
                      have := hSu.2 (j + 1) (by omega)
                      rw [show 0 + (j + 1) = 1 + j by omega] at this
                      rw [this]
                      simp)
                  obtain ⟨ao, hao⟩ : ∃ ao : Option Addr, (if k4 = 0 then some ⟨bw, 0, none⟩ else some ⟨bw, 1, none⟩) = ao := ⟨_, rfl⟩
                  rw [hao] at hW5
                  have hA5 := (Below.refl w4.heap.size w4).alloc (Nat.le_refl _) (.cells ([wAt, wYr, wIs].map (fun x => Value.string (str x))).toArray 9)
                  have hpr := pairs_r false [wAt, wYr, wIs] (ws.drop 1) (by decide) (by decide) (by decide) w4.heap.size 0 3 ao k4 _ (sw_new [wAt, wYr, wIs] w4) (hW5.out _ hA5) hdm hdw
                  rw [hdl] at hpr
                  have HPR := Lib.hid hpr
                  have HM4 := Lib.hid hm4
                  have HK4 := Lib.hid hk4
                  rw [hm4, hk4]
                  clear hpr hW5 hm4 hk4 hdl
                  go_wp2_with fail
                  refine HPR.out.mono ?_
                  rintro e w6 ⟨v6, rfl, hI6, hB6⟩
                  have hB46 := bnw hA5 hB6
                  have hP6 := hP4.call hB46
                  clear hA5 hB6 d1 d2
                  cases hf : formL false (prN [wAt, wYr, wIs]) (ws.drop 1) with
                  | none =>
                    have HE := Lib.hid (show takeR ls = .error (k + 1) by rw [HI.out]; exact takeG_n HK0.out HSE.out (by rw [← HWE.out]; exact HCO.out) (by rw [← HWE.out, HFO.out]; unfold fwR; rw [HFC.out, hf]; rfl))
                    rw [hf] at hI6
                    have hI6 : Ints (fun q => (w4.alloc (.cells ([wAt, wYr, wIs].map (fun x => Value.string (str x))).toArray 9)).heap.size ≤ q) w6 v6 [] := hI6
                    clear hf
                    go_wp2_with fail
                    rw [← HM4.out, ← HK4.out]
                    go_meet
                    case rel => exact ⟨x, _, l, false, false, rfl, rfl, by omega, by omega, (fun e => by cases e), fun _ => HE.out, hP6⟩
                  | some nl =>
                    obtain ⟨a, b, c, rfl⟩ := form3 hf (by decide)
                    have HE := Lib.hid (show takeR ls = takeG fin (k + 1) x (l ++ [⟨a, b, c⟩]) rs by rw [HI.out]; exact takeG_f HK0.out HSE.out (by rw [← HWE.out, HFO.out]; unfold fwR; rw [HFC.out, hf]; rfl))
                    rw [hf] at hI6
                    have hI6 : Ints (fun q => (w4.alloc (.cells ([wAt, wYr, wIs].map (fun x => Value.string (str x))).toArray 9)).heap.size ≤ q) w6 v6 [a, b, c] := hI6
                    clear hf
                    obtain ⟨an, cn, rfl, _, _⟩ := hI6.shape
                    obtain ⟨g, og, rfl, -, -, -⟩ := hI6.addr (by simp)
                    go_wp2_with fail
                    refine wp_region_mix2 (.pur 0 (.pur 1 (.pur 2 (.pur 4 (.pur 5 (.pur 7 (.pur 8 (.one 3 (.one 6 (.one 9 (.pur 10 (.act 11 (.act 12 (.pur 13 .fin)))))))))))))) 12 (fun u => u.cell? ⟨g, og, none⟩ = some (.int .i64 a) ∧ u.cell? ⟨g, og + 1, none⟩ = some (.int .i64 b) ∧ u.cell? ⟨g, og + 2, none⟩ = some (.int .i64 c)) (fun _ => True) (by kernel_rfl) (by kernel_rfl) rfl (by kernel_rfl) ⟨(hI6.qt' ((Qt.refl _).drewN 1)).cell 0 (by simp), (hI6.qt' ((Qt.refl _).drewN 1)).cell 1 (by simp), (hI6.qt' ((Qt.refl _).drewN 1)).cell 2 (by simp)⟩ (fun wd hqd _ => ?_)
                    have hPd := hP6.qt hqd
                    have hszd := hPd.sz
                    have s0 := (hI6.qt' hqd).cell 0 (by simp)
                    have s1 := (hI6.qt' hqd).cell 1 (by simp)
                    have s2 := (hI6.qt' hqd).cell 2 (by simp)
                    have hgd : g < wd.heap.size := (hI6.qt' hqd).addr_lt (by simp)
                    have hA8 := (Below.refl wd.heap.size wd).alloc (Nat.le_refl _) (.cells #[.int .i64 a, .int .i64 b, .int .i64 c] 73)
                    have hP8 := hPd.call hA8
                    refine mix_pur2 rfl (fun K hK => ?_)
                    go_simp
                    first | refine ⟨_, fun _ => rfl, hK _ ?_⟩ | refine hK _ ?_
                    clear hK K
                    refine mix_pur2 rfl (fun K hK => ?_)
                    go_simp
                    first | refine ⟨_, fun _ => rfl, hK _ ?_⟩ | refine hK _ ?_
                    clear hK K
                    refine mix_pur2 rfl (fun K hK => ?_)
                    go_simp
                    first | refine ⟨_, fun _ => rfl, hK _ ?_⟩ | refine hK _ ?_
                    clear hK K
                    refine mix_pur2 rfl (fun K hK => ?_)
                    go_simp
                    first | refine ⟨_, fun _ => rfl, hK _ ?_⟩ | refine hK _ ?_
                    clear hK K
                    refine mix_pur2 rfl (fun K hK => ?_)
                    go_simp
                    first | refine ⟨_, fun _ => rfl, hK _ ?_⟩ | refine hK _ ?_
                    clear hK K
                    refine mix_pur2 rfl (fun K hK => ?_)
                    go_simp
                    first | refine ⟨_, fun _ => rfl, hK _ ?_⟩ | refine hK _ ?_
                    clear hK K
                    refine mix_pur2 rfl (fun K hK => ?_)
                    go_simp
                    first | refine ⟨_, fun _ => rfl, hK _ ?_⟩ | refine hK _ ?_
                    clear hK K
                    refine mix_load2 rfl rfl rfl (.int .i64 a) (fun w' h => by have h : (fun u => u.cell? ⟨g, og, none⟩ = some (.int .i64 a) ∧ u.cell? ⟨g, og + 1, none⟩ = some (.int .i64 b) ∧ u.cell? ⟨g, og + 2, none⟩ = some (.int .i64 c)) w' := h; have h0 := h.1; go_simp) rfl ?_
                    refine mix_load2 rfl rfl rfl (.int .i64 b) (fun w' h => by have h : (fun u => u.cell? ⟨g, og, none⟩ = some (.int .i64 a) ∧ u.cell? ⟨g, og + 1, none⟩ = some (.int .i64 b) ∧ u.cell? ⟨g, og + 2, none⟩ = some (.int .i64 c)) w' := h; have h0 := h.2.1; go_simp) rfl ?_
                    refine mix_load2 rfl rfl rfl (.int .i64 c) (fun w' h => by have h : (fun u => u.cell? ⟨g, og, none⟩ = some (.int .i64 a) ∧ u.cell? ⟨g, og + 1, none⟩ = some (.int .i64 b) ∧ u.cell? ⟨g, og + 2, none⟩ = some (.int .i64 c)) w' := h; have h0 := h.2.2; go_simp) rfl ?_
                    refine mix_pur2 rfl (fun K hK => ?_)
                    go_simp
                    first | refine ⟨_, fun _ => rfl, hK _ ?_⟩ | refine hK _ ?_
                    clear hK K
                    refine mix_eff2 rfl false rfl (fun K hK => ?_)
                    go_simp
                    refine hK _ _ ⟨((hA8.cell (p := ⟨g, og, none⟩) hgd).trans s0), ((hA8.cell (p := ⟨g, og + 1, none⟩) hgd).trans s1), ((hA8.cell (p := ⟨g, og + 2, none⟩) hgd).trans s2)⟩ ?_
                    clear hK K
                    refine mix_eff2 rfl true rfl (fun K hK => ?_)
                    refine step_append_arr rfl _ _ 25 rfl 73 _ 3 24 Tryz.underlying25 Tryz.info73 rfl (by decide) (by decide) (by simp; omega) hP8.f rfl (Own.arr (own_lit wd 73 3 #[.int .i64 a, .int .i64 b, .int .i64 c] 1 rfl (by omega))) rfl rfl (fcells_one ⟨a, b, c⟩) (by omega) ?_
                    intro v9 w9 hown hT9
                    have hP9 := hP8.fur (y := ⟨a, b, c⟩) (by exact hown) hT9
                    refine hK _ _ trivial ?_
                    clear hK K
                    refine mix_pur2 rfl (fun K hK => ?_)
                    go_simp
                    first | refine ⟨_, fun _ => rfl, hK _ ?_⟩ | refine hK _ ?_
                    clear hK K
                    refine mix_done2 ?_
                    clear hP8 hown hT9 s0 s1 s2 hI6
                    go_wp2_with fail
                    rw [← HM4.out, ← HK4.out]
                    go_meet
                    case rel => exact ⟨x, _, l ++ [⟨a, b, c⟩], false, true, rfl, rfl, by omega, by simp; omega, (fun _ => ⟨fun _ => by rw [HE.out, HRS.out], fun e => by cases e⟩), (fun e => by cases e), hP9⟩
                · have bfw : (hd0 == [102, 117, 114, 114, 111, 119]) = false := by rw [beq_eq_false_iff_ne]; exact hfw
                  have hfo : fOf ws = none := by unfold fOf; rw [HHD.out, if_neg hfw]
                  have hco : cOf ws = clR ws := by unfold cOf; rw [HHD.out, if_neg hfw]
                  have HFO := Lib.hid hfo
                  have HCO := Lib.hid hco
                  clear hfw hfo hco
                  by_cases hl0 : l = []
                  · have bl0 : ((l.length : Int) == 0) = true := by rw [hl0]; rfl
                    have HL0 := Lib.hid hl0
                    clear hl0
                    obtain ⟨w5, hw5⟩ : ∃ x, x = w4.alloc (.cells #[.int .i64 0, .int .i64 0, .int .i64 0, .int .i64 0, .int .i64 0] 54) := ⟨_, rfl⟩
                    obtain ⟨b6, hb6⟩ : ∃ x, x = w4.heap.size := ⟨_, rfl⟩
                    have hY5 : Blk b6 #[.int .i64 0, .int .i64 0, .int .i64 0, .int .i64 0, .int .i64 0] 54 w5 := by rw [hw5, hb6]; exact Blk.new _ _ _
                    have hA5 : Below w4.heap.size w4 w5 := by rw [hw5]; exact (Below.refl _ w4).alloc (Nat.le_refl _) _
                    have hb64 : w4.heap.size ≤ b6 := Nat.le_of_eq hb6.symm
                    have hP5 := hP4.call hA5
                    have hS5 := hS4.call hA5
                    go_upto_region 29 with fail
                    rw [← hw5, ← hb6]
                    clear hw5 hb6 d1 d2
                    have hclr := claim_r ws hw0 bw capw hcapw (by omega) w5 hS5 HWL.out (by omega)
                    have HCLR := Lib.hid hclr
                    clear hclr
                    obtain ⟨y, hy⟩ : ∃ y, y = (clR ws).getD cZ := ⟨_, rfl⟩
                    obtain ⟨ib, hib⟩ : ∃ y, y = (clR ws).isSome := ⟨_, rfl⟩
                    have HCL2 := Lib.hid (show Calls Tryz.prog 41 #[.slice (some ⟨bw, 0, none⟩) ws.length capw] w5 (fun e w' => e = .returned (.tuple #[.agg (cV y), .bool ib]) ∧ Below w5.heap.size w5 w') by rw [hy, hib]; exact HCLR.out)
                    have HY := Lib.hid hy
                    have HIB := Lib.hid hib
                    clear hy hib HCLR
                    go_wp2_with fail
                    refine HCL2.out.mono ?_
                    rintro e w6 ⟨rfl, hB6⟩
                    have hY6 := hY5.call hB6
                    have hP6 := hP5.call hB6
                    clear hY5 hP5 hS5 hB6 HCL2
                    have f0 := hY6.free 0
                    have f1 := hY6.free 1
                    have f2 := hY6.free 2
                    have f3 := hY6.free 3
                    have f4 := hY6.free 4
                    have o0 := hY6.cell 0
                    have o1 := hY6.cell 1
                    have o2 := hY6.cell 2
                    have o3 := hY6.cell 3
                    have o4 := hY6.cell 4
                    have hY7 : Blk b6 #[.int .i64 y.kind, .int .i64 y.point, .int .i64 y.other, .int .i64 y.off, .int .i64 y.err] 54 (((((w6.setCell ⟨b6, 0, none⟩ (.int .i64 y.kind)).setCell ⟨b6, 1, none⟩ (.int .i64 y.point)).setCell ⟨b6, 2, none⟩ (.int .i64 y.other)).setCell ⟨b6, 3, none⟩ (.int .i64 y.off)).setCell ⟨b6, 4, none⟩ (.int .i64 y.err)) := (((((hY6.set 0 (.int .i64 y.kind)).set 1 (.int .i64 y.point)).set 2 (.int .i64 y.other)).set 3 (.int .i64 y.off)).set 4 (.int .i64 y.err))
                    have h6w : w4.heap.size ≤ b6 := hb64
                    have hQ7 : Keep7 w6 (((((w6.setCell ⟨b6, 0, none⟩ (.int .i64 y.kind)).setCell ⟨b6, 1, none⟩ (.int .i64 y.point)).setCell ⟨b6, 2, none⟩ (.int .i64 y.other)).setCell ⟨b6, 3, none⟩ (.int .i64 y.off)).setCell ⟨b6, 4, none⟩ (.int .i64 y.err)) b6 := by
                      refine ⟨by simp [World.setCell], fun q hq => ?_, by simp [World.setCell], by simp [World.setCell], by simp [World.setCell]⟩
                      exact (Below.heap_setCell _ _ _ _ hq).trans ((Below.heap_setCell _ _ _ _ hq).trans ((Below.heap_setCell _ _ _ _ hq).trans ((Below.heap_setCell _ _ _ _ hq).trans (Below.heap_setCell _ _ _ _ hq))))
                    have hP7 := hP6.keep7 hQ7 (by have := hP4.sz; omega) (by have := hP4.sz; have := hP4.o; omega) (fun e => by have := (World.ownsRow.lt hP4.c _ e).2; omega) (own_ne_t hP6.f hY6 (by decide))
                    go_upto_region 30 with fail
                    clear f0 f1 f2 f3 f4 o0 o1 o2 o3 o4 hY6 hP6 hQ7
                    generalize (((((w6.setCell ⟨b6, 0, none⟩ (.int .i64 y.kind)).setCell ⟨b6, 1, none⟩ (.int .i64 y.point)).setCell ⟨b6, 2, none⟩ (.int .i64 y.other)).setCell ⟨b6, 3, none⟩ (.int .i64 y.off)).setCell ⟨b6, 4, none⟩ (.int .i64 y.err)) = w7 at hY7 hP7 ⊢
                    have hszd := hP7.sz
                    have o0 := hY7.cell 0
                    have o1 := hY7.cell 1
                    have o2 := hY7.cell 2
                    have o3 := hY7.cell 3
                    have o4 := hY7.cell 4
                    have c2 := hP7.box.cell 2
                    have hA8 := (Below.refl w7.heap.size w7).alloc (Nat.le_refl _) (.cells #[.int .i64 y.kind, .int .i64 y.point, .int .i64 y.other, .int .i64 y.off, .int .i64 y.err] 54)
                    have hP8 := hP7.call hA8
                    go_wp2_with (at_builtin; go_loud (refine wpList_append_arr rfl _ _ 22 rfl 54 _ 5 40 Tryz.underlying22 Tryz.info54 rfl (by decide) (by decide) (by simp; omega) hP8.c rfl (Own.arr (own_lit w7 54 5 #[.int .i64 y.kind, .int .i64 y.point, .int .i64 y.other, .int .i64 y.off, .int .i64 y.err] 1 rfl (by omega))) rfl rfl (ccells_one y) (by omega) ?_); intro v9 w9 hown hT9; obtain ⟨a9, c9, rfl⟩ := own_slice hown; have hX9 : Blk b5 #[.int .i64 x.points, .int .i64 x.bend, .slice ax x.claims.length cx] 24 w9 := hP8.box.keep (hT9.block _ hP8.box.lt (own_ne_t hP8.c hP8.box (by decide))); have e2 := hX9.cell 2; have g2 := hX9.free 2)
                    have hP9 := hP8.claim (y := y) (by exact hown) hT9
                    clear hP7 hP8 hown hT9 hX9 e2 g2 hY7 o0 o1 o2 o3 o4 c2
                    generalize w9.setCell ⟨b5, 2, none⟩ (.slice a9 (x.claims.length + 1) c9) = w10 at hP9 ⊢
                    go_meet
                    case rel =>
                      refine ⟨⟨x.points, x.bend, x.claims ++ [y]⟩, _, l, false, ib, rfl, rfl, by simp; omega, by omega, (fun hb => ⟨fun _ => ?_, fun e => by cases e⟩), (fun hb => ?_), hP9⟩
                      · have h1 := HIB.out
                        rw [hb] at h1
                        cases hc : clR ws with
                        | none => rw [hc] at h1; cases h1
                        | some z =>
                          have h2 := HY.out
                          rw [hc] at h2
                          have h2 : y = z := h2
                          subst h2
                          rw [HI.out, ← HRS.out]
                          exact takeG_c HK0.out HSE.out (by rw [← HWE.out, HCO.out]; exact hc) HL0.out
                      · have h1 := HIB.out
                        rw [hb] at h1
                        cases hc : clR ws with
                        | some z => rw [hc] at h1; cases h1
                        | none =>
                          rw [HI.out]
                          exact takeG_n HK0.out HSE.out (by rw [← HWE.out, HCO.out]; exact hc) (by rw [← HWE.out]; exact HFO.out)
                  · have bl0 : ((l.length : Int) == 0) = false := by rw [beq_eq_false_iff_ne]; have := List.length_pos_iff.2 hl0; omega
                    have HE := Lib.hid (show takeR ls = .error (k + 1) by
                      rw [HI.out]
                      cases hc : clR ws with
                      | none => exact takeG_n HK0.out HSE.out (by rw [← HWE.out, HCO.out]; exact hc) (by rw [← HWE.out]; exact HFO.out)
                      | some y => exact takeG_c2 HK0.out HSE.out (y := y) (by rw [← HWE.out, HCO.out]; exact hc) hl0)
                    clear hl0
                    go_wp2_with fail
                    go_meet
                    case rel => exact ⟨x, _, l, false, false, rfl, rfl, by omega, by omega, (fun e => by cases e), fun _ => HE.out, hP4⟩
        case rest =>
        obtain ⟨x', vx', l', en', ib, rfl, rfl, hx', hl', ht', hf', hP5⟩ := hcut
        rename World => w5
        cases ib with
        | true =>
          have HIV := Lib.hid (ht' rfl)
          clear ht' hf'
          go_wp2_with fail
          go_roundw
          case rel => exact ⟨k + 1, en', x', vx', l', by omega, by go_num, rfl, hx', hl', HIV, hP5⟩
          case measure => simp [intOf]; omega
        | false =>
          have HR := Lib.hid (HRR.out _ (hf' rfl))
          clear ht' hf'
          have hOt := hP5.blk hOl (by omega)
          have f0 := hOt.free 0
          have f1 := hOt.free 1
          have f2 := hOt.free 2
          have o0 := hOt.cell 0
          have o1 := hOt.cell 1
          have o2 := hOt.cell 2
          have hbw := hP5.bel
          go_wp2
          have hOu : Blk b2 #[.int .i64 0, .int .i64 0, (.slice none 0 0)] 24 (((w5.setCell ⟨b2, 0, none⟩ (.int .i64 0)).setCell ⟨b2, 1, none⟩ (.int .i64 0)).setCell ⟨b2, 2, none⟩ (.slice none 0 0)) := ((hOt.set 0 (.int .i64 0)).set 1 (.int .i64 0)).set 2 (.slice none 0 0)
          have hBu := ((hbw.setCell (p := ⟨b2, 0, none⟩) hb2 (.int .i64 0)).setCell (p := ⟨b2, 1, none⟩) hb2 (.int .i64 0)).setCell (p := ⟨b2, 2, none⟩) hb2 (.slice none 0 0)
          clear hOt f0 f1 f2 o0 o1 o2
          generalize (((w5.setCell ⟨b2, 0, none⟩ (.int .i64 0)).setCell ⟨b2, 1, none⟩ (.int .i64 0)).setCell ⟨b2, 2, none⟩ (.slice none 0 0)) = wf at hOu hBu ⊢
          have x0 := hOu.cell 0
          have x1 := hOu.cell 1
          have x2 := hOu.cell 2
          refine bodyPost_ret (v := .tuple #[.agg #[.int .i64 0, .int .i64 0, (.slice none 0 0)], .slice none 0 0, .int .i64 ((k + 1 : Nat) : Int), .int .i64 2]) (by simp [results, Tryz.results13, go_sem, x0, x1, x2]) rfl ?_
          rw [show readR t = ⟨emptyX, [], (((k + 1 : Nat) : Int) : Int), 2⟩ from HR.out]
          exact ⟨_, _, rfl, cls_nil _ _, fus_nil _ _, hBu⟩
      · obtain rfl : k = m := by omega
        have d1 := (hP.sw hSl (by omega)).2 k (by omega)
        have hfm : ls[k]'(by omega) = fin := by
          have h1 := HFIN.out
          rw [List.getElem?_eq_getElem (show k < ls.length by omega)] at h1
          exact Option.some.inj h1
        rw [hfm, Nat.zero_add] at d1
        clear hfm
        cases en with
        | false =>
          have HR := Lib.hid (HRR.out (k + 1) (by rw [HI.out.1 rfl, List.drop_of_length_le (by omega)]; exact takeG_no))
          clear d1
          have hOt := hP.blk hOl (by omega)
          have f0 := hOt.free 0
          have f1 := hOt.free 1
          have f2 := hOt.free 2
          have o0 := hOt.cell 0
          have o1 := hOt.cell 1
          have o2 := hOt.cell 2
          have hbw := hP.bel
          go_wp2
          have hOu : Blk b2 #[.int .i64 0, .int .i64 0, (.slice none 0 0)] 24 (((wr.setCell ⟨b2, 0, none⟩ (.int .i64 0)).setCell ⟨b2, 1, none⟩ (.int .i64 0)).setCell ⟨b2, 2, none⟩ (.slice none 0 0)) := ((hOt.set 0 (.int .i64 0)).set 1 (.int .i64 0)).set 2 (.slice none 0 0)
          have hBu := ((hbw.setCell (p := ⟨b2, 0, none⟩) hb2 (.int .i64 0)).setCell (p := ⟨b2, 1, none⟩) hb2 (.int .i64 0)).setCell (p := ⟨b2, 2, none⟩) hb2 (.slice none 0 0)
          clear hOt f0 f1 f2 o0 o1 o2
          generalize (((wr.setCell ⟨b2, 0, none⟩ (.int .i64 0)).setCell ⟨b2, 1, none⟩ (.int .i64 0)).setCell ⟨b2, 2, none⟩ (.slice none 0 0)) = wf at hOu hBu ⊢
          have x0 := hOu.cell 0
          have x1 := hOu.cell 1
          have x2 := hOu.cell 2
          refine bodyPost_ret (v := .tuple #[.agg #[.int .i64 0, .int .i64 0, (.slice none 0 0)], .slice none 0 0, .int .i64 ((k + 1 : Nat) : Int), .int .i64 2]) (by simp [results, Tryz.results13, go_sem, x0, x1, x2]) rfl ?_
          rw [show readR t = ⟨emptyX, [], (((k + 1 : Nat) : Int) : Int), 2⟩ from HR.out]
          exact ⟨_, _, rfl, cls_nil _ _, fus_nil _ _, hBu⟩
        | true =>
          by_cases hfn : fin = []
          · have bf : fin.isEmpty = true := by rw [hfn]; rfl
            have HN := Lib.hid (HRO.out (x, l) (((HI.out.2 rfl).2 rfl).1 hfn))
            clear hfn
            have c0 := hP.box.cell 0
            have c1 := hP.box.cell 1
            have c2 := hP.box.cell 2
            have hC4 : ClsM (fun q => wl.heap.size ≤ q) wr (.slice ax x.claims.length cx) x.claims := Own.arr hP.c
            have hF4 : FusM (fun q => wl.heap.size ≤ q) wr (.slice al l.length cl) l := Own.arr hP.f
            go_wp2_with fail
            clear c0 c1 c2 d1
            refine (rready_c hC4 hF4).mono ?_
            rintro e w5 ⟨rfl, hB5⟩
            have hP5 := hP.call hB5
            by_cases hck : bothX x l = 0
            · have hbt : (bothX x l != 0) = false := by rw [hck]; rfl
              have HR := Lib.hid (show readR t = ⟨x, l, 0, 0⟩ by rw [HN.out]; exact if_pos hck)
              clear hck
              have hOt := hP5.blk hOl (by omega)
              have f0 := hOt.free 0
              have f1 := hOt.free 1
              have f2 := hOt.free 2
              have o0 := hOt.cell 0
              have o1 := hOt.cell 1
              have o2 := hOt.cell 2
              have hbw := hP5.bel
              have c0 := hP5.box.cell 0
              have c1 := hP5.box.cell 1
              have c2 := hP5.box.cell 2
              go_wp2
              have hOu : Blk b2 #[.int .i64 x.points, .int .i64 x.bend, (.slice ax x.claims.length cx)] 24 (((w5.setCell ⟨b2, 0, none⟩ (.int .i64 x.points)).setCell ⟨b2, 1, none⟩ (.int .i64 x.bend)).setCell ⟨b2, 2, none⟩ (.slice ax x.claims.length cx)) := ((hOt.set 0 (.int .i64 x.points)).set 1 (.int .i64 x.bend)).set 2 (.slice ax x.claims.length cx)
              have hBu := ((hbw.setCell (p := ⟨b2, 0, none⟩) hb2 (.int .i64 x.points)).setCell (p := ⟨b2, 1, none⟩) hb2 (.int .i64 x.bend)).setCell (p := ⟨b2, 2, none⟩) hb2 (.slice ax x.claims.length cx)
              have hcu : ClsM (fun q => wl.heap.size ≤ q) (((w5.setCell ⟨b2, 0, none⟩ (.int .i64 x.points)).setCell ⟨b2, 1, none⟩ (.int .i64 x.bend)).setCell ⟨b2, 2, none⟩ (.slice ax x.claims.length cx)) (.slice ax x.claims.length cx) x.claims := Own.arr (hP5.c.step fun q _ hq _ => (Below.heap_setCell _ _ _ _ (show q ≠ b2 by omega)).trans ((Below.heap_setCell _ _ _ _ (show q ≠ b2 by omega)).trans (Below.heap_setCell _ _ _ _ (show q ≠ b2 by omega))))
              have hfu : FusM (fun q => wl.heap.size ≤ q) (((w5.setCell ⟨b2, 0, none⟩ (.int .i64 x.points)).setCell ⟨b2, 1, none⟩ (.int .i64 x.bend)).setCell ⟨b2, 2, none⟩ (.slice ax x.claims.length cx)) (.slice al l.length cl) l := Own.arr (hP5.f.step fun q _ hq _ => (Below.heap_setCell _ _ _ _ (show q ≠ b2 by omega)).trans ((Below.heap_setCell _ _ _ _ (show q ≠ b2 by omega)).trans (Below.heap_setCell _ _ _ _ (show q ≠ b2 by omega))))
              clear hOt f0 f1 f2 o0 o1 o2 c0 c1 c2
              generalize (((w5.setCell ⟨b2, 0, none⟩ (.int .i64 x.points)).setCell ⟨b2, 1, none⟩ (.int .i64 x.bend)).setCell ⟨b2, 2, none⟩ (.slice ax x.claims.length cx)) = wf at hOu hBu hcu hfu ⊢
              have x0 := hOu.cell 0
              have x1 := hOu.cell 1
              have x2 := hOu.cell 2
              refine bodyPost_ret (v := .tuple #[.agg #[.int .i64 x.points, .int .i64 x.bend, (.slice ax x.claims.length cx)], .slice al l.length cl, .int .i64 0, .int .i64 0]) (by simp [results, Tryz.results13, go_sem, x0, x1, x2]) rfl ?_
              rw [show readR t = ⟨x, l, 0, 0⟩ from HR.out]
              exact ⟨_, _, rfl, hcu.wide fun q hq _ => by omega, hfu.wide fun q hq _ => by omega, hBu⟩
            · have hbt : (bothX x l != 0) = true := by simpa using hck
              have HR := Lib.hid (show readR t = ⟨emptyX, [], 0, bothX x l⟩ by rw [HN.out]; exact if_neg hck)
              clear hck
              have hOt := hP5.blk hOl (by omega)
              have f0 := hOt.free 0
              have f1 := hOt.free 1
              have f2 := hOt.free 2
              have o0 := hOt.cell 0
              have o1 := hOt.cell 1
              have o2 := hOt.cell 2
              have hbw := hP5.bel
              go_wp2
              have hOu : Blk b2 #[.int .i64 0, .int .i64 0, (.slice none 0 0)] 24 (((w5.setCell ⟨b2, 0, none⟩ (.int .i64 0)).setCell ⟨b2, 1, none⟩ (.int .i64 0)).setCell ⟨b2, 2, none⟩ (.slice none 0 0)) := ((hOt.set 0 (.int .i64 0)).set 1 (.int .i64 0)).set 2 (.slice none 0 0)
              have hBu := ((hbw.setCell (p := ⟨b2, 0, none⟩) hb2 (.int .i64 0)).setCell (p := ⟨b2, 1, none⟩) hb2 (.int .i64 0)).setCell (p := ⟨b2, 2, none⟩) hb2 (.slice none 0 0)
              clear hOt f0 f1 f2 o0 o1 o2
              generalize (((w5.setCell ⟨b2, 0, none⟩ (.int .i64 0)).setCell ⟨b2, 1, none⟩ (.int .i64 0)).setCell ⟨b2, 2, none⟩ (.slice none 0 0)) = wf at hOu hBu ⊢
              have x0 := hOu.cell 0
              have x1 := hOu.cell 1
              have x2 := hOu.cell 2
              refine bodyPost_ret (v := .tuple #[.agg #[.int .i64 0, .int .i64 0, (.slice none 0 0)], .slice none 0 0, .int .i64 0, .int .i64 (bothX x l)]) (by simp [results, Tryz.results13, go_sem, x0, x1, x2]) rfl ?_
              rw [show readR t = ⟨emptyX, [], 0, bothX x l⟩ from HR.out]
              exact ⟨_, _, rfl, cls_nil _ _, fus_nil _ _, hBu⟩
          · have bf : fin.isEmpty = false := by rw [Bool.eq_false_iff]; exact fun h => hfn (List.isEmpty_iff.1 h)
            have HR := Lib.hid (HRR.out (k + 1) (((HI.out.2 rfl).2 rfl).2 hfn))
            clear hfn
            have hOt := hP.blk hOl (by omega)
            have f0 := hOt.free 0
            have f1 := hOt.free 1
            have f2 := hOt.free 2
            have o0 := hOt.cell 0
            have o1 := hOt.cell 1
            have o2 := hOt.cell 2
            have hbw := hP.bel
            go_wp2
            have hOu : Blk b2 #[.int .i64 0, .int .i64 0, (.slice none 0 0)] 24 (((wr.setCell ⟨b2, 0, none⟩ (.int .i64 0)).setCell ⟨b2, 1, none⟩ (.int .i64 0)).setCell ⟨b2, 2, none⟩ (.slice none 0 0)) := ((hOt.set 0 (.int .i64 0)).set 1 (.int .i64 0)).set 2 (.slice none 0 0)
            have hBu := ((hbw.setCell (p := ⟨b2, 0, none⟩) hb2 (.int .i64 0)).setCell (p := ⟨b2, 1, none⟩) hb2 (.int .i64 0)).setCell (p := ⟨b2, 2, none⟩) hb2 (.slice none 0 0)
            clear hOt f0 f1 f2 o0 o1 o2
            generalize (((wr.setCell ⟨b2, 0, none⟩ (.int .i64 0)).setCell ⟨b2, 1, none⟩ (.int .i64 0)).setCell ⟨b2, 2, none⟩ (.slice none 0 0)) = wf at hOu hBu ⊢
            have x0 := hOu.cell 0
            have x1 := hOu.cell 1
            have x2 := hOu.cell 2
            refine bodyPost_ret (v := .tuple #[.agg #[.int .i64 0, .int .i64 0, (.slice none 0 0)], .slice none 0 0, .int .i64 ((k + 1 : Nat) : Int), .int .i64 2]) (by simp [results, Tryz.results13, go_sem, x0, x1, x2]) rfl ?_
            rw [show readR t = ⟨emptyX, [], (((k + 1 : Nat) : Int) : Int), 2⟩ from HR.out]
            exact ⟨_, _, rfl, cls_nil _ _, fus_nil _ _, hBu⟩

end Go.Proofs.YtbpfhoihfoojfaaGreatDoor
