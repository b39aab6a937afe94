/- Reading the lines of a text (edge.parse); conditions: the library's variables hold what they are laid with. -/
import Derived.Test.YtbpfhoihfoojfaaGreatDoorPr1
namespace Go.Proofs.YtbpfhoihfoojfaaGreatDoor
open Go.RowKit

attribute [local go_sem] str_toList
set_option maxRecDepth 100000 in
set_option maxHeartbeats 4000000 in
theorem parse_c (t : List UInt8) (ht : t.length ≤ 1000) (w : World) (hG : GV w) :
    Calls Tryz.prog 37 #[.string (str t)] w (PsPost (cutL 10 t) w) := by
  obtain ⟨ls, hls⟩ : ∃ x, x = cutL 10 t := ⟨_, rfl⟩
  have hlm := cut_len 10 t
  have hlw := cut_word 10 t
  have hln := cutL_ne 10 t
  obtain ⟨w1, hw1⟩ : ∃ x, x = w.alloc (.cells #[.int .i64 0, .int .i64 0, .slice none 0 0] 24) := ⟨_, rfl⟩
  obtain ⟨b2, hb2e⟩ : ∃ x, x = w.heap.size := ⟨_, rfl⟩
  have hO1 : Blk b2 #[.int .i64 0, .int .i64 0, .slice none 0 0] 24 w1 := by rw [hw1, hb2e]; exact Blk.new _ _ _
  have hB1 : Below w.heap.size w w1 := by rw [hw1]; exact (Below.refl _ w).alloc (Nat.le_refl _) _
  have hb2 : w.heap.size ≤ b2 := Nat.le_of_eq hb2e.symm
  obtain ⟨w2, hw2⟩ : ∃ x, x = w1.alloc (.cells #[.int .i64 0, .int .i64 0, .slice none 0 0] 24) := ⟨_, rfl⟩
  obtain ⟨b5, hb5e⟩ : ∃ x, x = w1.heap.size := ⟨_, rfl⟩
  have hX2 : Blk b5 #[.int .i64 0, .int .i64 0, .slice none 0 0] 24 w2 := by rw [hw2, hb5e]; exact Blk.new _ _ _
  have hA2 : Below w1.heap.size w1 w2 := by rw [hw2]; exact (Below.refl _ w1).alloc (Nat.le_refl _) _
  have hO2 := hO1.call hA2
  have hB2 := bnw hB1 hA2
  have hG2 := hG.call hB2
  have hb25 : b2 < b5 := by rw [hb5e]; exact hO1.lt
  have hb52 : b5 < w2.heap.size := hX2.lt
  have hsp := split_c 10 t w2 hG2 (by omega)
  rw [← hls] at hsp hlm hlw hln
  rw [← hls]
  have hpos : 0 < ls.length := List.length_pos_iff.2 hln
  obtain ⟨m, hm⟩ : ∃ m, m = ls.length - 1 := ⟨_, rfl⟩
  have hlm1 : ls.length = m + 1 := by omega
  have HM := Lib.hid hlm1
  have hm1 : ls.length ≤ m + 1 := Nat.le_of_eq hlm1
  have hm2 : m + 1 ≤ ls.length := Nat.le_of_eq hlm1.symm
  have hfin : ls[m]? = some (ls.getLastD []) := by
    rw [List.getLastD_eq_getLast?, List.getLast?_eq_getElem?, show ls.length - 1 = m by omega, List.getElem?_eq_getElem (by omega)]
    rfl
  obtain ⟨fin, hfe⟩ : ∃ x, x = ls.getLastD [] := ⟨_, rfl⟩
  obtain ⟨bd, hbe⟩ : ∃ x, x = ls.dropLast := ⟨_, rfl⟩
  have hTR : takeR ls = takeG fin 0 emptyX [] bd := by rw [hfe, hbe]; rfl
  rw [← hfe] at hfin
  have hbdl : bd.length = m := by rw [hbe, List.length_dropLast, hlm1]; rfl
  have hbd1 : bd.length ≤ m := Nat.le_of_eq hbdl
  have hbd2 : m ≤ bd.length := Nat.le_of_eq hbdl.symm
  have hbda : ∀ k, k < m → bd[k]? = ls[k]? := fun k h => by rw [hbe, List.getElem?_dropLast, if_pos (by omega)]
  have HTR := Lib.hid hTR
  have HFIN := Lib.hid hfin
  have HBDA := Lib.hid hbda
  have HSP := Lib.hid hsp
  clear hsp hls hln hm hlm1 hTR hfin hbdl hbda hfe hbe
  go_enter Tryz.func37, Tryz.ntmps37
  go_upto_region 3 with fail
  have hb5f : b2 + 1 = b5 := by rw [hb5e, hw1, hb2e]; simp
  rw [← hw1, ← hb2e, ← hw2, hb5f]
  clear hw1 hb2e hw2 hb5e hb5f
  go_wp2_with fail
  refine HSP.out.mono ?_
  rintro e w3 ⟨rfl, hS3, hB3⟩
  obtain ⟨bl, hbl⟩ : ∃ q, q = w2.heap.size := ⟨_, rfl⟩
  rw [← hbl] at hS3 ⊢
  have hbl5 : b5 < bl := by rw [hbl]; exact hb52
  clear hbl HSP
  have hlast : IntKind.i64.wrap ((ls.length : Int) - 1) = (m : Int) := by rw [IntWalk.i64_in _ (by omega)]; omega
  go_wp2_with fail
  refine (readers_c w3).mono ?_
  rintro e wl ⟨⟨rm, k1, k2, k3, rfl, hR4⟩, hB4⟩
  have hBl := bnw hB2 (bnw hB3 hB4)
  have hSl := hS3.call hB4
  have hOl := (hO2.call hB3).call hB4
  have hXl := (hX2.call hB3).call hB4
  have hr5 : b5 < w3.heap.size := by have := hB3.size; omega
  have hbls : bl < wl.heap.size := hSl.1
  clear hB1 hO1 hX2 hA2 hO2 hB2 hG2 hS3 hB3 hB4 hlast
  go_wp2_with fail
  go_loopw [6, 29] (fun vl vi wr => ∃ (k : Nat) (x : Edg) (vx : Value) (l : List Fu), k ≤ m ∧ vi = .int .i64 k ∧ x.claims.length ≤ k ∧ l.length ≤ k ∧ Hid (takeR ls = takeG fin k x l (bd.drop k)) ∧ PS w wl b5 x vx l vl wr) (fun _ vi _ => m - (intOf vi).toNat)
  case atStart => exact ⟨0, emptyX, _, [], Nat.zero_le _, rfl, Nat.le_refl _, Nat.le_refl _, Lib.hid HTR.out, fun k hk _ => rfl, Nat.le_refl _, hXl, Own.nil, Own.nil, hBl, by omega, by omega⟩
  case round =>
    obtain ⟨k, x, vx, l, hk, rfl, hxk, hlk, HI, hP⟩ := hrel
    obtain ⟨ax, cx, rfl⟩ := own_slice hP.c
    obtain ⟨al, cl, rfl⟩ := own_slice hP.f
    by_cases hlt : k < m
    · have hSr := hP.sw hSl (by omega)
      have hGr := hP.gv hG
      have d0 := hSr.2 k (by omega)
      rw [Nat.zero_add] at d0
      obtain ⟨s, hs⟩ : ∃ x, x = ls[k]'(by omega) := ⟨_, rfl⟩
      obtain ⟨rs, hrs⟩ : ∃ x, x = bd.drop (k + 1) := ⟨_, rfl⟩
      have hdk : bd.drop k = s :: rs := by
        have h1 := HBDA.out k hlt
        rw [List.getElem?_eq_getElem (show k < bd.length by omega), List.getElem?_eq_getElem (show k < ls.length by omega)] at h1
        rw [hs, hrs, List.drop_eq_getElem_cons (show k < bd.length by omega), Option.some.inj h1]
      have hrsl : rs.length + k + 1 = m := by rw [hrs, List.length_drop]; omega
      have hsl : s.length ≤ 1000 := by rw [hs]; have := hlw _ (List.getElem_mem (show k < ls.length by omega)); omega
      have hI := HI.out
      rw [hdk] at hI
      rw [← hs] at d0
      have HI := Lib.hid hI
      have HRS := Lib.hid hrs
      have hr1 : rs.length + k + 1 ≤ m := Nat.le_of_eq hrsl
      have hr2 : m ≤ rs.length + k + 1 := Nat.le_of_eq hrsl.symm
      have hws := split_c 32 s wr hGr (by omega)
      have hwl := cut_word 32 s
      have hwm := cut_len 32 s
      have hwn := cutL_ne 32 s
      obtain ⟨ws, hwse⟩ : ∃ x, x = cutL 32 s := ⟨_, rfl⟩
      rw [← hwse] at hws hwl hwm hwn
      have HWS := Lib.hid hws
      have HWE := Lib.hid hwse
      have HWN := Lib.hid hwn
      have hw0 : 0 < ws.length := List.length_pos_iff.2 hwn
      clear hs hrs hdk hI hrsl hws hwse hwn
      go_wp2_with fail
      refine HWS.out.mono ?_
      rintro e w4 ⟨rfl, hS4, hB4⟩
      obtain ⟨bw, hbw⟩ : ∃ q, q = wr.heap.size := ⟨_, rfl⟩
      rw [← hbw] at hS4 ⊢
      have hbwl : wl.heap.size ≤ bw := by rw [hbw]; exact hP.sz
      clear hbw HWS d0
      have hP4 := hP.call hB4
      have hG4 := hGr.call hB4
      have hSr4 := hSr.call hB4
      clear hP hGr hSr hB4
      by_cases hk0 : k = 0
      · subst hk0
        have hnm := numbers_c false [101, 100, 103, 101, 124, 124, 112, 111, 105, 110, 116, 115, 124, 98, 101, 110, 100, 124] foH ws (by decide) (by decide) (by decide) bw 0 ws.length w4 hG4 hS4 (fun q hq => by have := hwl q hq; omega) (by omega)
        have HNM := Lib.hid hnm
        clear hnm
        go_wp2_with fail
        refine HNM.out.mono ?_
        rintro e w5 ⟨vn, rfl, hI5, hB5⟩
        have hP5 := hP4.call hB5
        cases hf : formL false foH ws with
        | none =>
          have HR := Lib.hid (show takeR ls = .error 1 by rw [HI.out]; exact takeG_h0 (by rw [← HWE.out]; unfold hdR; rw [hf]; rfl))
          clear hf
          have hOt := hP5.blk hOl (by omega)
          have o0 := hOt.cell 0
          have o1 := hOt.cell 1
          have o2 := hOt.cell 2
          have f0 := hOt.free 0
          have f1 := hOt.free 1
          have f2 := hOt.free 2
          have c0 := hP5.box.cell 0
          have c1 := hP5.box.cell 1
          have c2 := hP5.box.cell 2
          have hbw := hP5.bel
          go_wp2
          have hOu : Blk b2 #[.int .i64 x.points, .int .i64 x.bend, (.slice ax x.claims.length cx)] 24 (((w5.setCell ⟨b2, 0, none⟩ (.int .i64 x.points)).setCell ⟨b2, 1, none⟩ (.int .i64 x.bend)).setCell ⟨b2, 2, none⟩ (.slice ax x.claims.length cx)) := ((hOt.set 0 (.int .i64 x.points)).set 1 (.int .i64 x.bend)).set 2 (.slice ax x.claims.length cx)
          have hBu := ((hbw.setCell (p := ⟨b2, 0, none⟩) hb2 (.int .i64 x.points)).setCell (p := ⟨b2, 1, none⟩) hb2 (.int .i64 x.bend)).setCell (p := ⟨b2, 2, none⟩) hb2 (.slice ax x.claims.length cx)
          clear hOt o0 o1 o2 f0 f1 f2 c0 c1 c2
          generalize ((w5.setCell ⟨b2, 0, none⟩ (.int .i64 x.points)).setCell ⟨b2, 1, none⟩ (.int .i64 x.bend)).setCell ⟨b2, 2, none⟩ (.slice ax x.claims.length cx) = wf at hOu hBu ⊢
          have x0 := hOu.cell 0
          have x1 := hOu.cell 1
          have x2 := hOu.cell 2
          refine bodyPost_ret (v := .tuple #[.agg #[.int .i64 x.points, .int .i64 x.bend, (.slice ax x.claims.length cx)], .slice none 0 0, .iface 93 (.int .i64 ((1 : Nat) : Int))]) (by simp [results, Tryz.results37, go_sem, x0, x1, x2]) rfl ?_
          exact ⟨.inl ⟨_, _, _, _, _, _, HR.out, rfl⟩, hBu⟩
        | some nl =>
          obtain ⟨a, b, rfl, -⟩ := foH_some hf
          have HR := Lib.hid (show takeR ls = takeG fin 1 ⟨a, b, x.claims⟩ l rs by rw [HI.out]; exact takeG_h1 (m := (a, b)) (by rw [← HWE.out]; unfold hdR; rw [hf]; rfl))
          rw [hf] at hI5
          have hI5 : Ints (fun q => w4.heap.size ≤ q) w5 vn [a, b] := hI5
          clear hf
          obtain ⟨an, cn, rfl, _, _⟩ := hI5.shape
          obtain ⟨g, og, rfl, hgA, -, -⟩ := hI5.addr (by simp)
          have hgA : w4.heap.size ≤ g := hgA
          have hg5 : g ≠ b5 := by have := hP4.sz; omega
          go_wp2_with fail
          refine wp_region_mix2 (.pur 0 (.pur 1 (.pur 3 (.pur 4 (.one 2 (.one 5 (.pur 6 (.act 7 (.pur 8 (.act 9 .fin)))))))))) 9 (fun w => w.cell? ⟨g, og, none⟩ = some (.int .i64 a) ∧ w.cell? ⟨g, og + 1, none⟩ = some (.int .i64 b)) (fun _ => True) (by kernel_rfl) (by kernel_rfl) rfl (by kernel_rfl) ⟨(hI5.qt' ((Qt.refl _).drewN 1)).cell 0 (by simp), (hI5.qt' ((Qt.refl _).drewN 1)).cell 1 (by simp)⟩ (fun w6 hq6 _ => ?_)
          have hP6 := hP5.qt hq6
          have s0 := (hI5.qt' hq6).cell 0 (by simp)
          have s1 := (hI5.qt' hq6).cell 1 (by simp)
          refine mix_pur2 rfl (fun K hK => ?_)
          go_simp
          first | refine ⟨_, fun _ => rfl, hK _ ?_⟩ | refine hK _ ?_
          clear hK K
          refine mix_pur2 rfl (fun K hK => ?_)
          go_simp
          first | refine ⟨_, fun _ => rfl, hK _ ?_⟩ | refine hK _ ?_
          clear hK K
          refine mix_pur2 rfl (fun K hK => ?_)
          go_simp
          first | refine ⟨_, fun _ => rfl, hK _ ?_⟩ | refine hK _ ?_
          clear hK K
          refine mix_pur2 rfl (fun K hK => ?_)
          go_simp
          first | refine ⟨_, fun _ => rfl, hK _ ?_⟩ | refine hK _ ?_
          clear hK K
          refine mix_load2 rfl rfl rfl (.int .i64 a) (fun w' h => by have h : (fun w => w.cell? ⟨g, og, none⟩ = some (.int .i64 a) ∧ w.cell? ⟨g, og + 1, none⟩ = some (.int .i64 b)) w' := h; have h0 := h.1; go_simp) rfl ?_
          refine mix_load2 rfl rfl rfl (.int .i64 b) (fun w' h => by have h : (fun w => w.cell? ⟨g, og, none⟩ = some (.int .i64 a) ∧ w.cell? ⟨g, og + 1, none⟩ = some (.int .i64 b)) w' := h; have h0 := h.2; go_simp) rfl ?_
          refine mix_pur2 rfl (fun K hK => ?_)
          go_simp
          first | refine ⟨_, fun _ => rfl, hK _ ?_⟩ | refine hK _ ?_
          clear hK K
          refine mix_eff2 rfl false rfl (fun K hK => ?_)
          have f0 := hP6.box.free 0
          have c0 := hP6.box.cell 0
          go_simp
          refine hK _ _ ⟨(cell_heap (Below.heap_setCell _ _ _ _ hg5)).trans s0, (cell_heap (Below.heap_setCell _ _ _ _ hg5)).trans s1⟩ ?_
          clear hK K f0 c0
          refine mix_pur2 rfl (fun K hK => ?_)
          go_simp
          first | refine ⟨_, fun _ => rfl, hK _ ?_⟩ | refine hK _ ?_
          clear hK K
          refine mix_eff2 rfl true rfl (fun K hK => ?_)
          have f1 := ((hP6.box.set 0 (.int .i64 a)).free 1)
          have c1 := ((hP6.box.set 0 (.int .i64 a)).cell 1)
          go_simp
          refine hK _ _ trivial ?_
          clear hK K f1 c1
          refine mix_done2 ?_
          have hP7 := hP6.head (a := a) (b := b)
          clear hP6 hI5 s0 s1
          generalize (w6.setCell ⟨b5, 0, none⟩ (.int .i64 a)).setCell ⟨b5, 1, none⟩ (.int .i64 b) = w7 at hP7 ⊢
          go_wp2_with fail
          go_roundw
          case rel => exact ⟨1, ⟨a, b, x.claims⟩, _, l, by omega, by go_num, by show x.claims.length ≤ 1; omega, by omega, Lib.hid (by rw [HR.out, HRS.out]), hP7⟩
          case measure => simp [intOf]; omega
      · have hi0 : ((k : Int) == 0) = false := by rw [beq_eq_false_iff_ne]; omega
        have hkp : 0 < k := by omega
        have HK0 := Lib.hid hk0
        clear hk0
        have bk : IntKind.i64.wrap ((k : Int) + 1) = (k : Int) + 1 := IntWalk.i64_in _ (by omega)
        have bk2 : IntKind.i64.wrap ((k : Int) + 2) = (k : Int) + 2 := IntWalk.i64_in _ (by omega)
        by_cases hsE : s = wEd
        · have hbE : (s == [101, 100, 103, 101, 100]) = true := by rw [hsE]; rfl
          have HSE := Lib.hid hsE
          clear hsE
          by_cases hkm : k + 1 < m
          · have d3 : decide ((k : Int) + 1 < (m : Int)) = true := decide_eq_true (by omega)
            have HR := Lib.hid (show takeR ls = .error (k + 2) by rw [HI.out]; exact takeG_e1 HK0.out HSE.out (.inl fun e => by rw [e] at hr2; simp at hr2; omega))
            have hOt := hP4.blk hOl (by omega)
            have o0 := hOt.cell 0
            have o1 := hOt.cell 1
            have o2 := hOt.cell 2
            have f0 := hOt.free 0
            have f1 := hOt.free 1
            have f2 := hOt.free 2
            have c0 := hP4.box.cell 0
            have c1 := hP4.box.cell 1
            have c2 := hP4.box.cell 2
            have hbw := hP4.bel
            go_wp2
            have hOu : Blk b2 #[.int .i64 x.points, .int .i64 x.bend, (.slice ax x.claims.length cx)] 24 (((w4.setCell ⟨b2, 0, none⟩ (.int .i64 x.points)).setCell ⟨b2, 1, none⟩ (.int .i64 x.bend)).setCell ⟨b2, 2, none⟩ (.slice ax x.claims.length cx)) := ((hOt.set 0 (.int .i64 x.points)).set 1 (.int .i64 x.bend)).set 2 (.slice ax x.claims.length cx)
            have hBu := ((hbw.setCell (p := ⟨b2, 0, none⟩) hb2 (.int .i64 x.points)).setCell (p := ⟨b2, 1, none⟩) hb2 (.int .i64 x.bend)).setCell (p := ⟨b2, 2, none⟩) hb2 (.slice ax x.claims.length cx)
            clear hOt o0 o1 o2 f0 f1 f2 c0 c1 c2
            generalize ((w4.setCell ⟨b2, 0, none⟩ (.int .i64 x.points)).setCell ⟨b2, 1, none⟩ (.int .i64 x.bend)).setCell ⟨b2, 2, none⟩ (.slice ax x.claims.length cx) = wf at hOu hBu ⊢
            have x0 := hOu.cell 0
            have x1 := hOu.cell 1
            have x2 := hOu.cell 2
            refine bodyPost_ret (v := .tuple #[.agg #[.int .i64 x.points, .int .i64 x.bend, (.slice ax x.claims.length cx)], .slice none 0 0, .iface 93 (.int .i64 (((k + 2) : Nat) : Int))]) (by simp [results, Tryz.results37, go_sem, x0, x1, x2]) rfl ?_
            exact ⟨.inl ⟨_, _, _, _, _, _, HR.out, rfl⟩, hBu⟩
          · have d3 : decide ((k : Int) + 1 < (m : Int)) = false := decide_eq_false (by omega)
            have hrn : rs = [] := List.length_eq_zero_iff.1 (by omega)
            have HRN := Lib.hid hrn
            clear hrn
            have d1 := hSr4.2 m (by omega)
            have hfm : ls[m]'(by omega) = fin := by
              have h1 := HFIN.out
              rw [List.getElem?_eq_getElem (show m < ls.length by omega)] at h1
              exact Option.some.inj h1
            rw [hfm, Nat.zero_add] at d1
            have hmk : (m : Int) = (k : Int) + 1 := by omega
            have HMK := Lib.hid hmk
            clear hfm hmk
            by_cases hfn : fin = []
            · have bf : fin.isEmpty = true := by rw [hfn]; rfl
              have HR := Lib.hid (show takeR ls = .ok (x, l) by rw [HI.out]; exact takeG_e2 HK0.out HSE.out HRN.out hfn)
              clear hfn
              have hOt := hP4.blk hOl (by omega)
              have o0 := hOt.cell 0
              have o1 := hOt.cell 1
              have o2 := hOt.cell 2
              have f0 := hOt.free 0
              have f1 := hOt.free 1
              have f2 := hOt.free 2
              have c0 := hP4.box.cell 0
              have c1 := hP4.box.cell 1
              have c2 := hP4.box.cell 2
              have hbw := hP4.bel
              go_wp2
              have hOu : Blk b2 #[.int .i64 x.points, .int .i64 x.bend, (.slice ax x.claims.length cx)] 24 (((w4.setCell ⟨b2, 0, none⟩ (.int .i64 x.points)).setCell ⟨b2, 1, none⟩ (.int .i64 x.bend)).setCell ⟨b2, 2, none⟩ (.slice ax x.claims.length cx)) := ((hOt.set 0 (.int .i64 x.points)).set 1 (.int .i64 x.bend)).set 2 (.slice ax x.claims.length cx)
              have hBu := ((hbw.setCell (p := ⟨b2, 0, none⟩) hb2 (.int .i64 x.points)).setCell (p := ⟨b2, 1, none⟩) hb2 (.int .i64 x.bend)).setCell (p := ⟨b2, 2, none⟩) hb2 (.slice ax x.claims.length cx)
              have hcu : ClsM (fun q => wl.heap.size ≤ q) (((w4.setCell ⟨b2, 0, none⟩ (.int .i64 x.points)).setCell ⟨b2, 1, none⟩ (.int .i64 x.bend)).setCell ⟨b2, 2, none⟩ (.slice ax x.claims.length cx)) (.slice ax x.claims.length cx) x.claims := Own.arr (hP4.c.step fun q _ hq _ => (Below.heap_setCell _ _ _ _ (show q ≠ b2 by omega)).trans ((Below.heap_setCell _ _ _ _ (show q ≠ b2 by omega)).trans (Below.heap_setCell _ _ _ _ (show q ≠ b2 by omega))))
              have hfu : FusM (fun q => wl.heap.size ≤ q) (((w4.setCell ⟨b2, 0, none⟩ (.int .i64 x.points)).setCell ⟨b2, 1, none⟩ (.int .i64 x.bend)).setCell ⟨b2, 2, none⟩ (.slice ax x.claims.length cx)) (.slice al l.length cl) l := Own.arr (hP4.f.step fun q _ hq _ => (Below.heap_setCell _ _ _ _ (show q ≠ b2 by omega)).trans ((Below.heap_setCell _ _ _ _ (show q ≠ b2 by omega)).trans (Below.heap_setCell _ _ _ _ (show q ≠ b2 by omega))))
              clear hOt o0 o1 o2 f0 f1 f2 c0 c1 c2
              generalize ((w4.setCell ⟨b2, 0, none⟩ (.int .i64 x.points)).setCell ⟨b2, 1, none⟩ (.int .i64 x.bend)).setCell ⟨b2, 2, none⟩ (.slice ax x.claims.length cx) = wf at hOu hBu hcu hfu ⊢
              have x0 := hOu.cell 0
              have x1 := hOu.cell 1
              have x2 := hOu.cell 2
              refine bodyPost_ret (v := .tuple #[.agg #[.int .i64 x.points, .int .i64 x.bend, (.slice ax x.claims.length cx)], (.slice al l.length cl), .nilIface]) (by simp [results, Tryz.results37, go_sem, x0, x1, x2]) rfl ?_
              exact ⟨.inr ⟨x, l, (.slice ax x.claims.length cx), (.slice al l.length cl), HR.out, rfl, hcu.wide fun q hq _ => by omega, hfu.wide fun q hq _ => by omega⟩, hBu⟩
            · have bf : fin.isEmpty = false := by rw [Bool.eq_false_iff]; exact fun h => hfn (List.isEmpty_iff.1 h)
              have HR := Lib.hid (show takeR ls = .error (k + 2) by rw [HI.out]; exact takeG_e1 HK0.out HSE.out (.inr hfn))
              clear hfn
              have hOt := hP4.blk hOl (by omega)
              have o0 := hOt.cell 0
              have o1 := hOt.cell 1
              have o2 := hOt.cell 2
              have f0 := hOt.free 0
              have f1 := hOt.free 1
              have f2 := hOt.free 2
              have c0 := hP4.box.cell 0
              have c1 := hP4.box.cell 1
              have c2 := hP4.box.cell 2
              have hbw := hP4.bel
              go_wp2
              have hOu : Blk b2 #[.int .i64 x.points, .int .i64 x.bend, (.slice ax x.claims.length cx)] 24 (((w4.setCell ⟨b2, 0, none⟩ (.int .i64 x.points)).setCell ⟨b2, 1, none⟩ (.int .i64 x.bend)).setCell ⟨b2, 2, none⟩ (.slice ax x.claims.length cx)) := ((hOt.set 0 (.int .i64 x.points)).set 1 (.int .i64 x.bend)).set 2 (.slice ax x.claims.length cx)
              have hBu := ((hbw.setCell (p := ⟨b2, 0, none⟩) hb2 (.int .i64 x.points)).setCell (p := ⟨b2, 1, none⟩) hb2 (.int .i64 x.bend)).setCell (p := ⟨b2, 2, none⟩) hb2 (.slice ax x.claims.length cx)
              clear hOt o0 o1 o2 f0 f1 f2 c0 c1 c2
              generalize ((w4.setCell ⟨b2, 0, none⟩ (.int .i64 x.points)).setCell ⟨b2, 1, none⟩ (.int .i64 x.bend)).setCell ⟨b2, 2, none⟩ (.slice ax x.claims.length cx) = wf at hOu hBu ⊢
              have x0 := hOu.cell 0
              have x1 := hOu.cell 1
              have x2 := hOu.cell 2
              refine bodyPost_ret (v := .tuple #[.agg #[.int .i64 x.points, .int .i64 x.bend, (.slice ax x.claims.length cx)], .slice none 0 0, .iface 93 (.int .i64 (((k + 2) : Nat) : Int))]) (by simp [results, Tryz.results37, go_sem, x0, x1, x2]) rfl ?_
              exact ⟨.inl ⟨_, _, _, _, _, _, HR.out, rfl⟩, hBu⟩
        · have hbE : (s == [101, 100, 103, 101, 100]) = false := by rw [beq_eq_false_iff_ne]; exact hsE
          have HSE := Lib.hid hsE
          clear hsE
          have hRM := hP4.rm hR4 hr5
          have d2 := hS4.2 0 hw0
          obtain ⟨hd, hhd⟩ : ∃ x, x = ws[0]'hw0 := ⟨_, rfl⟩
          rw [← hhd] at d2
          have hhd2 : ws.headD [] = hd := by
            rw [hhd]
            cases ws with
            | nil => exact absurd rfl HWN.out
            | cons a r => rfl
          have HHD := Lib.hid hhd2
          clear hhd hhd2
          by_cases hkn : hd = wSt ∨ hd = wWi ∨ hd = wBe ∨ hd = wMe ∨ hd = wAb ∨ hd = wFw
          · obtain ⟨fv, hlk, h6⟩ : ∃ fv, (Instr.lookup 122 (.map (some rm)) (.string (str hd)) true).run Tryz.prog w4 = .ok (.tuple #[fv, .bool true]) w4 ∧ ((hd = wSt ∧ fv = clo (k1 + 1) k1) ∨ (hd = wWi ∧ fv = clo (k2 + 1) k2) ∨ (hd = wBe ∧ fv = clo (k3 + 1) k3) ∨ (hd = wMe ∧ fv = .func (.func 86) #[] #[]) ∨ (hd = wAb ∧ fv = .func (.func 87) #[] #[]) ∨ (hd = wFw ∧ fv = .func (.func 88) #[] #[])) := by
              rcases hkn with rfl | rfl | rfl | rfl | rfl | rfl
              · exact ⟨_, look_map (str wSt) 0 _ hRM.h (by kernel_rfl), .inl ⟨rfl, rfl⟩⟩
              · exact ⟨_, look_map (str wWi) 1 _ hRM.h (by kernel_rfl), .inr (.inl ⟨rfl, rfl⟩)⟩
              · exact ⟨_, look_map (str wBe) 2 _ hRM.h (by kernel_rfl), .inr (.inr (.inl ⟨rfl, rfl⟩))⟩
              · exact ⟨_, look_map (str wMe) 3 _ hRM.h (by kernel_rfl), .inr (.inr (.inr (.inl ⟨rfl, rfl⟩)))⟩
              · exact ⟨_, look_map (str wAb) 4 _ hRM.h (by kernel_rfl), .inr (.inr (.inr (.inr (.inl ⟨rfl, rfl⟩))))⟩
              · exact ⟨_, look_map (str wFw) 5 _ hRM.h (by kernel_rfl), .inr (.inr (.inr (.inr (.inr ⟨rfl, rfl⟩))))⟩
            have H6 := Lib.hid h6
            clear h6 hkn
            go_upto_region 22 with fail
            go_cut [17, 18] from 88 to 94 (fun s17 s18 wx => LnVal (cOf ws) (fOf ws) w4.heap.size s17 s18 wx ∧ Below w4.heap.size w4 wx)
            case first =>
              clear hlk d2
              have HWL := Lib.hid (show ∀ q ∈ ws, q.length ≤ 100000 from fun q hq => by have := hwl q hq; omega)
              rcases H6.out with ⟨h, rfl⟩ | ⟨h, rfl⟩ | ⟨h, rfl⟩ | ⟨h, rfl⟩ | ⟨h, rfl⟩ | ⟨h, rfl⟩
              · have HH := Lib.hid h
                have hcl := read85_c 1 wSt (by decide) (by decide) (by decide) ws bw 0 ws.length k1 (k1 + 1) w4 hG4 hS4 HWL.out (by omega) hRM.a1.1 hRM.a1.2
                have HCL := Lib.hid hcl
                clear h hcl
                go_wp2_with fail
                refine HCL.out.mono ?_
                intro e w5 hpost
                obtain ⟨v1, v2, rfl, hv, hB5⟩ := ln_val hpost
                have HV := Lib.hid hv
                clear hv hpost
                go_wp2_with fail
                go_meet
                case rel =>
                  have h1 := HV.out
                  refine ⟨?_, hB5⟩
                  rw [show cOf ws = _ by unfold cOf clR; rw [HHD.out, HH.out, if_neg (by decide), if_pos rfl], show fOf ws = _ by unfold fOf; rw [HHD.out, HH.out, if_neg (by decide)]]
                  exact h1
              · have HH := Lib.hid h
                have hcl := read85_c 3 wWi (by decide) (by decide) (by decide) ws bw 0 ws.length k2 (k2 + 1) w4 hG4 hS4 HWL.out (by omega) hRM.a2.1 hRM.a2.2
                have HCL := Lib.hid hcl
                clear h hcl
                go_wp2_with fail
                refine HCL.out.mono ?_
                intro e w5 hpost
                obtain ⟨v1, v2, rfl, hv, hB5⟩ := ln_val hpost
                have HV := Lib.hid hv
                clear hv hpost
                go_wp2_with fail
                go_meet
                case rel =>
                  have h1 := HV.out
                  refine ⟨?_, hB5⟩
                  rw [show cOf ws = _ by unfold cOf clR; rw [HHD.out, HH.out, if_neg (by decide), if_neg (by decide), if_neg (by decide), if_pos rfl], show fOf ws = _ by unfold fOf; rw [HHD.out, HH.out, if_neg (by decide)]]
                  exact h1
              · have HH := Lib.hid h
                have hcl := read85_c 4 wBe (by decide) (by decide) (by decide) ws bw 0 ws.length k3 (k3 + 1) w4 hG4 hS4 HWL.out (by omega) hRM.a3.1 hRM.a3.2
                have HCL := Lib.hid hcl
                clear h hcl
                go_wp2_with fail
                refine HCL.out.mono ?_
                intro e w5 hpost
                obtain ⟨v1, v2, rfl, hv, hB5⟩ := ln_val hpost
                have HV := Lib.hid hv
                clear hv hpost
                go_wp2_with fail
                go_meet
                case rel =>
                  have h1 := HV.out
                  refine ⟨?_, hB5⟩
                  rw [show cOf ws = _ by unfold cOf clR; rw [HHD.out, HH.out, if_neg (by decide), if_neg (by decide), if_neg (by decide), if_neg (by decide), if_pos rfl], show fOf ws = _ by unfold fOf; rw [HHD.out, HH.out, if_neg (by decide)]]
                  exact h1
              · have HH := Lib.hid h
                have hcl := read86_c ws bw 0 ws.length w4 hG4 hS4 HWL.out (by omega)
                have HCL := Lib.hid hcl
                clear h hcl
                go_wp2_with fail
                refine HCL.out.mono ?_
                intro e w5 hpost
                obtain ⟨v1, v2, rfl, hv, hB5⟩ := ln_val hpost
                have HV := Lib.hid hv
                clear hv hpost
                go_wp2_with fail
                go_meet
                case rel =>
                  have h1 := HV.out
                  refine ⟨?_, hB5⟩
                  rw [show cOf ws = _ by unfold cOf clR; rw [HHD.out, HH.out, if_neg (by decide), if_neg (by decide), if_pos rfl], show fOf ws = _ by unfold fOf; rw [HHD.out, HH.out, if_neg (by decide)]]
                  exact h1
              · have HH := Lib.hid h
                have hcl := read87_c ws bw 0 ws.length w4 hG4 hS4 HWL.out (by omega)
                have HCL := Lib.hid hcl
                clear h hcl
                go_wp2_with fail
                refine HCL.out.mono ?_
                intro e w5 hpost
                obtain ⟨v1, v2, rfl, hv, hB5⟩ := ln_val hpost
                have HV := Lib.hid hv
                clear hv hpost
                go_wp2_with fail
                go_meet
                case rel =>
                  have h1 := HV.out
                  refine ⟨?_, hB5⟩
                  rw [show cOf ws = _ by unfold cOf clR; rw [HHD.out, HH.out, if_neg (by decide), if_neg (by decide), if_neg (by decide), if_neg (by decide), if_neg (by decide), if_pos rfl], show fOf ws = _ by unfold fOf; rw [HHD.out, HH.out, if_neg (by decide)]]
                  exact h1
              · have HH := Lib.hid h
                have hcl := read88_c ws bw 0 ws.length w4 hG4 hS4 HWL.out (by omega)
                have HCL := Lib.hid hcl
                clear h hcl
                go_wp2_with fail
                refine HCL.out.mono ?_
                intro e w5 hpost
                obtain ⟨v1, v2, rfl, hv, hB5⟩ := ln_val hpost
                have HV := Lib.hid hv
                clear hv hpost
                go_wp2_with fail
                go_meet
                case rel =>
                  have h1 := HV.out
                  refine ⟨?_, hB5⟩
                  rw [show cOf ws = _ by unfold cOf; rw [HHD.out, HH.out, if_pos rfl], show fOf ws = _ by unfold fOf; rw [HHD.out, HH.out, if_pos rfl]]
                  exact h1
            case rest =>
            obtain ⟨hLn, hB5⟩ := hcut
            rename World => w5
            have hP5 := hP4.call hB5
            rcases hLn with ⟨hc, hf, rfl, rfl⟩ | ⟨y, q, hc, hf, rfl, rfl, hq, hY⟩ | ⟨y, q, hc, hf, rfl, rfl, hq, hY⟩
            · have HR := Lib.hid (show takeR ls = .error (k + 1) by rw [HI.out]; exact takeG_n HK0.out HSE.out (by rw [← HWE.out]; exact hc) (by rw [← HWE.out]; exact hf))
              clear hc hf d2 hlk
              have hOt := hP5.blk hOl (by omega)
              have o0 := hOt.cell 0
              have o1 := hOt.cell 1
              have o2 := hOt.cell 2
              have f0 := hOt.free 0
              have f1 := hOt.free 1
              have f2 := hOt.free 2
              have c0 := hP5.box.cell 0
              have c1 := hP5.box.cell 1
              have c2 := hP5.box.cell 2
              have hbw := hP5.bel
              go_wp2
              have hOu : Blk b2 #[.int .i64 x.points, .int .i64 x.bend, (.slice ax x.claims.length cx)] 24 (((w5.setCell ⟨b2, 0, none⟩ (.int .i64 x.points)).setCell ⟨b2, 1, none⟩ (.int .i64 x.bend)).setCell ⟨b2, 2, none⟩ (.slice ax x.claims.length cx)) := ((hOt.set 0 (.int .i64 x.points)).set 1 (.int .i64 x.bend)).set 2 (.slice ax x.claims.length cx)
              have hBu := ((hbw.setCell (p := ⟨b2, 0, none⟩) hb2 (.int .i64 x.points)).setCell (p := ⟨b2, 1, none⟩) hb2 (.int .i64 x.bend)).setCell (p := ⟨b2, 2, none⟩) hb2 (.slice ax x.claims.length cx)
              clear hOt o0 o1 o2 f0 f1 f2 c0 c1 c2
              generalize ((w5.setCell ⟨b2, 0, none⟩ (.int .i64 x.points)).setCell ⟨b2, 1, none⟩ (.int .i64 x.bend)).setCell ⟨b2, 2, none⟩ (.slice ax x.claims.length cx) = wf at hOu hBu ⊢
              have x0 := hOu.cell 0
              have x1 := hOu.cell 1
              have x2 := hOu.cell 2
              refine bodyPost_ret (v := .tuple #[.agg #[.int .i64 x.points, .int .i64 x.bend, (.slice ax x.claims.length cx)], .slice none 0 0, .iface 93 (.int .i64 (((k + 1) : Nat) : Int))]) (by simp [results, Tryz.results37, go_sem, x0, x1, x2]) rfl ?_
              exact ⟨.inl ⟨_, _, _, _, _, _, HR.out, rfl⟩, hBu⟩
            · have HC := Lib.hid (show cOf (cutL 32 s) = some y by rw [← HWE.out]; exact hc)
              clear hc hf d2 hlk
              by_cases hl0 : l = []
              · have bl0 : ((l.length : Int) == 0) = true := by rw [hl0]; rfl
                have HR := Lib.hid (show takeR ls = takeG fin (k + 1) ⟨x.points, x.bend, x.claims ++ [y]⟩ l rs by rw [HI.out]; exact takeG_c HK0.out HSE.out HC.out hl0)
                clear hl0
                go_wp2_with fail
                refine wp_region_mix2 (.pur 0 (.pur 2 (.pur 3 (.one 1 (.one 4 (.act 5 (.act 6 (.pur 7 (.act 8 .fin))))))))) 6 (fun w => Blk b5 #[.int .i64 x.points, .int .i64 x.bend, .slice ax x.claims.length cx] 24 w ∧ Blk q (cV y) 54 w) (fun _ => True) (by kernel_rfl) (by kernel_rfl) rfl (by kernel_rfl) ⟨hP5.box.qt ((Qt.refl _).drewN 1), hY.qt ((Qt.refl _).drewN 1)⟩ (fun wd hqd _ => ?_)
                have hPd := hP5.qt hqd
                have hszd := hPd.sz
                have hP7 := hPd.call ((Below.refl _ wd).alloc (Nat.le_refl _) (.cells #[.int .i64 y.kind, .int .i64 y.point, .int .i64 y.other, .int .i64 y.off, .int .i64 y.err] 54))
                refine mix_pur2 rfl (fun K hK => ?_)
                go_simp
                first | refine ⟨_, fun _ => rfl, hK _ ?_⟩ | refine hK _ ?_
                clear hK K
                refine mix_pur2 rfl (fun K hK => ?_)
                go_simp
                first | refine ⟨_, fun _ => rfl, hK _ ?_⟩ | refine hK _ ?_
                clear hK K
                refine mix_pur2 rfl (fun K hK => ?_)
                go_simp
                first | refine ⟨_, fun _ => rfl, hK _ ?_⟩ | refine hK _ ?_
                clear hK K
                refine mix_load2 rfl rfl rfl (.slice ax x.claims.length cx) (fun w' h => by have h : (fun w => Blk b5 #[.int .i64 x.points, .int .i64 x.bend, .slice ax x.claims.length cx] 24 w ∧ Blk q (cV y) 54 w) w' := h; have h0 := h.1.cell 2; go_simp) rfl ?_
                refine mix_load2 rfl rfl rfl (.agg #[.int .i64 y.kind, .int .i64 y.point, .int .i64 y.other, .int .i64 y.off, .int .i64 y.err]) (fun w' h => by have h : (fun w => Blk b5 #[.int .i64 x.points, .int .i64 x.bend, .slice ax x.claims.length cx] 24 w ∧ Blk q (cV y) 54 w) w' := h; have h0 := h.2.cell 0; have h1 := h.2.cell 1; have h2 := h.2.cell 2; have h3 := h.2.cell 3; have h4 := h.2.cell 4; go_simp) rfl ?_
                refine mix_eff2 rfl false rfl (fun K hK => ?_)
                go_simp
                refine hK _ _ ⟨hPd.box.alloc _, (hY.qt hqd).alloc _⟩ ?_
                clear hK K
                refine mix_eff2 rfl true rfl (fun K hK => ?_)
                refine step_append_arr rfl _ _ 22 rfl 54 _ 5 40 Tryz.underlying22 Tryz.info54 rfl (by decide) (by decide) (by simp; omega) hP7.c rfl (Own.arr (own_lit wd 54 5 #[.int .i64 y.kind, .int .i64 y.point, .int .i64 y.other, .int .i64 y.off, .int .i64 y.err] 1 rfl (by omega))) rfl rfl (ccells_one y) (by omega) ?_
                intro v8 w8 hown hT
                obtain ⟨a8, c8, rfl⟩ := own_slice hown
                have hX8 : Blk b5 #[.int .i64 x.points, .int .i64 x.bend, .slice ax x.claims.length cx] 24 w8 := hP7.box.keep (hT.block _ hP7.box.lt (own_ne_t hP7.c hP7.box (by decide)))
                have e2 := hX8.cell 2
                have f2 := hX8.free 2
                refine hK _ _ trivial ?_
                clear hK K
                refine mix_pur2 rfl (fun K hK => ?_)
                go_simp
                first | refine ⟨_, fun _ => rfl, hK _ ?_⟩ | refine hK _ ?_
                clear hK K
                refine mix_eff2 rfl true rfl (fun K hK => ?_)
                go_simp
                refine hK _ _ trivial ?_
                clear hK K e2 f2 hX8
                refine mix_done2 ?_
                have hP9 := hP7.claim (y := y) (by exact hown) hT
                clear hP7 hown hT hY
                generalize w8.setCell ⟨b5, 2, none⟩ (.slice a8 (x.claims.length + 1) c8) = w9 at hP9 ⊢
                go_wp2_with fail
                go_roundw
                case rel => exact ⟨k + 1, ⟨x.points, x.bend, x.claims ++ [y]⟩, _, l, by omega, by go_num, by simp; omega, by omega, Lib.hid (by rw [HR.out, HRS.out]), hP9⟩
                case measure => simp [intOf]; omega
              · have bl0 : ((l.length : Int) == 0) = false := by rw [beq_eq_false_iff_ne]; have := List.length_pos_iff.2 hl0; omega
                have HR := Lib.hid (show takeR ls = .error (k + 1) by rw [HI.out]; exact takeG_c2 HK0.out HSE.out HC.out hl0)
                clear hl0
                have hOt := hP5.blk hOl (by omega)
                have o0 := hOt.cell 0
                have o1 := hOt.cell 1
                have o2 := hOt.cell 2
                have f0 := hOt.free 0
                have f1 := hOt.free 1
                have f2 := hOt.free 2
                have c0 := hP5.box.cell 0
                have c1 := hP5.box.cell 1
                have c2 := hP5.box.cell 2
                have hbw := hP5.bel
                go_wp2
                have hOu : Blk b2 #[.int .i64 x.points, .int .i64 x.bend, (.slice ax x.claims.length cx)] 24 (((w5.setCell ⟨b2, 0, none⟩ (.int .i64 x.points)).setCell ⟨b2, 1, none⟩ (.int .i64 x.bend)).setCell ⟨b2, 2, none⟩ (.slice ax x.claims.length cx)) := ((hOt.set 0 (.int .i64 x.points)).set 1 (.int .i64 x.bend)).set 2 (.slice ax x.claims.length cx)
                have hBu := ((hbw.setCell (p := ⟨b2, 0, none⟩) hb2 (.int .i64 x.points)).setCell (p := ⟨b2, 1, none⟩) hb2 (.int .i64 x.bend)).setCell (p := ⟨b2, 2, none⟩) hb2 (.slice ax x.claims.length cx)
                clear hOt o0 o1 o2 f0 f1 f2 c0 c1 c2
                generalize ((w5.setCell ⟨b2, 0, none⟩ (.int .i64 x.points)).setCell ⟨b2, 1, none⟩ (.int .i64 x.bend)).setCell ⟨b2, 2, none⟩ (.slice ax x.claims.length cx) = wf at hOu hBu ⊢
                have x0 := hOu.cell 0
                have x1 := hOu.cell 1
                have x2 := hOu.cell 2
                refine bodyPost_ret (v := .tuple #[.agg #[.int .i64 x.points, .int .i64 x.bend, (.slice ax x.claims.length cx)], .slice none 0 0, .iface 93 (.int .i64 (((k + 1) : Nat) : Int))]) (by simp [results, Tryz.results37, go_sem, x0, x1, x2]) rfl ?_
                exact ⟨.inl ⟨_, _, _, _, _, _, HR.out, rfl⟩, hBu⟩
            · have HR := Lib.hid (show takeR ls = takeG fin (k + 1) x (l ++ [y]) rs by rw [HI.out]; exact takeG_f HK0.out HSE.out (by rw [← HWE.out]; exact hf))
              clear hc hf d2 hlk
              have hsz5 := hP5.sz
              have y0 := hY.cell 0
              have y1 := hY.cell 1
              have y2 := hY.cell 2
              have hP6 := hP5.call ((Below.refl _ w5).alloc (Nat.le_refl _) (.cells #[.int .i64 y.point, .int .i64 y.year, .int .i64 y.off] 73))
              have ha := Own.arr (own_lit w5 73 3 #[.int .i64 y.point, .int .i64 y.year, .int .i64 y.off] 1 rfl (by omega))
              go_wp2_with (at_builtin; go_loud (refine wpList_append_arr rfl _ _ 25 rfl 73 _ 3 24 Tryz.underlying25 Tryz.info73 rfl (by decide) (by decide) (by simp; omega) hP6.f rfl ha rfl rfl (fcells_one y) (by omega) ?_); intro v9 w9 hown hT9)
              have hP9 := hP6.fur (y := y) hown hT9
              clear hP6 hown hT9 y0 y1 y2 hY
              go_roundw
              case rel => exact ⟨k + 1, x, _, l ++ [y], by omega, by go_num, by omega, by simp; omega, Lib.hid (by rw [HR.out, HRS.out]), hP9⟩
              case measure => simp [intOf]; omega
          · have n1 : (hd == wSt) = false := by rw [beq_eq_false_iff_ne]; exact fun h => hkn (.inl h)
            have n2 : (hd == wWi) = false := by rw [beq_eq_false_iff_ne]; exact fun h => hkn (.inr (.inl h))
            have n3 : (hd == wBe) = false := by rw [beq_eq_false_iff_ne]; exact fun h => hkn (.inr (.inr (.inl h)))
            have n4 : (hd == wMe) = false := by rw [beq_eq_false_iff_ne]; exact fun h => hkn (.inr (.inr (.inr (.inl h))))
            have n5 : (hd == wAb) = false := by rw [beq_eq_false_iff_ne]; exact fun h => hkn (.inr (.inr (.inr (.inr (.inl h)))))
            have n6 : (hd == wFw) = false := by rw [beq_eq_false_iff_ne]; exact fun h => hkn (.inr (.inr (.inr (.inr (.inr h)))))
            have hlk := look_none (str hd) hRM.h (by simp only [Instr.findNow, Instr.sameNow, str_beq, n1, n2, n3, n4, n5, n6])
            have HN := Lib.hid (show takeR ls = .error (k + 1) by
              rw [HI.out]
              rw [beq_eq_false_iff_ne] at n1 n2 n3 n4 n5 n6
              refine takeG_n HK0.out HSE.out ?_ ?_
              · rw [← HWE.out]; unfold cOf clR; rw [HHD.out, if_neg n6, if_neg n1, if_neg n4, if_neg n2, if_neg n3, if_neg n5]
              · rw [← HWE.out]; unfold fOf; rw [HHD.out, if_neg n6])
            clear n1 n2 n3 n4 n5 n6 hkn
            have hOt := hP4.blk hOl (by omega)
            have o0 := hOt.cell 0
            have o1 := hOt.cell 1
            have o2 := hOt.cell 2
            have f0 := hOt.free 0
            have f1 := hOt.free 1
            have f2 := hOt.free 2
            have c0 := hP4.box.cell 0
            have c1 := hP4.box.cell 1
            have c2 := hP4.box.cell 2
            have hbw := hP4.bel
            go_wp2
            have hOu : Blk b2 #[.int .i64 x.points, .int .i64 x.bend, (.slice ax x.claims.length cx)] 24 (((w4.setCell ⟨b2, 0, none⟩ (.int .i64 x.points)).setCell ⟨b2, 1, none⟩ (.int .i64 x.bend)).setCell ⟨b2, 2, none⟩ (.slice ax x.claims.length cx)) := ((hOt.set 0 (.int .i64 x.points)).set 1 (.int .i64 x.bend)).set 2 (.slice ax x.claims.length cx)
            have hBu := ((hbw.setCell (p := ⟨b2, 0, none⟩) hb2 (.int .i64 x.points)).setCell (p := ⟨b2, 1, none⟩) hb2 (.int .i64 x.bend)).setCell (p := ⟨b2, 2, none⟩) hb2 (.slice ax x.claims.length cx)
            clear hOt o0 o1 o2 f0 f1 f2 c0 c1 c2
            generalize ((w4.setCell ⟨b2, 0, none⟩ (.int .i64 x.points)).setCell ⟨b2, 1, none⟩ (.int .i64 x.bend)).setCell ⟨b2, 2, none⟩ (.slice ax x.claims.length cx) = wf at hOu hBu ⊢
            have x0 := hOu.cell 0
            have x1 := hOu.cell 1
            have x2 := hOu.cell 2
            refine bodyPost_ret (v := .tuple #[.agg #[.int .i64 x.points, .int .i64 x.bend, (.slice ax x.claims.length cx)], .slice none 0 0, .iface 93 (.int .i64 (((k + 1) : Nat) : Int))]) (by simp [results, Tryz.results37, go_sem, x0, x1, x2]) rfl ?_
            exact ⟨.inl ⟨_, _, _, _, _, _, HN.out, rfl⟩, hBu⟩
    · obtain rfl : k = m := by omega
      have HN := Lib.hid (show takeR ls = .error (k + 1) by rw [HI.out, List.drop_of_length_le (by omega)]; exact takeG_no)
      have hOt := hP.blk hOl (by omega)
      have o0 := hOt.cell 0
      have o1 := hOt.cell 1
      have o2 := hOt.cell 2
      have f0 := hOt.free 0
      have f1 := hOt.free 1
      have f2 := hOt.free 2
      have c0 := hP.box.cell 0
      have c1 := hP.box.cell 1
      have c2 := hP.box.cell 2
      have hbw := hP.bel
      go_wp2
      have hOu : Blk b2 #[.int .i64 x.points, .int .i64 x.bend, (.slice ax x.claims.length cx)] 24 (((wr.setCell ⟨b2, 0, none⟩ (.int .i64 x.points)).setCell ⟨b2, 1, none⟩ (.int .i64 x.bend)).setCell ⟨b2, 2, none⟩ (.slice ax x.claims.length cx)) := ((hOt.set 0 (.int .i64 x.points)).set 1 (.int .i64 x.bend)).set 2 (.slice ax x.claims.length cx)
      have hBu := ((hbw.setCell (p := ⟨b2, 0, none⟩) hb2 (.int .i64 x.points)).setCell (p := ⟨b2, 1, none⟩) hb2 (.int .i64 x.bend)).setCell (p := ⟨b2, 2, none⟩) hb2 (.slice ax x.claims.length cx)
      clear hOt o0 o1 o2 f0 f1 f2 c0 c1 c2
      generalize ((wr.setCell ⟨b2, 0, none⟩ (.int .i64 x.points)).setCell ⟨b2, 1, none⟩ (.int .i64 x.bend)).setCell ⟨b2, 2, none⟩ (.slice ax x.claims.length cx) = wf at hOu hBu ⊢
      have x0 := hOu.cell 0
      have x1 := hOu.cell 1
      have x2 := hOu.cell 2
      refine bodyPost_ret (v := .tuple #[.agg #[.int .i64 x.points, .int .i64 x.bend, (.slice ax x.claims.length cx)], .slice none 0 0, .iface 93 (.int .i64 (((k + 1) : Nat) : Int))]) (by simp [results, Tryz.results37, go_sem, x0, x1, x2]) rfl ?_
      exact ⟨.inl ⟨_, _, _, _, _, _, HN.out, rfl⟩, hBu⟩

end Go.Proofs.YtbpfhoihfoojfaaGreatDoor
