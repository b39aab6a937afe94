/- Draw of mestaref08: what is drawn in an order, or the error; conditions: none. -/
import Derived.Test.YthchpoabncdicaaRT1
import Derived.Test.YthchpoabncdicaaParP
namespace Go.Proofs.Ythchpoabncdicaa
open Go.RowKit

/-- What is taken of n mountains. -/
def takB (n : Nat) (t : List Int) : List Bool := (List.range n).map fun (j : Nat) => decide ((j : Int) ∈ t)
theorem takB_len (n : Nat) (t : List Int) : (takB n t).length = n := by simp [takB]
theorem takB_at (n : Nat) (t : List Int) (j : Nat) (h : j < (takB n t).length) : (takB n t)[j] = decide ((j : Int) ∈ t) := by simp [takB]
theorem takB_nil (n : Nat) : takB n [] = List.replicate n false := by
  apply List.ext_getElem
  · simp [takB]
  · intro i h1 h2; simp [takB]
theorem takB_cons (n : Nat) (t : List Int) (j : Nat) : takB n ((j : Int) :: t) = (takB n t).set j true := by
  apply List.ext_getElem
  · simp [takB]
  · intro i h1 h2
    rw [List.getElem_set]
    by_cases e : j = i
    · subst e; simp [takB]
    · have : ¬ (i : Int) = (j : Int) := by omega
      simp [takB, e, this]
theorem BoolBlk.qt {w w' : World} {g : Nat} {l : List Bool} (h : BoolBlk w g l) (q : Qt w w') : BoolBlk w' g l := h.call (q.below _)
theorem IntBlk.qt {w w' : World} {g : Nat} {l : List Int} (h : IntBlk w g l) (q : Qt w w') : IntBlk w' g l := h.call (q.below _)
/-- What a round reads first, and last. -/
def RdS (b : Nat) (vv : Value) (b1 o1 : Nat) (vi b2 o2 : Nat) (lv : Value) (w : World) : Prop := w.cell? ⟨b, 1, none⟩ = some vv ∧ w.cell? ⟨b1, o1, none⟩ = some (.int .i64 vi) ∧ w.cell? ⟨b2, o2, none⟩ = some lv
theorem RdS.drew {b : Nat} {vv : Value} {b1 o1 vi b2 o2 : Nat} {lv : Value} {w : World} (h : RdS b vv b1 o1 vi b2 o2 lv w) : RdS b vv b1 o1 vi b2 o2 lv w.drew := h
def RdT (b1 o1 : Nat) (vi b2 o2 x : Nat) (w : World) : Prop := w.cell? ⟨b1, o1, none⟩ = some (.int .i64 vi) ∧ w.cell? ⟨b2, o2, none⟩ = some (.int .i64 x)
theorem RdT.drew {b1 o1 vi b2 o2 x : Nat} {w : World} (h : RdT b1 o1 vi b2 o2 x w) : RdT b1 o1 vi b2 o2 x w.drew := h

theorem drawSt_two {vs : List Vil} {n : Nat} (hlk : ∀ v : Nat, v < n → PermOf n (vs.getD v ⟨0, 0, []⟩).likes) : ∀ (order : List Int) (s : List Int × List Int), (∀ u ∈ order, 0 ≤ u ∧ u < n) → s.2.length + order.length ≤ n → (order.foldl (drawStep vs) s).2.length = s.2.length + order.length
  | [], s, _, _ => rfl
  | u :: rest, s, hb, hl => by
    have hb0 := hb u (by simp)
    obtain ⟨k, rfl⟩ : ∃ k : Nat, u = (k : Int) := ⟨u.toNat, by omega⟩
    have hp := hlk k (by omega)
    simp only [List.length_cons] at hl
    obtain ⟨m, hf⟩ := find_some (t := s.2) hp.nodup (by have := hp.len; omega)
    have hst : drawStep vs s (k : Int) = (s.1.set k m, m :: s.2) := by
      unfold drawStep
      rw [Int.toNat_natCast, hf]
    rw [List.foldl_cons, hst, drawSt_two hlk rest _ (fun x hx => hb x (by simp [hx])) (by simp; omega)]
    simp; omega

set_option maxRecDepth 100000 in
set_option maxHeartbeats 2000000 in
theorem rdraw_c {A A' : Nat → Prop} {w : World} {vm vv vd : Value} {c : Com} {order : List Int} (h : Cm A w vm vv c) (hd : Ints A' w vd order) (hok : c.Ok 4) (hp : PermOf c.mountains.length order) :
    Calls Try.prog 110 #[.agg #[vm, vv], vd] w fun e w' => ∃ v', e = .returned v' ∧ Ints (fun b => w.heap.size ≤ b) w' v' (drawF c.villages order.length order) ∧ Below w.heap.size w w' := by
  obtain ⟨am, cpm, rfl, _, _⟩ := h.1.shape
  obtain ⟨av, cpv, rfl, _, _⟩ := h.2.shape
  obtain ⟨ad, cpd, rfl, _, _⟩ := hd.shape
  have hol := hp.len
  have hn1 : 0 < order.length := by have := hok.n1; omega
  have hn4 : order.length ≤ 4 := by have := hok.n2; omega
  have hvl : c.villages.length = order.length := by have := hok.vl; omega
  obtain ⟨bv, ov, rfl, -, hbv⟩ := h.2.addr (by omega)
  obtain ⟨bd, od, rfl, -, hbd, hdc⟩ := hd.addr hn1
  have hmem := hp.mem
  have hlk : ∀ v ∈ c.villages, PermOf order.length v.likes := fun v hv => by rw [hol]; exact (hok.vil v hv).2.2.2.2
  rw [← hol] at hmem
  have hlk2 : ∀ v : Nat, v < order.length → PermOf order.length (c.villages.getD v ⟨0, 0, []⟩).likes := fun v hv => by
    have hv2 : v < c.villages.length := by omega
    rw [List.getD_eq_getElem?_getD, List.getElem?_eq_getElem hv2]
    exact hlk _ (List.getElem_mem hv2)
  have htw := fun k (hk : k ≤ order.length) => drawSt_two hlk2 (order.take k) (List.replicate order.length 0, []) (fun u hu => (hmem u).1 (List.mem_of_mem_take hu)) (by simp; omega)
  have hmk := make_ints_fact order.length (by omega)
  have hmb := make_bools_fact order.length (by omega)
  have hB0 : Below w.heap.size w (w.alloc (.cells #[.slice am c.mountains.length cpm, .slice (some ⟨bv, ov, none⟩) c.villages.length cpv] 25)) := (Below.refl _ w).alloc (Nat.le_refl _) _
  have hbx : Blk w.heap.size #[.slice am c.mountains.length cpm, .slice (some ⟨bv, ov, none⟩) c.villages.length cpv] 25 (w.alloc (.cells #[.slice am c.mountains.length cpm, .slice (some ⟨bv, ov, none⟩) c.villages.length cpv] 25)) := Blk.new w _ _
  have hs1 : (w.alloc (.cells #[.slice am c.mountains.length cpm, .slice (some ⟨bv, ov, none⟩) c.villages.length cpv] 25)).heap.size = w.heap.size + 1 := by simp
  have HTW := Lib.hid htw
  have HOL := Lib.hid hol
  have HVL := Lib.hid hvl
  have HLK := Lib.hid hlk
  have HMEM := Lib.hid hmem
  clear hol hvl hlk hlk2 hmem htw
  go_enter Try.func110, Try.ntmps110
  go_upto_region 1 with fail
  generalize w.alloc (.cells #[.slice am c.mountains.length cpm, .slice (some ⟨bv, ov, none⟩) c.villages.length cpv] 25) = w1 at *
  obtain ⟨g, hg⟩ : ∃ g, g = w.heap.size + 1 := ⟨_, rfl⟩
  rw [← hg] at hs1
  have hI2 : IntBlk (w1.alloc (.cells (I64 (List.replicate order.length 0)).toArray 3)) g (List.replicate order.length 0) := by rw [← hs1]; exact intBlk_made w1 order.length
  have hB2 := hB0.alloc (by omega) (.cells (I64 (List.replicate order.length 0)).toArray 3)
  have hbx2 := hbx.alloc (.cells (I64 (List.replicate order.length 0)).toArray 3)
  have hs2 : (w1.alloc (.cells (I64 (List.replicate order.length 0)).toArray 3)).heap.size = g + 1 := by rw [← hs1]; simp
  go_upto_region 2 with fail
  try rw [← hg]
  generalize w1.alloc (.cells (I64 (List.replicate order.length 0)).toArray 3) = w2 at *
  have hT3 : BoolBlk (w2.alloc (.cells (BL (List.replicate order.length false)).toArray 4)) (g + 1) (List.replicate order.length false) := by rw [← hs2]; exact boolBlk_made w2 order.length
  have hI3 := hI2.alloc (.cells (BL (List.replicate order.length false)).toArray 4)
  have hB3 := hB2.alloc (by omega) (.cells (BL (List.replicate order.length false)).toArray 4)
  have hbx3 := hbx2.alloc (.cells (BL (List.replicate order.length false)).toArray 4)
  go_upto_region 3 with fail
  try rw [hs2]
  try rw [← hg]
  generalize w2.alloc (.cells (BL (List.replicate order.length false)).toArray 4) = w3 at *
  have hgw : w.heap.size + 1 ≤ g := by omega
  clear hmk hmb hs1 hs2 hI2 hB2 hbx2 hB0 hbx hg
  go_wp2_with fail
  go_loopw [7] (fun i wr => ∃ k : Nat, k ≤ order.length ∧ i = .int .i64 k ∧ IntBlk wr g (drawSt c.villages order.length (order.take k)).1 ∧ BoolBlk wr (g + 1) (takB order.length (drawSt c.villages order.length (order.take k)).2) ∧ Blk w.heap.size #[.slice am c.mountains.length cpm, .slice (some ⟨bv, ov, none⟩) c.villages.length cpv] 25 wr ∧ Below w.heap.size w wr) (fun i _ => order.length - (intOf i).toNat)
  case atStart => exact ⟨0, Nat.zero_le _, rfl, hI3, by rw [List.take_zero]; show BoolBlk w3 (g + 1) (takB order.length []); rw [takB_nil]; exact hT3, hbx3, hB3⟩
  case round =>
    obtain ⟨k, hk, rfl, hI, hT, hbr, hB⟩ := hrel
    by_cases hlt : k < order.length
    · have hck := h.call hB
      have hst : drawSt c.villages order.length (order.take (k + 1)) = drawStep c.villages (drawSt c.villages order.length (order.take k)) order[k] := by
        rw [List.take_succ_eq_append_getElem hlt, drawSt_snoc]
      have hlen : (drawSt c.villages order.length (order.take k)).1.length = order.length := by
        rw [drawSt, drawSt_len c.villages order.length]; simp
      have hl2 : (drawSt c.villages order.length (order.take k)).2.length = k := by
        have := HTW.out k hk
        simpa [drawSt, Nat.min_eq_left hk] using this
      obtain ⟨st, hste⟩ : ∃ st, st = drawSt c.villages order.length (order.take k) := ⟨_, rfl⟩
      rw [← hste] at hI hT hst hlen hl2
      clear hste
      have hmk := (HMEM.out order[k]).1 (List.getElem_mem hlt)
      have gd := hdc k hlt
      obtain ⟨vi, hvi⟩ : ∃ vi : Nat, order[k] = (vi : Int) := ⟨order[k].toNat, by omega⟩
      rw [hvi] at hst hmk gd
      clear hvi
      have hviv : vi < c.villages.length := by have := HVL.out; omega
      obtain ⟨pl, dl, -, -, g3, hl⟩ := h.2.at vi hviv
      have hlp := HLK.out _ (List.getElem_mem hviv)
      have hget : (c.villages.getD (vi : Int).toNat ⟨0, 0, []⟩).likes = c.villages[vi].likes := by simp [hviv]
      rw [drawStep, hget] at hst
      obtain ⟨lk, hlke⟩ : ∃ lk, lk = c.villages[vi].likes := ⟨_, rfl⟩
      rw [← hlke] at hst hl hlp g3
      clear hlke hget
      have hll := hlp.len
      obtain ⟨m, hf⟩ := find_some (l := lk) (t := st.2) hlp.nodup (by omega)
      rw [hf] at hst
      rw [List.find?_eq_some_iff_getElem] at hf
      obtain ⟨hm2, q, hq, hqm, hqf⟩ := hf
      have hmb := (hlp.mem m).1 (by rw [← hqm]; exact List.getElem_mem hq)
      obtain ⟨xq, rfl⟩ : ∃ xq : Nat, m = (xq : Int) := ⟨m.toNat, by omega⟩
      have hno : decide ((xq : Int) ∈ st.2) = false := by simpa using hm2
      have HNO := Lib.hid hno
      clear hno
      obtain ⟨bl, ol, rfl, -, hbl, hlc⟩ := hl.addr (by omega)
      have hlk4 : lk.length ≤ 4 := by omega
      have gq := hlc q hq
      rw [hqm] at gq
      have hlm := hlp.mem
      have HLM := Lib.hid hlm
      have HLL := Lib.hid hll
      have HST := Lib.hid hst
      have HLEN := Lib.hid hlen
      have HQF := Lib.hid hqf
      have HQM := Lib.hid hqm
      have hxo : xq < order.length := by omega
      have hvo : vi < order.length := by omega
      clear hll hst hlen hl2 hqf hqm hlm hlp hm2
      have hE : ∀ w', Below wr.heap.size wr w' → (RdS w.heap.size (.slice (some ⟨bv, ov, none⟩) c.villages.length cpv) bd (od + k) vi bv (ov + vi * 3 + 2) (.slice (some ⟨bl, ol, none⟩) lk.length dl)) w' := fun w' h' => ⟨(hbr.call h').cell 1, (World.cell?_of_block (((hB.trans (h'.mono hB.size)).block bd hbd))).trans gd, (World.cell?_of_block (((hB.trans (h'.mono hB.size)).block bv hbv))).trans g3⟩
      go_wp2_with fail
      refine wp_region_mix2 (.pur 0 (.one 1 (.pur 2 (.pur 3 (.pur 4 (.one 5 (.pur 6 (.pur 7 (.one 8 (.pur 9 .fin)))))))))) 99 (RdS w.heap.size (.slice (some ⟨bv, ov, none⟩) c.villages.length cpv) bd (od + k) vi bv (ov + vi * 3 + 2) (.slice (some ⟨bl, ol, none⟩) lk.length dl)) (fun _ => True) (by kernel_rfl) (by kernel_rfl) rfl (by kernel_rfl) (hE _ (Below.refl _ _)).drew (fun wd hqd _ => ?_)
      refine mix_pur2 rfl (fun K hK => ?_)
      go_simp
      first | refine ⟨_, fun _ => rfl, hK _ ?_⟩ | refine hK _ ?_
      clear hK K
      refine mix_load2 rfl rfl rfl (.slice (some ⟨bv, ov, none⟩) c.villages.length cpv) (fun w' h => by have h : (RdS w.heap.size (.slice (some ⟨bv, ov, none⟩) c.villages.length cpv) bd (od + k) vi bv (ov + vi * 3 + 2) (.slice (some ⟨bl, ol, none⟩) lk.length dl)) w' := h; have h0 := h.1; go_simp) rfl ?_
      refine mix_pur2 rfl (fun K hK => ?_)
      go_simp
      first | refine ⟨_, fun _ => rfl, hK _ ?_⟩ | refine hK _ ?_
      clear hK K
      refine mix_pur2 rfl (fun K hK => ?_)
      go_simp
      first | refine ⟨_, fun _ => rfl, hK _ ?_⟩ | refine hK _ ?_
      clear hK K
      refine mix_pur2 rfl (fun K hK => ?_)
      go_simp
      first | refine ⟨_, fun _ => rfl, hK _ ?_⟩ | refine hK _ ?_
      clear hK K
      refine mix_load2 rfl rfl rfl (.int .i64 vi) (fun w' h => by have h : (RdS w.heap.size (.slice (some ⟨bv, ov, none⟩) c.villages.length cpv) bd (od + k) vi bv (ov + vi * 3 + 2) (.slice (some ⟨bl, ol, none⟩) lk.length dl)) w' := h; have h0 := h.2.1; go_simp) rfl ?_
      refine mix_pur2 rfl (fun K hK => ?_)
      go_simp
      first | refine ⟨_, fun _ => rfl, hK _ ?_⟩ | refine hK _ ?_
      clear hK K
      refine mix_pur2 rfl (fun K hK => ?_)
      go_simp
      first | refine ⟨_, fun _ => rfl, hK _ ?_⟩ | refine hK _ ?_
      clear hK K
      refine mix_load2 rfl rfl rfl (.slice (some ⟨bl, ol, none⟩) lk.length dl) (fun w' h => by have h : (RdS w.heap.size (.slice (some ⟨bv, ov, none⟩) c.villages.length cpv) bd (od + k) vi bv (ov + vi * 3 + 2) (.slice (some ⟨bl, ol, none⟩) lk.length dl)) w' := h; have h0 := h.2.2; go_simp) rfl ?_
      refine mix_pur2 rfl (fun K hK => ?_)
      go_simp
      first | refine ⟨_, fun _ => rfl, hK _ ?_⟩ | refine hK _ ?_
      clear hK K
      refine mix_done2 ?_
      have hId := hI.qt hqd
      have hTd := BoolBlk.qt hT hqd
      have hbd2 := hbr.call (hqd.below _)
      have hBd := hB.trans ((hqd.below wr.heap.size).mono hB.size)
      clear hI hT hbr hB hqd hE
      go_wp2_with fail
      go_loopw [9] (fun i wx => wx = wd ∧ ∃ j : Nat, j ≤ q ∧ i = .int .i64 j) (fun i _ => q - (intOf i).toNat)
      case atStart => exact ⟨rfl, 0, Nat.zero_le _, rfl⟩
      case round =>
        rename World => wx
        obtain ⟨rfl, j, hj, rfl⟩ := hrel
        have hjl : j < lk.length := by omega
        have gl := (World.cell?_of_block (hBd.block bl hbl)).trans (hlc j hjl)
        have hx := (HLM.out lk[j]).1 (List.getElem_mem hjl)
        by_cases hjq : j < q
        · have hb := HQF.out j hjq
          obtain ⟨x, hxe⟩ : ∃ x : Nat, lk[j] = (x : Int) := ⟨lk[j].toNat, by omega⟩
          rw [hxe] at gl hx hb
          have hxt : x < (takB order.length st.2).length := by rw [takB_len]; omega
          have gt := hTd.cell x hxt
          rw [takB_at] at gt
          have hin : decide ((x : Int) ∈ st.2) = true := by simpa using hb
          rw [hin] at gt
          have hxo2 : x < order.length := by omega
          clear hxe hb hxt hin
          go_wp2_with fail
          go_roundw
          case rel => exact ⟨by first | trivial | rfl, j + 1, by omega, by go_num⟩
          case measure => simp [intOf]; omega
        · obtain rfl : j = q := by omega
          rw [HQM.out] at gl
          have hxt : xq < (takB order.length st.2).length := by rw [takB_len]; omega
          have gt := hTd.cell xq hxt
          rw [takB_at] at gt
          have hvl2 : vi < st.1.length := by have := HLEN.out; omega
          rw [HNO.out] at gt
          have hF : ∀ w', Below wx.heap.size wx w' → (RdT bd (od + k) vi bl (ol + j) xq) w' := fun w' h' => ⟨(World.cell?_of_block (((hBd.trans (h'.mono hBd.size)).block bd hbd))).trans gd, (World.cell?_of_block (((hBd.trans (h'.mono hBd.size)).block bl hbl))).trans gq⟩
          go_wp2_with fail
          refine wp_region_mix2 (.pur 0 (.pur 1 (.pur 2 (.pur 3 (.one 4 (.pur 5 (.pur 6 (.pur 7 (.pur 8 (.one 9 (.pur 10 (.pur 11 (.pur 12 (.one 13 (.pur 14 (.act 15 (.pur 16 (.act 17 .fin)))))))))))))))))) 15 (RdT bd (od + k) vi bl (ol + j) xq) (fun _ => True) (by kernel_rfl) (by kernel_rfl) rfl (by kernel_rfl) (hF _ (Below.refl _ _)).drew (fun we hqe _ => ?_)
          have hIe := hId.qt hqe
          have hTe := (BoolBlk.qt hTd hqe).other (a := ⟨g, vi, none⟩) (by show g ≠ g + 1; omega) (.int .i64 xq)
          refine mix_pur2 rfl (fun K hK => ?_)
          go_simp
          first | refine ⟨_, fun _ => rfl, hK _ ?_⟩ | refine hK _ ?_
          clear hK K
          refine mix_pur2 rfl (fun K hK => ?_)
          go_simp
          first | refine ⟨_, fun _ => rfl, hK _ ?_⟩ | refine hK _ ?_
          clear hK K
          refine mix_pur2 rfl (fun K hK => ?_)
          go_simp
          first | refine ⟨_, fun _ => rfl, hK _ ?_⟩ | refine hK _ ?_
          clear hK K
          refine mix_pur2 rfl (fun K hK => ?_)
          go_simp
          first | refine ⟨_, fun _ => rfl, hK _ ?_⟩ | refine hK _ ?_
          clear hK K
          refine mix_load2 rfl rfl rfl (.int .i64 vi) (fun w' h => by have h : (RdT bd (od + k) vi bl (ol + j) xq) w' := h; have h0 := h.1; go_simp) rfl ?_
          refine mix_pur2 rfl (fun K hK => ?_)
          go_simp
          first | refine ⟨_, fun _ => rfl, hK _ ?_⟩ | refine hK _ ?_
          clear hK K
          refine mix_pur2 rfl (fun K hK => ?_)
          go_simp
          first | refine ⟨_, fun _ => rfl, hK _ ?_⟩ | refine hK _ ?_
          clear hK K
          refine mix_pur2 rfl (fun K hK => ?_)
          go_simp
          first | refine ⟨_, fun _ => rfl, hK _ ?_⟩ | refine hK _ ?_
          clear hK K
          refine mix_pur2 rfl (fun K hK => ?_)
          go_simp
          first | refine ⟨_, fun _ => rfl, hK _ ?_⟩ | refine hK _ ?_
          clear hK K
          refine mix_load2 rfl rfl rfl (.int .i64 xq) (fun w' h => by have h : (RdT bd (od + k) vi bl (ol + j) xq) w' := h; have h0 := h.2; go_simp) rfl ?_
          refine mix_pur2 rfl (fun K hK => ?_)
          go_simp
          first | refine ⟨_, fun _ => rfl, hK _ ?_⟩ | refine hK _ ?_
          clear hK K
          refine mix_pur2 rfl (fun K hK => ?_)
          go_simp
          first | refine ⟨_, fun _ => rfl, hK _ ?_⟩ | refine hK _ ?_
          clear hK K
          refine mix_pur2 rfl (fun K hK => ?_)
          go_simp
          first | refine ⟨_, fun _ => rfl, hK _ ?_⟩ | refine hK _ ?_
          clear hK K
          refine mix_load2 rfl rfl rfl (.int .i64 xq) (fun w' h => by have h : (RdT bd (od + k) vi bl (ol + j) xq) w' := h; have h0 := h.2; go_simp) rfl ?_
          refine mix_pur2 rfl (fun K hK => ?_)
          go_simp
          first | refine ⟨_, fun _ => rfl, hK _ ?_⟩ | refine hK _ ?_
          clear hK K
          refine mix_eff2 rfl true rfl (fun K hK => ?_)
          have y0 := hIe.cell vi hvl2
          have y1 := hIe.free vi
          go_simp
          refine hK _ _ trivial ?_
          clear hK K y0 y1
          refine mix_pur2 rfl (fun K hK => ?_)
          go_simp
          first | refine ⟨_, fun _ => rfl, hK _ ?_⟩ | refine hK _ ?_
          clear hK K
          refine mix_eff2 rfl true rfl (fun K hK => ?_)
          have y0 := hTe.cell xq hxt
          have y1 := hTe.free xq
          go_simp
          refine hK _ _ trivial ?_
          clear hK K y0 y1
          refine mix_done2 ?_
          have e := HST.out
          simp only [Int.toNat_natCast] at e
          have e1 : (drawSt c.villages order.length (order.take (k + 1))).1 = st.1.set vi xq := by rw [e]
          have e2 : (drawSt c.villages order.length (order.take (k + 1))).2 = (xq : Int) :: st.2 := by rw [e]
          have f1 := (hIe.set vi xq).other (a := ⟨g + 1, xq, none⟩) (by show g + 1 ≠ g; omega) (.bool true)
          have f2 := hTe.set xq true
          rw [← takB_cons, ← e2] at f2
          rw [← e1] at f1
          have f3 := ((hbd2.call (hqe.below _)).other (a := ⟨g, vi, none⟩) (by show w.heap.size ≠ g; omega) (.int .i64 xq)).other (a := ⟨g + 1, xq, none⟩) (by show w.heap.size ≠ g + 1; omega) (.bool true)
          have f4 := ((hBd.trans ((hqe.below _).mono hBd.size)).setCell (show w.heap.size ≤ (⟨g, vi, none⟩ : Addr).block by show w.heap.size ≤ g; omega) (.int .i64 xq)).setCell (show w.heap.size ≤ (⟨g + 1, xq, none⟩ : Addr).block by show w.heap.size ≤ g + 1; omega) (.bool true)
          clear e e1 e2 hIe hTe
          go_wp2_with fail
          go_roundw
          case rel => exact ⟨k + 1, by omega, by go_num, f1, f2, f3, f4⟩
          case measure => simp [intOf]; omega
    · obtain rfl : k = order.length := by omega
      rw [List.take_length] at hI
      have hlen : (drawSt c.villages order.length order).1.length = order.length := by
        rw [drawSt, drawSt_len c.villages order.length]; simp
      have hni := hI.ints (by omega)
      rw [hlen] at hni
      have HN := Lib.hid hni
      clear hlen hni
      go_wp2_with fail
      go_ret
      exact ⟨_, rfl, HN.out.wide fun b hb _ => by omega, hB⟩

set_option maxRecDepth 100000 in
set_option maxHeartbeats 1000000 in
theorem rdrawR_c {A A' : Nat → Prop} {w : World} {vm vv vd : Value} {c : Com} {l : List Int} (h : Cm A w vm vv c) (hd : Ints A' w vd l) :
    Calls Try.prog 60 #[.agg #[vm, vv], vd] w fun e w' => ∃ v', e = .returned (.tuple #[v', .int .i64 (divE c l)]) ∧ Ints (fun b => w.heap.size ≤ b) w' v' (drawR c l) ∧ Below w.heap.size w w' := by
  obtain ⟨am, cpm, rfl, _, _⟩ := h.1.shape
  obtain ⟨av, cpv, rfl, _, _⟩ := h.2.shape
  have hB0 : Below w.heap.size w (w.alloc (.cells #[.slice am c.mountains.length cpm, .slice av c.villages.length cpv] 25)) := (Below.refl _ w).alloc (Nat.le_refl _) _
  have hbx : Blk w.heap.size #[.slice am c.mountains.length cpm, .slice av c.villages.length cpv] 25 (w.alloc (.cells #[.slice am c.mountains.length cpm, .slice av c.villages.length cpv] 25)) := Blk.new w _ _
  have h0 := h.call hB0
  have hd0 := hd.call hB0
  by_cases hc : checkE c = 0
  · have hok := (checkE_zero c).1 hc
    have hvl4 : c.villages.length ≤ 4 := by have := hok.vl; have := hok.n2; omega
    have hde : divE c l = placesE l c.villages.length := by rw [divE, if_pos hc, hok.vl]
    have HC := Lib.hid hc
    clear hc
    have b0 : ((0 : Int) != 0) = false := rfl
    by_cases hp : placesE l c.villages.length = 0
    · have hpm : PermOf c.mountains.length l := (placesE_zero l _).1 (by rw [← hok.vl]; exact hp)
      have hdr : drawR c l = drawF c.villages l.length l := by rw [drawR, if_pos (by rw [hde]; exact hp)]
      rw [hdr, hde, hp]
      have HP := Lib.hid hp
      clear hp hde hdr
      go_enter Try.func60, Try.ntmps60
      go_wp2_with fail
      refine (rcheck_c h0).mono ?_
      rintro e w1 ⟨rfl, hB1⟩
      rw [HC.out]
      have h1 := h0.call hB1
      have hd1 := hd0.call hB1
      have hbx1 := hbx.call hB1
      have hT1 := bnx hB0 hB1
      have c1 := hbx1.cell 1
      go_wp2_with fail
      refine (once_c (c.villages.length : Int) (by omega) (by omega) hd1).mono ?_
      rintro e w2 ⟨rfl, hq⟩
      rw [HP.out]
      have h2 := h1.call (hq.below _)
      have hd2 := hd1.qt hq
      have hbx2 := hbx1.call (hq.below _)
      have hT2 := bnx hT1 (hq.below _)
      clear c1 h1 hd1 hbx1 hT1 hq
      have c0 := hbx2.cell 0
      have c1 := hbx2.cell 1
      go_wp2_with fail
      refine (rdraw_c h2 hd2 hok hpm).mono ?_
      rintro e w3 ⟨v3, rfl, hv3, hB3⟩
      go_wp2_with fail
      go_ret2
      exact ⟨_, rfl, hv3.wide fun b hb _ => by have := hT2.size; omega, bnx hT2 hB3⟩
    · have hb : (placesE l c.villages.length != 0) = true := by simpa using hp
      have hdr : drawR c l = [] := by rw [drawR, if_neg (by rw [hde]; exact hp)]
      rw [hdr, hde]
      clear hp hde hdr
      go_enter Try.func60, Try.ntmps60
      go_wp2_with fail
      refine (rcheck_c h0).mono ?_
      rintro e w1 ⟨rfl, hB1⟩
      rw [HC.out]
      have hd1 := hd0.call hB1
      have hbx1 := hbx.call hB1
      have hT1 := bnx hB0 hB1
      have c1 := hbx1.cell 1
      go_wp2_with (go_at_call 109; refine (once_c (c.villages.length : Int) (by omega) (by omega) hd1).mono ?_; rintro e w2 ⟨rfl, hq⟩)
      go_ret2
      exact ⟨_, rfl, ints_nil _ _, bnx hT1 (hq.below _)⟩
  · have hb : (checkE c != 0) = true := by simpa using hc
    have hde : divE c l = checkE c := by rw [divE, if_neg hc]
    have hdr : drawR c l = [] := by rw [drawR, if_neg (by rw [hde]; exact hc)]
    rw [hdr, hde]
    clear hc hde hdr
    go_enter Try.func60, Try.ntmps60
    go_wp2_with fail
    refine (rcheck_c h0).mono ?_
    rintro e w1 ⟨rfl, hB1⟩
    go_wp2
    go_ret2
    exact ⟨_, rfl, ints_nil _ _, bnx hB0 hB1⟩

end Go.Proofs.Ythchpoabncdicaa
