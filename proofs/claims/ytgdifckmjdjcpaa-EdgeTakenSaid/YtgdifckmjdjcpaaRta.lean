/- Contracts of the reference's Taken (edge); conditions: claims and furrows read as lists. -/
import Derived.Test.YtgdifckmjdjcpaaRco
import Derived.Test.YtgdifckmjdjcpaaRfu
namespace Go.Proofs.Ytgdifckmjdjcpaa
open Go.RowKit

/-- The span of what furrows take at a point over the first truths. -/
def spU (x : Edg) (l : List Fu) (y : Int) (p i : Nat) : Int × Int := spanF (((truthsF x).take i).map fun t => tkF (newG p y l) (atL t p))
theorem spU_succ {x : Edg} {l : List Fu} {y : Int} {p i : Nat} (hi : i < (truthsF x).length) : widF (spU x l y p i) (tkF (newG p y l) (atL (truthsF x)[i] p)) (decide (i = 0)) = spU x l y p (i + 1) := by
  unfold spU widF
  rw [List.take_succ_eq_append_getElem hi, List.map_append]
  by_cases h0 : i = 0
  · subst h0
    rw [if_pos (by simp)]
    rfl
  · rw [if_neg (by simp [h0])]
    refine (spanF_snoc ?_).symm
    intro e
    have := congrArg List.length e
    simp at this
    rcases this with h | h
    · exact h0 h
    · rw [h] at hi; simp at hi
def outU (x : Edg) (l : List Fu) (y : Int) (n i p : Nat) : List (Int × Int) := (List.range n).map fun q => if q < p then spU x l y q (i + 1) else spU x l y q i
section
variable {x : Edg} {l : List Fu} {y : Int} {n i p q : Nat}
theorem outU_len (x : Edg) (l : List Fu) (y : Int) (n i p : Nat) : (outU x l y n i p).length = n := by unfold outU; rw [List.length_map, List.length_range]
theorem outU_at (hq : q < n) : (outU x l y n i p)[q]'(by rw [outU_len]; exact hq) = if q < p then spU x l y q (i + 1) else spU x l y q i := by
  unfold outU
  rw [List.getElem_map, List.getElem_range]
theorem outU_next (x : Edg) (l : List Fu) (y : Int) (n i : Nat) : outU x l y n i n = outU x l y n (i + 1) 0 := by
  refine List.ext_getElem (by rw [outU_len, outU_len]) fun q h1 h2 => ?_
  rw [outU_len] at h1
  rw [outU_at h1, outU_at h1, if_pos h1, if_neg (by omega)]
theorem outU_set (_hp : p < n) : (outU x l y n i p).set p (spU x l y p (i + 1)) = outU x l y n i (p + 1) := by
  refine List.ext_getElem (by rw [List.length_set, outU_len, outU_len]) fun q h1 h2 => ?_
  rw [outU_len] at h2
  rw [List.getElem_set, outU_at h2, outU_at h2]
  by_cases e : p = q
  · subst e
    rw [if_pos rfl, if_pos (by omega)]
  · rw [if_neg e]
    by_cases h : q < p
    · rw [if_pos h, if_pos (by omega)]
    · rw [if_neg h, if_neg (by omega)]
theorem outU_zero (x : Edg) (l : List Fu) (y : Int) (n : Nat) : outU x l y n 0 0 = List.replicate n (0, 0) := by
  refine List.ext_getElem (by rw [outU_len, List.length_replicate]) fun q h1 h2 => ?_
  rw [outU_len] at h1
  rw [outU_at h1, if_neg (by omega), List.getElem_replicate]
  rfl
theorem outU_cells {g : Nat} {w : World} (h : RB g (outU x l y n i p) w) (hp : p < n) : w.cell? ⟨g, p * 2, none⟩ = some (.int .i64 (spU x l y p i).1) ∧ w.cell? ⟨g, p * 2 + 1, none⟩ = some (.int .i64 (spU x l y p i).2) := by
  have h1 := h.cells (p := p) (by rw [outU_len]; exact hp)
  rw [outU_at hp, if_neg (by omega)] at h1
  exact h1
end
/-- What a round of Taken reads. -/
def TkS (g : Nat) (L : List (Int × Int)) (gr o : Nat) (v : Value) (w : World) : Prop := RB g L w ∧ w.cell? ⟨gr, o, none⟩ = some v
theorem fus_good {P : Int} {l : List Fu} (h : furX P l = 0) : ∀ f ∈ l, 0 ≤ f.year ∧ 0 ≤ f.off ∧ f.off ≤ 9 := fun f hf => by
  have := (furX_zero.1 h).2.1 f hf
  unfold Fu.Ok at this
  omega

set_option maxRecDepth 100000 in
set_option maxHeartbeats 2000000 in
theorem rtaken_c {A A' : Nat → Prop} {w : World} {x : Edg} {v vl : Value} {l : List Fu} (h : ClsM A w v x.claims) (hl : FusM A' w vl l) (y : Int) :
    Calls Try.prog 59 #[.agg #[.int .i64 x.points, .int .i64 x.bend, v], vl, .int .i64 y] w fun e w' => ∃ v', e = .returned (.tuple #[v', .int .i64 (takenX x l y).2]) ∧ RgsM (fun q => w.heap.size ≤ q) w' v' (takenX x l y).1 ∧ Below w.heap.size w w' := by
  obtain ⟨a1, c1, rfl, hc1, hm1⟩ := h.shape
  obtain ⟨al, cl, rfl, _, _⟩ := hl.shape
  obtain ⟨w1, hw1⟩ : ∃ w1, w1 = w.alloc (.cells #[.int .i64 x.points, .int .i64 x.bend, .slice a1 x.claims.length c1] 24) := ⟨_, rfl⟩
  obtain ⟨b1, hb1⟩ : ∃ b, b = w.heap.size := ⟨_, rfl⟩
  have hX : Blk b1 #[.int .i64 x.points, .int .i64 x.bend, .slice a1 x.claims.length c1] 24 w1 := by rw [hw1, hb1]; exact blk_at rfl _ _
  have hB : Below w.heap.size w w1 := by rw [hw1]; exact (Below.refl _ w).alloc (Nat.le_refl _) _
  have h1 := h.call hB
  have hl1 := hl.call hB
  go_enter Try.func59, Try.ntmps59
  go_upto_region 1 with fail
  rw [← hw1, ← hb1]
  clear hw1 hb1
  have c0 := hX.cell 0
  have c1' := hX.cell 1
  have c2 := hX.cell 2
  go_wp2_with fail
  refine (rready_c h1 hl1).mono ?_
  rintro e w2 ⟨rfl, hB2⟩
  have hX2 := hX.call hB2
  have h2 := h1.call hB2
  have hl2 := hl1.call hB2
  have hBw2 := bnx hB hB2
  clear c0 c1' c2 hX h1 hB hB2 hl1
  have c0 := hX2.cell 0
  have c1' := hX2.cell 1
  have c2 := hX2.cell 2
  by_cases hck : bothX x l = 0
  · obtain ⟨hx, hfx⟩ := both_zero hck
    have hb : (bothX x l != 0) = false := by rw [hck]; rfl
    have hfy := fus_good hfx
    cases b1' : btwB y 0 30 with
    | false =>
      have he : takenX x l y = ([], 1) := by unfold takenX; rw [if_neg (not_not_intro hck), if_pos b1']
      have HE := Lib.hid he
      clear he hck
      go_wp2_with (go_at_call 82; refine (inside_c _ _ _ _).mono ?_; rintro e w' ⟨rfl, rfl⟩)
      go_ret2
      rw [HE.out]
      exact ⟨_, rfl, rgs_nil _ _, hBw2⟩
    | true =>
      have hbn : bndF x = none → takenX x l y = ([], 12) := fun e => by unfold takenX; rw [if_neg (not_not_intro hck), if_neg (by rw [b1']; decide), e]
      have hbs : ∀ s, bndF x = some s → takenX x l y = ((List.range x.n).map fun p => tkE l s p y, 0) := fun s e => by unfold takenX; rw [if_neg (not_not_intro hck), if_neg (by rw [b1']; decide), e]
      have HBN := Lib.hid hbn
      have HBS := Lib.hid hbs
      have HFY := Lib.hid hfy
      clear hbn hbs hck hfx hfy
      go_wp2_with (go_at_call 82; refine (inside_c _ _ _ _).mono ?_; rintro e w' ⟨rfl, rfl⟩)
      refine (rtruths_c h2 hx).mono ?_
      rintro e w3 ⟨v3, rfl, hG3, hB3⟩
      have hX3 := hX2.call hB3
      have hl3 := hl2.call hB3
      have hBw3 := bnx hBw2 hB3
      obtain ⟨ag, cg, rfl, _, _⟩ := hG3.shape
      have hTl := truths_len hx
      clear c0 c1' c2 hX2 h2 hBw2 hl2 b1'
      by_cases ht0 : truthsF x = []
      · have he : takenX x l y = ([], 12) := HBN.out (bndF_none.2 ht0)
        have hl0 : (((truthsF x).length : Int) == 0) = true := by rw [ht0]; rfl
        have HE := Lib.hid he
        clear he ht0
        go_wp2_with fail
        go_ret2
        rw [HE.out]
        exact ⟨_, rfl, rgs_nil _ _, hBw3⟩
      · have hl0 : (((truthsF x).length : Int) == 0) = false := by
          rw [beq_eq_false_iff_ne]
          intro e
          exact ht0 (List.length_eq_zero_iff.1 (by omega))
        have hxp := hx.p
        obtain ⟨n, hn⟩ : ∃ n : Nat, x.points = (n : Int) := ⟨x.points.toNat, by omega⟩
        have hxn : x.n = n := by unfold Edg.n; omega
        have hn4 : 1 ≤ n ∧ n ≤ 4 := by omega
        obtain ⟨s, hs⟩ := bnd_exists hx ht0
        have he : takenX x l y = (outU x l y n (truthsF x).length 0, 0) := by
          rw [HBS.out s hs.eq]
          congr 1
          unfold outU
          rw [hxn]
          refine List.map_congr_left fun q hq => ?_
          rw [if_neg (by omega)]
          unfold spU
          rw [List.take_length, taken_truths hs l (by rw [hxn]; exact List.mem_range.1 hq) y]
        have HE := Lib.hid he
        rw [hn] at hX3
        have hmk := run_make_rgs n (by omega) w3
        rw [made_rgs hn4.2, ← outU_zero x l y n] at hmk
        have c0 := hX3.cell 0
        obtain ⟨w4, hw4⟩ : ∃ w4, w4 = w3.alloc (.cells ((outU x l y n 0 0).flatMap rcells).toArray 52) := ⟨_, rfl⟩
        obtain ⟨g, hg⟩ : ∃ g, g = w3.heap.size := ⟨_, rfl⟩
        have hE4 : RB g (outU x l y n 0 0) w4 := by rw [hw4, hg]; exact Blk.new _ _ _
        have hB4 : Below g w3 w4 := by rw [hw4, hg]; exact (Below.refl _ _).alloc (Nat.le_refl _) _
        have hGg : Grid (fun q => q < g) w4 (.slice ag (truthsF x).length cg) (truthsF x) := by
          have := (hG3.wide (A' := fun q => q < g) fun q _ hq => by omega).below hB4 fun q hq _ => hq
          exact this
        have hLg : FusM (fun q => q < g) w4 (.slice al l.length cl) l := by
          have := (hl3.wide (A' := fun q => q < g) fun q _ hq => by omega).below hB4 fun q hq _ => hq
          exact this
        have hX4 := Blk.below hX3 hB4 (by rw [hg]; exact hX3.lt)
        have hgw : w.heap.size ≤ g := by rw [hg]; exact hBw3.size
        have hbg : b1 < g := by rw [hg]; exact hX3.lt
        have hgz : g < w4.heap.size := Blk.lt hE4
        have hBw4 : Below w.heap.size w w4 := hBw3.trans (hB4.mono hgw)
        rw [← hw4, ← hg] at hmk
        have HN := Lib.hid hn
        have HT := Lib.hid (show ∀ t ∈ truthsF x, t.length = n ∧ ∀ q < n, 0 ≤ atL t q ∧ atL t q ≤ 9 from fun t ht => ⟨by rw [truth_len ht]; exact hxn, fun q hq => (mem_truthsF.1 ht).reach q (by rw [hxn]; exact hq)⟩)
        clear hw4 hg he ht0 hn hxn hB4 hG3 hX3 hBw3 hl3 hs hB3
        go_wp2_with fail
        clear hmk c0
        go_loopw [11] (fun vi wr => ∃ i : Nat, i ≤ (truthsF x).length ∧ vi = .int .i64 i ∧ RB g (outU x l y n i 0) wr ∧ Below g w4 wr) (fun vi _ => (truthsF x).length - (intOf vi).toNat)
        case atStart => exact ⟨0, Nat.zero_le _, rfl, hE4, Below.refl _ _⟩
        case round =>
          rename World => wo
          obtain ⟨i, hi, rfl, hEo, hBo⟩ := hrel
          by_cases hlt : i < (truthsF x).length
          · go_wp2_with fail
            go_loopw [12] (fun vp wr => ∃ p : Nat, p ≤ n ∧ vp = .int .i64 p ∧ RB g (outU x l y n i p) wr ∧ Below g w4 wr) (fun vp _ => n - (intOf vp).toNat)
            case atStart => exact ⟨0, Nat.zero_le _, rfl, hEo, hBo⟩
            case round =>
              obtain ⟨p, hp, rfl, hEr, hBr⟩ := hrel
              have hXr := Blk.below hX4 hBr hbg
              have x0 := hXr.cell 0
              by_cases hpn : p < n
              · have hGr := hGg.below hBr fun q hq _ => hq
                have hLr := hLg.below hBr fun q hq _ => hq
                obtain ⟨gr, orr, rfl, hgrA, hgr⟩ := hGr.addr (by omega)
                obtain ⟨aw, cw, g1, hrow⟩ := hGr.row i hlt
                obtain ⟨hrl, hr9⟩ := HT.out _ (List.getElem_mem hlt)
                have hwd := spU_succ (x := x) (l := l) (y := y) (p := p) hlt
                obtain ⟨r, hr⟩ : ∃ r, r = (truthsF x)[i] := ⟨_, rfl⟩
                rw [← hr] at g1 hrow hrl hwd hr9
                rw [hrl] at g1 hrow
                obtain ⟨gw, ow, rfl, -, -, -⟩ := hrow.addr (by omega)
                have hfu : ∀ wd, Qt wr wd → Calls Try.prog 88 #[.slice al l.length cl, .slice (some ⟨gw, ow, none⟩) n cw, .int .i64 (p : Int), .int .i64 y] wd fun e w' => e = .returned (.int .i64 (tkF (newG p y l) (atL r p))) ∧ Qt wd w' :=
                  fun wd hq => rfurrows_c (hLr.qt hq) HFY.out (hrow.qt hq) (by omega) (hr9 p hpn) y
                have HFU := Lib.hid hfu
                obtain ⟨f, hf⟩ : ∃ f, ((i : Int) == 0) = f := ⟨_, rfl⟩
                have hfd : decide (i = 0) = f := by
                  rw [← hf, Bool.eq_iff_iff, decide_eq_true_eq, beq_iff_eq]; omega
                rw [hfd] at hwd
                have HWD := Lib.hid hwd
                have hglt : g < wr.heap.size := Blk.lt hEr
                have hS0 : ∀ w', Qt wr w' → (TkS g (outU x l y n i p) gr (orr + i) (.slice (some ⟨gw, ow, none⟩) n cw)) w' := fun w' q => ⟨hEr.call (q.below _), (cell_same ((q.below wr.heap.size).block gr hgr)).trans g1⟩
                clear hr hrl hwd hfd hrow g1 hfu hr9
                go_wp2_with fail
                clear x0
                refine wp_region_mix2 (.pur 0 (.pur 1 (.pur 2 (.pur 3 (.pur 4 (.one 5 (.pur 6 (.pur 7 (.pur 8 (.pur 9 (.one 10 (.pur 11 (.pur 12 (.pur 14 (.pur 15 (.act 13 (.act 16 (.pur 17 (.act 18 .fin))))))))))))))))))) 16 (TkS g (outU x l y n i p) gr (orr + i) (.slice (some ⟨gw, ow, none⟩) n cw)) (fun _ => True) (by kernel_rfl) (by kernel_rfl) rfl (by kernel_rfl) (hS0 _ ((Qt.refl _).drewN 1)) (fun wd hqd _ => ?_)
                refine mix_pur2 rfl (fun K hK => ?_)
                go_simp
                first | refine ⟨_, fun _ => rfl, hK _ ?_⟩ | refine hK _ ?_
                clear hK K
                refine mix_pur2 rfl (fun K hK => ?_)
                go_simp
                first | refine ⟨_, fun _ => rfl, hK _ ?_⟩ | refine hK _ ?_
                clear hK K
                refine mix_pur2 rfl (fun K hK => ?_)
                go_simp
                first | refine ⟨_, fun _ => rfl, hK _ ?_⟩ | refine hK _ ?_
                clear hK K
                refine mix_pur2 rfl (fun K hK => ?_)
                go_simp
                first | refine ⟨_, fun _ => rfl, hK _ ?_⟩ | refine hK _ ?_
                clear hK K
                refine mix_pur2 rfl (fun K hK => ?_)
                go_simp
                first | refine ⟨_, fun _ => rfl, hK _ ?_⟩ | refine hK _ ?_
                clear hK K
                refine mix_load2 rfl rfl rfl (.agg #[.int .i64 (spU x l y p i).1, .int .i64 (spU x l y p i).2]) (fun w' h => by have h : (TkS g (outU x l y n i p) gr (orr + i) (.slice (some ⟨gw, ow, none⟩) n cw)) w' := h; obtain ⟨e0, e1⟩ := outU_cells h.1 hpn; go_simp) rfl ?_
                refine mix_pur2 rfl (fun K hK => ?_)
                go_simp
                first | refine ⟨_, fun _ => rfl, hK _ ?_⟩ | refine hK _ ?_
                clear hK K
                refine mix_pur2 rfl (fun K hK => ?_)
                go_simp
                first | refine ⟨_, fun _ => rfl, hK _ ?_⟩ | refine hK _ ?_
                clear hK K
                refine mix_pur2 rfl (fun K hK => ?_)
                go_simp
                first | refine ⟨_, fun _ => rfl, hK _ ?_⟩ | refine hK _ ?_
                clear hK K
                refine mix_pur2 rfl (fun K hK => ?_)
                go_simp
                first | refine ⟨_, fun _ => rfl, hK _ ?_⟩ | refine hK _ ?_
                clear hK K
                refine mix_load2 rfl rfl rfl (.slice (some ⟨gw, ow, none⟩) n cw) (fun w' h => by have h : (TkS g (outU x l y n i p) gr (orr + i) (.slice (some ⟨gw, ow, none⟩) n cw)) w' := h; have e0 := h.2; go_simp) rfl ?_
                refine mix_pur2 rfl (fun K hK => ?_)
                go_simp
                first | refine ⟨_, fun _ => rfl, hK _ ?_⟩ | refine hK _ ?_
                clear hK K
                refine mix_pur2 rfl (fun K hK => ?_)
                go_simp
                first | refine ⟨_, fun _ => rfl, hK _ ?_⟩ | refine hK _ ?_
                clear hK K
                refine mix_pur2 rfl (fun K hK => ?_)
                go_simp
                first | refine ⟨_, fun _ => rfl, hK _ ?_⟩ | refine hK _ ?_
                clear hK K
                refine mix_pur2 rfl (fun K hK => ?_)
                go_simp
                first | refine ⟨_, fun _ => rfl, hK _ ?_⟩ | refine hK _ ?_
                clear hK K
                refine mix_eff2 rfl false rfl (fun K hK => ?_)
                go_simp
                refine (HFU.out wd hqd).mono ?_
                rintro e w6 ⟨rfl, hq6⟩
                have hq := hqd.trans hq6
                refine hK _ _ (hS0 _ hq) ?_
                clear hK K hqd hq6
                refine mix_eff2 rfl true rfl (fun K hK => ?_)
                go_simp
                refine (wider_c (spU x l y p i) (tkF (newG p y l) (atL r p)) f _).mono ?_
                rintro e w5 ⟨rfl, hB5⟩
                rw [HWD.out]
                have hE5 := hEr.call ((hq.below _).trans (hB5.mono (hq.below wr.heap.size).size))
                have hBr5 : Below g w4 w5 := hBr.trans (((hq.below wr.heap.size).trans (hB5.mono (hq.below wr.heap.size).size)).mono (Nat.le_of_lt hglt))
                have f0 := hE5.free (p * 2)
                have f1 := hE5.free (p * 2 + 1)
                obtain ⟨y0, y1⟩ := outU_cells hE5 hpn
                refine hK _ _ trivial ?_
                clear hK K
                refine mix_pur2 rfl (fun K hK => ?_)
                go_simp
                first | refine ⟨_, fun _ => rfl, hK _ ?_⟩ | refine hK _ ?_
                clear hK K
                refine mix_eff2 rfl true rfl (fun K hK => ?_)
                go_simp
                refine hK _ _ trivial ?_
                clear hK K
                refine mix_done2 ?_
                go_wp2_with fail
                go_roundw
                case rel =>
                  refine ⟨p + 1, by omega, by go_num, ?_, (hBr5.setCell (p := ⟨g, p * 2, none⟩) (Nat.le_refl _) _).setCell (p := ⟨g, p * 2 + 1, none⟩) (Nat.le_refl _) _⟩
                  rw [← outU_set hpn]
                  exact hE5.set (by rw [outU_len]; exact hpn) _ _
                case measure => simp [intOf]; omega
              · obtain rfl : p = n := by omega
                rw [outU_next] at hEr
                go_wp2_with fail
                go_roundw
                case rel => exact ⟨i + 1, by omega, by go_num, hEr, hBr⟩
                case measure => simp [intOf]; omega
          · obtain rfl : i = (truthsF x).length := by omega
            go_wp2_with fail
            go_ret2
            rw [HE.out]
            exact ⟨_, rfl, (hEo.rgs (outU_len _ _ _ _ _ _) (by omega)).wide fun q hq _ => Nat.le_trans hgw hq, hBw4.trans (hBo.mono hgw)⟩
  · have hb : (bothX x l != 0) = true := by simpa using hck
    have he : takenX x l y = ([], bothX x l) := by unfold takenX; rw [if_pos hck]
    have HE := Lib.hid he
    clear he hck
    go_wp2_with fail
    go_ret2
    rw [HE.out]
    exact ⟨_, rfl, rgs_nil _ _, hBw2⟩

end Go.Proofs.Ytgdifckmjdjcpaa
