/- Contracts of the reference's Count and Bounds (edge); conditions: the claims read as a list. -/
import Derived.Test.YtgdifckmjdjcpaaGro
namespace Go.Proofs.Ytgdifckmjdjcpaa
open Go.RowKit

set_option maxHeartbeats 1000000 in
theorem rcount_c {A : Nat → Prop} {w : World} {x : Edg} {v : Value} (h : ClsM A w v x.claims) :
    Calls Try.prog 26 #[.agg #[.int .i64 x.points, .int .i64 x.bend, v]] w fun e w' => e = .returned (.tuple #[.int .i64 (countX x).1, .int .i64 (countX x).2]) ∧ Below w.heap.size w w' := by
  obtain ⟨a1, c1, rfl, hc1, hm1⟩ := h.shape
  obtain ⟨w1, hw1⟩ : ∃ w1, w1 = w.alloc (.cells #[.int .i64 x.points, .int .i64 x.bend, .slice a1 x.claims.length c1] 24) := ⟨_, rfl⟩
  obtain ⟨b1, hb1⟩ : ∃ b, b = w.heap.size := ⟨_, rfl⟩
  have hX : Blk b1 #[.int .i64 x.points, .int .i64 x.bend, .slice a1 x.claims.length c1] 24 w1 := by rw [hw1, hb1]; exact blk_at rfl _ _
  have hB : Below w.heap.size w w1 := by rw [hw1]; exact (Below.refl _ w).alloc (Nat.le_refl _) _
  have h1 := h.call (hB)
  go_enter Try.func26, Try.ntmps26
  go_upto_region 1 with fail
  rw [← hw1, ← hb1]
  clear hw1 hb1
  have c0 := hX.cell 0
  have c1' := hX.cell 1
  have c2 := hX.cell 2
  go_wp2_with fail
  refine (rcheck_c h1).mono ?_
  rintro e w2 ⟨rfl, hB2⟩
  have hX2 := hX.call hB2
  have h2 := h1.call hB2
  have hBw2 := bnx hB hB2
  clear c0 c1' c2 hX h1 hB hB2
  have c0 := hX2.cell 0
  have c1' := hX2.cell 1
  have c2 := hX2.cell 2
  by_cases hck : checkX x = 0
  · have hx := checkX_zero.1 hck
    have hb : (checkX x != 0) = false := by rw [hck]; rfl
    have he : countX x = (((truthsF x).length : Int), 0) := by unfold countX; rw [if_neg (not_not_intro hck)]
    have HE := Lib.hid he
    clear he hck
    go_wp2_with fail
    refine (rtruths_c h2 hx).mono ?_
    rintro e w3 ⟨v3, rfl, hG3, hB3⟩
    obtain ⟨ag, cg, rfl, _, _⟩ := hG3.shape
    go_wp2_with fail
    go_ret2
    rw [HE.out]
    exact ⟨rfl, bnx hBw2 hB3⟩
  · have hb : (checkX x != 0) = true := by simpa using hck
    have he : countX x = (0, checkX x) := by unfold countX; rw [if_pos hck]
    have HE := Lib.hid he
    clear he hck
    go_wp2_with fail
    go_ret2
    rw [HE.out]
    exact ⟨rfl, hBw2⟩

/-- The span at a point over the first truths. -/
def spT (x : Edg) (p i : Nat) : Int × Int := spanF (((truthsF x).take i).map fun t => atL t p)
theorem spT_succ {x : Edg} {p i : Nat} (hi : i < (truthsF x).length) : widF (spT x p i) (atL (truthsF x)[i] p) (decide (i = 0)) = spT x p (i + 1) := by
  unfold spT widF
  rw [List.take_succ_eq_append_getElem hi, List.map_append]
  by_cases h0 : i = 0
  · subst h0
    rw [if_pos (by simp)]
    rfl
  · rw [if_neg (by simp [h0])]
    refine (spanF_snoc ?_).symm
    intro e
    have := congrArg List.length e
    simp at this
    rcases this with h | h
    · exact h0 h
    · rw [h] at hi; simp at hi
/-- The ranges, those of the first points one truth ahead. -/
def outL (x : Edg) (n i p : Nat) : List (Int × Int) := (List.range n).map fun q => if q < p then spT x q (i + 1) else spT x q i
theorem outL_len (x : Edg) (n i p : Nat) : (outL x n i p).length = n := by unfold outL; rw [List.length_map, List.length_range]
theorem outL_at (x : Edg) {n i p q : Nat} (hq : q < n) : (outL x n i p)[q]'(by rw [outL_len]; exact hq) = if q < p then spT x q (i + 1) else spT x q i := by
  unfold outL
  rw [List.getElem_map, List.getElem_range]
theorem outL_next (x : Edg) (n i : Nat) : outL x n i n = outL x n (i + 1) 0 := by
  refine List.ext_getElem (by rw [outL_len, outL_len]) fun q h1 h2 => ?_
  rw [outL_len] at h1
  rw [outL_at x h1, outL_at x h1, if_pos h1, if_neg (by omega)]
theorem outL_set (x : Edg) {n i p : Nat} (_hp : p < n) : (outL x n i p).set p (spT x p (i + 1)) = outL x n i (p + 1) := by
  refine List.ext_getElem (by rw [List.length_set, outL_len, outL_len]) fun q h1 h2 => ?_
  rw [outL_len] at h2
  rw [List.getElem_set, outL_at x h2, outL_at x h2]
  by_cases e : p = q
  · subst e
    rw [if_pos rfl, if_pos (by omega)]
  · rw [if_neg e]
    by_cases h : q < p
    · rw [if_pos h, if_pos (by omega)]
    · rw [if_neg h, if_neg (by omega)]
theorem outL_zero (x : Edg) (n : Nat) : outL x n 0 0 = List.replicate n (0, 0) := by
  refine List.ext_getElem (by rw [outL_len, List.length_replicate]) fun q h1 h2 => ?_
  rw [outL_len] at h1
  rw [outL_at x h1, if_neg (by omega), List.getElem_replicate]
  rfl
/-- Ranges in a block. -/
def RB (g : Nat) (s : List (Int × Int)) (w : World) : Prop := Blk g (s.flatMap rcells).toArray 52 w
theorem RB.cells {g : Nat} {s : List (Int × Int)} {w : World} (h : RB g s w) {p : Nat} (hp : p < s.length) : w.cell? ⟨g, p * 2, none⟩ = some (.int .i64 s[p].1) ∧ w.cell? ⟨g, p * 2 + 1, none⟩ = some (.int .i64 s[p].2) := by
  have h0 := flat_at rcells_len s p hp 0 (by decide)
  have h1 := flat_at rcells_len s p hp 1 (by decide)
  rw [Nat.add_zero] at h0
  exact ⟨(Blk.cell h _).trans (by rw [List.getElem?_toArray]; exact h0), (Blk.cell h _).trans (by rw [List.getElem?_toArray]; exact h1)⟩
theorem RB.free {g : Nat} {s : List (Int × Int)} {w : World} (h : RB g s w) (j : Nat) : w.frozen? ⟨g, j, none⟩ = false := Blk.free h j
theorem RB.call {g : Nat} {s : List (Int × Int)} {w w' : World} (h : RB g s w) (hB : Below w.heap.size w w') : RB g s w' := Blk.call h hB
theorem set_two : ∀ (s : List (Int × Int)) (p : Nat), p < s.length → ∀ (u z : Int), ((s.flatMap rcells).set (p * 2) (.int .i64 u)).set (p * 2 + 1) (.int .i64 z) = (s.set p (u, z)).flatMap rcells
  | [], p, h, _, _ => by simp at h
  | a :: s, 0, _, u, z => rfl
  | a :: s, p + 1, h, u, z => by
    have ih := set_two s p (by simpa using h) u z
    rw [List.flatMap_cons, List.set_cons_succ, List.flatMap_cons, ← ih, show (p + 1) * 2 = p * 2 + 2 by omega]
    rfl
theorem RB.set {g : Nat} {s : List (Int × Int)} {w : World} (h : RB g s w) {p : Nat} (hp : p < s.length) (u z : Int) : RB g (s.set p (u, z)) ((w.setCell ⟨g, p * 2, none⟩ (.int .i64 u)).setCell ⟨g, p * 2 + 1, none⟩ (.int .i64 z)) := by
  have h1 := (Blk.set h (p * 2) (.int .i64 u)).set (p * 2 + 1) (.int .i64 z)
  unfold RB
  rw [← set_two s p hp u z]
  simpa using h1
theorem outL_cells {x : Edg} {n i p g : Nat} {w : World} (h : RB g (outL x n i p) w) (hp : p < n) : w.cell? ⟨g, p * 2, none⟩ = some (.int .i64 (spT x p i).1) ∧ w.cell? ⟨g, p * 2 + 1, none⟩ = some (.int .i64 (spT x p i).2) := by
  have h1 := h.cells (p := p) (by rw [outL_len]; exact hp)
  rw [outL_at x hp, if_neg (by omega)] at h1
  exact h1
theorem Try.info52b : (Try.prog.info? 52).map (fun i => (i.zero, i.size, i.bytes)) = some (some (.agg #[.int .i64 0, .int .i64 0]), 2, 16) := by kernel_rfl
theorem run_make_rgs (n : Nat) (hn : n ≤ 1000000) (w : World) :
    (Instr.makeSlice 37 (.int .i64 (n : Int)) (.int .i64 (n : Int))).run Try.prog w = .ok (.slice (some ⟨w.heap.size, 0, none⟩) n n) (w.alloc (.cells (madeCells #[.int .i64 0, .int .i64 0] (n * 2)) 52)) := by
  obtain ⟨i, hi, hz, hs, hb⟩ := info_parts Try.info52b
  have hb' : (i.bytes : Int) * (n : Int) ≤ 281474976710656 := by rw [hb]; omega
  have hr := run_make (P := Try.prog) w 37 52 i (.agg #[.int .i64 0, .int .i64 0]) Try.underlying37 hi hz .i64 .i64 n n (by omega) (Int.le_refl _) hb' (by omega)
  simp only [Int.toNat_natCast] at hr
  rw [hs] at hr
  exact hr
theorem made_rgs {n : Nat} (hn : n ≤ 4) : madeCells #[.int .i64 0, .int .i64 0] (n * 2) = ((List.replicate n ((0 : Int), (0 : Int))).flatMap rcells).toArray := by
  rcases n with _ | _ | _ | _ | _ | n
  all_goals first | omega | kernel_rfl
theorem RB.rgs {g n : Nat} {s : List (Int × Int)} {w : World} (h : RB g s w) (hn : s.length = n) (hm : n ≤ 1000) : RgsM (fun q => g ≤ q) w (.slice (some ⟨g, 0, none⟩) n n) s := by
  subst hn
  exact ⟨_, s.length, rfl, Nat.le_refl _, ⟨by unfold maxLen; omega, by simp⟩, .inr ⟨g, 0, rfl, Nat.le_refl _, Blk.lt h, fun j v hj => by
    rw [Nat.zero_add, Blk.cell h j, ← hj]; simp⟩⟩
/-- What a round of Bounds reads. -/
def BdS (g : Nat) (L : List (Int × Int)) (gr o : Nat) (v : Value) (gw ow : Nat) (a : Int) (w : World) : Prop := RB g L w ∧ w.cell? ⟨gr, o, none⟩ = some v ∧ w.cell? ⟨gw, ow, none⟩ = some (.int .i64 a)

set_option maxRecDepth 100000 in
set_option maxHeartbeats 2000000 in
theorem rbounds_c {A : Nat → Prop} {w : World} {x : Edg} {v : Value} (h : ClsM A w v x.claims) :
    Calls Try.prog 28 #[.agg #[.int .i64 x.points, .int .i64 x.bend, v]] w fun e w' => ∃ v', e = .returned (.tuple #[v', .int .i64 (boundsX x).2]) ∧ RgsM (fun q => w.heap.size ≤ q) w' v' (boundsX x).1 ∧ Below w.heap.size w w' := by
  obtain ⟨a1, c1, rfl, hc1, hm1⟩ := h.shape
  obtain ⟨w1, hw1⟩ : ∃ w1, w1 = w.alloc (.cells #[.int .i64 x.points, .int .i64 x.bend, .slice a1 x.claims.length c1] 24) := ⟨_, rfl⟩
  obtain ⟨b1, hb1⟩ : ∃ b, b = w.heap.size := ⟨_, rfl⟩
  have hX : Blk b1 #[.int .i64 x.points, .int .i64 x.bend, .slice a1 x.claims.length c1] 24 w1 := by rw [hw1, hb1]; exact blk_at rfl _ _
  have hB : Below w.heap.size w w1 := by rw [hw1]; exact (Below.refl _ w).alloc (Nat.le_refl _) _
  have h1 := h.call (hB)
  go_enter Try.func28, Try.ntmps28
  go_upto_region 1 with fail
  rw [← hw1, ← hb1]
  clear hw1 hb1
  have c0 := hX.cell 0
  have c1' := hX.cell 1
  have c2 := hX.cell 2
  go_wp2_with fail
  refine (rcheck_c h1).mono ?_
  rintro e w2 ⟨rfl, hB2⟩
  have hX2 := hX.call hB2
  have h2 := h1.call hB2
  have hBw2 := bnx hB hB2
  clear c0 c1' c2 hX h1 hB hB2
  have c0 := hX2.cell 0
  have c1' := hX2.cell 1
  have c2 := hX2.cell 2
  by_cases hck : checkX x = 0
  · have hx := checkX_zero.1 hck
    have hb : (checkX x != 0) = false := by rw [hck]; rfl
    have hbn : bndF x = none → boundsX x = ([], 12) := fun e => by unfold boundsX; rw [if_neg (not_not_intro hck), e]
    have hbs : ∀ s, bndF x = some s → boundsX x = (s, 0) := fun s e => by unfold boundsX; rw [if_neg (not_not_intro hck), e]
    have HBN := Lib.hid hbn
    have HBS := Lib.hid hbs
    clear hbn hbs hck
    go_wp2_with fail
    refine (rtruths_c h2 hx).mono ?_
    rintro e w3 ⟨v3, rfl, hG3, hB3⟩
    have hX3 := hX2.call hB3
    have hBw3 := bnx hBw2 hB3
    obtain ⟨ag, cg, rfl, _, _⟩ := hG3.shape
    have hTl := truths_len hx
    clear c0 c1' c2 hX2 h2 hBw2 hB3
    by_cases ht0 : truthsF x = []
    · have he : boundsX x = ([], 12) := HBN.out (bndF_none.2 ht0)
      have hl0 : (((truthsF x).length : Int) == 0) = true := by rw [ht0]; rfl
      have HE := Lib.hid he
      clear he ht0
      go_wp2_with fail
      go_ret2
      rw [HE.out]
      exact ⟨_, rfl, rgs_nil _ _, hBw3⟩
    · have hl0 : (((truthsF x).length : Int) == 0) = false := by
        rw [beq_eq_false_iff_ne]
        intro e
        exact ht0 (List.length_eq_zero_iff.1 (by omega))
      have hxp := hx.p
      obtain ⟨n, hn⟩ : ∃ n : Nat, x.points = (n : Int) := ⟨x.points.toNat, by omega⟩
      have hxn : x.n = n := by unfold Edg.n; omega
      have hn4 : 1 ≤ n ∧ n ≤ 4 := by omega
      have he : boundsX x = (outL x n (truthsF x).length 0, 0) := by
        refine HBS.out _ ?_
        have : bndF x = some (outL x n (truthsF x).length 0) := by
          unfold bndF
          rw [if_neg ht0, hxn]
          congr 1
          unfold outL
          refine List.map_congr_left fun q _ => ?_
          rw [if_neg (by omega)]
          unfold spT
          rw [List.take_length]
        exact this
      have HE := Lib.hid he
      rw [hn] at hX3
      have hmk := run_make_rgs n (by omega) w3
      rw [made_rgs hn4.2, ← outL_zero x n] at hmk
      have c0 := hX3.cell 0
      obtain ⟨w4, hw4⟩ : ∃ w4, w4 = w3.alloc (.cells ((outL x n 0 0).flatMap rcells).toArray 52) := ⟨_, rfl⟩
      obtain ⟨g, hg⟩ : ∃ g, g = w3.heap.size := ⟨_, rfl⟩
      have hE4 : RB g (outL x n 0 0) w4 := by rw [hw4, hg]; exact Blk.new _ _ _
      have hB4 : Below g w3 w4 := by rw [hw4, hg]; exact (Below.refl _ _).alloc (Nat.le_refl _) _
      have hGg : Grid (fun q => q < g) w4 (.slice ag (truthsF x).length cg) (truthsF x) := by
        have := (hG3.wide (A' := fun q => q < g) fun q _ hq => by omega).below hB4 fun q hq _ => hq
        exact this
      have hX4 := Blk.below hX3 hB4 (by rw [hg]; exact hX3.lt)
      have hgw : w.heap.size ≤ g := by rw [hg]; exact hBw3.size
      have hbg : b1 < g := by rw [hg]; exact hX3.lt
      have hgz : g < w4.heap.size := Blk.lt hE4
      have hBw4 : Below w.heap.size w w4 := hBw3.trans (hB4.mono hgw)
      rw [← hw4, ← hg] at hmk
      have HN := Lib.hid hn
      have HT := Lib.hid (show ∀ t ∈ truthsF x, t.length = n from fun t ht => by rw [truth_len ht]; exact hxn)
      clear hw4 hg he ht0 hn hxn hB4 hG3 hX3 hBw3
      go_wp2_with fail
      clear hmk c0
      go_loopw [7] (fun vi wr => ∃ i : Nat, i ≤ (truthsF x).length ∧ vi = .int .i64 i ∧ RB g (outL x n i 0) wr ∧ Below g w4 wr) (fun vi _ => (truthsF x).length - (intOf vi).toNat)
      case atStart => exact ⟨0, Nat.zero_le _, rfl, hE4, Below.refl _ _⟩
      case round =>
        rename World => wo
        obtain ⟨i, hi, rfl, hEo, hBo⟩ := hrel
        by_cases hlt : i < (truthsF x).length
        · go_wp2_with fail
          go_loopw [8] (fun vp wr => ∃ p : Nat, p ≤ n ∧ vp = .int .i64 p ∧ RB g (outL x n i p) wr ∧ Below g w4 wr) (fun vp _ => n - (intOf vp).toNat)
          case atStart => exact ⟨0, Nat.zero_le _, rfl, hEo, hBo⟩
          case round =>
            obtain ⟨p, hp, rfl, hEr, hBr⟩ := hrel
            have hXr := Blk.below hX4 hBr hbg
            have x0 := hXr.cell 0
            by_cases hpn : p < n
            · have hGr := hGg.below hBr fun q hq _ => hq
              obtain ⟨gr, orr, rfl, hgrA, hgr⟩ := hGr.addr (by omega)
              obtain ⟨aw, cw, g1, hrow⟩ := hGr.row i hlt
              have hrl := HT.out _ (List.getElem_mem hlt)
              have hwd := spT_succ (x := x) (p := p) hlt
              obtain ⟨r, hr⟩ : ∃ r, r = (truthsF x)[i] := ⟨_, rfl⟩
              rw [← hr] at g1 hrow hrl hwd
              rw [hrl] at g1
              obtain ⟨gw, ow, rfl, -, hgw2, -⟩ := hrow.addr (by omega)
              have hcell := hrow.cell p (by omega)
              rw [← atL_at (by omega)] at hcell
              obtain ⟨f, hf⟩ : ∃ f, ((i : Int) == 0) = f := ⟨_, rfl⟩
              have hfd : decide (i = 0) = f := by
                rw [← hf, Bool.eq_iff_iff, decide_eq_true_eq, beq_iff_eq]; omega
              rw [hfd] at hwd
              have HWD := Lib.hid hwd
              have hglt : g < wr.heap.size := Blk.lt hEr
              have hS0 : ∀ w', Qt wr w' → (BdS g (outL x n i p) gr (orr + i) (.slice (some ⟨gw, ow, none⟩) n cw) gw (ow + p) (atL r p)) w' := fun w' q => ⟨hEr.call (q.below _), (cell_same ((q.below wr.heap.size).block gr hgr)).trans g1, (cell_same ((q.below wr.heap.size).block gw hgw2)).trans hcell⟩
              clear hr hrl hwd hfd hrow g1 hcell
              go_wp2_with fail
              clear x0
              refine wp_region_mix2 (.pur 0 (.pur 1 (.pur 2 (.pur 3 (.pur 4 (.one 5 (.pur 6 (.pur 7 (.pur 8 (.one 9 (.pur 10 (.pur 11 (.one 12 (.pur 13 (.pur 14 (.act 15 (.pur 16 (.act 17 .fin)))))))))))))))))) 15 (BdS g (outL x n i p) gr (orr + i) (.slice (some ⟨gw, ow, none⟩) n cw) gw (ow + p) (atL r p)) (fun _ => True) (by kernel_rfl) (by kernel_rfl) rfl (by kernel_rfl) (hS0 _ ((Qt.refl _).drewN 1)) (fun wd hqd _ => ?_)
              refine mix_pur2 rfl (fun K hK => ?_)
              go_simp
              first | refine ⟨_, fun _ => rfl, hK _ ?_⟩ | refine hK _ ?_
              clear hK K
              refine mix_pur2 rfl (fun K hK => ?_)
              go_simp
              first | refine ⟨_, fun _ => rfl, hK _ ?_⟩ | refine hK _ ?_
              clear hK K
              refine mix_pur2 rfl (fun K hK => ?_)
              go_simp
              first | refine ⟨_, fun _ => rfl, hK _ ?_⟩ | refine hK _ ?_
              clear hK K
              refine mix_pur2 rfl (fun K hK => ?_)
              go_simp
              first | refine ⟨_, fun _ => rfl, hK _ ?_⟩ | refine hK _ ?_
              clear hK K
              refine mix_pur2 rfl (fun K hK => ?_)
              go_simp
              first | refine ⟨_, fun _ => rfl, hK _ ?_⟩ | refine hK _ ?_
              clear hK K
              refine mix_load2 rfl rfl rfl (.agg #[.int .i64 (spT x p i).1, .int .i64 (spT x p i).2]) (fun w' h => by have h : (BdS g (outL x n i p) gr (orr + i) (.slice (some ⟨gw, ow, none⟩) n cw) gw (ow + p) (atL r p)) w' := h; obtain ⟨e0, e1⟩ := outL_cells h.1 hpn; go_simp) rfl ?_
              refine mix_pur2 rfl (fun K hK => ?_)
              go_simp
              first | refine ⟨_, fun _ => rfl, hK _ ?_⟩ | refine hK _ ?_
              clear hK K
              refine mix_pur2 rfl (fun K hK => ?_)
              go_simp
              first | refine ⟨_, fun _ => rfl, hK _ ?_⟩ | refine hK _ ?_
              clear hK K
              refine mix_pur2 rfl (fun K hK => ?_)
              go_simp
              first | refine ⟨_, fun _ => rfl, hK _ ?_⟩ | refine hK _ ?_
              clear hK K
              refine mix_load2 rfl rfl rfl (.slice (some ⟨gw, ow, none⟩) n cw) (fun w' h => by have h : (BdS g (outL x n i p) gr (orr + i) (.slice (some ⟨gw, ow, none⟩) n cw) gw (ow + p) (atL r p)) w' := h; have e0 := h.2.1; go_simp) rfl ?_
              refine mix_pur2 rfl (fun K hK => ?_)
              go_simp
              first | refine ⟨_, fun _ => rfl, hK _ ?_⟩ | refine hK _ ?_
              clear hK K
              refine mix_pur2 rfl (fun K hK => ?_)
              go_simp
              first | refine ⟨_, fun _ => rfl, hK _ ?_⟩ | refine hK _ ?_
              clear hK K
              refine mix_load2 rfl rfl rfl (.int .i64 (atL r p)) (fun w' h => by have h : (BdS g (outL x n i p) gr (orr + i) (.slice (some ⟨gw, ow, none⟩) n cw) gw (ow + p) (atL r p)) w' := h; have e0 := h.2.2; go_simp) rfl ?_
              refine mix_pur2 rfl (fun K hK => ?_)
              go_simp
              first | refine ⟨_, fun _ => rfl, hK _ ?_⟩ | refine hK _ ?_
              clear hK K
              refine mix_pur2 rfl (fun K hK => ?_)
              go_simp
              first | refine ⟨_, fun _ => rfl, hK _ ?_⟩ | refine hK _ ?_
              clear hK K
              refine mix_eff2 rfl true rfl (fun K hK => ?_)
              go_simp
              refine (wider_c (spT x p i) (atL r p) f _).mono ?_
              rintro e w5 ⟨rfl, hB5⟩
              rw [HWD.out]
              have hE5 := hEr.call ((hqd.below _).trans (hB5.mono (hqd.below wr.heap.size).size))
              have hBr5 : Below g w4 w5 := hBr.trans (((hqd.below wr.heap.size).trans (hB5.mono (hqd.below wr.heap.size).size)).mono (Nat.le_of_lt hglt))
              have f0 := hE5.free (p * 2)
              have f1 := hE5.free (p * 2 + 1)
              obtain ⟨y0, y1⟩ := outL_cells hE5 hpn
              refine hK _ _ trivial ?_
              clear hK K
              refine mix_pur2 rfl (fun K hK => ?_)
              go_simp
              first | refine ⟨_, fun _ => rfl, hK _ ?_⟩ | refine hK _ ?_
              clear hK K
              refine mix_eff2 rfl true rfl (fun K hK => ?_)
              go_simp
              refine hK _ _ trivial ?_
              clear hK K
              refine mix_done2 ?_
              go_wp2_with fail
              go_roundw
              case rel =>
                refine ⟨p + 1, by omega, by go_num, ?_, (hBr5.setCell (p := ⟨g, p * 2, none⟩) (Nat.le_refl _) _).setCell (p := ⟨g, p * 2 + 1, none⟩) (Nat.le_refl _) _⟩
                rw [← outL_set x hpn]
                exact hE5.set (by rw [outL_len]; exact hpn) _ _
              case measure => simp [intOf]; omega
            · obtain rfl : p = n := by omega
              rw [outL_next] at hEr
              go_wp2_with fail
              go_roundw
              case rel => exact ⟨i + 1, by omega, by go_num, hEr, hBr⟩
              case measure => simp [intOf]; omega
        · obtain rfl : i = (truthsF x).length := by omega
          go_wp2_with fail
          go_ret2
          rw [HE.out]
          exact ⟨_, rfl, (hEo.rgs (outL_len _ _ _ _) (by omega)).wide fun q hq _ => Nat.le_trans hgw hq, hBw4.trans (hBo.mono hgw)⟩
  · have hb : (checkX x != 0) = true := by simpa using hck
    have he : boundsX x = ([], checkX x) := by unfold boundsX; rw [if_pos hck]
    have HE := Lib.hid he
    clear he hck
    go_wp2_with fail
    go_ret2
    rw [HE.out]
    exact ⟨_, rfl, rgs_nil _ _, hBw2⟩

end Go.Proofs.Ytgdifckmjdjcpaa
