/- Contracts of the reference's judged, Encroached, Since (edge); conditions: claims and furrows read as lists. -/
import Derived.Test.YtgdifckmjdjcpaaRta
import Derived.Test.YtgdifckmjdjcpaaRtr
namespace Go.Proofs.Ytgdifckmjdjcpaa
open Go.RowKit

/-- How many of the first truths lose something at a point. -/
def cntU (T : List (List Int)) (l : List Fu) (y : Int) (p i : Nat) : Nat := ((T.take i).filter fun t => decide (tkF (newG p y l) (atL t p) > 0)).length
theorem cntU_succ {T : List (List Int)} {l : List Fu} {y : Int} {p i : Nat} (hi : i < T.length) : cntU T l y p (i + 1) = if 0 < tkF (newG p y l) (atL T[i] p) then cntU T l y p i + 1 else cntU T l y p i := by
  unfold cntU
  rw [List.take_succ_eq_append_getElem hi, List.filter_append, List.length_append]
  by_cases h : 0 < tkF (newG p y l) (atL T[i] p)
  · rw [if_pos h, List.filter_cons_of_pos (by simpa using h)]; rfl
  · rw [if_neg h, List.filter_cons_of_neg (by simpa using h)]; rfl
theorem cntU_le (T : List (List Int)) (l : List Fu) (y : Int) (p i : Nat) : cntU T l y p i ≤ i := by
  unfold cntU
  exact Nat.le_trans (List.length_filter_le _ _) (by rw [List.length_take]; omega)

set_option maxHeartbeats 1000000 in
theorem rjudged_c {A A' : Nat → Prop} {w : World} {v vl : Value} {T : List (List Int)} {l : List Fu} (hG : Grid A w v T) (hTl : T.length ≤ 10000) {p : Nat} (hT : ∀ t ∈ T, p < t.length ∧ 0 ≤ atL t p ∧ atL t p ≤ 9) (hl : FusM A' w vl l) (hy : ∀ f ∈ l, 0 ≤ f.year ∧ 0 ≤ f.off ∧ f.off ≤ 9) (y : Int) :
    Calls Try.prog 96 #[v, vl, .int .i64 (p : Int), .int .i64 y] w fun e w' => e = .returned (.int .i64 (verdF (T.filter fun t => decide (tkF (newG p y l) (atL t p) > 0)).length T.length)) ∧ Qt w w' := by
  obtain ⟨ag, cg, rfl, _, _⟩ := hG.shape
  obtain ⟨al, cl, rfl, _, _⟩ := hl.shape
  have HT := Lib.hid hT
  have HY := Lib.hid hy
  clear hT hy
  go_enter Try.func96, Try.ntmps96
  go_wp2_with fail
  go_loopw [9, 10] (fun vs vi wr => ∃ i : Nat, i ≤ T.length ∧ vi = .int .i64 i ∧ vs = .int .i64 (cntU T l y p i : Int) ∧ Qt w wr) (fun _ vi _ => T.length - (intOf vi).toNat)
  case atStart => exact ⟨0, Nat.zero_le _, rfl, rfl, Qt.refl _⟩
  case round =>
    obtain ⟨i, hi, rfl, rfl, hQ⟩ := hrel
    have hcl := cntU_le T l y p i
    by_cases hlt : i < T.length
    · have hGr := hG.qt hQ
      obtain ⟨gr, orr, rfl, -, -⟩ := hGr.addr (by omega)
      obtain ⟨aw, cw, g1, hrow⟩ := hGr.row i hlt
      obtain ⟨hp, h9⟩ := HT.out _ (List.getElem_mem hlt)
      have hsu := cntU_succ (l := l) (y := y) (p := p) hlt
      have hfu := rfurrows_c (hl.qt hQ) HY.out hrow hp h9 y
      obtain ⟨r, hr⟩ : ∃ r, r = T[i] := ⟨_, rfl⟩
      rw [← hr] at g1 hfu hsu
      have HFU := Lib.hid hfu
      obtain ⟨k, hk⟩ : ∃ k, k = tkF (newG p y l) (atL r p) := ⟨_, rfl⟩
      rw [← hk] at hsu
      have HK := Lib.hid hk
      have HSU := Lib.hid hsu
      obtain ⟨N, hN⟩ : ∃ N, N = cntU T l y p i := ⟨_, rfl⟩
      rw [← hN] at hcl HSU ⊢
      have bn : IntKind.i64.wrap ((N : Int) + 1) = (N : Int) + 1 := IntWalk.i64_in _ (by omega)
      clear hr hfu hk hsu hrow hN
      go_wp2_with fail
      refine HFU.out.mono ?_
      rintro e w2 ⟨rfl, hq2⟩
      rw [← HK.out]
      by_cases hk0 : 0 < k
      · have hd : decide (0 < k) = true := decide_eq_true hk0
        go_wp2_with fail
        go_roundw
        case rel => exact ⟨i + 1, by omega, by go_num, by rw [HSU.out, if_pos hk0]; rfl, hQ.trans hq2⟩
        case measure => simp [intOf]; omega
      · have hd : decide (0 < k) = false := decide_eq_false hk0
        go_wp2_with fail
        go_roundw
        case rel => exact ⟨i + 1, by omega, by go_num, by rw [HSU.out, if_neg (by omega)], hQ.trans hq2⟩
        case measure => simp [intOf]; omega
    · obtain rfl : i = T.length := by omega
      have HC := Lib.hid (show cntU T l y p T.length = (T.filter fun t => decide (tkF (newG p y l) (atL t p) > 0)).length by unfold cntU; rw [List.take_length])
      obtain ⟨N, hN⟩ : ∃ N, N = cntU T l y p T.length := ⟨_, rfl⟩
      rw [← hN] at hcl HC ⊢
      clear hN
      go_wp2_with fail
      refine (rverdict_c N T.length _).mono ?_
      rintro e w2 ⟨rfl, rfl⟩
      go_wp2_with fail
      go_ret
      exact ⟨ret_int (by rw [HC.out]), hQ⟩

theorem taken_zero {x : Edg} {l : List Fu} {y : Int} (h : (takenX x l y).2 = 0) : bothX x l = 0 ∧ ∃ s, IsBnd x s ∧ (takenX x l y).1 = (List.range x.n).map fun p => tkE l s p y := by
  have h1 := h
  unfold takenX at h1
  by_cases hc : bothX x l = 0
  · rw [if_neg (not_not_intro hc)] at h1
    by_cases hb : btwB y 0 30 = false
    · rw [if_pos hb] at h1; exact absurd h1 (by decide)
    · rw [if_neg hb] at h1
      rcases bnd_cases (both_zero hc).1 with ⟨-, hn, -⟩ | ⟨s, hs, hn, -⟩
      · rw [hn] at h1; exact absurd (show (12 : Int) = 0 from h1) (by decide)
      · refine ⟨hc, s, hs, ?_⟩
        unfold takenX
        rw [if_neg (not_not_intro hc), if_neg hb, hn]
  · rw [if_pos hc] at h1; exact absurd h1 hc

set_option maxRecDepth 100000 in
set_option maxHeartbeats 2000000 in
theorem rencr_c {A A' : Nat → Prop} {w : World} {x : Edg} {v vl : Value} {l : List Fu} (h : ClsM A w v x.claims) (hl : FusM A' w vl l) (y : Int) :
    Calls Try.prog 60 #[.agg #[.int .i64 x.points, .int .i64 x.bend, v], vl, .int .i64 y] w fun e w' => ∃ v', e = .returned (.tuple #[v', .int .i64 (encrX x l y).2]) ∧ Ints (fun q => w.heap.size ≤ q) w' v' (encrX x l y).1 ∧ Below w.heap.size w w' := by
  obtain ⟨a1, c1, rfl, hc1, hm1⟩ := h.shape
  obtain ⟨al, cl, rfl, _, _⟩ := hl.shape
  obtain ⟨w1, hw1⟩ : ∃ w1, w1 = w.alloc (.cells #[.int .i64 x.points, .int .i64 x.bend, .slice a1 x.claims.length c1] 24) := ⟨_, rfl⟩
  obtain ⟨b1, hb1⟩ : ∃ b, b = w.heap.size := ⟨_, rfl⟩
  have hX : Blk b1 #[.int .i64 x.points, .int .i64 x.bend, .slice a1 x.claims.length c1] 24 w1 := by rw [hw1, hb1]; exact blk_at rfl _ _
  have hB : Below w.heap.size w w1 := by rw [hw1]; exact (Below.refl _ w).alloc (Nat.le_refl _) _
  have h1 := h.call hB
  have hl1 := hl.call hB
  go_enter Try.func60, Try.ntmps60
  go_upto_region 1 with fail
  rw [← hw1, ← hb1]
  clear hw1 hb1
  have c0 := hX.cell 0
  have c1' := hX.cell 1
  have c2 := hX.cell 2
  go_wp2_with fail
  refine (rtaken_c h1 hl1 y).mono ?_
  rintro e w2 ⟨v2, rfl, hR, hB2⟩
  obtain ⟨a2, c2', rfl, _, _⟩ := hR.shape
  have hX2 := hX.call hB2
  have h2 := h1.call hB2
  have hl2 := hl1.call hB2
  have hBw2 := bnx hB hB2
  clear c0 c1' c2 hX h1 hB hB2 hl1 hR
  have c0 := hX2.cell 0
  have c1' := hX2.cell 1
  have c2 := hX2.cell 2
  by_cases hz : (takenX x l y).2 = 0
  · obtain ⟨hck, s, hs, ht1⟩ := taken_zero hz
    have hx := (both_zero hck).1
    have hfy := fus_good (both_zero hck).2
    have hb : ((takenX x l y).2 != 0) = false := by rw [hz]; rfl
    have he : encrX x l y = (((List.range x.n).map fun p => tkE l s p y).map verdE, 0) := by unfold encrX; rw [if_neg (not_not_intro hz), ht1]
    have HE := Lib.hid he
    have HFY := Lib.hid hfy
    clear he hck ht1 hz hfy
    go_wp2_with fail
    refine (rtruths_c h2 hx).mono ?_
    rintro e w3 ⟨v3, rfl, hG3, hB3⟩
    have hX3 := hX2.call hB3
    have hl3 := hl2.call hB3
    have hBw3 := bnx hBw2 hB3
    obtain ⟨ag, cg, rfl, _, _⟩ := hG3.shape
    have hTl := truths_len hx
    have hxp := hx.p
    obtain ⟨n, hn⟩ : ∃ n : Nat, x.points = (n : Int) := ⟨x.points.toNat, by omega⟩
    have hxn : x.n = n := by unfold Edg.n; omega
    have hn4 : 1 ≤ n ∧ n ≤ 4 := by omega
    have HT := Lib.hid (show ∀ q < n, ∀ t ∈ truthsF x, q < t.length ∧ 0 ≤ atL t q ∧ atL t q ≤ 9 from fun q hq t ht => ⟨by rw [truth_len ht, hxn]; exact hq, (mem_truthsF.1 ht).reach q (by rw [hxn]; exact hq)⟩)
    have HV := Lib.hid (show ∀ q < n, verdF ((truthsF x).filter fun t => decide (tkF (newG q y l) (atL t q) > 0)).length (truthsF x).length = verdE (tkE l s q y) from fun q hq => encr_truths hs l (by rw [hxn]; exact hq) y)
    rw [hxn] at HE
    rw [hn] at hX3
    have hsa := hBw3.size
    have HN := Lib.hid hn
    clear c0 c1' c2 hX2 h2 hBw2 hl2 hB3 hn hxn hs
    go_wp2_with fail
    go_loopw [11, 12] (fun vo vp wr => ∃ p : Nat, p ≤ n ∧ vp = .int .i64 p ∧ Own w3.heap.size wr 3 1 vo p (I64 ((List.range p).map fun q => verdE (tkE l s q y))) ∧ Below w3.heap.size w3 wr) (fun _ vp _ => n - (intOf vp).toNat)
    case atStart => exact ⟨0, Nat.zero_le _, rfl, Own.nil, Below.refl _ _⟩
    case round =>
      obtain ⟨p, hp, rfl, hO, hBr⟩ := hrel
      have hXr := hX3.call hBr
      have x0 := hXr.cell 0
      have hsz := hBr.size
      by_cases hpn : p < n
      · have hju := rjudged_c (hG3.call hBr) hTl (HT.out p hpn) (hl3.call hBr) HFY.out y
        rw [HV.out p hpn] at hju
        have HJU := Lib.hid hju
        obtain ⟨vd, hvd⟩ : ∃ vd, vd = verdE (tkE l s p y) := ⟨_, rfl⟩
        rw [← hvd] at HJU
        have HVD := Lib.hid hvd
        clear hju hvd
        go_wp2_with fail
        refine HJU.out.mono ?_
        rintro e w5 ⟨rfl, hq5⟩
        have hz5 : wr.heap.size ≤ w5.heap.size := Nat.le_of_eq hq5.size.symm
        have hO6 := Own.alloc (hO.call (hq5.below _)) (.cells #[.int .i64 vd] 3)
        have hB6 := (hBr.trans (hq5.below _)).alloc (by omega) (.cells #[.int .i64 vd] 3)
        have ha := arr_one w5 3 (.int .i64 vd)
        go_wp2_with (at_builtin; refine wpList_append_arr rfl _ _ 27 rfl 3 (.int .i64 0) 1 8 Try.underlying27 Try.info3 rfl (by decide) (by decide) (by simp; omega) hO6 rfl ha rfl rfl (one_int _) (by omega) ?_; intro v' w8 hown hT)
        go_roundw
        case rel => exact ⟨p + 1, by omega, by go_num, by rw [List.range_succ, List.map_append, I64_append, List.map_singleton, ← HVD.out]; exact hown, hT.below2 hO6 hB6 (by simp; omega) (Nat.le_refl _)⟩
        case measure => simp [intOf]; omega
      · obtain rfl : p = n := by omega
        go_wp2_with fail
        go_ret2
        rw [HE.out, List.map_map]
        have hI : Ints (fun k => w3.heap.size ≤ k) wr u11 ((List.range p).map fun q => verdE (tkE l s q y)) := Own.ints hO
        exact ⟨_, rfl, hI.wide fun q hq _ => Nat.le_trans hsa hq, hBw3.trans (hBr.mono hsa)⟩
  · have hb : ((takenX x l y).2 != 0) = true := by simpa using hz
    have he : encrX x l y = ([], (takenX x l y).2) := by unfold encrX; rw [if_pos hz]
    have HE := Lib.hid he
    clear he hz
    go_wp2_with fail
    go_ret2
    rw [HE.out]
    exact ⟨_, rfl, ⟨none, 0, rfl, Nat.le_refl _, ⟨by unfold maxLen; omega, fun _ => rfl⟩, .inl rfl⟩, hBw2⟩

end Go.Proofs.Ytgdifckmjdjcpaa
