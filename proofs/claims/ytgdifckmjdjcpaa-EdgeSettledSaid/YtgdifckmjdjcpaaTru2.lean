/- The walk over the offsets, point by point (edge): it yields all truths between the bounds; conditions: as said. -/
import Derived.Test.YtgdifckmjdjcpaaTru1
import Derived.Test.YtgdifckmjdjcpaaTak2
namespace Go.Proofs.Ytgdifckmjdjcpaa
open Go.RowKit

/-- What the walk owes, so many points before the end. -/
def WOk (x : Edg) (n : Nat) (s : Bs) (lr bx bc bY bs bw g : Nat) (vx : Value) (all : List Value) (J : (Nat → Prop) → List Value → World → Prop) (k : Nat) : Prop :=
  ∀ (own : Nat → Prop) (pre rest : List Value) (W : World) (u : List Int) (p : Nat), WS x n s lr bx bc bY bs bw g vx own W → J own pre W → u.length = p → p + k = n → (∀ i < 4, 0 ≤ atL u i ∧ atL u i ≤ 9) → all = pre ++ (gen (candS x s) (keepC x) k u).map tv ++ rest →
    Calls Try.prog 120 #[.agg #[.int .i64 (atL u 0), .int .i64 (atL u 1), .int .i64 (atL u 2), .int .i64 (atL u 3)], .int .i64 (p : Int), .pointer (some ⟨bx, 0, none⟩), .pointer (some ⟨bc, 0, none⟩), .pointer (some ⟨bY, 0, none⟩), .pointer (some ⟨bs, 0, none⟩), .pointer (some ⟨bw, 0, none⟩)] W
      fun e W' => e = .returned (.bool true) ∧ ∃ own', Guar own own' W W' ∧ J own' (pre ++ (gen (candS x s) (keepC x) k u).map tv) W'

theorem atL_snoc (u : List Int) (z : Int) (i : Nat) : atL (u ++ [z]) i = if i = u.length then z else atL u i := by
  unfold atL
  rw [List.getD_eq_getElem?_getD, List.getD_eq_getElem?_getD, List.getElem?_append]
  by_cases h : i < u.length
  · rw [if_pos h, if_neg (by omega)]
  · rw [if_neg h]
    by_cases h2 : i = u.length
    · rw [if_pos h2, h2, Nat.sub_self]; rfl
    · rw [if_neg h2, List.getElem?_eq_none (by simp; omega), List.getElem?_eq_none (by omega)]
theorem atL_out {u : List Int} {i : Nat} (h : u.length ≤ i) : atL u i = 0 := by
  unfold atL
  rw [List.getD_eq_getElem?_getD, List.getElem?_eq_none h]; rfl
theorem tvA_zero (u : List Int) : tvA (u ++ [0]) = tvA u := by
  have h : ∀ i, atL (u ++ [0]) i = atL u i := fun i => by
    rw [atL_snoc]
    by_cases e : i = u.length
    · rw [if_pos e, e, atL_out (Nat.le_refl _)]
    · rw [if_neg e]
  unfold tvA
  rw [h, h, h, h]
theorem tvA_at (u : List Int) {p : Nat} (hp : p < 4) : (tvA u)[p]? = some (.int .i64 (atL u p)) := by
  rcases p with _ | _ | _ | _ | p
  all_goals first | rfl | omega
theorem tvA_set {u : List Int} (z m : Int) {p : Nat} (hu : u.length = p) (hp : p < 4) : (tvA (u ++ [z])).setIfInBounds p (.int .i64 m) = tvA (u ++ [m]) := by
  subst hu
  apply Array.ext
  · simp [tvA]
  · intro i h1 h2
    rw [Array.getElem_setIfInBounds (by simpa using h1)]
    have h3 : i < 4 := by simpa [tvA] using h2
    have e1 := tvA_at (u ++ [z]) h3
    have e2 := tvA_at (u ++ [m]) h3
    rw [Array.getElem?_eq_getElem (by simp [tvA]; omega)] at e1 e2
    injection e1 with e1
    injection e2 with e2
    rw [e1, e2, atL_snoc, atL_snoc]
    by_cases h : i = u.length
    · subst h; simp
    · rw [if_neg (by omega), if_neg h, if_neg h]

/-- The truths that begin with u and an offset below m. -/
def part (x : Edg) (s : Bs) (k : Nat) (u : List Int) (m : Int) : List (List Int) := ((rng (gl s u.length) (m - 1)).filter (stepB x.bend u)).flatMap fun z => gen (candS x s) (keepC x) k (u ++ [z])
theorem part_none (x : Edg) (s : Bs) (k : Nat) (u : List Int) : part x s k u (gl s u.length) = [] := by
  unfold part
  rw [rng_none (by omega)]
  rfl
theorem part_succ {x : Edg} {s : Bs} {k : Nat} {u : List Int} {m : Int} (h : gl s u.length ≤ m) : part x s k u (m + 1) = part x s k u m ++ if stepB x.bend u m = true then gen (candS x s) (keepC x) k (u ++ [m]) else [] := by
  unfold part
  have e := rng_snoc (lo := gl s u.length) (hi := m - 1) (by omega)
  rw [show m - 1 + 1 = m by omega] at e
  rw [show m + 1 - 1 = m by omega, e, List.filter_append, List.flatMap_append]
  congr 1
  by_cases hs : stepB x.bend u m = true
  · rw [if_pos hs, List.filter_cons_of_pos hs]; simp
  · rw [if_neg hs, List.filter_cons_of_neg hs]; rfl
theorem prt_all (x : Edg) (s : Bs) (k : Nat) (u : List Int) : part x s k u (gh s u.length + 1) = gen (candS x s) (keepC x) (k + 1) u := by
  unfold part
  rw [show gh s u.length + 1 - 1 = gh s u.length by omega]
  rfl
theorem part_split {x : Edg} {s : Bs} {k : Nat} {u : List Int} {m : Int} (h1 : gl s u.length ≤ m) (h2 : m ≤ gh s u.length) (hs : stepB x.bend u m = true) : ∃ r, gen (candS x s) (keepC x) (k + 1) u = part x s k u m ++ (gen (candS x s) (keepC x) k (u ++ [m]) ++ r) := by
  refine ⟨((rng (m + 1) (gh s u.length)).filter (stepB x.bend u)).flatMap fun z => gen (candS x s) (keepC x) k (u ++ [z]), ?_⟩
  have e1 := part_succ (x := x) (s := s) (k := k) (u := u) h1
  rw [if_pos hs] at e1
  rw [← List.append_assoc, ← e1]
  unfold part
  rw [show m + 1 - 1 = m by omega]
  show ((rng (gl s u.length) (gh s u.length)).filter (stepB x.bend u)).flatMap _ = _
  rw [rng_cut (lo := gl s u.length) (cut := m) (hi := gh s u.length) (by omega) h2, List.filter_append, List.flatMap_append]

theorem Guar.set {o o' : Nat → Prop} {W W' : World} (h : Guar o o' W W') {c : Addr} (hc : W.heap.size ≤ c.block) (v : Value) : Guar o o' W (W'.setCell c v) :=
  ⟨h.sub, fun q hq hn => (Below.heap_setCell W' c v q (by omega)).trans (h.keep q hq hn), by have := h.size; simpa [World.setCell] using this⟩

set_option maxRecDepth 100000 in
set_option maxHeartbeats 2000000 in
theorem walk_step {x : Edg} (hx : x.Ok) {n : Nat} (hn : x.n = n) {s : Bs} (hs : IsBnd x s) {lr bx bc bY bs bw g : Nat} {vx : Value} {all : List Value} {J : (Nat → Prop) → List Value → World → Prop} (sJ : SideV J) {k : Nat}
    (ih : WOk x n s lr bx bc bY bs bw g vx all J k) : WOk x n s lr bx bc bY bs bw g vx all J (k + 1) := by
  intro own pre rest W u p hW hJ hu hpk hu9 hall
  have hlt := sJ.lt own pre W hJ
  have hpn : p < n := by omega
  have hn4 : n ≤ 4 := by have := hx.p; unfold Edg.n at hn; omega
  have hsl : p < s.length := by rw [hs.len, hn]; exact hpn
  have hre := bnd_reach hs (p := p) (by rw [hn]; exact hpn)
  have hb9 := hx.b
  obtain ⟨W1, hW1⟩ : ∃ W1, W1 = W.alloc (.cells #[.int .i64 (atL u 0), .int .i64 (atL u 1), .int .i64 (atL u 2), .int .i64 (atL u 3)] 126) := ⟨_, rfl⟩
  obtain ⟨bt, hbt⟩ : ∃ b, b = W.heap.size := ⟨_, rfl⟩
  have hT1 : Blk bt (tvA (u ++ [0])) 126 W1 := by rw [hW1, hbt, tvA_zero]; exact Blk.new _ _ _
  have hB1 : Below W.heap.size W W1 := by rw [hW1]; exact (Below.refl _ W).alloc (Nat.le_refl _) _
  have hw1 := hW.step (Guar.call hB1)
  have hJ1 := sJ.step _ _ _ _ hJ (Keep.call hB1)
  have hot : ¬ own bt := fun h => by have := hlt bt h; omega
  have x0 := hw1.hX.1.cell 0
  have s0 := hw1.hS.1.cell 0
  obtain ⟨d0, d1⟩ := EB.cells hw1.hE.1 hsl
  have b1 : ((p : Int) == (n : Int)) = false := by simp; omega
  have HLT := Lib.hid hlt
  have HALL := Lib.hid hall
  have HU := Lib.hid hu
  have HPK := Lib.hid hpk
  have HNN := Lib.hid hn
  have HG : Hid (gl s p = gl s u.length ∧ gh s p = gh s u.length) := Lib.hid (by rw [hu]; exact ⟨rfl, rfl⟩)
  clear hlt hall hu hn hpk
  go_enter Try.func120, Try.ntmps120
  go_upto_region 1 with fail
  rw [← hW1, ← hbt]
  have hzt : W.heap.size ≤ bt := Nat.le_of_eq hbt.symm
  clear hW1 hbt
  go_wp2_with fail
  clear x0 s0 d0 d1
  go_loopw [12] (fun i wr => ∃ (m z : Int) (own1 : Nat → Prop), gl s p ≤ m ∧ m ≤ gh s p + 1 ∧ i = .int .i64 m ∧ Guar own own1 W wr ∧ ¬ own1 bt ∧ Blk bt (tvA (u ++ [z])) 126 wr ∧ Hid (J own1 (pre ++ (part x s k u m).map tv) wr)) (fun i _ => (gh s p + 1 - intOf i).toNat)
  case atStart => exact ⟨gl s p, 0, own, Int.le_refl _, by omega, rfl, Guar.call hB1, hot, hT1, Lib.hid (by rw [HG.out.1, part_none]; simpa using hJ1)⟩
  case round =>
    obtain ⟨m, z, own1, hm1, hm2, rfl, hGu, ho1, hT, HJ⟩ := hrel
    have hWr := hW.step hGu
    have s0 := hWr.hS.1.cell 0
    obtain ⟨d0, d1⟩ := EB.cells hWr.hE.1 hsl
    have x1 := hWr.hX.1.cell 1
    have hbW : W.heap.size ≤ bt := hzt
    by_cases hle : m ≤ gh s p
    · have hm9 : 0 ≤ m ∧ m ≤ 9 := by omega
      have bm : IntKind.i64.wrap (m + 1) = m + 1 := IntWalk.i64_in _ (by omega)
      have hu2 : ∀ i < 4, 0 ≤ atL (u ++ [m]) i ∧ atL (u ++ [m]) i ≤ 9 := fun i hi => by
        rw [atL_snoc]
        by_cases e : i = u.length
        · rw [if_pos e]; exact hm9
        · rw [if_neg e]; exact hu9 i hi
      have ih' := ih
      unfold WOk at ih'
      have bp1 : ((p + 1 : Nat) : Int) = (p : Int) + 1 := by simp
      rcases Nat.eq_zero_or_pos p with hp0 | hp0
      · have hp0l : p ≤ 0 := Nat.le_of_eq hp0
        clear hp0
        have hst : stepB x.bend u m = true := by
          have : u = [] := List.length_eq_zero_iff.1 (by have := HU.out; omega)
          unfold stepB; rw [this]; rfl
        obtain ⟨r, hr⟩ := part_split (x := x) (s := s) (k := k) (u := u) (m := m) (by rw [← HG.out.1]; exact hm1) (by rw [← HG.out.2]; exact hle) hst
        have HSPL := Lib.hid (show all = (pre ++ (part x s k u m).map tv) ++ (gen (candS x s) (keepC x) k (u ++ [m])).map tv ++ (r.map tv ++ rest) by rw [HALL.out, hr]; simp [List.append_assoc])
        clear hr
        have hg0 : decide (0 < p) = false := decide_eq_false (by omega)
        go_wp2_with fail
        go_quiet ((go_at_call 80; refine qt_of (between_q _ _ _ _)))
        have hq : Qt wr (wr.drewN nq) := ⟨nq, rfl⟩
        generalize wr.drewN nq = wq at hq ⊢
        have hTq := hT.qt hq
        have hGq := hGu.trans (Guar.call (own := own1) (hq.below _))
        have HJq := Lib.hid (sJ.step _ _ _ _ HJ.out (Keep.qt hq))
        have f0 := hTq.free p
        have cz : wq.cell? ⟨bt, p, none⟩ = some (.int .i64 z) := by rw [hTq.cell p, tvA_at _ (by omega), atL_snoc, if_pos HU.out.symm]
        have hT2 := hTq.set p (.int .i64 m)
        rw [tvA_set z m HU.out (by omega)] at hT2
        have hGu2 := hGq.set (c := ⟨bt, p, none⟩) hbW (.int .i64 m)
        have hW2 := hW.step hGu2
        have hJ2 := Lib.hid (sJ.step _ _ _ _ HJq.out (Keep.setCell (own := fun q => ¬ own1 q) wq ⟨bt, p, none⟩ (.int .i64 m) ho1))
        clear hWr s0 d1 x1 HJ hT hGu hg0
        go_upto_region 14 with fail
        clear cz f0
        generalize wq.setCell ⟨bt, p, none⟩ (.int .i64 m) = w2 at hT2 hW2 hJ2 hGu2 ⊢
        have hW2w := hW2.hW.1.cell 0
        have t0 : w2.cell? ⟨bt, 0, none⟩ = some (.int .i64 (atL (u ++ [m]) 0)) := hT2.cell 0
        have t1 : w2.cell? ⟨bt, 1, none⟩ = some (.int .i64 (atL (u ++ [m]) 1)) := hT2.cell 1
        have t2 : w2.cell? ⟨bt, 2, none⟩ = some (.int .i64 (atL (u ++ [m]) 2)) := hT2.cell 2
        have t3 : w2.cell? ⟨bt, 3, none⟩ = some (.int .i64 (atL (u ++ [m]) 3)) := hT2.cell 3
        have HS := Lib.hid hst
        clear hst
        go_wp2_with fail
        try rw [← bp1]
        refine (ih' own1 _ _ w2 (u ++ [m]) (p + 1) hW2 hJ2.out (by rw [List.length_append, List.length_singleton, HU.out]) (by have := HPK.out; omega) hu2 HSPL.out).mono ?_
        rintro e w3 ⟨rfl, own3, hG3, hJ3⟩
        obtain ⟨hT3, ho3⟩ := hG3.blk hT2 ho1
        have hGu3 := hGu2.trans hG3
        have hJ3' := Lib.hid (show J own3 (pre ++ (part x s k u (m + 1)).map tv) w3 by rw [part_succ (by rw [← HG.out.1]; exact hm1), if_pos HS.out]; simpa [List.append_assoc] using hJ3)
        clear hJ3 hG3 hT2 hW2 hJ2 hGu2 t0 t1 t2 t3 hW2w
        go_wp2_with fail
        go_roundw
        case rel => exact ⟨m + 1, m, own3, by omega, by omega, by go_num, hGu3, ho3, hT3, hJ3'⟩
        case measure => simp [intOf]; omega
      · obtain ⟨q, hq⟩ : ∃ q, q = p - 1 := ⟨_, rfl⟩
        have bq : IntKind.i64.wrap ((p : Int) - 1) = (q : Int) := by rw [IntWalk.i64_in _ (by omega)]; omega
        have hgp : ((p : Int) > 0) := by omega
        have hqp : q < p := by omega
        have hq4 : q < 4 := by omega
        have HQ := Lib.hid hq
        clear hq
        have huq := hu9 q hq4
        have bd : IntKind.i64.wrap (m - atL u q) = m - atL u q := IntWalk.i64_in _ (by omega)
        have bn : IntKind.i64.wrap (-x.bend) = -x.bend := IntWalk.i64_in _ (by omega)
        have cq : wr.cell? ⟨bt, q, none⟩ = some (.int .i64 (atL u q)) := by
          rw [hT.cell q, tvA_at _ hq4, atL_snoc, if_neg (by have := HU.out; omega)]
        have hse : stepB x.bend u m = btwB (m - atL u q) (-x.bend) x.bend := by
          have h1 := HU.out
          have h2 := HQ.out
          unfold stepB
          rw [decide_eq_false (by intro h; rw [h] at h1; simp at h1; omega), Bool.false_or, show u.length - 1 = q by omega]
        cases hst : btwB (m - atL u q) (-x.bend) x.bend with
        | true =>
          have hst' : stepB x.bend u m = true := hse.trans hst
          obtain ⟨r, hr⟩ := part_split (x := x) (s := s) (k := k) (u := u) (m := m) (by rw [← HG.out.1]; exact hm1) (by rw [← HG.out.2]; exact hle) hst'
          have HSPL := Lib.hid (show all = (pre ++ (part x s k u m).map tv) ++ (gen (candS x s) (keepC x) k (u ++ [m])).map tv ++ (r.map tv ++ rest) by rw [HALL.out, hr]; simp [List.append_assoc])
          have HST := Lib.hid hst'
          clear hr hse hst'
          go_wp2_with fail
          go_quiet ((go_at_call 80; refine qt_of (between_q _ _ _ _)))
          have hq : Qt wr (wr.drewN nq) := ⟨nq, rfl⟩
          generalize wr.drewN nq = wq at hq ⊢
          have hTq := hT.qt hq
          have hGq := hGu.trans (Guar.call (own := own1) (hq.below _))
          have HJq := Lib.hid (sJ.step _ _ _ _ HJ.out (Keep.qt hq))
          have f0 := hTq.free p
          have cz : wq.cell? ⟨bt, p, none⟩ = some (.int .i64 z) := by rw [hTq.cell p, tvA_at _ (by omega), atL_snoc, if_pos HU.out.symm]
          have hT2 := hTq.set p (.int .i64 m)
          rw [tvA_set z m HU.out (by omega)] at hT2
          have hGu2 := hGq.set (c := ⟨bt, p, none⟩) hbW (.int .i64 m)
          have hW2 := hW.step hGu2
          have hJ2 := Lib.hid (sJ.step _ _ _ _ HJq.out (Keep.setCell (own := fun q => ¬ own1 q) wq ⟨bt, p, none⟩ (.int .i64 m) ho1))
          clear hWr s0 d1 x1 HJ hT hGu cq hgp
          go_upto_region 14 with fail
          clear cz f0
          generalize wq.setCell ⟨bt, p, none⟩ (.int .i64 m) = w2 at hT2 hW2 hJ2 hGu2 ⊢
          have hW2w := hW2.hW.1.cell 0
          have t0 : w2.cell? ⟨bt, 0, none⟩ = some (.int .i64 (atL (u ++ [m]) 0)) := hT2.cell 0
          have t1 : w2.cell? ⟨bt, 1, none⟩ = some (.int .i64 (atL (u ++ [m]) 1)) := hT2.cell 1
          have t2 : w2.cell? ⟨bt, 2, none⟩ = some (.int .i64 (atL (u ++ [m]) 2)) := hT2.cell 2
          have t3 : w2.cell? ⟨bt, 3, none⟩ = some (.int .i64 (atL (u ++ [m]) 3)) := hT2.cell 3
          have HS := HST
          clear hst
          go_wp2_with fail
          try rw [← bp1]
          refine (ih' own1 _ _ w2 (u ++ [m]) (p + 1) hW2 hJ2.out (by rw [List.length_append, List.length_singleton, HU.out]) (by have := HPK.out; omega) hu2 HSPL.out).mono ?_
          rintro e w3 ⟨rfl, own3, hG3, hJ3⟩
          obtain ⟨hT3, ho3⟩ := hG3.blk hT2 ho1
          have hGu3 := hGu2.trans hG3
          have hJ3' := Lib.hid (show J own3 (pre ++ (part x s k u (m + 1)).map tv) w3 by rw [part_succ (by rw [← HG.out.1]; exact hm1), if_pos HS.out]; simpa [List.append_assoc] using hJ3)
          clear hJ3 hG3 hT2 hW2 hJ2 hGu2 t0 t1 t2 t3 hW2w
          go_wp2_with fail
          go_roundw
          case rel => exact ⟨m + 1, m, own3, by omega, by omega, by go_num, hGu3, ho3, hT3, hJ3'⟩
          case measure => simp [intOf]; omega
        | false =>
          have hJm := Lib.hid (show J own1 (pre ++ (part x s k u (m + 1)).map tv) wr by rw [part_succ (by rw [← HG.out.1]; exact hm1), if_neg (by rw [hse, hst]; decide), List.append_nil]; exact HJ.out)
          clear hse ih'
          go_wp2_with fail
          go_quiet ((go_at_call 80; refine qt_of (between_q _ _ _ _)))
          have hq : Qt wr (wr.drewN nq) := ⟨nq, rfl⟩
          generalize wr.drewN nq = wq at hq ⊢
          have hTq := hT.qt hq
          have hGq := hGu.trans (Guar.call (own := own1) (hq.below _))
          have HJq := Lib.hid (sJ.step _ _ _ _ hJm.out (Keep.qt hq))
          clear hWr s0 d1 x1 cq HJ hT hGu hJm
          go_wp2_with fail
          go_roundw
          case rel => exact ⟨m + 1, z, own1, by omega, by omega, by go_num, hGq, ho1, hTq, HJq⟩
          case measure => simp [intOf]; omega
    · obtain rfl : m = gh s p + 1 := by omega
      go_wp2_with fail
      go_ret
      refine ⟨rfl, own1, hGu, ?_⟩
      have := HJ.out
      rw [HG.out.2, prt_all] at this
      exact this

end Go.Proofs.Ytgdifckmjdjcpaa
