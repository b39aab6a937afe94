/- The reference's grow and Truths (edge): all truths, in their order; conditions: a valid edge whose claims read as a list. -/
import Derived.Test.YtgdifckmjdjcpaaRtr
import Derived.Test.YtgdifckmjdjcpaaPick
import Derived.Test.YtgdifckmjdjcpaaEof
import Derived.Test.YtgdifckmjdjcpaaTq
namespace Go.Proofs.Ytgdifckmjdjcpaa
open Go.RowKit

theorem blk_one {b : Nat} {u : Value} {t : TypeId} {w : World} (h : Blk b #[u] t w) : Arr (fun q => q = b) w (.slice (some ⟨b, 0, none⟩) 1 1) 1 [u] :=
  ⟨_, 1, rfl, Nat.le_refl _, ⟨by unfold maxLen; omega, by simp⟩, .inr ⟨b, 0, rfl, rfl, h.lt, fun j v hj => by
    rw [Nat.zero_add, h.cell j, ← hj]; simp⟩⟩
theorem rows_one {A : Nat → Prop} {w : World} {rs : List Value} {out : List (List Int)} (h1 : rs.length = out.length) (h3 : ∀ i (a : i < rs.length) (b : i < out.length), Ints A w rs[i] out[i]) : ∀ u ∈ rs, u.oneCell' = true := by
  intro u hu
  obtain ⟨i, hi, rfl⟩ := List.getElem_of_mem hu
  obtain ⟨a, c, he, -, -⟩ := (h3 i hi (by omega)).shape
  rw [he]
  rfl
/-- Rows appended to a slice of slices. -/
theorem gputs {A : Nat → Prop} {B : Nat} {w w3 : World} {v v' : Value} {out out2 : List (List Int)} {vs rs : List Value} (h1 : vs.length = out.length)
    (h3 : ∀ i (a : i < vs.length) (b : i < out.length), Ints (fun k => A k ∧ v.ownBlock ≠ some k) w vs[i] out[i]) (r1 : rs.length = out2.length)
    (r3 : ∀ i (a : i < rs.length) (b : i < out2.length), Ints (fun k => A k ∧ v.ownBlock ≠ some k) w rs[i] out2[i])
    (ho : Own B w3 27 1 v' (out.length + out2.length) (vs ++ rs)) (hT : Turned w w3 v v') : GO A B w3 v' (out ++ out2) := by
  have hpl : ∀ k, k < w.heap.size → v.ownBlock ≠ some k → v'.ownBlock ≠ some k := fun k hk hv e => by
    rcases hT.place with e1 | e1
    · exact hv (e1 ▸ e)
    · rw [e1] at e; simp at e; omega
  have hs3 := hT.size
  have go : ∀ (u : Value) (x : List Int), Ints (fun k => A k ∧ v.ownBlock ≠ some k) w u x → Ints (fun k => A k ∧ v'.ownBlock ≠ some k) w3 u x := fun u x h =>
    ((h.wide (A' := fun k => A k ∧ v.ownBlock ≠ some k ∧ k < w.heap.size) fun k hk hl => ⟨hk.1, hk.2, hl⟩).step (w' := w3) (by omega) fun k hk hl => hT.block k (by omega) hk.2.1).wide fun k hk hl => ⟨hk.1, hpl k hk.2.2 hk.2.1⟩
  refine ⟨vs ++ rs, by simp [h1, r1], by rw [List.length_append]; exact ho, fun i a b => ?_⟩
  by_cases hi : i < vs.length
  · rw [List.getElem_append_left hi, List.getElem_append_left (by omega)]
    exact go _ _ (h3 i hi (by omega))
  · rw [List.getElem_append_right (by omega), List.getElem_append_right (by omega)]
    have e : i - vs.length = i - out.length := by omega
    simp only [e]
    exact go _ _ (r3 _ (by simp at a; omega) (by simp at b; omega))

/-- What a row in the making is: a row of its own, a literal apart from it, in what order they came does not matter. -/
structure GS (wd : World) (d : Int) (ro : Option (Value × List Int)) (li : Option Nat) (c : World) : Prop where
  below : Below wd.heap.size wd c
  row : ∀ v l, ro = some (v, l) → Own wd.heap.size c 3 1 v l.length (I64 l)
  lit : ∀ b, li = some b → Blk b #[.int .i64 d] 3 c ∧ wd.heap.size ≤ b
  apart : ∀ (v : Value) (l : List Int) (b : Nat), ro = some (v, l) → li = some b → v.ownBlock ≠ some b
theorem GS.start (wd : World) (d : Int) : GS wd d none none wd := ⟨Below.refl _ _, fun _ _ h => (by cases h), fun _ h => (by cases h), fun _ _ _ h => (by cases h)⟩
theorem GS.call {wd c c' : World} {d : Int} {row : Option (Value × List Int)} {lit : Option Nat} (h : GS wd d row lit c) (hB : Below c.heap.size c c') : GS wd d row lit c' :=
  ⟨h.below.trans (hB.mono h.below.size), fun v l e => (h.row v l e).call hB, fun b e => ⟨(h.lit b e).1.call hB, (h.lit b e).2⟩, h.apart⟩
theorem GS.mkRow {wd c : World} {d : Int} {lit : Option Nat} (h : GS wd d none lit c) : GS wd d (some (.slice (some ⟨c.heap.size, 0, none⟩) 0 0, [])) lit (c.alloc (.cells #[] 3)) := by
  refine ⟨h.below.alloc h.below.size _, fun v l e => ?_, fun b e => ⟨(h.lit b e).1.alloc _, (h.lit b e).2⟩, fun v l b e e2 => ?_⟩
  · injection e with e
    injection e with e1 e2
    subst e1
    subst e2
    exact own_from (own_lit c 3 1 #[] 0 rfl (by omega)) h.below.size
  · injection e with e
    injection e with e1 e3
    subst e1
    have := (h.lit b e2).1.lt
    simp [Value.ownBlock]
    omega
theorem GS.mkLit {wd c : World} {d : Int} {row : Option (Value × List Int)} (h : GS wd d row none c) : GS wd d row (some c.heap.size) (c.alloc (.cells #[.int .i64 d] 3)) := by
  refine ⟨h.below.alloc h.below.size _, fun v l e => (h.row v l e).alloc _, fun b e => ?_, fun v l b e e2 hb => ?_⟩
  · injection e with e
    subst e
    exact ⟨Blk.new _ _ _, h.below.size⟩
  · injection e2 with e2
    subst e2
    have := (World.ownsRow.lt (h.row v l e) _ hb).2
    omega
theorem GS.turn {wd c c' : World} {d : Int} {lit : Option Nat} {v v' : Value} {l l' : List Int} (h : GS wd d (some (v, l)) lit c) (hO : Own wd.heap.size c' 3 1 v' l'.length (I64 l')) (hT : Turned c c' v v') : GS wd d (some (v', l')) lit c' := by
  have ho := h.row v l rfl
  refine ⟨hT.below2 ho h.below h.below.size (Nat.le_refl _), fun u m e => ?_, fun b e => ⟨(h.lit b e).1.keep (hT.block _ (h.lit b e).1.lt (h.apart v l b rfl e)), (h.lit b e).2⟩, fun u m b e e2 hb => ?_⟩
  · injection e with e
    injection e with e1 e2
    subst e1
    subst e2
    exact hO
  · injection e with e
    injection e with e1 e3
    subst e1
    rcases hT.place with e4 | e4
    · exact h.apart v l b rfl e2 (e4 ▸ hb)
    · rw [e4] at hb
      injection hb with hb
      have := (h.lit b e2).1.lt
      omega

/-- Truths that go on with one of the first offsets. -/
def growTo (x : Edg) (k : Nat) (t : List Int) (d : Nat) : List (List Int) := (((List.range d).map fun i : Nat => (i : Int)).filter (stepB x.bend t)).flatMap fun n => growF x k (t ++ [n])
theorem growTo_succ (x : Edg) (k : Nat) (t : List Int) (d : Nat) : growTo x k t (d + 1) = growTo x k t d ++ if stepB x.bend t (d : Int) = true then growF x k (t ++ [(d : Int)]) else [] := by
  unfold growTo
  rw [List.range_succ, List.map_append, List.filter_append, List.flatMap_append]
  congr 1
  by_cases h : stepB x.bend t (d : Int) = true
  · rw [if_pos h]; simp [h]
  · rw [if_neg h]; simp [h]
theorem growTo_all (x : Edg) (k : Nat) (t : List Int) : growTo x k t 10 = ((rng 0 9).filter (stepB x.bend t)).flatMap fun n => growF x k (t ++ [n]) := by
  unfold growTo rng
  simp
theorem growF_len (x : Edg) : ∀ (k : Nat) (t : List Int), (growF x k t).length ≤ 10 ^ k
  | 0, t => by unfold growF; split <;> simp
  | k + 1, t => by
    unfold growF
    split
    · refine Nat.le_trans (flat_len_le (m := 10 ^ k) _ fun a _ => growF_len x k _) ?_
      rw [Nat.pow_succ, Nat.mul_comm]
      refine Nat.mul_le_mul_left _ (Nat.le_trans (List.length_filter_le _ _) ?_)
      simp [rng]
    · simp
theorem growTo_len (x : Edg) (k : Nat) (t : List Int) (d : Nat) : (growTo x k t d).length ≤ d * 10 ^ k := by
  unfold growTo
  refine Nat.le_trans (flat_len_le (m := 10 ^ k) _ fun a _ => growF_len x k _) (Nat.mul_le_mul_right _ ?_)
  refine Nat.le_trans (List.length_filter_le _ _) ?_
  simp
theorem ok_at {P L : Int} {c : Cl} (h : c.Ok P) (h1 : c.point ≤ L - 1) (h2 : c.other ≤ L - 1) : c.Ok L := by
  refine ⟨h.k, ⟨h.p.1, h1⟩, ?_, h.a, h.e⟩
  have := h.o
  split at this
  · next hk => rw [if_pos hk]; omega
  · next hk => rw [if_neg hk]; exact this
/-- What a claim says as soon as its points are there. -/
def atB (t : List Int) (c : Cl) : Bool := decide (max c.point c.other ≠ (t.length : Int) - 1) || c.holds (atL t)
def GrowOk (x : Edg) (k : Nat) : Prop := ∀ (t : List Int), t.length + k = x.n → (∀ u ∈ t, 0 ≤ u ∧ u ≤ 9) → ∀ (w : World) (vx vt : Value) (A : Nat → Prop) (N : Nat), ClsM A w vx x.claims → Ints (fun q => N ≤ q) w vt t → N ≤ w.heap.size →
  Calls Try.prog 105 #[.agg #[.int .i64 x.points, .int .i64 x.bend, vx], vt] w fun e w' => ∃ v, e = .returned v ∧ Grid (fun q => N ≤ q) w' v (growF x k t) ∧ Below w.heap.size w w'
theorem grid_nil (A : Nat → Prop) (w : World) : Grid A w (.slice none 0 0) [] := ⟨[], rfl, ⟨none, 0, rfl, Nat.le_refl _, ⟨by unfold maxLen; omega, fun _ => rfl⟩, .inl rfl⟩, fun i a => by simp at a⟩

set_option maxRecDepth 100000 in
set_option maxHeartbeats 4000000 in
theorem grow_step {x : Edg} (hx : x.Ok) (k : Nat) (ih : ∀ j, k = j + 1 → GrowOk x j) : GrowOk x k := by
  intro t htl ht9 w vx vt A N h hT hN
  obtain ⟨ax, cx, rfl, _, _⟩ := h.shape
  obtain ⟨at1, ct, rfl, _, _⟩ := hT.shape
  have hxp := hx.p
  have hxb := hx.b
  have hxm := hx.m
  obtain ⟨n, hn⟩ : ∃ n : Nat, x.points = (n : Int) := ⟨x.points.toNat, by omega⟩
  have hxn : x.n = n := by unfold Edg.n; omega
  have htn : t.length ≤ 4 := by omega
  obtain ⟨w1, hw1⟩ : ∃ w1, w1 = w.alloc (.cells #[.int .i64 x.points, .int .i64 x.bend, .slice ax x.claims.length cx] 24) := ⟨_, rfl⟩
  obtain ⟨b0, hb0⟩ : ∃ b, b = w.heap.size := ⟨_, rfl⟩
  have hX1 : Blk b0 #[.int .i64 x.points, .int .i64 x.bend, .slice ax x.claims.length cx] 24 w1 := by rw [hw1, hb0]; exact Blk.new _ _ _
  have hB1 : Below w.heap.size w w1 := by rw [hw1]; exact (Below.refl _ w).alloc (Nat.le_refl _) _
  have h1 := h.call hB1
  have hT1 := hT.call hB1
  obtain ⟨L1, hL1⟩ : ∃ L1 : Int, L1 = (t.length : Int) - 1 := ⟨_, rfl⟩
  have bw : IntKind.i64.wrap ((t.length : Int) - 1) = L1 := by rw [IntWalk.i64_in _ (by omega), hL1]
  have hgr : growF x k t = if x.claims.all (atB t) = true then (match k with | 0 => [t] | k + 1 => growTo x k t 10) else [] := by
    cases k with
    | zero => rfl
    | succ k =>
      show _ = if _ then growTo x k t 10 else []
      rw [growTo_all]
      rfl
  have HGR := Lib.hid hgr
  have HL1 := Lib.hid hL1
  have HN := Lib.hid hn
  have HXN := Lib.hid hxn
  have HTL := Lib.hid htl
  clear hgr hL1 hn hxn htl h hT
  go_enter Try.func105, Try.ntmps105
  go_upto_region 1 with fail
  rw [← hw1, ← hb0]
  have hbw : w.heap.size ≤ b0 := Nat.le_of_eq hb0.symm
  clear hw1 hb0
  go_wp2_with fail
  go_loopw [5] (fun vi wr => ∃ j : Nat, j ≤ x.claims.length ∧ vi = .int .i64 j ∧ Hid ((x.claims.take j).all (atB t) = true) ∧ Below w1.heap.size w1 wr) (fun vi _ => x.claims.length - (intOf vi).toNat)
  case atStart => exact ⟨0, Nat.zero_le _, rfl, Lib.hid rfl, Below.refl _ _⟩
  case round =>
    obtain ⟨j, hj, rfl, HP, hB⟩ := hrel
    have hXr := hX1.call hB
    have hCr := h1.call hB
    have hTr := hT1.call hB
    have hBw := bnx hB1 hB
    have c2 := hXr.cell 2
    by_cases hlt : j < x.claims.length
    · obtain ⟨gc, o, rfl, hA, hgc⟩ := cls_addr hCr (by omega)
      obtain ⟨d0, d1, d2, d3, d4⟩ := cls_at hCr j hlt
      have hok := hx.c _ (List.getElem_mem hlt)
      have hpt := hok.p
      have hsn := List.take_succ_eq_append_getElem hlt
      have hmem := List.getElem_mem hlt
      obtain ⟨c, hc⟩ : ∃ c, c = x.claims[j] := ⟨_, rfl⟩
      rw [← hc] at d0 d1 d2 d3 d4 hok hpt hsn hmem
      have HSN := Lib.hid hsn
      have HMEM := Lib.hid hmem
      clear hc hsn hmem
      obtain ⟨w5, hw5⟩ : ∃ w5, w5 = wr.alloc (.cells #[.int .i64 c.kind, .int .i64 c.point, .int .i64 c.other, .int .i64 c.off, .int .i64 c.err] 26) := ⟨_, rfl⟩
      obtain ⟨b6, hb6⟩ : ∃ b, b = wr.heap.size := ⟨_, rfl⟩
      have hC5 : Blk b6 #[.int .i64 c.kind, .int .i64 c.point, .int .i64 c.other, .int .i64 c.off, .int .i64 c.err] 26 w5 := by rw [hw5, hb6]; exact Blk.new _ _ _
      have hB5 : Below wr.heap.size wr w5 := by rw [hw5]; exact (Below.refl _ _).alloc (Nat.le_refl _) _
      have hT5 := hTr.call hB5
      have hB15 := bnx hB hB5
      go_upto_region 5 with fail
      rw [← hw5, ← hb6]
      clear hw5 hb6 d0 d1 d2 d3 d4 c2
      have e0 := hC5.cell 0
      have e1 := hC5.cell 1
      have e2 := hC5.cell 2
      have e3 := hC5.cell 3
      have e4 := hC5.cell 4
      have htr : c.point ≤ L1 → c.other ≤ L1 → Calls Try.prog 103 #[c.val, (.slice at1 t.length ct)] w5 fun e w' => e = .returned (.bool (c.holds (atL t))) ∧ Below w5.heap.size w5 w' := fun g1 g2 =>
        rtrue_c hT5 (P := (t.length : Int)) (Int.le_refl _) (ok_at hok (by have := HL1.out; omega) (by have := HL1.out; omega)) ht9
      have HTR := Lib.hid htr
      clear htr
      by_cases hpo : c.point < c.other
      · have hmx : max c.point c.other = c.other := by omega
        by_cases hme : c.other = L1
        · have hq : (c.other == L1) = true := by rw [beq_iff_eq]; exact hme
          have htr := HTR.out (by omega) (by omega)
          have HT2 := Lib.hid htr
          have hab : atB t c = c.holds (atL t) := by unfold atB; rw [hmx, hme, HL1.out]; simp
          have HAB := Lib.hid hab
          clear htr hab hme hmx
          cases hh : c.holds (atL t) with
          | true =>
            have HH := Lib.hid hh
            clear hh
            go_wp2_with fail
            refine HT2.out.mono ?_
            rintro e w6 ⟨rfl, hB6⟩
            rw [HH.out]
            go_wp2_with fail
            go_roundw
            case rel => exact ⟨j + 1, by omega, by go_num, Lib.hid (by rw [HSN.out, List.all_append, HP.out, List.all_cons, HAB.out, HH.out]; rfl), bnx hB15 hB6⟩
            case measure => simp [intOf]; omega
          | false =>
            have HH := Lib.hid hh
            clear hh
            go_wp2_with fail
            refine HT2.out.mono ?_
            rintro e w6 ⟨rfl, hB6⟩
            rw [HH.out]
            go_wp2_with fail
            go_ret
            rw [HGR.out, if_neg (fun h => by have := List.all_eq_true.1 h c HMEM.out; rw [HAB.out, HH.out] at this; cases this)]
            exact ⟨_, rfl, grid_nil _ _, bnx hB1 (bnx hB15 hB6)⟩
        · have hq : (c.other == L1) = false := by rw [beq_eq_false_iff_ne]; exact hme
          have HAB := Lib.hid (show atB t c = true by unfold atB; rw [hmx, decide_eq_true (by rw [← HL1.out]; exact hme)]; rfl)
          clear hme hmx
          go_wp2_with fail
          go_roundw
          case rel => exact ⟨j + 1, by omega, by go_num, Lib.hid (by rw [HSN.out, List.all_append, HP.out, List.all_cons, HAB.out]; rfl), hB15⟩
          case measure => simp [intOf]; omega
      · have hmx : max c.point c.other = c.point := by omega
        have hpo' : c.other ≤ c.point := by omega
        by_cases hme : c.point = L1
        · have hq : (c.point == L1) = true := by rw [beq_iff_eq]; exact hme
          have htr := HTR.out (by omega) (by omega)
          have HT2 := Lib.hid htr
          have hab : atB t c = c.holds (atL t) := by unfold atB; rw [hmx, hme, HL1.out]; simp
          have HAB := Lib.hid hab
          clear htr hab hme hmx
          cases hh : c.holds (atL t) with
          | true =>
            have HH := Lib.hid hh
            clear hh
            go_wp2_with fail
            refine HT2.out.mono ?_
            rintro e w6 ⟨rfl, hB6⟩
            rw [HH.out]
            go_wp2_with fail
            go_roundw
            case rel => exact ⟨j + 1, by omega, by go_num, Lib.hid (by rw [HSN.out, List.all_append, HP.out, List.all_cons, HAB.out, HH.out]; rfl), bnx hB15 hB6⟩
            case measure => simp [intOf]; omega
          | false =>
            have HH := Lib.hid hh
            clear hh
            go_wp2_with fail
            refine HT2.out.mono ?_
            rintro e w6 ⟨rfl, hB6⟩
            rw [HH.out]
            go_wp2_with fail
            go_ret
            rw [HGR.out, if_neg (fun h => by have := List.all_eq_true.1 h c HMEM.out; rw [HAB.out, HH.out] at this; cases this)]
            exact ⟨_, rfl, grid_nil _ _, bnx hB1 (bnx hB15 hB6)⟩
        · have hq : (c.point == L1) = false := by rw [beq_eq_false_iff_ne]; exact hme
          have HAB := Lib.hid (show atB t c = true by unfold atB; rw [hmx, decide_eq_true (by rw [← HL1.out]; exact hme)]; rfl)
          clear hme hmx
          go_wp2_with fail
          go_roundw
          case rel => exact ⟨j + 1, by omega, by go_num, Lib.hid (by rw [HSN.out, List.all_append, HP.out, List.all_cons, HAB.out]; rfl), hB15⟩
          case measure => simp [intOf]; omega
    · obtain rfl : j = x.claims.length := by omega
      have hall : x.claims.all (atB t) = true := by have := HP.out; rwa [List.take_length] at this
      have HG2 := Lib.hid (HGR.out.trans (if_pos hall))
      have hN1 : w.heap.size ≤ wr.heap.size := hBw.size
      have c0 := hXr.cell 0
      cases k with
      | zero =>
        have htp : ((t.length : Int) == x.points) = true := by rw [beq_iff_eq]; have := HN.out; have := HXN.out; have := HTL.out; omega
        go_wp2_with fail
        go_ret
        rw [HG2.out]
        refine ⟨_, rfl, ⟨[.slice at1 t.length ct], rfl, (arr_one wr 27 _).wide fun q hq _ => by omega, fun i a b => ?_⟩, bal2 hBw⟩
        have : i = 0 := by simpa using a
        subst this
        exact hTr.call ((Below.refl _ _).alloc (Nat.le_refl _) _)
      | succ k =>
        have htp : ((t.length : Int) == x.points) = false := by rw [beq_eq_false_iff_ne]; have := HN.out; have := HXN.out; have := HTL.out; omega
        have hk3 : k ≤ 3 := by have := HN.out; have := HXN.out; have := HTL.out; omega
        have hp10 : 10 ^ k ≤ 1000 := Nat.pow_le_pow_right (by decide) hk3 (n := 10)
        have hih := ih k rfl
        have HIH0 := Lib.hid hih
        have htls : t.length ≤ 3 := by have := HN.out; have := HXN.out; have := HTL.out; omega
        clear ih hih
        obtain ⟨N0, hN0⟩ : ∃ N0, N0 = wr.heap.size := ⟨_, rfl⟩
        have hz0 : N0 ≤ wr.heap.size := Nat.le_of_eq hN0
        have hz1 : wr.heap.size ≤ N0 := Nat.le_of_eq hN0.symm
        clear hN0
        rename World => w1'
        have hX2 := hXr
        have hC2 := hCr
        have hT2 := hTr
        have hBw2 := hBw
        clear hXr hCr hTr hBw hB
        go_wp2_with fail
        clear c0 c2
        go_loopw [7, 8] (fun vo vi wr => ∃ d : Nat, d ≤ 10 ∧ vi = .int .i64 d ∧ GO (fun q => N0 ≤ q) N0 wr vo (growTo x k t d) ∧ Below N0 w1' wr ∧ N0 ≤ wr.heap.size) (fun _ vi _ => 10 - (intOf vi).toNat)
        case atStart => exact ⟨0, by omega, rfl, GO.nil _ _ _, Below.refl _ _, hz0⟩
        case round =>
          obtain ⟨d, hd, rfl, hGo, hBr, hzr⟩ := hrel
          have hXr := Blk.below hX2 hBr (by have := hX2.lt; omega)
          have hCr := Elems.below (hC2.wide (A' := fun q => q < w1'.heap.size) fun q _ hq => hq) hBr fun q hq _ => by omega
          have hTr : Ints (fun q => q < w1'.heap.size) wr (.slice at1 t.length ct) t := (hT2.wide fun q _ hq => hq).below hBr fun q hq _ => by omega
          by_cases hlt : d < 10
          · have hd9 : (d : Int) ≤ 9 := by omega
            go_upto_region 14 with fail
            go_cut [67] from 44 to 77 (fun s67 wx => s67 = .bool (!stepB x.bend t (d : Int)) ∧ Qt wr wx)
            case first =>
              have x1 := hXr.cell 1
              rcases Nat.eq_zero_or_pos t.length with h0 | h0
              · have hst : stepB x.bend t (d : Int) = true := by unfold stepB; rw [List.length_eq_zero_iff.1 h0]; rfl
                have HST := Lib.hid hst
                have hg0 : decide (0 < t.length) = false := decide_eq_false (by omega)
                have h0l : t.length ≤ 0 := Nat.le_of_eq h0
                clear hst h0
                go_wp2_with fail
                go_quiet ((go_at_call 82; refine qt_of (inside_q _ _ _ _)))
                have hq8 : Qt wr (wr.drewN nq) := ⟨nq, rfl⟩
                generalize wr.drewN nq = wq at hq8 ⊢
                go_wp2_with fail
                go_meet
                case rel => exact ⟨by rw [HST.out]; rfl, hq8⟩
              · obtain ⟨q, hq⟩ : ∃ q, q = t.length - 1 := ⟨_, rfl⟩
                have bq : IntKind.i64.wrap ((t.length : Int) - 1) = (q : Int) := by rw [IntWalk.i64_in _ (by omega)]; omega
                have hgp : ((t.length : Int) > 0) := by omega
                have hqt : q < t.length := by omega
                obtain ⟨gt, ot, rfl, -, -, -⟩ := hTr.addr (by omega)
                have cq := hTr.cell q hqt
                have hu9 := ht9 _ (List.getElem_mem hqt)
                have hat : atL t q = t[q] := atL_at hqt
                obtain ⟨u, hu⟩ : ∃ u, u = t[q] := ⟨_, rfl⟩
                rw [← hu] at cq hu9 hat
                have hse : stepB x.bend t (d : Int) = btwB ((d : Int) - u) (-x.bend) x.bend := by
                  unfold stepB
                  rw [decide_eq_false (by intro h; rw [h] at h0; simp at h0), Bool.false_or, ← hq, hat]
                have HSE := Lib.hid hse
                have bd : IntKind.i64.wrap ((d : Int) - u) = (d : Int) - u := IntWalk.i64_in _ (by omega)
                have bn : IntKind.i64.wrap (-x.bend) = -x.bend := IntWalk.i64_in _ (by omega)
                clear hse hat hu hq bw
                cases hst : btwB ((d : Int) - u) (-x.bend) x.bend with
                | true =>
                  go_wp2_with fail
                  go_quiet ((go_at_call 82; refine qt_of (inside_q _ _ _ _)))
                  have hq8 : Qt wr (wr.drewN nq) := ⟨nq, rfl⟩
                  generalize wr.drewN nq = wq at hq8 ⊢
                  go_wp2_with fail
                  go_meet
                  case rel => exact ⟨by rw [HSE.out, hst]; rfl, hq8⟩
                | false =>
                  go_wp2_with fail
                  go_quiet ((go_at_call 82; refine qt_of (inside_q _ _ _ _)))
                  have hq8 : Qt wr (wr.drewN nq) := ⟨nq, rfl⟩
                  generalize wr.drewN nq = wq at hq8 ⊢
                  go_wp2_with fail
                  go_meet
                  case rel => exact ⟨by rw [HSE.out, hst]; rfl, hq8⟩
            case rest =>
              obtain ⟨rfl, hq9⟩ := hcut
              rename World => wq
              have hGo := hGo.call (hq9.below _)
              have hXr := hXr.qt hq9
              have hCr := hCr.qt hq9
              have hTr := hTr.qt hq9
              have hBr := hBr.trans (hq9.below _)
              have hzr : N0 ≤ wq.heap.size := by rw [hq9.size]; exact hzr
              have hts := growTo_succ x k t d
              cases hst : stepB x.bend t (d : Int) with
              | false =>
                rw [hst, if_neg (by decide), List.append_nil] at hts
                have HTS := Lib.hid hts
                clear hts
                go_wp2_with fail
                go_roundw
                case rel => exact ⟨d + 1, by omega, by go_num, by rw [HTS.out]; exact hGo, hBr, hzr⟩
                case measure => simp [intOf]; omega
              | true =>
                rw [hst, if_pos rfl] at hts
                have hl1 : (growTo x k t d).length ≤ 10000 := Nat.le_trans (growTo_len x k t d) (Nat.le_trans (Nat.mul_le_mul hd hp10) (by decide))
                have hl2 : (growF x k (t ++ [(d : Int)])).length ≤ 1000 := Nat.le_trans (growF_len x k _) hp10
                have hih2 : ∀ (w : World) (vx vt : Value) (A : Nat → Prop) (N : Nat), ClsM A w vx x.claims → Ints (fun q => N ≤ q) w vt (t ++ [(d : Int)]) → N ≤ w.heap.size → Calls Try.prog 105 #[.agg #[.int .i64 x.points, .int .i64 x.bend, vx], vt] w fun e w' => ∃ v, e = .returned v ∧ Grid (fun q => N ≤ q) w' v (growF x k (t ++ [(d : Int)])) ∧ Below w.heap.size w w' := HIH0.out (t ++ [(d : Int)]) (by have := HTL.out; simp; omega) (fun u hu => by
                  rcases List.mem_append.1 hu with h | h
                  · exact ht9 u h
                  · rw [List.mem_singleton] at h; subst h; omega)
                have HIH := Lib.hid hih2
                obtain ⟨out, hout⟩ : ∃ out, out = growTo x k t d := ⟨_, rfl⟩
                rw [← hout] at hGo hts hl1
                have HTS := Lib.hid hts
                clear hts hout hih2
                have hGo2 := hGo
                obtain ⟨_, _, ho0, _⟩ := hGo2
                obtain ⟨ao, co, rfl⟩ := own_slice ho0
                clear ho0
                go_wp2_with fail
                refine wp_region_mix2 (.pur 0 (.one 1 (.pur 3 (.pur 5 (.two 2 (.two 4 (.act 6 (.act 7 (.act 8 (.act 9 (.pur 10 .fin))))) 6 (.act 4 (.act 7 (.act 8 (.act 9 (.pur 10 .fin)))))) 6 (.act 2 (.act 4 (.act 7 (.act 8 (.act 9 (.pur 10 .fin))))))))))) 8 (XR b0 x.points x.bend (.slice ax x.claims.length cx)) (fun _ => True) (by kernel_rfl) (by kernel_rfl) rfl (by kernel_rfl) (hXr.qt ((Qt.refl _).drewN 1)) (fun wd hqd _ => ?_)
                have hXd := hXr.qt hqd
                have hCd := hCr.qt hqd
                have hTd := hTr.qt hqd
                have hGod := hGo.call (hqd.below _)
                have hBd0 : Below N0 w1' wd := hBr.trans (hqd.below _)
                have hNd : N0 ≤ wd.heap.size := by rw [hqd.size]; exact hzr
                have hown : ∀ q, (Value.slice ao out.length co).ownBlock = some q → q < wd.heap.size := fun q e => hGod.lt q e
                have hg := GS.start wd (d : Int)
                refine mix_pur2 rfl (fun K hK => ?_)
                go_simp
                first | refine ⟨_, fun _ => rfl, hK _ ?_⟩ | refine hK _ ?_
                clear hK K
                refine mix_load2 rfl rfl rfl (.agg #[.int .i64 x.points, .int .i64 x.bend, .slice ax x.claims.length cx]) (fun w' h => by have h : (XR b0 x.points x.bend (.slice ax x.claims.length cx)) w' := h; have e0 := XR.c0 h; have e1 := XR.c1 h; have e2 := XR.c2 h; go_simp) rfl ?_
                refine mix_pur2 rfl (fun K hK => ?_)
                go_simp
                first | refine ⟨_, fun _ => rfl, hK _ ?_⟩ | refine hK _ ?_
                clear hK K
                refine mix_pur2 rfl (fun K hK => ?_)
                go_simp
                first | refine ⟨_, fun _ => rfl, hK _ ?_⟩ | refine hK _ ?_
                clear hK K
                refine mix_two2 rfl rfl false false rfl rfl (fun K hK => ?_) (fun K hK => ?_)
                · go_simp
                  have hg := hg.mkRow
                  refine hK _ _ (hXd.call hg.below) ?_
                  clear hK K
                  obtain ⟨b2, hb2⟩ : ∃ b, b = wd.heap.size := ⟨_, rfl⟩
                  rw [← hb2] at hg ⊢
                  generalize wd.alloc (.cells #[] 3) = wa1 at hg ⊢
                  clear hb2
                  refine mix_two2 rfl rfl false false rfl rfl (fun K hK => ?_) (fun K hK => ?_)
                  · refine step_append_arr rfl _ _ 27 rfl 3 (.int .i64 0) 1 8 Try.underlying27 Try.info3 rfl (by decide) (by decide) hg.below.size (hg.row _ _ rfl) rfl (hTd.call hg.below) rfl (by rw [I64_len, Nat.mul_one]) (ints_one t) (by show 0 + t.length ≤ _; omega) ?_
                    intro v4 wa2 hO4 hT4
                    have hg := hg.turn (l' := t) (by simpa [I64] using hO4) hT4
                    obtain ⟨a4, c4, rfl⟩ := own_slice (hg.row _ _ rfl)
                    skip
                    refine hK _ _ (hXd.call hg.below) ?_
                    clear hK K hO4 hT4
                    refine mix_eff2 rfl false rfl (fun K hK => ?_)
                    go_simp
                    have hg := hg.mkLit
                    refine hK _ _ (hXd.call hg.below) ?_
                    clear hK K
                    obtain ⟨bl, hbl⟩ : ∃ b, b = wa2.heap.size := ⟨_, rfl⟩
                    rw [← hbl] at hg ⊢
                    generalize wa2.alloc (.cells #[.int .i64 (d : Int)] 3) = wa3 at hg ⊢
                    clear hbl
                    refine mix_eff2 rfl false rfl (fun K hK => ?_)
                    refine step_append_arr rfl _ _ 27 rfl 3 (.int .i64 0) 1 8 Try.underlying27 Try.info3 rfl (by decide) (by decide) hg.below.size (hg.row _ _ rfl) rfl (blk_one (hg.lit _ rfl).1) rfl rfl (one_int _) (by omega) ?_
                    intro v7 wa4 hO7 hT7
                    obtain ⟨a7, c7, rfl⟩ := own_slice hO7
                    have hg := hg.turn (l' := t ++ [(d : Int)]) (by rw [I64_append, List.length_append, List.length_singleton]; exact hO7) hT7
                    refine hK _ _ (hXd.call hg.below) ?_
                    clear hK K hO7 hT7
                    refine mix_eff2 rfl true rfl (fun K hK => ?_)
                    go_simp
                    refine (HIH.out wa4 (.slice ax x.claims.length cx) (.slice a7 (t.length + 1) c7) _ wd.heap.size (hCd.call hg.below) (Own.ints (hg.row _ _ rfl)) hg.below.size).mono ?_
                    rintro e wa5 ⟨vr, rfl, hG8, hB8⟩
                    have hg := hg.call hB8
                    refine hK _ _ trivial ?_
                    clear hK K
                    refine mix_eff2 rfl true rfl (fun K hK => ?_)
                    obtain ⟨vs, h1, ho, h3⟩ := hGod.call hg.below
                    obtain ⟨rs, r1, r2, r3⟩ := hG8
                    refine step_append_arr rfl _ _ 61 rfl 27 (.slice none 0 0) 1 24 Try.under61 Try.info27 rfl (by decide) (by decide) (by have := hg.below.size; omega) ho rfl r2 rfl (by rw [r1, Nat.mul_one]) (rows_one r1 r3) (by omega) ?_
                    intro v9 wa6 hO9 hT9
                    have hGn := gputs (out2 := growF x k (t ++ [(d : Int)])) h1 h3 r1 (fun i a b => (r3 i a b).wide fun q hq _ => ⟨by omega, fun e => by have := hown q e; omega⟩) hO9 hT9
                    have hBn := hT9.below2 (B' := N0) ho (hBd0.trans (hg.below.mono hNd)) (by have := hg.below.size; omega) (Nat.le_refl _)
                    have hzn : N0 ≤ wa6.heap.size := by have := hT9.size; have := hg.below.size; omega
                    refine hK _ _ trivial ?_
                    clear hK K
                    refine mix_pur2 rfl (fun K hK => ?_)
                    go_simp
                    first | refine ⟨_, fun _ => rfl, hK _ ?_⟩ | refine hK _ ?_
                    clear hK K
                    refine mix_done2 ?_
                    go_wp2_with fail
                    go_roundw
                    case rel => exact ⟨d + 1, by omega, by go_num, by rw [HTS.out]; exact hGn, hBn, hzn⟩
                    case measure => simp [intOf]; omega
                  · go_simp
                    have hg := hg.mkLit
                    refine hK _ _ (hXd.call hg.below) ?_
                    clear hK K
                    obtain ⟨bl, hbl⟩ : ∃ b, b = wa1.heap.size := ⟨_, rfl⟩
                    rw [← hbl] at hg ⊢
                    generalize wa1.alloc (.cells #[.int .i64 (d : Int)] 3) = wa2 at hg ⊢
                    clear hbl
                    refine mix_eff2 rfl false rfl (fun K hK => ?_)
                    refine step_append_arr rfl _ _ 27 rfl 3 (.int .i64 0) 1 8 Try.underlying27 Try.info3 rfl (by decide) (by decide) hg.below.size (hg.row _ _ rfl) rfl (hTd.call hg.below) rfl (by rw [I64_len, Nat.mul_one]) (ints_one t) (by show 0 + t.length ≤ _; omega) ?_
                    intro v4 wa3 hO4 hT4
                    have hg := hg.turn (l' := t) (by simpa [I64] using hO4) hT4
                    obtain ⟨a4, c4, rfl⟩ := own_slice (hg.row _ _ rfl)
                    skip
                    refine hK _ _ (hXd.call hg.below) ?_
                    clear hK K hO4 hT4
                    refine mix_eff2 rfl false rfl (fun K hK => ?_)
                    refine step_append_arr rfl _ _ 27 rfl 3 (.int .i64 0) 1 8 Try.underlying27 Try.info3 rfl (by decide) (by decide) hg.below.size (hg.row _ _ rfl) rfl (blk_one (hg.lit _ rfl).1) rfl rfl (one_int _) (by omega) ?_
                    intro v7 wa4 hO7 hT7
                    obtain ⟨a7, c7, rfl⟩ := own_slice hO7
                    have hg := hg.turn (l' := t ++ [(d : Int)]) (by rw [I64_append, List.length_append, List.length_singleton]; exact hO7) hT7
                    refine hK _ _ (hXd.call hg.below) ?_
                    clear hK K hO7 hT7
                    refine mix_eff2 rfl true rfl (fun K hK => ?_)
                    go_simp
                    refine (HIH.out wa4 (.slice ax x.claims.length cx) (.slice a7 (t.length + 1) c7) _ wd.heap.size (hCd.call hg.below) (Own.ints (hg.row _ _ rfl)) hg.below.size).mono ?_
                    rintro e wa5 ⟨vr, rfl, hG8, hB8⟩
                    have hg := hg.call hB8
                    refine hK _ _ trivial ?_
                    clear hK K
                    refine mix_eff2 rfl true rfl (fun K hK => ?_)
                    obtain ⟨vs, h1, ho, h3⟩ := hGod.call hg.below
                    obtain ⟨rs, r1, r2, r3⟩ := hG8
                    refine step_append_arr rfl _ _ 61 rfl 27 (.slice none 0 0) 1 24 Try.under61 Try.info27 rfl (by decide) (by decide) (by have := hg.below.size; omega) ho rfl r2 rfl (by rw [r1, Nat.mul_one]) (rows_one r1 r3) (by omega) ?_
                    intro v9 wa6 hO9 hT9
                    have hGn := gputs (out2 := growF x k (t ++ [(d : Int)])) h1 h3 r1 (fun i a b => (r3 i a b).wide fun q hq _ => ⟨by omega, fun e => by have := hown q e; omega⟩) hO9 hT9
                    have hBn := hT9.below2 (B' := N0) ho (hBd0.trans (hg.below.mono hNd)) (by have := hg.below.size; omega) (Nat.le_refl _)
                    have hzn : N0 ≤ wa6.heap.size := by have := hT9.size; have := hg.below.size; omega
                    refine hK _ _ trivial ?_
                    clear hK K
                    refine mix_pur2 rfl (fun K hK => ?_)
                    go_simp
                    first | refine ⟨_, fun _ => rfl, hK _ ?_⟩ | refine hK _ ?_
                    clear hK K
                    refine mix_done2 ?_
                    go_wp2_with fail
                    go_roundw
                    case rel => exact ⟨d + 1, by omega, by go_num, by rw [HTS.out]; exact hGn, hBn, hzn⟩
                    case measure => simp [intOf]; omega
                · go_simp
                  have hg := hg.mkLit
                  refine hK _ _ (hXd.call hg.below) ?_
                  clear hK K
                  obtain ⟨bl, hbl⟩ : ∃ b, b = wd.heap.size := ⟨_, rfl⟩
                  rw [← hbl] at hg ⊢
                  generalize wd.alloc (.cells #[.int .i64 (d : Int)] 3) = wa1 at hg ⊢
                  clear hbl
                  refine mix_eff2 rfl false rfl (fun K hK => ?_)
                  go_simp
                  have hg := hg.mkRow
                  refine hK _ _ (hXd.call hg.below) ?_
                  clear hK K
                  obtain ⟨b2, hb2⟩ : ∃ b, b = wa1.heap.size := ⟨_, rfl⟩
                  rw [← hb2] at hg ⊢
                  generalize wa1.alloc (.cells #[] 3) = wa2 at hg ⊢
                  clear hb2
                  refine mix_eff2 rfl false rfl (fun K hK => ?_)
                  refine step_append_arr rfl _ _ 27 rfl 3 (.int .i64 0) 1 8 Try.underlying27 Try.info3 rfl (by decide) (by decide) hg.below.size (hg.row _ _ rfl) rfl (hTd.call hg.below) rfl (by rw [I64_len, Nat.mul_one]) (ints_one t) (by show 0 + t.length ≤ _; omega) ?_
                  intro v4 wa3 hO4 hT4
                  have hg := hg.turn (l' := t) (by simpa [I64] using hO4) hT4
                  obtain ⟨a4, c4, rfl⟩ := own_slice (hg.row _ _ rfl)
                  skip
                  refine hK _ _ (hXd.call hg.below) ?_
                  clear hK K hO4 hT4
                  refine mix_eff2 rfl false rfl (fun K hK => ?_)
                  refine step_append_arr rfl _ _ 27 rfl 3 (.int .i64 0) 1 8 Try.underlying27 Try.info3 rfl (by decide) (by decide) hg.below.size (hg.row _ _ rfl) rfl (blk_one (hg.lit _ rfl).1) rfl rfl (one_int _) (by omega) ?_
                  intro v7 wa4 hO7 hT7
                  obtain ⟨a7, c7, rfl⟩ := own_slice hO7
                  have hg := hg.turn (l' := t ++ [(d : Int)]) (by rw [I64_append, List.length_append, List.length_singleton]; exact hO7) hT7
                  refine hK _ _ (hXd.call hg.below) ?_
                  clear hK K hO7 hT7
                  refine mix_eff2 rfl true rfl (fun K hK => ?_)
                  go_simp
                  refine (HIH.out wa4 (.slice ax x.claims.length cx) (.slice a7 (t.length + 1) c7) _ wd.heap.size (hCd.call hg.below) (Own.ints (hg.row _ _ rfl)) hg.below.size).mono ?_
                  rintro e wa5 ⟨vr, rfl, hG8, hB8⟩
                  have hg := hg.call hB8
                  refine hK _ _ trivial ?_
                  clear hK K
                  refine mix_eff2 rfl true rfl (fun K hK => ?_)
                  obtain ⟨vs, h1, ho, h3⟩ := hGod.call hg.below
                  obtain ⟨rs, r1, r2, r3⟩ := hG8
                  refine step_append_arr rfl _ _ 61 rfl 27 (.slice none 0 0) 1 24 Try.under61 Try.info27 rfl (by decide) (by decide) (by have := hg.below.size; omega) ho rfl r2 rfl (by rw [r1, Nat.mul_one]) (rows_one r1 r3) (by omega) ?_
                  intro v9 wa6 hO9 hT9
                  have hGn := gputs (out2 := growF x k (t ++ [(d : Int)])) h1 h3 r1 (fun i a b => (r3 i a b).wide fun q hq _ => ⟨by omega, fun e => by have := hown q e; omega⟩) hO9 hT9
                  have hBn := hT9.below2 (B' := N0) ho (hBd0.trans (hg.below.mono hNd)) (by have := hg.below.size; omega) (Nat.le_refl _)
                  have hzn : N0 ≤ wa6.heap.size := by have := hT9.size; have := hg.below.size; omega
                  refine hK _ _ trivial ?_
                  clear hK K
                  refine mix_pur2 rfl (fun K hK => ?_)
                  go_simp
                  first | refine ⟨_, fun _ => rfl, hK _ ?_⟩ | refine hK _ ?_
                  clear hK K
                  refine mix_done2 ?_
                  go_wp2_with fail
                  go_roundw
                  case rel => exact ⟨d + 1, by omega, by go_num, by rw [HTS.out]; exact hGn, hBn, hzn⟩
                  case measure => simp [intOf]; omega
          · obtain rfl : d = 10 := by omega
            have hGl := hGo.grid (C := fun q => N ≤ q) (fun q hq => by omega) (fun q hq => by omega)
            go_wp2_with fail
            go_ret
            rw [HG2.out]
            exact ⟨_, rfl, hGl, hBw2.trans (hBr.mono (by omega))⟩

theorem grow_ok {x : Edg} (hx : x.Ok) : ∀ k, GrowOk x k
  | 0 => grow_step hx 0 fun j h => by omega
  | k + 1 => grow_step hx (k + 1) fun j h => Nat.succ.inj h ▸ grow_ok hx k

theorem rtruths_c {A : Nat → Prop} {w : World} {x : Edg} {v : Value} (h : ClsM A w v x.claims) (hx : x.Ok) :
    Calls Try.prog 77 #[.agg #[.int .i64 x.points, .int .i64 x.bend, v]] w fun e w' => ∃ v', e = .returned v' ∧ Grid (fun q => w.heap.size ≤ q) w' v' (truthsF x) ∧ Below w.heap.size w w' := by
  obtain ⟨ax, cx, rfl, _, _⟩ := h.shape
  obtain ⟨w1, hw1⟩ : ∃ w1, w1 = w.alloc (.cells #[.int .i64 x.points, .int .i64 x.bend, .slice ax x.claims.length cx] 24) := ⟨_, rfl⟩
  obtain ⟨b0, hb0⟩ : ∃ b, b = w.heap.size := ⟨_, rfl⟩
  have hX1 : Blk b0 #[.int .i64 x.points, .int .i64 x.bend, .slice ax x.claims.length cx] 24 w1 := by rw [hw1, hb0]; exact Blk.new _ _ _
  have hB1 : Below w.heap.size w w1 := by rw [hw1]; exact (Below.refl _ w).alloc (Nat.le_refl _) _
  have h1 := h.call hB1
  have hgr := grow_ok hx x.n [] (by simp) (fun u hu => by cases hu) w1 _ (.slice none 0 0) A w1.heap.size h1 (ints_nil _ _) (Nat.le_refl _)
  rw [grow_truths hx] at hgr
  have HGR := Lib.hid hgr
  clear hgr
  go_enter Try.func77, Try.ntmps77
  go_upto_region 1 with fail
  rw [← hw1, ← hb0]
  clear hw1 hb0
  have c0 := hX1.cell 0
  have c1' := hX1.cell 1
  have c2 := hX1.cell 2
  go_wp2_with fail
  refine HGR.out.mono ?_
  rintro e w2 ⟨v', rfl, hG, hB2⟩
  go_wp2_with fail
  go_ret
  exact ⟨_, rfl, hG.wide fun q hq _ => Nat.le_trans hB1.size hq, bnx hB1 hB2⟩
  
end Go.Proofs.Ytgdifckmjdjcpaa
