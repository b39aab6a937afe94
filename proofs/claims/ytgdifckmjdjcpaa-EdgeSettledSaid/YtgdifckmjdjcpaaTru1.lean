/- The truths that the edge's walk yields: what it keeps, and the call at a full list of offsets (edge); conditions: as said. -/
import Derived.Test.YtgdifckmjdjcpaaEdgR
import Derived.Test.YtgdifckmjdjcpaaBnd
import Derived.OwnWalkIn
import Derived.TacticsInMore
namespace Go.Proofs.Ytgdifckmjdjcpaa
open Go.RowKit

/-- What a call leaves of what is not the loop's. -/
structure Guar (own own' : Nat → Prop) (W W' : World) : Prop where
  sub : ∀ q, q < W.heap.size → own' q → own q
  keep : ∀ q, q < W.heap.size → ¬ own q → W'.heap[q]? = W.heap[q]?
  size : W.heap.size ≤ W'.heap.size
theorem Guar.refl (own : Nat → Prop) (W : World) : Guar own own W W := ⟨fun _ _ h => h, fun _ _ _ => rfl, Nat.le_refl _⟩
theorem Guar.trans {o o' o'' : Nat → Prop} {a b c : World} (h : Guar o o' a b) (k : Guar o' o'' b c) : Guar o o'' a c :=
  ⟨fun q hq h'' => h.sub q hq (k.sub q (Nat.lt_of_lt_of_le hq h.size) h''), fun q hq hn => (k.keep q (Nat.lt_of_lt_of_le hq h.size) (fun h' => hn (h.sub q hq h'))).trans (h.keep q hq hn), Nat.le_trans h.size k.size⟩
theorem Guar.call {own : Nat → Prop} {W W' : World} (h : Below W.heap.size W W') : Guar own own W W' := ⟨fun _ _ h => h, fun q hq _ => h.block q hq, h.size⟩
theorem Guar.blk {o o' : Nat → Prop} {W W' : World} (h : Guar o o' W W') {b : Nat} {c : Array Value} {t : TypeId} (hb : Blk b c t W) (hn : ¬ o b) : Blk b c t W' ∧ ¬ o' b := ⟨hb.keep (h.keep b hb.lt hn), fun h' => hn (h.sub b hb.lt h')⟩

/-- What the walk over the offsets reads. -/
structure WS (x : Edg) (n : Nat) (s : Bs) (lr bx bc bY bs bw g : Nat) (vx : Value) (own : Nat → Prop) (W : World) : Prop where
  hX : Blk bx #[.int .i64 (n : Int), .int .i64 x.bend, vx] 24 W ∧ ¬ own bx
  hC : ∃ vc, (Blk bc #[vc] 148 W ∧ ¬ own bc) ∧ Elems (fun c => [clV c]) (fun q => ¬ own q) W vc x.claims
  hY : Blk bY #[.func (.yield lr) #[] #[]] 127 W ∧ ¬ own bY
  hS : Blk bs #[.slice (some ⟨g, 0, none⟩) n n] 95 W ∧ ¬ own bs
  hE : EB g s W ∧ ¬ own g
  hW : Blk bw #[.func (.func 120) #[] #[.pointer (some ⟨bx, 0, none⟩), .pointer (some ⟨bc, 0, none⟩), .pointer (some ⟨bY, 0, none⟩), .pointer (some ⟨bs, 0, none⟩), .pointer (some ⟨bw, 0, none⟩)]] 149 W ∧ ¬ own bw
theorem WS.step {x : Edg} {n : Nat} {s : Bs} {lr bx bc bY bs bw g : Nat} {vx : Value} {o o' : Nat → Prop} {W W' : World} (h : WS x n s lr bx bc bY bs bw g vx o W) (hg : Guar o o' W W') : WS x n s lr bx bc bY bs bw g vx o' W' := by
  obtain ⟨vc, h1, h2⟩ := h.hC
  refine ⟨hg.blk h.hX.1 h.hX.2, ⟨vc, hg.blk h1.1 h1.2, ?_⟩, hg.blk h.hY.1 h.hY.2, hg.blk h.hS.1 h.hS.2, hg.blk h.hE.1 h.hE.2, hg.blk h.hW.1 h.hW.2⟩
  exact (h2.wide (A' := fun q => q < W.heap.size ∧ ¬ o q) fun k hk hl => ⟨hl, hk⟩).step hg.size (fun k hk hl => hg.keep k hl hk.2) |>.wide fun k hk _ h' => hk.2 (hg.sub k hk.1 h')

/-- An offset that is the whole truth's value. -/
def tv (t : List Int) : Value := .agg #[.int .i64 (atL t 0), .int .i64 (atL t 1), .int .i64 (atL t 2), .int .i64 (atL t 3)]

/-! Which method is called. -/
theorem mth133 (v : Value) (w : World) : (method 283 133 v "mesta/edge.holds").run Try.prog w = .ok (155, v) w := by kernel_rfl
theorem mth135 (v : Value) (w : World) : (method 283 135 v "mesta/edge.holds").run Try.prog w = .ok (156, v) w := by kernel_rfl
theorem mth136 (v : Value) (w : World) : (method 283 136 v "mesta/edge.holds").run Try.prog w = .ok (157, v) w := by kernel_rfl
theorem mth137 (v : Value) (w : World) : (method 283 137 v "mesta/edge.holds").run Try.prog w = .ok (158, v) w := by kernel_rfl
theorem mth139 (v : Value) (w : World) : (method 283 139 v "mesta/edge.holds").run Try.prog w = .ok (159, v) w := by kernel_rfl

theorem one_len (c : Cl) : [clV c].length = 1 := rfl

set_option maxRecDepth 100000 in
set_option maxHeartbeats 2000000 in
theorem walk_leaf {x : Edg} (hx : x.Ok) {n : Nat} (hn : x.points = (n : Int)) {s : Bs} {lr bx bc bY bs bw g : Nat} {vx : Value} {all : List Value} {J : (Nat → Prop) → List Value → World → Prop} (sJ : SideV J) (hR : RndT lr all J)
    {own : Nat → Prop} {pre rest : List Value} {W : World} {u : List Int} (hW : WS x n s lr bx bc bY bs bw g vx own W) (hJ : J own pre W) (hu : u.length = n) (hu9 : ∀ i < 4, 0 ≤ atL u i ∧ atL u i ≤ 9) (hall : all = pre ++ (gen (candS x s) (keepC x) 0 u).map tv ++ rest) :
    Calls Try.prog 120 #[.agg #[.int .i64 (atL u 0), .int .i64 (atL u 1), .int .i64 (atL u 2), .int .i64 (atL u 3)], .int .i64 (n : Int), .pointer (some ⟨bx, 0, none⟩), .pointer (some ⟨bc, 0, none⟩), .pointer (some ⟨bY, 0, none⟩), .pointer (some ⟨bs, 0, none⟩), .pointer (some ⟨bw, 0, none⟩)] W
      fun e W' => e = .returned (.bool true) ∧ ∃ own', Guar own own' W W' ∧ J own' (pre ++ (gen (candS x s) (keepC x) 0 u).map tv) W' := by
  have hlt := sJ.lt own pre W hJ
  obtain ⟨W1, hW1⟩ : ∃ W1, W1 = W.alloc (.cells #[.int .i64 (atL u 0), .int .i64 (atL u 1), .int .i64 (atL u 2), .int .i64 (atL u 3)] 126) := ⟨_, rfl⟩
  obtain ⟨bt, hbt⟩ : ∃ b, b = W.heap.size := ⟨_, rfl⟩
  have hT1 : Blk bt #[.int .i64 (atL u 0), .int .i64 (atL u 1), .int .i64 (atL u 2), .int .i64 (atL u 3)] 126 W1 := by rw [hW1, hbt]; exact Blk.new _ _ _
  have hB1 : Below W.heap.size W W1 := by rw [hW1]; exact (Below.refl _ W).alloc (Nat.le_refl _) _
  have hw1 := hW.step (Guar.call hB1)
  have hJ1 := sJ.step _ _ _ _ hJ (Keep.call hB1)
  obtain ⟨vc, ⟨hc1, hc2⟩, hcl⟩ := hw1.hC
  obtain ⟨ac, cc, rfl, _, _⟩ := hcl.shape
  have hcn := hcl.len
  have x0 := hw1.hX.1.cell 0
  have y0 := hc1.cell 0
  have b1 : ((n : Int) == (n : Int)) = true := by simp
  have HLT := Lib.hid hlt
  have HR := Lib.hid hR
  have HALL := Lib.hid hall
  have HU := Lib.hid hu
  have HNN := Lib.hid hn
  clear hlt hR hall hu hn
  go_enter Try.func120, Try.ntmps120
  go_upto_region 1 with fail
  rw [← hW1, ← hbt]
  have hzt : W.heap.size ≤ bt := Nat.le_of_eq hbt.symm
  clear hW1 hbt
  go_wp2_with fail
  go_loopw [19] (fun i wr => ∃ j : Nat, j ≤ x.claims.length ∧ i = .int .i64 j ∧ Hid (∀ c ∈ x.claims.take j, c.holds (atL u) = true) ∧ Below W1.heap.size W1 wr) (fun i _ => x.claims.length - (intOf i).toNat)
  case atStart => exact ⟨0, Nat.zero_le _, rfl, Lib.hid (by simp), Below.refl _ _⟩
  case round =>
    obtain ⟨j, hj, rfl, HP, hB⟩ := hrel
    have hwr := hw1.step (Guar.call hB)
    have hTr := hT1.call hB
    have t0 := hTr.cell 0
    have t1 := hTr.cell 1
    have t2 := hTr.cell 2
    have t3 := hTr.cell 3
    by_cases hlt : j < x.claims.length
    · obtain ⟨gc, o, rfl, hA, hgc⟩ := Elems.addr one_len (by decide) hcl (by omega)
      have d0 := Elems.at one_len (hcl.call hB) j hlt 0 (by decide) _ rfl
      rw [Nat.mul_one, Nat.add_zero] at d0
      obtain ⟨c, hc⟩ : ∃ c, c = x.claims[j] := ⟨_, rfl⟩
      have hcok : c.Ok x.points := by rw [hc]; exact hx.c _ (List.getElem_mem _)
      rw [← hc] at d0
      have HC := Lib.hid hc
      clear hc
      have hk1 := hcok.k
      have hp1 := hcok.p
      rw [HNN.out] at hp1
      have hn4 : n ≤ 4 := by have := hx.p; have := HNN.out; omega
      obtain ⟨pt, hpt⟩ : ∃ pt : Nat, c.point = pt := ⟨c.point.toNat, by omega⟩
      have hpto : c.point.toNat = pt := by omega
      have hp4 : pt < 4 := by omega
      have hkk : c.kind = 1 ∨ c.kind = 2 ∨ c.kind = 3 ∨ c.kind = 4 ∨ c.kind = 5 := by omega
      rcases hkk with kk | kk | kk | kk | kk
      · have hv : clV c = .iface 133 (.agg #[.int .i64 (pt : Int), .int .i64 c.off]) := by unfold clV; rw [if_pos kk]; rw [hpt]
        have hh : c.holds (atL u) = (atL u pt == c.off) := by unfold Cl.holds; rw [if_pos kk]; rw [hpto]; rfl
        rw [hv] at d0
        have hm := mth133
        have HH := Lib.hid hh
        clear hh kk hk1 hp1 hpt hpto hv
        cases hb : c.holds (atL u) with
        | true =>
          rw [HH.out] at hb
          go_wp2_with fail
          refine (stone_c hp4 c.off u _).mono ?_
          rintro e w5 ⟨rfl, hB5⟩
          go_wp2_with fail
          go_roundw
          case rel => exact ⟨j + 1, by omega, by go_num, Lib.hid (fun c2 hc2 => by rw [List.take_succ_eq_append_getElem hlt, List.mem_append, List.mem_singleton] at hc2; rcases hc2 with hc2 | hc2; exact HP.out c2 hc2; rw [hc2, ← HC.out, HH.out]; exact hb), bnx hB hB5⟩
          case measure => simp [intOf]; omega
        | false =>
          have HN0 := Lib.hid (show gen (candS x s) (keepC x) 0 u = [] by unfold gen; rw [if_neg]; intro hk; unfold keepC at hk; rw [List.all_eq_true] at hk; have := hk c (by rw [HC.out]; exact List.getElem_mem _); rw [hb] at this; exact absurd this (by decide))
          rw [HH.out] at hb
          go_wp2_with fail
          refine (stone_c hp4 c.off u _).mono ?_
          rintro e w5 ⟨rfl, hB5⟩
          go_wp2_with fail
          go_ret
          have hBz := bnx (bnx hB1 hB) hB5
          rw [HN0.out]
          exact ⟨rfl, own, Guar.call hBz, by simpa using sJ.step _ _ _ _ hJ (Keep.call hBz)⟩
      · have hco : 0 ≤ c.off ∧ c.off ≤ 9 := by have ha := hcok.a; rw [if_neg (by omega)] at ha; exact ha
        have hce : 0 ≤ c.err ∧ c.err ≤ 9 := by have he := hcok.e; rw [if_pos kk] at he; exact he
        have hv : clV c = .iface 135 (.agg #[.int .i64 (pt : Int), .int .i64 c.off, .int .i64 c.err]) := by unfold clV; rw [if_neg (by omega), if_pos kk]; rw [hpt]
        have hh : c.holds (atL u) = btwB (atL u pt) (c.off - c.err) (c.off + c.err) := by unfold Cl.holds; rw [if_neg (by omega), if_pos kk]; rw [hpto]
        rw [hv] at d0
        have hm := mth135
        have HH := Lib.hid hh
        clear hh kk hk1 hp1 hpt hpto hv
        cases hb : c.holds (atL u) with
        | true =>
          rw [HH.out] at hb
          go_wp2_with fail
          refine (measure_c hp4 hco hce u _).mono ?_
          rintro e w5 ⟨rfl, hB5⟩
          go_wp2_with fail
          go_roundw
          case rel => exact ⟨j + 1, by omega, by go_num, Lib.hid (fun c2 hc2 => by rw [List.take_succ_eq_append_getElem hlt, List.mem_append, List.mem_singleton] at hc2; rcases hc2 with hc2 | hc2; exact HP.out c2 hc2; rw [hc2, ← HC.out, HH.out]; exact hb), bnx hB hB5⟩
          case measure => simp [intOf]; omega
        | false =>
          have HN0 := Lib.hid (show gen (candS x s) (keepC x) 0 u = [] by unfold gen; rw [if_neg]; intro hk; unfold keepC at hk; rw [List.all_eq_true] at hk; have := hk c (by rw [HC.out]; exact List.getElem_mem _); rw [hb] at this; exact absurd this (by decide))
          rw [HH.out] at hb
          go_wp2_with fail
          refine (measure_c hp4 hco hce u _).mono ?_
          rintro e w5 ⟨rfl, hB5⟩
          go_wp2_with fail
          go_ret
          have hBz := bnx (bnx hB1 hB) hB5
          rw [HN0.out]
          exact ⟨rfl, own, Guar.call hBz, by simpa using sJ.step _ _ _ _ hJ (Keep.call hBz)⟩
      · have hv : clV c = .iface 136 (.agg #[.int .i64 (pt : Int), .int .i64 c.off]) := by unfold clV; rw [if_neg (by omega), if_neg (by omega), if_pos kk]; rw [hpt]
        have hh : c.holds (atL u) = decide (atL u pt ≤ c.off) := by unfold Cl.holds; rw [if_neg (by omega), if_neg (by omega), if_pos kk]; rw [hpto]
        rw [hv] at d0
        have hm := mth136
        have HH := Lib.hid hh
        clear hh kk hk1 hp1 hpt hpto hv
        cases hb : c.holds (atL u) with
        | true =>
          rw [HH.out] at hb
          go_wp2_with fail
          refine (within_c hp4 c.off u _).mono ?_
          rintro e w5 ⟨rfl, hB5⟩
          go_wp2_with fail
          go_roundw
          case rel => exact ⟨j + 1, by omega, by go_num, Lib.hid (fun c2 hc2 => by rw [List.take_succ_eq_append_getElem hlt, List.mem_append, List.mem_singleton] at hc2; rcases hc2 with hc2 | hc2; exact HP.out c2 hc2; rw [hc2, ← HC.out, HH.out]; exact hb), bnx hB hB5⟩
          case measure => simp [intOf]; omega
        | false =>
          have HN0 := Lib.hid (show gen (candS x s) (keepC x) 0 u = [] by unfold gen; rw [if_neg]; intro hk; unfold keepC at hk; rw [List.all_eq_true] at hk; have := hk c (by rw [HC.out]; exact List.getElem_mem _); rw [hb] at this; exact absurd this (by decide))
          rw [HH.out] at hb
          go_wp2_with fail
          refine (within_c hp4 c.off u _).mono ?_
          rintro e w5 ⟨rfl, hB5⟩
          go_wp2_with fail
          go_ret
          have hBz := bnx (bnx hB1 hB) hB5
          rw [HN0.out]
          exact ⟨rfl, own, Guar.call hBz, by simpa using sJ.step _ _ _ _ hJ (Keep.call hBz)⟩
      · have hv : clV c = .iface 137 (.agg #[.int .i64 (pt : Int), .int .i64 c.off]) := by unfold clV; rw [if_neg (by omega), if_neg (by omega), if_neg (by omega), if_pos kk]; rw [hpt]
        have hh : c.holds (atL u) = decide (c.off ≤ atL u pt) := by unfold Cl.holds; rw [if_neg (by omega), if_neg (by omega), if_neg (by omega), if_pos kk]; rw [hpto]
        rw [hv] at d0
        have hm := mth137
        have HH := Lib.hid hh
        clear hh kk hk1 hp1 hpt hpto hv
        cases hb : c.holds (atL u) with
        | true =>
          rw [HH.out] at hb
          go_wp2_with fail
          refine (beyond_c hp4 c.off u _).mono ?_
          rintro e w5 ⟨rfl, hB5⟩
          go_wp2_with fail
          go_roundw
          case rel => exact ⟨j + 1, by omega, by go_num, Lib.hid (fun c2 hc2 => by rw [List.take_succ_eq_append_getElem hlt, List.mem_append, List.mem_singleton] at hc2; rcases hc2 with hc2 | hc2; exact HP.out c2 hc2; rw [hc2, ← HC.out, HH.out]; exact hb), bnx hB hB5⟩
          case measure => simp [intOf]; omega
        | false =>
          have HN0 := Lib.hid (show gen (candS x s) (keepC x) 0 u = [] by unfold gen; rw [if_neg]; intro hk; unfold keepC at hk; rw [List.all_eq_true] at hk; have := hk c (by rw [HC.out]; exact List.getElem_mem _); rw [hb] at this; exact absurd this (by decide))
          rw [HH.out] at hb
          go_wp2_with fail
          refine (beyond_c hp4 c.off u _).mono ?_
          rintro e w5 ⟨rfl, hB5⟩
          go_wp2_with fail
          go_ret
          have hBz := bnx (bnx hB1 hB) hB5
          rw [HN0.out]
          exact ⟨rfl, own, Guar.call hBz, by simpa using sJ.step _ _ _ _ hJ (Keep.call hBz)⟩
      · have ho1 := hcok.o
        rw [if_pos kk, HNN.out] at ho1
        obtain ⟨qt, hqt⟩ : ∃ qt : Nat, c.other = qt := ⟨c.other.toNat, by omega⟩
        have hqto : c.other.toNat = qt := by omega
        have hq4 : qt < 4 := by omega
        have hco : -9 ≤ c.off ∧ c.off ≤ 9 := by have ha := hcok.a; rw [if_pos kk] at ha; exact ha
        have hv : clV c = .iface 139 (.agg #[.int .i64 (pt : Int), .int .i64 (qt : Int), .int .i64 c.off]) := by unfold clV; rw [if_neg (by omega), if_neg (by omega), if_neg (by omega), if_neg (by omega)]; rw [hpt, hqt]
        have hh : c.holds (atL u) = decide (atL u pt ≤ atL u qt + c.off) := by unfold Cl.holds; rw [if_neg (by omega), if_neg (by omega), if_neg (by omega), if_neg (by omega)]; rw [hpto, hqto]
        rw [hv] at d0
        have hm := mth139
        have HH := Lib.hid hh
        clear hh kk hk1 hp1 hqt hqto ho1 hpt hpto hv
        cases hb : c.holds (atL u) with
        | true =>
          rw [HH.out] at hb
          go_wp2_with fail
          refine (abreast_c hp4 hq4 hco hu9 _).mono ?_
          rintro e w5 ⟨rfl, hB5⟩
          go_wp2_with fail
          go_roundw
          case rel => exact ⟨j + 1, by omega, by go_num, Lib.hid (fun c2 hc2 => by rw [List.take_succ_eq_append_getElem hlt, List.mem_append, List.mem_singleton] at hc2; rcases hc2 with hc2 | hc2; exact HP.out c2 hc2; rw [hc2, ← HC.out, HH.out]; exact hb), bnx hB hB5⟩
          case measure => simp [intOf]; omega
        | false =>
          have HN0 := Lib.hid (show gen (candS x s) (keepC x) 0 u = [] by unfold gen; rw [if_neg]; intro hk; unfold keepC at hk; rw [List.all_eq_true] at hk; have := hk c (by rw [HC.out]; exact List.getElem_mem _); rw [hb] at this; exact absurd this (by decide))
          rw [HH.out] at hb
          go_wp2_with fail
          refine (abreast_c hp4 hq4 hco hu9 _).mono ?_
          rintro e w5 ⟨rfl, hB5⟩
          go_wp2_with fail
          go_ret
          have hBz := bnx (bnx hB1 hB) hB5
          rw [HN0.out]
          exact ⟨rfl, own, Guar.call hBz, by simpa using sJ.step _ _ _ _ hJ (Keep.call hBz)⟩
    · obtain rfl : j = x.claims.length := by omega
      have HN0 := Lib.hid (show gen (candS x s) (keepC x) 0 u = [u] by unfold gen; rw [if_pos]; unfold keepC; rw [List.all_eq_true]; intro c hc; exact HP.out c (by rw [List.take_length]; exact hc))
      have z0 := hwr.hY.1.cell 0
      have hBz := bnx hB1 hB
      have hJr := sJ.step _ _ _ _ hJ (Keep.call hBz)
      have hp : pre ++ [tv u] <+: all := by rw [HALL.out, HN0.out]; exact List.prefix_append _ _
      have hsz := hBz.size
      have hr := HR.out own pre (tv u) wr wr.heap.size hJr (fun k hk => by have := HLT.out k hk; omega) (Nat.le_refl _) hp
      obtain ⟨fn, tmps, assign, body, hy, hRr⟩ := hr
      have HRR := Lib.hid hRr
      clear hRr hp
      unfold tv at hy
      go_upto_region 8 with fail
      refine (wpIn_wide (n := 9)).1 ?_
      gi_wp2_with fail
      refine HRR.out.mono ?_
      rintro e w9 ⟨own', g1, g2, g3, rfl, hj9⟩
      simp only []
      go_at_K
      gi_wp2
      go_wp2
      go_ret
      have hg : Guar own own' W w9 := (Guar.call hBz).trans ⟨g1, g2, g3⟩
      rw [HN0.out]
      exact ⟨rfl, own', hg, hj9⟩

end Go.Proofs.Ytgdifckmjdjcpaa
