/- EdgeWrong: what its walk hands back; conditions: the arguments read as an edge, a claim, a list of numbers. -/
import Derived.Test.YtgdifckmjdjcpaaRwr
import Derived.Test.YtgdifckmjdjcpaaIdl
import Derived.Test.YtgdifckmjdjcpaaEds
import Derived.Test.YtgdifckmjdjcpaaSae
import Derived.Test.YtgdifckmjdjcpaaSur
namespace Go.Proofs.Ytgdifckmjdjcpaa
open Go.RowKit

/-- What the region that makes the edges reads. -/
def BoS (b : Nat) (P B : Int) (v : Value) (c : Cl) (w : World) : Prop := Blk b #[.int .i64 P, .int .i64 B, v] 24 w ∧ Blk (b + 1) #[.int .i64 c.kind, .int .i64 c.point, .int .i64 c.other, .int .i64 c.off, .int .i64 c.err] 26 w
/-- A row of edges, and one of its own. -/
def ErS (b i : Nat) (y : Edg) (v : Value) (w : World) : Prop := w.cell? ⟨b, i * 3, none⟩ = some (.int .i64 y.points) ∧ w.cell? ⟨b, i * 3 + 1, none⟩ = some (.int .i64 y.bend) ∧ w.cell? ⟨b, i * 3 + 2, none⟩ = some v
theorem ErS.below {b i : Nat} {y : Edg} {v : Value} {B : Nat} {w w' : World} (h : ErS b i y v w) (hB : Below B w w') (hb : b < B) : ErS b i y v w' :=
  ⟨(cell_same (hB.block b hb)).trans h.1, (cell_same (hB.block b hb)).trans h.2.1, (cell_same (hB.block b hb)).trans h.2.2⟩
def BdE (b9 b i : Nat) (y : Edg) (v9 v : Value) (w : World) : Prop := Blk b9 #[.int .i64 y.points, .int .i64 y.bend, v9] 24 w ∧ ErS b i y v w

set_option maxRecDepth 100000 in
set_option maxHeartbeats 4000000 in
theorem edgeWrong_c {A A2 : Nat → Prop} {w : World} {vx vn : Value} {x : Edg} (h : ClsM A w vx x.claims) (c : Cl) {nums : List Int} (hn : Ints A2 w vn nums) : Calls Try.prog 16 #[.agg #[.int .i64 x.points, .int .i64 x.bend, vx], .agg #[.int .i64 c.kind, .int .i64 c.point, .int .i64 c.other, .int .i64 c.off, .int .i64 c.err], vn] w fun e w' => e = .returned (.bool true) ∧ Below w.heap.size w w' := by
  obtain ⟨ax, cx, rfl, hcx1, hcx2⟩ := h.shape
  obtain ⟨an, cn, rfl, _, _⟩ := hn.shape
  have n1 := h.len
  obtain ⟨w1, hw1⟩ : ∃ w1, w1 = (w.alloc (.cells #[.int .i64 x.points, .int .i64 x.bend, .slice ax x.claims.length cx] 24)).alloc (.cells #[.int .i64 c.kind, .int .i64 c.point, .int .i64 c.other, .int .i64 c.off, .int .i64 c.err] 26) := ⟨_, rfl⟩
  obtain ⟨b1, hb1⟩ : ∃ b, b = w.heap.size := ⟨_, rfl⟩
  have hX1 : Blk b1 #[.int .i64 x.points, .int .i64 x.bend, .slice ax x.claims.length cx] 24 w1 := by rw [hw1, hb1]; exact (Blk.new w _ _).alloc _
  have hC1 : Blk (b1 + 1) #[.int .i64 c.kind, .int .i64 c.point, .int .i64 c.other, .int .i64 c.off, .int .i64 c.err] 26 w1 := by rw [hw1, hb1]; exact blk_at (by simp) _ _
  have hB1 : Below w.heap.size w w1 := by rw [hw1]; exact bal2 ((Below.refl _ w).alloc (Nat.le_refl _) _)
  have hn1 := hn.call hB1
  go_enter Try.func16, Try.ntmps16
  go_upto_region 1 with fail
  rw [← hw1, ← hb1]
  clear hw1 hb1
  have c2 := hX1.cell 2
  by_cases h20 : 20 < x.claims.length
  · go_wp2_with fail
    refine (surveyed_c _).mono ?_
    rintro e w2 ⟨rfl, hB2⟩
    go_wp2_with fail
    go_ret
    exact ⟨rfl, bnx hB1 hB2⟩
  · go_wp2_with fail
    refine wp_region_mix2 (.one 0 (.one 1 (.pur 2 (.act 3 (.act 4 (.pur 5 .fin)))))) 4 (BoS b1 x.points x.bend (.slice ax x.claims.length cx) c) (fun _ => True) (by kernel_rfl) (by kernel_rfl) rfl (by kernel_rfl) ⟨hX1.qt ((Qt.refl _).drewN 1), hC1.qt ((Qt.refl _).drewN 1)⟩ (fun wd hqd _ => ?_)
    refine mix_load2 rfl rfl rfl (.agg #[.int .i64 x.points, .int .i64 x.bend, .slice ax x.claims.length cx]) (fun w' h => by have h : (BoS b1 x.points x.bend (.slice ax x.claims.length cx) c) w' := h; have e0 := h.1.cell 0; have e1 := h.1.cell 1; have e2 := h.1.cell 2; go_simp) rfl ?_
    refine mix_load2 rfl rfl rfl (.agg #[.int .i64 c.kind, .int .i64 c.point, .int .i64 c.other, .int .i64 c.off, .int .i64 c.err]) (fun w' h => by have h : (BoS b1 x.points x.bend (.slice ax x.claims.length cx) c) w' := h; have e0 := h.2.cell 0; have e1 := h.2.cell 1; have e2 := h.2.cell 2; have e3 := h.2.cell 3; have e4 := h.2.cell 4; go_simp) rfl ?_
    refine mix_pur2 rfl (fun K hK => ?_)
    go_simp
    first | refine ⟨_, fun _ => rfl, hK _ ?_⟩ | refine hK _ ?_
    clear hK K
    refine mix_eff2 rfl false rfl (fun K hK => ?_)
    go_simp
    refine (newHand_c (hn1.qt hqd)).mono ?_
    rintro e w3 ⟨rfl, hH3, hB3⟩
    have hB13 : Below w.heap.size w w3 := hB1.trans ((bnx (hqd.below _) hB3).mono hB1.size)
    have hS3 : BoS b1 x.points x.bend (.slice ax x.claims.length cx) c w3 := ⟨(hX1.qt hqd).call hB3, (hC1.qt hqd).call hB3⟩
    refine hK _ _ hS3 ?_
    clear hK K
    refine mix_eff2 rfl true rfl (fun K hK => ?_)
    go_simp
    refine (edges_c hH3 (by omega) x ax x.claims.length cx c).mono ?_
    rintro e w4 ⟨⟨b, md, vm, vz, rfl, hmd, hmd6, hE4, hm4, hz4⟩, ⟨k4, hk4, hH4⟩, hG4⟩
    have hB4 := bhand hB13 hG4 (by have := hB1.size; rw [hqd.size]; exact this)
    refine hK _ _ trivial ?_
    clear hK K
    refine mix_pur2 rfl (fun K hK => ?_)
    go_simp
    first | refine ⟨_, fun _ => rfl, hK _ ?_⟩ | refine hK _ ?_
    clear hK K
    refine mix_done2 ?_
    have h4 := (h.wide (A' := fun q => q < w.heap.size) fun q _ hq => hq).below hB4 fun q hq _ => hq
    have hbl : b < w4.heap.size := Blk.lt hE4
    obtain ⟨am, cm, rfl, _, _⟩ := hm4.shape
    obtain ⟨az, cz, rfl, _, _⟩ := hz4.shape
    have hl : (md.add c).claims.length ≤ 7 := by unfold Edg.add; simp only [List.length_append, List.length_singleton]; omega
    have hrow : ∀ i, i < 3 → ∃ (y : Edg) (ay : Option Addr) (cy : Nat), ErS b i y (.slice ay y.claims.length cy) w4 ∧ ClsM (fun _ => True) w4 (.slice ay y.claims.length cy) y.claims ∧ y.claims.length ≤ 20 := by
      intro i hi
      have hi3 : i = 0 ∨ i = 1 ∨ i = 2 := by omega
      rcases hi3 with rfl | rfl | rfl
      · exact ⟨x, ax, cx, ⟨Blk.cell hE4 0, Blk.cell hE4 1, Blk.cell hE4 2⟩, h4.wide fun _ _ _ => trivial, by omega⟩
      · exact ⟨md, am, cm, ⟨Blk.cell hE4 3, Blk.cell hE4 4, Blk.cell hE4 5⟩, hm4.wide fun _ _ _ => trivial, by omega⟩
      · exact ⟨md.add c, az, cz, ⟨Blk.cell hE4 6, Blk.cell hE4 7, Blk.cell hE4 8⟩, hz4.wide fun _ _ _ => trivial, by omega⟩
    have HROW := Lib.hid hrow
    clear hrow hl hE4 hm4 hz4 h4 hmd hmd6 hS3 hH3 hB13 hX1 hC1 hn1 hB3
    go_wp2_with fail
    go_loopw [8] (fun vi wr => ∃ i : Nat, i ≤ 3 ∧ vi = .int .i64 i ∧ Below w4.heap.size w4 wr) (fun vi _ => 3 - (intOf vi).toNat)
    case atStart => exact ⟨0, by omega, rfl, Below.refl _ _⟩
    case round =>
      obtain ⟨i, hi, rfl, hBr⟩ := hrel
      by_cases hlt : i < 3
      · obtain ⟨y, ay, cy, hS4, hC4, hy20⟩ := HROW.out i hlt
        have hEq : ∀ w', Below w4.heap.size w4 w' → ErS b i y (.slice ay y.claims.length cy) w' := fun w' hb => hS4.below hb hbl
        have HEQ := Lib.hid hEq
        have hCr := hC4.call hBr
        obtain ⟨r0, r1, r2⟩ := HEQ.out wr hBr
        clear hS4 hEq
        go_wp2_with fail
        refine (copyEdge_c hCr (by omega)).mono ?_
        rintro e u0 ⟨vo, rfl, hOo, hU0⟩
        obtain ⟨ao, co, rfl⟩ := own_slice hOo
        obtain ⟨u1, hu1⟩ : ∃ u1, u1 = u0.alloc (.cells #[.int .i64 y.points, .int .i64 y.bend, .slice ao y.claims.length co] 24) := ⟨_, rfl⟩
        obtain ⟨b9, hb9⟩ : ∃ b, b = u0.heap.size := ⟨_, rfl⟩
        have hD1 : Blk b9 #[.int .i64 y.points, .int .i64 y.bend, .slice ao y.claims.length co] 24 u1 := by rw [hu1, hb9]; exact Blk.new _ _ _
        have hO1 := (Own.cls hOo).call ((Below.refl u0.heap.size u0).alloc (Nat.le_refl _) (.cells #[.int .i64 y.points, .int .i64 y.bend, .slice ao y.claims.length co] 24))
        rw [← hu1] at hO1
        have hU1 : Below wr.heap.size wr u1 := by rw [hu1]; exact bal2 hU0
        have hBu1 := bnx hBr hU1
        go_upto_region 8 with fail
        rw [← hu1, ← hb9]
        clear hu1 hb9 hOo hU0 hU1 r0 r1 r2
        have d0 := hD1.cell 0
        have d1 := hD1.cell 1
        have d2 := hD1.cell 2
        go_wp2_with fail
        refine (wrong_c hO1).mono ?_
        rintro e u2 ⟨v2, rfl, hV2, hU2⟩
        have hD2 := hD1.call hU2
        have hO2 := hO1.call hU2
        have hBu2 := bnx hBu1 hU2
        obtain ⟨a2, q2, rfl, _, _⟩ := hV2.shape
        clear d0 d1 d2 hD1 hO1 hU2
        obtain ⟨r0, r1, r2⟩ := HEQ.out u2 hBu2
        go_wp2_with fail
        refine (rwrong_c (hC4.call hBu2)).mono ?_
        rintro e u3 ⟨v3, rfl, hV3, hU3⟩
        have hD3 := hD2.call hU3
        have hO3 := hO2.call hU3
        have hV2 := hV2.call hU3
        have hBu3 := bnx hBu2 hU3
        obtain ⟨a3, q3, rfl, _, _⟩ := hV3.shape
        clear r0 r1 r2 hD2 hO2 hU3
        have hsm := sameInts_q hV2 hV3
        rw [beq_self_eq_true] at hsm
        have HSM := Lib.hid hsm
        obtain ⟨e1, he1⟩ : ∃ e, e = (wrongX y).2 := ⟨_, rfl⟩
        obtain ⟨L1, hL1⟩ : ∃ L, L = castN (wrongX y).1 := ⟨_, rfl⟩
        rw [← he1, ← hL1]
        rw [← hL1] at HSM
        clear hsm he1 hL1
        go_wp2_with fail
        refine HSM.out.mono ?_
        rintro e u4 ⟨rfl, hq4⟩
        have hD4 := hD3.qt hq4
        have hO4 := hO3.qt hq4
        have hBu4 := hBu3.trans (hq4.below _)
        clear HSM hD3 hO3 hV2 hV3
        have d0 := hD4.cell 0
        have d1 := hD4.cell 1
        have d2 := hD4.cell 2
        go_wp2_with fail
        refine (clash_c hO4).mono ?_
        rintro e u5 ⟨v5, rfl, hV5, hU5⟩
        have hD5 := hD4.call hU5
        have hO5 := hO4.call hU5
        have hBu5 := bnx hBu4 hU5
        obtain ⟨a5, q5, rfl, _, _⟩ := hV5.shape
        clear d0 d1 d2 hD4 hO4 hU5
        obtain ⟨r0, r1, r2⟩ := HEQ.out u5 hBu5
        go_wp2_with fail
        refine (rclash_c (hC4.call hBu5)).mono ?_
        rintro e u6 ⟨v6, rfl, hV6, hU6⟩
        have hD6 := hD5.call hU6
        have hO6 := hO5.call hU6
        have hV5 := hV5.call hU6
        have hBu6 := bnx hBu5 hU6
        obtain ⟨a6, q6, rfl, _, _⟩ := hV6.shape
        clear r0 r1 r2 hD5 hO5 hU6
        have hsm := sameInts_q hV5 hV6
        rw [beq_self_eq_true] at hsm
        have HSM := Lib.hid hsm
        obtain ⟨e2, he2⟩ : ∃ e, e = (clashX y).2 := ⟨_, rfl⟩
        obtain ⟨L2, hL2⟩ : ∃ L, L = castN (clashX y).1 := ⟨_, rfl⟩
        rw [← he2, ← hL2]
        rw [← hL2] at HSM
        clear hsm he2 hL2
        go_wp2_with fail
        refine HSM.out.mono ?_
        rintro e u7 ⟨rfl, hq7⟩
        have hD7 := hD6.qt hq7
        have hO7 := hO6.qt hq7
        have hBu7 := hBu6.trans (hq7.below _)
        clear HSM hD6 hO6 hV5 hV6
        have d0 := hD7.cell 0
        have d1 := hD7.cell 1
        have d2 := hD7.cell 2
        go_wp2_with fail
        refine (idle_c hO7).mono ?_
        rintro e u8 ⟨v8, rfl, hV8, hU8⟩
        have hD8 := hD7.call hU8
        have hO8 := hO7.call hU8
        have hBu8 := bnx hBu7 hU8
        obtain ⟨a8, q8, rfl, _, _⟩ := hV8.shape
        clear d0 d1 d2 hD7 hO7 hU8
        obtain ⟨r0, r1, r2⟩ := HEQ.out u8 hBu8
        go_wp2_with fail
        refine (ridle_c (hC4.call hBu8)).mono ?_
        rintro e u9 ⟨v9, rfl, hV9, hU9⟩
        have hD9 := hD8.call hU9
        have hO9 := hO8.call hU9
        have hV8 := hV8.call hU9
        have hBu9 := bnx hBu8 hU9
        obtain ⟨a9, q9, rfl, _, _⟩ := hV9.shape
        clear r0 r1 r2 hD8 hO8 hU9
        have hsm := sameInts_q hV8 hV9
        rw [beq_self_eq_true] at hsm
        have HSM := Lib.hid hsm
        obtain ⟨e3, he3⟩ : ∃ e, e = (idleX y).2 := ⟨_, rfl⟩
        obtain ⟨L3, hL3⟩ : ∃ L, L = castN (idleX y).1 := ⟨_, rfl⟩
        rw [← he3, ← hL3]
        rw [← hL3] at HSM
        have HLL := Lib.hid hL3.symm
        clear hsm he3 hL3
        have hC9 := hO9
        have hY9 := hC4.call hBu9
        have hF : ∀ w', Below u9.heap.size u9 w' → (BdE b9 b i y (.slice ao y.claims.length co) (.slice ay y.claims.length cy)) w' := fun w' hb => ⟨hD9.call hb, HEQ.out w' (bnx hBu9 hb)⟩
        have hsm2 : ∀ wd, Qt u9 wd → Calls Try.prog 47 #[.slice a8 L3.length q8, .slice a9 L3.length q9] wd fun e w' => e = .returned (.bool true) ∧ Qt wd w' := fun wd hqd => by
          have := sameInts_q (hV8.qt hqd) (hV9.qt hqd)
          rw [beq_self_eq_true, HLL.out] at this
          exact this
        have HSM2 := Lib.hid hsm2
        clear hsm2 HSM
        go_wp2_with fail
        refine wp_region_mix2 (.pur 0 (.pur 1 (.pur 2 (.pur 3 (.pur 4 (.pur 5 (.act 6 (.pur 7 (.pur 8 (.pur 9 (.one 10 (.pur 11 (.pur 12 (.pur 13 (.one 14 (.act 15 (.pur 16 (.pur 17 .fin)))))))))))))))))) 99 (BdE b9 b i y (.slice ao y.claims.length co) (.slice ay y.claims.length cy)) (fun _ => True) (by kernel_rfl) (by kernel_rfl) rfl (by kernel_rfl) (hF _ (((Qt.refl _).drewN 1).below _)) (fun wd hqd _ => ?_)
        refine mix_pur2 rfl (fun K hK => ?_)
        go_simp
        first | refine ⟨_, fun _ => rfl, hK _ ?_⟩ | refine hK _ ?_
        clear hK K
        refine mix_pur2 rfl (fun K hK => ?_)
        go_simp
        first | refine ⟨_, fun _ => rfl, hK _ ?_⟩ | refine hK _ ?_
        clear hK K
        refine mix_pur2 rfl (fun K hK => ?_)
        go_simp
        first | refine ⟨_, fun _ => rfl, hK _ ?_⟩ | refine hK _ ?_
        clear hK K
        refine mix_pur2 rfl (fun K hK => ?_)
        go_simp
        first | refine ⟨_, fun _ => rfl, hK _ ?_⟩ | refine hK _ ?_
        clear hK K
        refine mix_pur2 rfl (fun K hK => ?_)
        go_simp
        first | refine ⟨_, fun _ => rfl, hK _ ?_⟩ | refine hK _ ?_
        clear hK K
        refine mix_pur2 rfl (fun K hK => ?_)
        go_simp
        first | refine ⟨_, fun _ => rfl, hK _ ?_⟩ | refine hK _ ?_
        clear hK K
        refine mix_eff2 rfl false rfl (fun K hK => ?_)
        go_simp
        refine (HSM2.out wd hqd).mono ?_
        rintro e y1 ⟨rfl, hq1⟩
        have z1 : Below u9.heap.size u9 y1 := (hqd.below _).trans (hq1.below _)
        refine hK _ _ (hF _ z1) ?_
        clear hK K
        refine mix_pur2 rfl (fun K hK => ?_)
        go_simp
        first | refine ⟨_, fun _ => rfl, hK _ ?_⟩ | refine hK _ ?_
        clear hK K
        refine mix_pur2 rfl (fun K hK => ?_)
        go_simp
        first | refine ⟨_, fun _ => rfl, hK _ ?_⟩ | refine hK _ ?_
        clear hK K
        refine mix_pur2 rfl (fun K hK => ?_)
        go_simp
        first | refine ⟨_, fun _ => rfl, hK _ ?_⟩ | refine hK _ ?_
        clear hK K
        refine mix_loadg2 rfl rfl (.agg #[.int .i64 y.points, .int .i64 y.bend, .slice ao y.claims.length co]) (by go_simp) (fun w' h => by have h : (BdE b9 b i y (.slice ao y.claims.length co) (.slice ay y.claims.length cy)) w' := h; have e0 := h.1.cell 0; have e1 := h.1.cell 1; have e2 := h.1.cell 2; go_simp) rfl ?_
        refine mix_pur2 rfl (fun K hK => ?_)
        go_simp
        first | refine ⟨_, fun _ => rfl, hK _ ?_⟩ | refine hK _ ?_
        clear hK K
        refine mix_pur2 rfl (fun K hK => ?_)
        go_simp
        first | refine ⟨_, fun _ => rfl, hK _ ?_⟩ | refine hK _ ?_
        clear hK K
        refine mix_pur2 rfl (fun K hK => ?_)
        go_simp
        first | refine ⟨_, fun _ => rfl, hK _ ?_⟩ | refine hK _ ?_
        clear hK K
        refine mix_loadg2 rfl rfl (.agg #[.int .i64 y.points, .int .i64 y.bend, .slice ay y.claims.length cy]) (by go_simp) (fun w' h => by have h : (BdE b9 b i y (.slice ao y.claims.length co) (.slice ay y.claims.length cy)) w' := h; have e0 := h.2.1; have e1 := h.2.2.1; have e2 := h.2.2.2; go_simp) rfl ?_
        refine mix_eff2 rfl false rfl (fun K hK => ?_)
        go_simp
        refine (sameEdges_c (hC9.call z1) (hY9.call z1)).mono ?_
        rintro e y2 ⟨rfl, hy2⟩
        have z2 := z1.trans (hy2.mono z1.size)
        refine hK _ _ (hF _ z2) ?_
        clear hK K
        refine mix_pur2 rfl (fun K hK => ?_)
        go_simp
        first | refine ⟨_, fun _ => rfl, hK _ ?_⟩ | refine hK _ ?_
        clear hK K
        refine mix_pur2 rfl (fun K hK => ?_)
        go_simp
        first | refine ⟨_, fun _ => rfl, hK _ ?_⟩ | refine hK _ ?_
        clear hK K
        refine mix_done2 ?_
        go_wp2_with fail
        go_roundw
        case rel => exact ⟨i + 1, by omega, by go_num, hBu9.trans (z2.mono hBu9.size)⟩
        case measure => simp [intOf]; omega
      · obtain rfl : i = 3 := by omega
        go_wp2_with fail
        refine (surveyed_c _).mono ?_
        rintro e u1 ⟨rfl, hU1⟩
        go_wp2_with fail
        go_ret
        exact ⟨rfl, bnx (bnx hB4 hBr) hU1⟩

end Go.Proofs.Ytgdifckmjdjcpaa
