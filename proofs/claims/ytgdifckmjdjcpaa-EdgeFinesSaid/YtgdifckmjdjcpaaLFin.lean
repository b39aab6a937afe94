/- EdgeFines: what its walk hands back; conditions: the arguments read as an edge, furrows, numbers, a list of numbers. -/
import Derived.Test.YtgdifckmjdjcpaaTst
import Derived.Test.YtgdifckmjdjcpaaStp
import Derived.Test.YtgdifckmjdjcpaaStq
import Derived.Test.YtgdifckmjdjcpaaRfi
import Derived.Test.YtgdifckmjdjcpaaSae
import Derived.Test.YtgdifckmjdjcpaaSur
namespace Go.Proofs.Ytgdifckmjdjcpaa
open Go.RowKit

/-- A row of edges, and one of its own. -/
def ErS (b i : Nat) (y : Edg) (v : Value) (w : World) : Prop := w.cell? ⟨b, i * 3, none⟩ = some (.int .i64 y.points) ∧ w.cell? ⟨b, i * 3 + 1, none⟩ = some (.int .i64 y.bend) ∧ w.cell? ⟨b, i * 3 + 2, none⟩ = some v
theorem ErS.below {b i : Nat} {y : Edg} {v : Value} {B : Nat} {w w' : World} (h : ErS b i y v w) (hB : Below B w w') (hb : b < B) : ErS b i y v w' :=
  ⟨(cell_same (hB.block b hb)).trans h.1, (cell_same (hB.block b hb)).trans h.2.1, (cell_same (hB.block b hb)).trans h.2.2⟩
theorem FuC.mono {w u : World} {hb bx bm K K' : Nat} {x m : Edg} {vx vm vl vf : Value} {l f : List Fu} {e s i : Option (Nat × Array Value)} (h : FuC w hb bx x vx bm m vm vl l vf f e s i K u) (hk : K ≤ K') : FuC w hb bx x vx bm m vm vl l vf f e s i K' u :=
  ⟨by obtain ⟨k, h1, h2⟩ := h.hnd; exact ⟨k, by omega, h2⟩, h.hX, h.hM, h.rx, h.rm, h.rl, h.rf, h.he, h.hs, h.hi, h.below, h.hw⟩
/-- What is read while the inputs are dealt. -/
def MdS (bx : Nat) (x : Edg) (vx : Value) (bm : Nat) (m : Edg) (vm : Value) (w : World) : Prop := Blk bx #[.int .i64 x.points, .int .i64 x.bend, vx] 24 w ∧ Blk bm #[.int .i64 m.points, .int .i64 m.bend, vm] 24 w
/-- What stands at one place of the rows. -/
def RowE (q1 i : Nat) (y : Edg) (v : Value) (q2 : Nat) (vg : Value) (q3 : Nat) (ir : Int) (q4 : Nat) (ia : Int) (q5 : Nat) (ib : Int) (w : World) : Prop :=
  ErS q1 i y v w ∧ w.cell? ⟨q2, i, none⟩ = some vg ∧ w.cell? ⟨q3, i, none⟩ = some (.int .i64 ir) ∧ w.cell? ⟨q4, i, none⟩ = some (.int .i64 ia) ∧ w.cell? ⟨q5, i, none⟩ = some (.int .i64 ib)
theorem RowE.below {q1 i q2 q3 q4 q5 : Nat} {y : Edg} {v vg : Value} {ir ia ib : Int} {B : Nat} {w w' : World} (h : RowE q1 i y v q2 vg q3 ir q4 ia q5 ib w) (hB : Below B w w') (h1 : q1 < B) (h2 : q2 < B) (h3 : q3 < B) (h4 : q4 < B) (h5 : q5 < B) : RowE q1 i y v q2 vg q3 ir q4 ia q5 ib w' :=
  ⟨h.1.below hB h1, (cell_same (hB.block q2 h2)).trans h.2.1, (cell_same (hB.block q3 h3)).trans h.2.2.1, (cell_same (hB.block q4 h4)).trans h.2.2.2.1, (cell_same (hB.block q5 h5)).trans h.2.2.2.2⟩
def RowD (b9 : Nat) (y : Edg) (v9 : Value) (q1 i : Nat) (v : Value) (q2 : Nat) (vg : Value) (q3 : Nat) (ir : Int) (q4 : Nat) (ia : Int) (q5 : Nat) (ib : Int) (w : World) : Prop := Blk b9 #[.int .i64 y.points, .int .i64 y.bend, v9] 24 w ∧ RowE q1 i y v q2 vg q3 ir q4 ia q5 ib w
def FiT (a25 a27 : Nat) (R : (Int × Int) × Int) (b9 : Nat) (y : Edg) (v9 : Value) (q1 i : Nat) (v : Value) (q2 : Nat) (vg : Value) (q3 : Nat) (ir : Int) (q4 : Nat) (ia : Int) (q5 : Nat) (ib : Int) (w : World) : Prop :=
  Blk a25 #[.int .i64 R.1.1, .int .i64 R.1.2] 52 w ∧ Blk a27 #[.int .i64 R.1.1, .int .i64 R.1.2] 52 w ∧ RowD b9 y v9 q1 i v q2 vg q3 ir q4 ia q5 ib w
theorem ent36 : Ent 36 := ⟨_, Try.func36, rfl, by kernel_rfl⟩

set_option maxRecDepth 100000 in
set_option maxHeartbeats 100000000 in
theorem edgeFines_c {A A1 A2 : Nat → Prop} {w : World} {vx vl vn : Value} {x : Edg} (h : ClsM A w vx x.claims) {l : List Fu} (hl : FusM A1 w vl l) (rate lo hi : Int) {nums : List Int} (hn : Ints A2 w vn nums) : Calls Try.prog 4 #[.agg #[.int .i64 x.points, .int .i64 x.bend, vx], vl, .int .i64 rate, .int .i64 lo, .int .i64 hi, vn] w fun e w' => e = .returned (.bool true) ∧ Below w.heap.size w w' := by
  obtain ⟨ax, cx, rfl, hcx1, hcx2⟩ := h.shape
  obtain ⟨al, cl, rfl, hcl1, hcl2⟩ := hl.shape
  obtain ⟨an, cn, rfl, _, _⟩ := hn.shape
  have n1 := h.len
  have n2 := hl.len
  obtain ⟨w1, hw1⟩ : ∃ w1, w1 = w.alloc (.cells #[.int .i64 x.points, .int .i64 x.bend, .slice ax x.claims.length cx] 24) := ⟨_, rfl⟩
  obtain ⟨b1, hb1⟩ : ∃ b, b = w.heap.size := ⟨_, rfl⟩
  have hX1 : Blk b1 #[.int .i64 x.points, .int .i64 x.bend, .slice ax x.claims.length cx] 24 w1 := by rw [hw1, hb1]; exact Blk.new w _ _
  have hB1 : Below w.heap.size w w1 := by rw [hw1]; exact (Below.refl _ w).alloc (Nat.le_refl _) _
  have hn1 := hn.call hB1
  go_enter Try.func4, Try.ntmps4
  go_upto_region 1 with fail
  rw [← hw1, ← hb1]
  clear hw1 hb1
  have c2 := hX1.cell 2
  by_cases h20 : 20 < x.claims.length
  · have hd1 : decide (20 < x.claims.length) = true := decide_eq_true h20
    go_wp2_with fail
    refine (surveyed_c _).mono ?_
    rintro e w2 ⟨rfl, hB2⟩
    go_wp2_with fail
    go_ret
    exact ⟨rfl, bnx hB1 hB2⟩
  · by_cases h21 : 20 < l.length
    · go_wp2_with fail
      refine (surveyed_c _).mono ?_
      rintro e w2 ⟨rfl, hB2⟩
      go_wp2_with fail
      go_ret
      exact ⟨rfl, bnx hB1 hB2⟩
    · go_wp2_with fail
      refine (newHand_c hn1).mono ?_
      rintro e w2 ⟨rfl, hH2, hB2⟩
      obtain ⟨hb, hhb⟩ : ∃ b, b = w1.heap.size := ⟨_, rfl⟩
      have hb1 : b1 < hb := by rw [hhb]; exact hX1.lt
      have hb2 : w.heap.size ≤ hb := by rw [hhb]; exact hB1.size
      rw [← hhb] at hH2 ⊢
      have hX2 := hX1.call hB2
      have hBw2 := bnx hB1 hB2
      have hl2 := hH2.lt
      clear hhb c2 hX1 hB1 hB2 hn1
      go_wp2_with fail
      refine (edgeOf_c hH2 (by omega) (pts := 3) (cl := 4) (by omega) (by omega)).mono ?_
      rintro e w3 ⟨⟨m, vm, rfl, hm, hm3, hm4, hOm⟩, ⟨k3, hk3, hH3⟩, hG3⟩
      have hB3 := bhand hBw2 hG3 hb2
      have hX3 := hX2.hand hG3 (by omega)
      obtain ⟨am, cm, rfl⟩ := own_slice hOm
      obtain ⟨w4, hw4⟩ : ∃ w4, w4 = w3.alloc (.cells #[.int .i64 m.points, .int .i64 m.bend, .slice am m.claims.length cm] 24) := ⟨_, rfl⟩
      obtain ⟨bm, hbm⟩ : ∃ b, b = w3.heap.size := ⟨_, rfl⟩
      have hE4 : Below w3.heap.size w3 w4 := by rw [hw4]; exact (Below.refl _ _).alloc (Nat.le_refl _) _
      have hM4 : Blk bm #[.int .i64 m.points, .int .i64 m.bend, .slice am m.claims.length cm] 24 w4 := by rw [hw4, hbm]; exact Blk.new _ _ _
      have hX4 := hX3.call hE4
      have hH4 := hH3.call hE4
      have hB4 := bnx hB3 hE4
      have hOm4 := (Own.cls hOm).call hE4
      have hmp := hm.p
      go_upto_region 5 with fail
      rw [← hw4, ← hbm]
      clear hw4 hbm hX2 hX3 hOm hBw2 hB3 hH3 hG3 hE4
      have c0 := hM4.cell 0
      have c1 := hM4.cell 1
      have c2 := hM4.cell 2
      go_wp2_with fail
      refine (furrowsOf_c (B := m.bend) hH4 (by omega) hmp am m.claims.length cm).mono ?_
      rintro e w5 ⟨⟨f, vf, rfl, hfx, hOf⟩, ⟨k5, hk5, hH5⟩, hG5⟩
      have hlt4 := hH4.lt
      have hX5 := hX4.hand hG5 (by omega)
      have hM5 := hM4.hand hG5 (hM4.ne_hnd ⟨k3, Nat.le_refl _, hH4⟩ (by decide))
      have hm5 := hOm4.only hG5 (by omega)
      have hB5 := bhand hB4 hG5 hb2
      have hf5 := Own.fus hOf
      obtain ⟨af, cf, rfl⟩ := own_slice hOf
      have hf8 := (furX_facts hfx).1
      clear c0 c1 c2 hX4 hM4 hOm4 hB4 hOf hG5
      go_wp2_with fail
      refine (upto_c hH5 (by omega) 30 (by omega) (by omega)).mono ?_
      rintro e w6 ⟨⟨u0, rfl, hu0, hu0b⟩, ⟨k6, hk6, hH6⟩, hG6⟩
      have hlt5 := hH5.lt
      have hB6 := bhand hB5 hG6 hb2
      have hz4 := hH4.lt
      have hs0 : FuC w hb b1 x (.slice ax x.claims.length cx) bm m (.slice am m.claims.length cm) (.slice al l.length cl) l (.slice af f.length cf) f none none none 500 w6 :=
        ⟨⟨k6, by omega, hH6⟩, hX5.hand hG6 (by omega), hM5.hand hG6 (hM5.ne_hnd ⟨k5, Nat.le_refl _, hH5⟩ (by decide)),
          ((h.wide (A' := fun q => q < w.heap.size) fun q _ hq => hq).below hB6 fun q hq _ => hq).wide fun q hq hl => by omega,
          (hm5.only hG6 (by omega)).wide fun q hq hl => by omega,
          ((hl.wide (A' := fun q => q < w.heap.size) fun q _ hq => hq).below hB6 fun q hq _ => hq).wide fun q hq hl => by omega,
          (hf5.only hG6 (by omega)).wide fun q hq hl => by omega,
          fun q cs e => (by cases e), fun q cs e => (by cases e), fun q cs e => (by cases e), hB6, hb2⟩
      have hY : ∀ e s i K u, FuC w hb b1 x (.slice ax x.claims.length cx) bm m (.slice am m.claims.length cm) (.slice al l.length cl) l (.slice af f.length cf) f e s i K u → (MdS b1 x (.slice ax x.claims.length cx) bm m (.slice am m.claims.length cm)) u := fun e s i K u h => ⟨h.hX, h.hM⟩
      have HY := Lib.hid hY
      clear hY hH6 hG6 hX5 hM5 hm5 hf5 hB5 hB6 hH5 hH4 hfx
      go_upto_region 7 with fail
      go_cut [17, 18, 19] from 29 (fun s17 s18 s19 wx => ∃ (q1 q2 q3 : Nat) (u1 : Int), s17 = .slice (some ⟨q1, 0, none⟩) 3 3 ∧ s18 = .slice (some ⟨q2, 0, none⟩) 3 3 ∧ s19 = .slice (some ⟨q3, 0, none⟩) 3 3 ∧ FuC w hb b1 x (.slice ax x.claims.length cx) bm m (.slice am m.claims.length cm) (.slice al l.length cl) l (.slice af f.length cf) f (some (q1, #[.int .i64 x.points, .int .i64 x.bend, .slice ax x.claims.length cx, .int .i64 m.points, .int .i64 m.bend, .slice am m.claims.length cm, .int .i64 m.points, .int .i64 m.bend, .slice am m.claims.length cm])) (some (q2, #[.slice al l.length cl, .slice af f.length cf, .slice af f.length cf])) (some (q3, #[.int .i64 rate, .int .i64 u1, .int .i64 rate])) 600 wx)
      case first => as_aux_lemma =>
        refine wp_region_mix2 (.one 0 (.one 1 (.one 2 (.pur 4 (.pur 5 (.pur 6 (.pur 8 (.pur 9 (.pur 11 (.three 3 (.two 7 (.act 10 (.pur 13 (.pur 14 (.act 12 (.pur 15 .fin))))) 10 (.pur 13 (.two 7 (.pur 14 (.act 12 (.pur 15 .fin))) 12 (.act 7 (.pur 14 (.pur 15 .fin)))))) 7 (.two 3 (.act 10 (.pur 13 (.pur 14 (.act 12 (.pur 15 .fin))))) 10 (.two 3 (.pur 13 (.pur 14 (.act 12 (.pur 15 .fin)))) 12 (.act 3 (.pur 13 (.pur 14 (.pur 15 .fin)))))) 10 (.three 3 (.pur 13 (.two 7 (.pur 14 (.act 12 (.pur 15 .fin))) 12 (.act 7 (.pur 14 (.pur 15 .fin))))) 7 (.two 3 (.pur 13 (.pur 14 (.act 12 (.pur 15 .fin)))) 12 (.act 3 (.pur 13 (.pur 14 (.pur 15 .fin))))) 12 (.two 3 (.pur 13 (.act 7 (.pur 14 (.pur 15 .fin)))) 7 (.act 3 (.pur 13 (.pur 14 (.pur 15 .fin)))))))))))))))) 99 (MdS b1 x (.slice ax x.claims.length cx) bm m (.slice am m.claims.length cm)) (fun _ => True) (by kernel_rfl) (by kernel_rfl) rfl (by kernel_rfl) (HY.out _ _ _ _ _ (hs0.qt ((Qt.refl _).drewN 1))) (fun wd hqd _ => ?_)
        have hs := hs0.qt hqd
        refine mix_load2 rfl rfl rfl (.agg #[.int .i64 x.points, .int .i64 x.bend, .slice ax x.claims.length cx]) (fun w' h => by have h : (MdS b1 x (.slice ax x.claims.length cx) bm m (.slice am m.claims.length cm)) w' := h; have e0 := h.1.cell 0; have e1 := h.1.cell 1; have e2 := h.1.cell 2; go_simp) rfl ?_
        refine mix_load2 rfl rfl rfl (.agg #[.int .i64 m.points, .int .i64 m.bend, .slice am m.claims.length cm]) (fun w' h => by have h : (MdS b1 x (.slice ax x.claims.length cx) bm m (.slice am m.claims.length cm)) w' := h; have e0 := h.2.cell 0; have e1 := h.2.cell 1; have e2 := h.2.cell 2; go_simp) rfl ?_
        refine mix_load2 rfl rfl rfl (.agg #[.int .i64 m.points, .int .i64 m.bend, .slice am m.claims.length cm]) (fun w' h => by have h : (MdS b1 x (.slice ax x.claims.length cx) bm m (.slice am m.claims.length cm)) w' := h; have e0 := h.2.cell 0; have e1 := h.2.cell 1; have e2 := h.2.cell 2; go_simp) rfl ?_
        refine mix_pur2 rfl (fun K hK => ?_)
        go_simp
        first | refine ⟨_, fun _ => rfl, hK _ ?_⟩ | refine hK _ ?_
        clear hK K
        refine mix_pur2 rfl (fun K hK => ?_)
        go_simp
        first | refine ⟨_, fun _ => rfl, hK _ ?_⟩ | refine hK _ ?_
        clear hK K
        refine mix_pur2 rfl (fun K hK => ?_)
        go_simp
        first | refine ⟨_, fun _ => rfl, hK _ ?_⟩ | refine hK _ ?_
        clear hK K
        refine mix_pur2 rfl (fun K hK => ?_)
        go_simp
        first | refine ⟨_, fun _ => rfl, hK _ ?_⟩ | refine hK _ ?_
        clear hK K
        refine mix_pur2 rfl (fun K hK => ?_)
        go_simp
        first | refine ⟨_, fun _ => rfl, hK _ ?_⟩ | refine hK _ ?_
        clear hK K
        refine mix_pur2 rfl (fun K hK => ?_)
        go_simp
        first | refine ⟨_, fun _ => rfl, hK _ ?_⟩ | refine hK _ ?_
        clear hK K
        refine mix_three2 rfl rfl rfl false false false rfl rfl rfl (fun K hK => ?_) (fun K hK => ?_) (fun K hK => ?_)
        · refine step_lit2 29 24 3 rfl rfl rfl rfl Try.underlying29 inf24 (by decide) (cells := #[.int .i64 x.points, .int .i64 x.bend, .slice ax x.claims.length cx, .int .i64 m.points, .int .i64 m.bend, .slice am m.claims.length cm, .int .i64 m.points, .int .i64 m.bend, .slice am m.claims.length cm]) (fill_e3 _ _ _ _ _ _ _ _ _ _ _ _ _ _ _) (by kernel_rfl) ?_
          have hs := hs.lite #[.int .i64 x.points, .int .i64 x.bend, .slice ax x.claims.length cx, .int .i64 m.points, .int .i64 m.bend, .slice am m.claims.length cm, .int .i64 m.points, .int .i64 m.bend, .slice am m.claims.length cm]
          refine hK _ _ (HY.out _ _ _ _ _ hs) ?_
          clear hK K
          obtain ⟨q1, hq1⟩ : ∃ b, b = wd.heap.size := ⟨_, rfl⟩
          rw [← hq1] at hs ⊢
          generalize wd.alloc (.cells #[.int .i64 x.points, .int .i64 x.bend, .slice ax x.claims.length cx, .int .i64 m.points, .int .i64 m.bend, .slice am m.claims.length cm, .int .i64 m.points, .int .i64 m.bend, .slice am m.claims.length cm] 24) = wa1 at hs ⊢
          clear hq1
          refine mix_two2 rfl rfl false false rfl rfl (fun K hK => ?_) (fun K hK => ?_)
          · refine step_lit2 48 44 3 rfl rfl rfl rfl Try.underlying48 inf44 (by decide) (cells := #[.slice al l.length cl, .slice af f.length cf, .slice af f.length cf]) (fill_s3 _ _ _ _ _ _ _ _ _) (by kernel_rfl) ?_
            have hs := hs.lits #[.slice al l.length cl, .slice af f.length cf, .slice af f.length cf]
            refine hK _ _ (HY.out _ _ _ _ _ hs) ?_
            clear hK K
            obtain ⟨q2, hq2⟩ : ∃ b, b = wa1.heap.size := ⟨_, rfl⟩
            rw [← hq2] at hs ⊢
            generalize wa1.alloc (.cells #[.slice al l.length cl, .slice af f.length cf, .slice af f.length cf] 44) = wa2 at hs ⊢
            clear hq2
            refine mix_eff2 rfl false rfl (fun K hK => ?_)
            obtain ⟨kk, hkk, hHH⟩ := hs.hnd
            refine step_fn2 rfl rfl rfl ent36 rfl rfl (by kernel_rfl) (among_c hHH (by omega) 1 9 (by omega) (by omega) (by omega) (by omega)) ?_
            rintro e wa3 ⟨⟨u1, rfl, hu1, hu1b⟩, ⟨k9, hk9, hH9⟩, hG9⟩
            refine ⟨_, rfl, ?_⟩
            have hs := hs.hand (K' := 501) ⟨k9, by omega, hH9⟩ hG9
            refine hK _ _ (HY.out _ _ _ _ _ hs) ?_
            clear hK K hHH hH9 hG9 hkk hk9 kk k9 hu1 hu1b
            refine mix_pur2 rfl (fun K hK => ?_)
            go_simp
            first | refine ⟨_, fun _ => rfl, hK _ ?_⟩ | refine hK _ ?_
            clear hK K
            refine mix_pur2 rfl (fun K hK => ?_)
            go_simp
            first | refine ⟨_, fun _ => rfl, hK _ ?_⟩ | refine hK _ ?_
            clear hK K
            refine mix_eff2 rfl false rfl (fun K hK => ?_)
            refine step_lit2 27 3 3 rfl rfl rfl rfl Try.underlying27 Try.info3 (by decide) (cells := #[.int .i64 rate, .int .i64 u1, .int .i64 rate]) (fill_i3 _ _ _) (by kernel_rfl) ?_
            have hs := hs.liti #[.int .i64 rate, .int .i64 u1, .int .i64 rate]
            refine hK _ _ (HY.out _ _ _ _ _ hs) ?_
            clear hK K
            obtain ⟨q3, hq3⟩ : ∃ b, b = wa3.heap.size := ⟨_, rfl⟩
            rw [← hq3] at hs ⊢
            generalize wa3.alloc (.cells #[.int .i64 rate, .int .i64 u1, .int .i64 rate] 3) = wa4 at hs ⊢
            clear hq3
            refine mix_pur2 rfl (fun K hK => ?_)
            go_simp
            first | refine ⟨_, fun _ => rfl, hK _ ?_⟩ | refine hK _ ?_
            clear hK K
            refine mix_done2 ?_
            go_wp2_with fail
            go_meet
            case rel => exact ⟨q1, q2, q3, u1, rfl, rfl, rfl, hs.mono (by omega)⟩
          · obtain ⟨kk, hkk, hHH⟩ := hs.hnd
            refine step_fn2 rfl rfl rfl ent36 rfl rfl (by kernel_rfl) (among_c hHH (by omega) 1 9 (by omega) (by omega) (by omega) (by omega)) ?_
            rintro e wa2 ⟨⟨u1, rfl, hu1, hu1b⟩, ⟨k9, hk9, hH9⟩, hG9⟩
            refine ⟨_, rfl, ?_⟩
            have hs := hs.hand (K' := 501) ⟨k9, by omega, hH9⟩ hG9
            refine hK _ _ (HY.out _ _ _ _ _ hs) ?_
            clear hK K hHH hH9 hG9 hkk hk9 kk k9 hu1 hu1b
            refine mix_pur2 rfl (fun K hK => ?_)
            go_simp
            first | refine ⟨_, fun _ => rfl, hK _ ?_⟩ | refine hK _ ?_
            clear hK K
            refine mix_two2 rfl rfl false false rfl rfl (fun K hK => ?_) (fun K hK => ?_)
            · refine step_lit2 48 44 3 rfl rfl rfl rfl Try.underlying48 inf44 (by decide) (cells := #[.slice al l.length cl, .slice af f.length cf, .slice af f.length cf]) (fill_s3 _ _ _ _ _ _ _ _ _) (by kernel_rfl) ?_
              have hs := hs.lits #[.slice al l.length cl, .slice af f.length cf, .slice af f.length cf]
              refine hK _ _ (HY.out _ _ _ _ _ hs) ?_
              clear hK K
              obtain ⟨q2, hq2⟩ : ∃ b, b = wa2.heap.size := ⟨_, rfl⟩
              rw [← hq2] at hs ⊢
              generalize wa2.alloc (.cells #[.slice al l.length cl, .slice af f.length cf, .slice af f.length cf] 44) = wa3 at hs ⊢
              clear hq2
              refine mix_pur2 rfl (fun K hK => ?_)
              go_simp
              first | refine ⟨_, fun _ => rfl, hK _ ?_⟩ | refine hK _ ?_
              clear hK K
              refine mix_eff2 rfl false rfl (fun K hK => ?_)
              refine step_lit2 27 3 3 rfl rfl rfl rfl Try.underlying27 Try.info3 (by decide) (cells := #[.int .i64 rate, .int .i64 u1, .int .i64 rate]) (fill_i3 _ _ _) (by kernel_rfl) ?_
              have hs := hs.liti #[.int .i64 rate, .int .i64 u1, .int .i64 rate]
              refine hK _ _ (HY.out _ _ _ _ _ hs) ?_
              clear hK K
              obtain ⟨q3, hq3⟩ : ∃ b, b = wa3.heap.size := ⟨_, rfl⟩
              rw [← hq3] at hs ⊢
              generalize wa3.alloc (.cells #[.int .i64 rate, .int .i64 u1, .int .i64 rate] 3) = wa4 at hs ⊢
              clear hq3
              refine mix_pur2 rfl (fun K hK => ?_)
              go_simp
              first | refine ⟨_, fun _ => rfl, hK _ ?_⟩ | refine hK _ ?_
              clear hK K
              refine mix_done2 ?_
              go_wp2_with fail
              go_meet
              case rel => exact ⟨q1, q2, q3, u1, rfl, rfl, rfl, hs.mono (by omega)⟩
            · refine step_lit2 27 3 3 rfl rfl rfl rfl Try.underlying27 Try.info3 (by decide) (cells := #[.int .i64 rate, .int .i64 u1, .int .i64 rate]) (fill_i3 _ _ _) (by kernel_rfl) ?_
              have hs := hs.liti #[.int .i64 rate, .int .i64 u1, .int .i64 rate]
              refine hK _ _ (HY.out _ _ _ _ _ hs) ?_
              clear hK K
              obtain ⟨q3, hq3⟩ : ∃ b, b = wa2.heap.size := ⟨_, rfl⟩
              rw [← hq3] at hs ⊢
              generalize wa2.alloc (.cells #[.int .i64 rate, .int .i64 u1, .int .i64 rate] 3) = wa3 at hs ⊢
              clear hq3
              refine mix_eff2 rfl false rfl (fun K hK => ?_)
              refine step_lit2 48 44 3 rfl rfl rfl rfl Try.underlying48 inf44 (by decide) (cells := #[.slice al l.length cl, .slice af f.length cf, .slice af f.length cf]) (fill_s3 _ _ _ _ _ _ _ _ _) (by kernel_rfl) ?_
              have hs := hs.lits #[.slice al l.length cl, .slice af f.length cf, .slice af f.length cf]
              refine hK _ _ (HY.out _ _ _ _ _ hs) ?_
              clear hK K
              obtain ⟨q2, hq2⟩ : ∃ b, b = wa3.heap.size := ⟨_, rfl⟩
              rw [← hq2] at hs ⊢
              generalize wa3.alloc (.cells #[.slice al l.length cl, .slice af f.length cf, .slice af f.length cf] 44) = wa4 at hs ⊢
              clear hq2
              refine mix_pur2 rfl (fun K hK => ?_)
              go_simp
              first | refine ⟨_, fun _ => rfl, hK _ ?_⟩ | refine hK _ ?_
              clear hK K
              refine mix_pur2 rfl (fun K hK => ?_)
              go_simp
              first | refine ⟨_, fun _ => rfl, hK _ ?_⟩ | refine hK _ ?_
              clear hK K
              refine mix_done2 ?_
              go_wp2_with fail
              go_meet
              case rel => exact ⟨q1, q2, q3, u1, rfl, rfl, rfl, hs.mono (by omega)⟩
        · refine step_lit2 48 44 3 rfl rfl rfl rfl Try.underlying48 inf44 (by decide) (cells := #[.slice al l.length cl, .slice af f.length cf, .slice af f.length cf]) (fill_s3 _ _ _ _ _ _ _ _ _) (by kernel_rfl) ?_
          have hs := hs.lits #[.slice al l.length cl, .slice af f.length cf, .slice af f.length cf]
          refine hK _ _ (HY.out _ _ _ _ _ hs) ?_
          clear hK K
          obtain ⟨q2, hq2⟩ : ∃ b, b = wd.heap.size := ⟨_, rfl⟩
          rw [← hq2] at hs ⊢
          generalize wd.alloc (.cells #[.slice al l.length cl, .slice af f.length cf, .slice af f.length cf] 44) = wa1 at hs ⊢
          clear hq2
          refine mix_two2 rfl rfl false false rfl rfl (fun K hK => ?_) (fun K hK => ?_)
          · refine step_lit2 29 24 3 rfl rfl rfl rfl Try.underlying29 inf24 (by decide) (cells := #[.int .i64 x.points, .int .i64 x.bend, .slice ax x.claims.length cx, .int .i64 m.points, .int .i64 m.bend, .slice am m.claims.length cm, .int .i64 m.points, .int .i64 m.bend, .slice am m.claims.length cm]) (fill_e3 _ _ _ _ _ _ _ _ _ _ _ _ _ _ _) (by kernel_rfl) ?_
            have hs := hs.lite #[.int .i64 x.points, .int .i64 x.bend, .slice ax x.claims.length cx, .int .i64 m.points, .int .i64 m.bend, .slice am m.claims.length cm, .int .i64 m.points, .int .i64 m.bend, .slice am m.claims.length cm]
            refine hK _ _ (HY.out _ _ _ _ _ hs) ?_
            clear hK K
            obtain ⟨q1, hq1⟩ : ∃ b, b = wa1.heap.size := ⟨_, rfl⟩
            rw [← hq1] at hs ⊢
            generalize wa1.alloc (.cells #[.int .i64 x.points, .int .i64 x.bend, .slice ax x.claims.length cx, .int .i64 m.points, .int .i64 m.bend, .slice am m.claims.length cm, .int .i64 m.points, .int .i64 m.bend, .slice am m.claims.length cm] 24) = wa2 at hs ⊢
            clear hq1
            refine mix_eff2 rfl false rfl (fun K hK => ?_)
            obtain ⟨kk, hkk, hHH⟩ := hs.hnd
            refine step_fn2 rfl rfl rfl ent36 rfl rfl (by kernel_rfl) (among_c hHH (by omega) 1 9 (by omega) (by omega) (by omega) (by omega)) ?_
            rintro e wa3 ⟨⟨u1, rfl, hu1, hu1b⟩, ⟨k9, hk9, hH9⟩, hG9⟩
            refine ⟨_, rfl, ?_⟩
            have hs := hs.hand (K' := 501) ⟨k9, by omega, hH9⟩ hG9
            refine hK _ _ (HY.out _ _ _ _ _ hs) ?_
            clear hK K hHH hH9 hG9 hkk hk9 kk k9 hu1 hu1b
            refine mix_pur2 rfl (fun K hK => ?_)
            go_simp
            first | refine ⟨_, fun _ => rfl, hK _ ?_⟩ | refine hK _ ?_
            clear hK K
            refine mix_pur2 rfl (fun K hK => ?_)
            go_simp
            first | refine ⟨_, fun _ => rfl, hK _ ?_⟩ | refine hK _ ?_
            clear hK K
            refine mix_eff2 rfl false rfl (fun K hK => ?_)
            refine step_lit2 27 3 3 rfl rfl rfl rfl Try.underlying27 Try.info3 (by decide) (cells := #[.int .i64 rate, .int .i64 u1, .int .i64 rate]) (fill_i3 _ _ _) (by kernel_rfl) ?_
            have hs := hs.liti #[.int .i64 rate, .int .i64 u1, .int .i64 rate]
            refine hK _ _ (HY.out _ _ _ _ _ hs) ?_
            clear hK K
            obtain ⟨q3, hq3⟩ : ∃ b, b = wa3.heap.size := ⟨_, rfl⟩
            rw [← hq3] at hs ⊢
            generalize wa3.alloc (.cells #[.int .i64 rate, .int .i64 u1, .int .i64 rate] 3) = wa4 at hs ⊢
            clear hq3
            refine mix_pur2 rfl (fun K hK => ?_)
            go_simp
            first | refine ⟨_, fun _ => rfl, hK _ ?_⟩ | refine hK _ ?_
            clear hK K
            refine mix_done2 ?_
            go_wp2_with fail
            go_meet
            case rel => exact ⟨q1, q2, q3, u1, rfl, rfl, rfl, hs.mono (by omega)⟩
          · obtain ⟨kk, hkk, hHH⟩ := hs.hnd
            refine step_fn2 rfl rfl rfl ent36 rfl rfl (by kernel_rfl) (among_c hHH (by omega) 1 9 (by omega) (by omega) (by omega) (by omega)) ?_
            rintro e wa2 ⟨⟨u1, rfl, hu1, hu1b⟩, ⟨k9, hk9, hH9⟩, hG9⟩
            refine ⟨_, rfl, ?_⟩
            have hs := hs.hand (K' := 501) ⟨k9, by omega, hH9⟩ hG9
            refine hK _ _ (HY.out _ _ _ _ _ hs) ?_
            clear hK K hHH hH9 hG9 hkk hk9 kk k9 hu1 hu1b
            refine mix_two2 rfl rfl false false rfl rfl (fun K hK => ?_) (fun K hK => ?_)
            · refine step_lit2 29 24 3 rfl rfl rfl rfl Try.underlying29 inf24 (by decide) (cells := #[.int .i64 x.points, .int .i64 x.bend, .slice ax x.claims.length cx, .int .i64 m.points, .int .i64 m.bend, .slice am m.claims.length cm, .int .i64 m.points, .int .i64 m.bend, .slice am m.claims.length cm]) (fill_e3 _ _ _ _ _ _ _ _ _ _ _ _ _ _ _) (by kernel_rfl) ?_
              have hs := hs.lite #[.int .i64 x.points, .int .i64 x.bend, .slice ax x.claims.length cx, .int .i64 m.points, .int .i64 m.bend, .slice am m.claims.length cm, .int .i64 m.points, .int .i64 m.bend, .slice am m.claims.length cm]
              refine hK _ _ (HY.out _ _ _ _ _ hs) ?_
              clear hK K
              obtain ⟨q1, hq1⟩ : ∃ b, b = wa2.heap.size := ⟨_, rfl⟩
              rw [← hq1] at hs ⊢
              generalize wa2.alloc (.cells #[.int .i64 x.points, .int .i64 x.bend, .slice ax x.claims.length cx, .int .i64 m.points, .int .i64 m.bend, .slice am m.claims.length cm, .int .i64 m.points, .int .i64 m.bend, .slice am m.claims.length cm] 24) = wa3 at hs ⊢
              clear hq1
              refine mix_pur2 rfl (fun K hK => ?_)
              go_simp
              first | refine ⟨_, fun _ => rfl, hK _ ?_⟩ | refine hK _ ?_
              clear hK K
              refine mix_pur2 rfl (fun K hK => ?_)
              go_simp
              first | refine ⟨_, fun _ => rfl, hK _ ?_⟩ | refine hK _ ?_
              clear hK K
              refine mix_eff2 rfl false rfl (fun K hK => ?_)
              refine step_lit2 27 3 3 rfl rfl rfl rfl Try.underlying27 Try.info3 (by decide) (cells := #[.int .i64 rate, .int .i64 u1, .int .i64 rate]) (fill_i3 _ _ _) (by kernel_rfl) ?_
              have hs := hs.liti #[.int .i64 rate, .int .i64 u1, .int .i64 rate]
              refine hK _ _ (HY.out _ _ _ _ _ hs) ?_
              clear hK K
              obtain ⟨q3, hq3⟩ : ∃ b, b = wa3.heap.size := ⟨_, rfl⟩
              rw [← hq3] at hs ⊢
              generalize wa3.alloc (.cells #[.int .i64 rate, .int .i64 u1, .int .i64 rate] 3) = wa4 at hs ⊢
              clear hq3
              refine mix_pur2 rfl (fun K hK => ?_)
              go_simp
              first | refine ⟨_, fun _ => rfl, hK _ ?_⟩ | refine hK _ ?_
              clear hK K
              refine mix_done2 ?_
              go_wp2_with fail
              go_meet
              case rel => exact ⟨q1, q2, q3, u1, rfl, rfl, rfl, hs.mono (by omega)⟩
            · refine step_lit2 27 3 3 rfl rfl rfl rfl Try.underlying27 Try.info3 (by decide) (cells := #[.int .i64 rate, .int .i64 u1, .int .i64 rate]) (fill_i3 _ _ _) (by kernel_rfl) ?_
              have hs := hs.liti #[.int .i64 rate, .int .i64 u1, .int .i64 rate]
              refine hK _ _ (HY.out _ _ _ _ _ hs) ?_
              clear hK K
              obtain ⟨q3, hq3⟩ : ∃ b, b = wa2.heap.size := ⟨_, rfl⟩
              rw [← hq3] at hs ⊢
              generalize wa2.alloc (.cells #[.int .i64 rate, .int .i64 u1, .int .i64 rate] 3) = wa3 at hs ⊢
              clear hq3
              refine mix_eff2 rfl false rfl (fun K hK => ?_)
              refine step_lit2 29 24 3 rfl rfl rfl rfl Try.underlying29 inf24 (by decide) (cells := #[.int .i64 x.points, .int .i64 x.bend, .slice ax x.claims.length cx, .int .i64 m.points, .int .i64 m.bend, .slice am m.claims.length cm, .int .i64 m.points, .int .i64 m.bend, .slice am m.claims.length cm]) (fill_e3 _ _ _ _ _ _ _ _ _ _ _ _ _ _ _) (by kernel_rfl) ?_
              have hs := hs.lite #[.int .i64 x.points, .int .i64 x.bend, .slice ax x.claims.length cx, .int .i64 m.points, .int .i64 m.bend, .slice am m.claims.length cm, .int .i64 m.points, .int .i64 m.bend, .slice am m.claims.length cm]
              refine hK _ _ (HY.out _ _ _ _ _ hs) ?_
              clear hK K
              obtain ⟨q1, hq1⟩ : ∃ b, b = wa3.heap.size := ⟨_, rfl⟩
              rw [← hq1] at hs ⊢
              generalize wa3.alloc (.cells #[.int .i64 x.points, .int .i64 x.bend, .slice ax x.claims.length cx, .int .i64 m.points, .int .i64 m.bend, .slice am m.claims.length cm, .int .i64 m.points, .int .i64 m.bend, .slice am m.claims.length cm] 24) = wa4 at hs ⊢
              clear hq1
              refine mix_pur2 rfl (fun K hK => ?_)
              go_simp
              first | refine ⟨_, fun _ => rfl, hK _ ?_⟩ | refine hK _ ?_
              clear hK K
              refine mix_pur2 rfl (fun K hK => ?_)
              go_simp
              first | refine ⟨_, fun _ => rfl, hK _ ?_⟩ | refine hK _ ?_
              clear hK K
              refine mix_pur2 rfl (fun K hK => ?_)
              go_simp
              first | refine ⟨_, fun _ => rfl, hK _ ?_⟩ | refine hK _ ?_
              clear hK K
              refine mix_done2 ?_
              go_wp2_with fail
              go_meet
              case rel => exact ⟨q1, q2, q3, u1, rfl, rfl, rfl, hs.mono (by omega)⟩
        · obtain ⟨kk, hkk, hHH⟩ := hs.hnd
          refine step_fn2 rfl rfl rfl ent36 rfl rfl (by kernel_rfl) (among_c hHH (by omega) 1 9 (by omega) (by omega) (by omega) (by omega)) ?_
          rintro e wa1 ⟨⟨u1, rfl, hu1, hu1b⟩, ⟨k9, hk9, hH9⟩, hG9⟩
          refine ⟨_, rfl, ?_⟩
          have hs := hs.hand (K' := 501) ⟨k9, by omega, hH9⟩ hG9
          refine hK _ _ (HY.out _ _ _ _ _ hs) ?_
          clear hK K hHH hH9 hG9 hkk hk9 kk k9 hu1 hu1b
          refine mix_three2 rfl rfl rfl false false false rfl rfl rfl (fun K hK => ?_) (fun K hK => ?_) (fun K hK => ?_)
          · refine step_lit2 29 24 3 rfl rfl rfl rfl Try.underlying29 inf24 (by decide) (cells := #[.int .i64 x.points, .int .i64 x.bend, .slice ax x.claims.length cx, .int .i64 m.points, .int .i64 m.bend, .slice am m.claims.length cm, .int .i64 m.points, .int .i64 m.bend, .slice am m.claims.length cm]) (fill_e3 _ _ _ _ _ _ _ _ _ _ _ _ _ _ _) (by kernel_rfl) ?_
            have hs := hs.lite #[.int .i64 x.points, .int .i64 x.bend, .slice ax x.claims.length cx, .int .i64 m.points, .int .i64 m.bend, .slice am m.claims.length cm, .int .i64 m.points, .int .i64 m.bend, .slice am m.claims.length cm]
            refine hK _ _ (HY.out _ _ _ _ _ hs) ?_
            clear hK K
            obtain ⟨q1, hq1⟩ : ∃ b, b = wa1.heap.size := ⟨_, rfl⟩
            rw [← hq1] at hs ⊢
            generalize wa1.alloc (.cells #[.int .i64 x.points, .int .i64 x.bend, .slice ax x.claims.length cx, .int .i64 m.points, .int .i64 m.bend, .slice am m.claims.length cm, .int .i64 m.points, .int .i64 m.bend, .slice am m.claims.length cm] 24) = wa2 at hs ⊢
            clear hq1
            refine mix_pur2 rfl (fun K hK => ?_)
            go_simp
            first | refine ⟨_, fun _ => rfl, hK _ ?_⟩ | refine hK _ ?_
            clear hK K
            refine mix_two2 rfl rfl false false rfl rfl (fun K hK => ?_) (fun K hK => ?_)
            · refine step_lit2 48 44 3 rfl rfl rfl rfl Try.underlying48 inf44 (by decide) (cells := #[.slice al l.length cl, .slice af f.length cf, .slice af f.length cf]) (fill_s3 _ _ _ _ _ _ _ _ _) (by kernel_rfl) ?_
              have hs := hs.lits #[.slice al l.length cl, .slice af f.length cf, .slice af f.length cf]
              refine hK _ _ (HY.out _ _ _ _ _ hs) ?_
              clear hK K
              obtain ⟨q2, hq2⟩ : ∃ b, b = wa2.heap.size := ⟨_, rfl⟩
              rw [← hq2] at hs ⊢
              generalize wa2.alloc (.cells #[.slice al l.length cl, .slice af f.length cf, .slice af f.length cf] 44) = wa3 at hs ⊢
              clear hq2
              refine mix_pur2 rfl (fun K hK => ?_)
              go_simp
              first | refine ⟨_, fun _ => rfl, hK _ ?_⟩ | refine hK _ ?_
              clear hK K
              refine mix_eff2 rfl false rfl (fun K hK => ?_)
              refine step_lit2 27 3 3 rfl rfl rfl rfl Try.underlying27 Try.info3 (by decide) (cells := #[.int .i64 rate, .int .i64 u1, .int .i64 rate]) (fill_i3 _ _ _) (by kernel_rfl) ?_
              have hs := hs.liti #[.int .i64 rate, .int .i64 u1, .int .i64 rate]
              refine hK _ _ (HY.out _ _ _ _ _ hs) ?_
              clear hK K
              obtain ⟨q3, hq3⟩ : ∃ b, b = wa3.heap.size := ⟨_, rfl⟩
              rw [← hq3] at hs ⊢
              generalize wa3.alloc (.cells #[.int .i64 rate, .int .i64 u1, .int .i64 rate] 3) = wa4 at hs ⊢
              clear hq3
              refine mix_pur2 rfl (fun K hK => ?_)
              go_simp
              first | refine ⟨_, fun _ => rfl, hK _ ?_⟩ | refine hK _ ?_
              clear hK K
              refine mix_done2 ?_
              go_wp2_with fail
              go_meet
              case rel => exact ⟨q1, q2, q3, u1, rfl, rfl, rfl, hs.mono (by omega)⟩
            · refine step_lit2 27 3 3 rfl rfl rfl rfl Try.underlying27 Try.info3 (by decide) (cells := #[.int .i64 rate, .int .i64 u1, .int .i64 rate]) (fill_i3 _ _ _) (by kernel_rfl) ?_
              have hs := hs.liti #[.int .i64 rate, .int .i64 u1, .int .i64 rate]
              refine hK _ _ (HY.out _ _ _ _ _ hs) ?_
              clear hK K
              obtain ⟨q3, hq3⟩ : ∃ b, b = wa2.heap.size := ⟨_, rfl⟩
              rw [← hq3] at hs ⊢
              generalize wa2.alloc (.cells #[.int .i64 rate, .int .i64 u1, .int .i64 rate] 3) = wa3 at hs ⊢
              clear hq3
              refine mix_eff2 rfl false rfl (fun K hK => ?_)
              refine step_lit2 48 44 3 rfl rfl rfl rfl Try.underlying48 inf44 (by decide) (cells := #[.slice al l.length cl, .slice af f.length cf, .slice af f.length cf]) (fill_s3 _ _ _ _ _ _ _ _ _) (by kernel_rfl) ?_
              have hs := hs.lits #[.slice al l.length cl, .slice af f.length cf, .slice af f.length cf]
              refine hK _ _ (HY.out _ _ _ _ _ hs) ?_
              clear hK K
              obtain ⟨q2, hq2⟩ : ∃ b, b = wa3.heap.size := ⟨_, rfl⟩
              rw [← hq2] at hs ⊢
              generalize wa3.alloc (.cells #[.slice al l.length cl, .slice af f.length cf, .slice af f.length cf] 44) = wa4 at hs ⊢
              clear hq2
              refine mix_pur2 rfl (fun K hK => ?_)
              go_simp
              first | refine ⟨_, fun _ => rfl, hK _ ?_⟩ | refine hK _ ?_
              clear hK K
              refine mix_pur2 rfl (fun K hK => ?_)
              go_simp
              first | refine ⟨_, fun _ => rfl, hK _ ?_⟩ | refine hK _ ?_
              clear hK K
              refine mix_done2 ?_
              go_wp2_with fail
              go_meet
              case rel => exact ⟨q1, q2, q3, u1, rfl, rfl, rfl, hs.mono (by omega)⟩
          · refine step_lit2 48 44 3 rfl rfl rfl rfl Try.underlying48 inf44 (by decide) (cells := #[.slice al l.length cl, .slice af f.length cf, .slice af f.length cf]) (fill_s3 _ _ _ _ _ _ _ _ _) (by kernel_rfl) ?_
            have hs := hs.lits #[.slice al l.length cl, .slice af f.length cf, .slice af f.length cf]
            refine hK _ _ (HY.out _ _ _ _ _ hs) ?_
            clear hK K
            obtain ⟨q2, hq2⟩ : ∃ b, b = wa1.heap.size := ⟨_, rfl⟩
            rw [← hq2] at hs ⊢
            generalize wa1.alloc (.cells #[.slice al l.length cl, .slice af f.length cf, .slice af f.length cf] 44) = wa2 at hs ⊢
            clear hq2
            refine mix_two2 rfl rfl false false rfl rfl (fun K hK => ?_) (fun K hK => ?_)
            · refine step_lit2 29 24 3 rfl rfl rfl rfl Try.underlying29 inf24 (by decide) (cells := #[.int .i64 x.points, .int .i64 x.bend, .slice ax x.claims.length cx, .int .i64 m.points, .int .i64 m.bend, .slice am m.claims.length cm, .int .i64 m.points, .int .i64 m.bend, .slice am m.claims.length cm]) (fill_e3 _ _ _ _ _ _ _ _ _ _ _ _ _ _ _) (by kernel_rfl) ?_
              have hs := hs.lite #[.int .i64 x.points, .int .i64 x.bend, .slice ax x.claims.length cx, .int .i64 m.points, .int .i64 m.bend, .slice am m.claims.length cm, .int .i64 m.points, .int .i64 m.bend, .slice am m.claims.length cm]
              refine hK _ _ (HY.out _ _ _ _ _ hs) ?_
              clear hK K
              obtain ⟨q1, hq1⟩ : ∃ b, b = wa2.heap.size := ⟨_, rfl⟩
              rw [← hq1] at hs ⊢
              generalize wa2.alloc (.cells #[.int .i64 x.points, .int .i64 x.bend, .slice ax x.claims.length cx, .int .i64 m.points, .int .i64 m.bend, .slice am m.claims.length cm, .int .i64 m.points, .int .i64 m.bend, .slice am m.claims.length cm] 24) = wa3 at hs ⊢
              clear hq1
              refine mix_pur2 rfl (fun K hK => ?_)
              go_simp
              first | refine ⟨_, fun _ => rfl, hK _ ?_⟩ | refine hK _ ?_
              clear hK K
              refine mix_pur2 rfl (fun K hK => ?_)
              go_simp
              first | refine ⟨_, fun _ => rfl, hK _ ?_⟩ | refine hK _ ?_
              clear hK K
              refine mix_eff2 rfl false rfl (fun K hK => ?_)
              refine step_lit2 27 3 3 rfl rfl rfl rfl Try.underlying27 Try.info3 (by decide) (cells := #[.int .i64 rate, .int .i64 u1, .int .i64 rate]) (fill_i3 _ _ _) (by kernel_rfl) ?_
              have hs := hs.liti #[.int .i64 rate, .int .i64 u1, .int .i64 rate]
              refine hK _ _ (HY.out _ _ _ _ _ hs) ?_
              clear hK K
              obtain ⟨q3, hq3⟩ : ∃ b, b = wa3.heap.size := ⟨_, rfl⟩
              rw [← hq3] at hs ⊢
              generalize wa3.alloc (.cells #[.int .i64 rate, .int .i64 u1, .int .i64 rate] 3) = wa4 at hs ⊢
              clear hq3
              refine mix_pur2 rfl (fun K hK => ?_)
              go_simp
              first | refine ⟨_, fun _ => rfl, hK _ ?_⟩ | refine hK _ ?_
              clear hK K
              refine mix_done2 ?_
              go_wp2_with fail
              go_meet
              case rel => exact ⟨q1, q2, q3, u1, rfl, rfl, rfl, hs.mono (by omega)⟩
            · refine step_lit2 27 3 3 rfl rfl rfl rfl Try.underlying27 Try.info3 (by decide) (cells := #[.int .i64 rate, .int .i64 u1, .int .i64 rate]) (fill_i3 _ _ _) (by kernel_rfl) ?_
              have hs := hs.liti #[.int .i64 rate, .int .i64 u1, .int .i64 rate]
              refine hK _ _ (HY.out _ _ _ _ _ hs) ?_
              clear hK K
              obtain ⟨q3, hq3⟩ : ∃ b, b = wa2.heap.size := ⟨_, rfl⟩
              rw [← hq3] at hs ⊢
              generalize wa2.alloc (.cells #[.int .i64 rate, .int .i64 u1, .int .i64 rate] 3) = wa3 at hs ⊢
              clear hq3
              refine mix_eff2 rfl false rfl (fun K hK => ?_)
              refine step_lit2 29 24 3 rfl rfl rfl rfl Try.underlying29 inf24 (by decide) (cells := #[.int .i64 x.points, .int .i64 x.bend, .slice ax x.claims.length cx, .int .i64 m.points, .int .i64 m.bend, .slice am m.claims.length cm, .int .i64 m.points, .int .i64 m.bend, .slice am m.claims.length cm]) (fill_e3 _ _ _ _ _ _ _ _ _ _ _ _ _ _ _) (by kernel_rfl) ?_
              have hs := hs.lite #[.int .i64 x.points, .int .i64 x.bend, .slice ax x.claims.length cx, .int .i64 m.points, .int .i64 m.bend, .slice am m.claims.length cm, .int .i64 m.points, .int .i64 m.bend, .slice am m.claims.length cm]
              refine hK _ _ (HY.out _ _ _ _ _ hs) ?_
              clear hK K
              obtain ⟨q1, hq1⟩ : ∃ b, b = wa3.heap.size := ⟨_, rfl⟩
              rw [← hq1] at hs ⊢
              generalize wa3.alloc (.cells #[.int .i64 x.points, .int .i64 x.bend, .slice ax x.claims.length cx, .int .i64 m.points, .int .i64 m.bend, .slice am m.claims.length cm, .int .i64 m.points, .int .i64 m.bend, .slice am m.claims.length cm] 24) = wa4 at hs ⊢
              clear hq1
              refine mix_pur2 rfl (fun K hK => ?_)
              go_simp
              first | refine ⟨_, fun _ => rfl, hK _ ?_⟩ | refine hK _ ?_
              clear hK K
              refine mix_pur2 rfl (fun K hK => ?_)
              go_simp
              first | refine ⟨_, fun _ => rfl, hK _ ?_⟩ | refine hK _ ?_
              clear hK K
              refine mix_pur2 rfl (fun K hK => ?_)
              go_simp
              first | refine ⟨_, fun _ => rfl, hK _ ?_⟩ | refine hK _ ?_
              clear hK K
              refine mix_done2 ?_
              go_wp2_with fail
              go_meet
              case rel => exact ⟨q1, q2, q3, u1, rfl, rfl, rfl, hs.mono (by omega)⟩
          · refine step_lit2 27 3 3 rfl rfl rfl rfl Try.underlying27 Try.info3 (by decide) (cells := #[.int .i64 rate, .int .i64 u1, .int .i64 rate]) (fill_i3 _ _ _) (by kernel_rfl) ?_
            have hs := hs.liti #[.int .i64 rate, .int .i64 u1, .int .i64 rate]
            refine hK _ _ (HY.out _ _ _ _ _ hs) ?_
            clear hK K
            obtain ⟨q3, hq3⟩ : ∃ b, b = wa1.heap.size := ⟨_, rfl⟩
            rw [← hq3] at hs ⊢
            generalize wa1.alloc (.cells #[.int .i64 rate, .int .i64 u1, .int .i64 rate] 3) = wa2 at hs ⊢
            clear hq3
            refine mix_two2 rfl rfl false false rfl rfl (fun K hK => ?_) (fun K hK => ?_)
            · refine step_lit2 29 24 3 rfl rfl rfl rfl Try.underlying29 inf24 (by decide) (cells := #[.int .i64 x.points, .int .i64 x.bend, .slice ax x.claims.length cx, .int .i64 m.points, .int .i64 m.bend, .slice am m.claims.length cm, .int .i64 m.points, .int .i64 m.bend, .slice am m.claims.length cm]) (fill_e3 _ _ _ _ _ _ _ _ _ _ _ _ _ _ _) (by kernel_rfl) ?_
              have hs := hs.lite #[.int .i64 x.points, .int .i64 x.bend, .slice ax x.claims.length cx, .int .i64 m.points, .int .i64 m.bend, .slice am m.claims.length cm, .int .i64 m.points, .int .i64 m.bend, .slice am m.claims.length cm]
              refine hK _ _ (HY.out _ _ _ _ _ hs) ?_
              clear hK K
              obtain ⟨q1, hq1⟩ : ∃ b, b = wa2.heap.size := ⟨_, rfl⟩
              rw [← hq1] at hs ⊢
              generalize wa2.alloc (.cells #[.int .i64 x.points, .int .i64 x.bend, .slice ax x.claims.length cx, .int .i64 m.points, .int .i64 m.bend, .slice am m.claims.length cm, .int .i64 m.points, .int .i64 m.bend, .slice am m.claims.length cm] 24) = wa3 at hs ⊢
              clear hq1
              refine mix_pur2 rfl (fun K hK => ?_)
              go_simp
              first | refine ⟨_, fun _ => rfl, hK _ ?_⟩ | refine hK _ ?_
              clear hK K
              refine mix_eff2 rfl false rfl (fun K hK => ?_)
              refine step_lit2 48 44 3 rfl rfl rfl rfl Try.underlying48 inf44 (by decide) (cells := #[.slice al l.length cl, .slice af f.length cf, .slice af f.length cf]) (fill_s3 _ _ _ _ _ _ _ _ _) (by kernel_rfl) ?_
              have hs := hs.lits #[.slice al l.length cl, .slice af f.length cf, .slice af f.length cf]
              refine hK _ _ (HY.out _ _ _ _ _ hs) ?_
              clear hK K
              obtain ⟨q2, hq2⟩ : ∃ b, b = wa3.heap.size := ⟨_, rfl⟩
              rw [← hq2] at hs ⊢
              generalize wa3.alloc (.cells #[.slice al l.length cl, .slice af f.length cf, .slice af f.length cf] 44) = wa4 at hs ⊢
              clear hq2
              refine mix_pur2 rfl (fun K hK => ?_)
              go_simp
              first | refine ⟨_, fun _ => rfl, hK _ ?_⟩ | refine hK _ ?_
              clear hK K
              refine mix_pur2 rfl (fun K hK => ?_)
              go_simp
              first | refine ⟨_, fun _ => rfl, hK _ ?_⟩ | refine hK _ ?_
              clear hK K
              refine mix_done2 ?_
              go_wp2_with fail
              go_meet
              case rel => exact ⟨q1, q2, q3, u1, rfl, rfl, rfl, hs.mono (by omega)⟩
            · refine step_lit2 48 44 3 rfl rfl rfl rfl Try.underlying48 inf44 (by decide) (cells := #[.slice al l.length cl, .slice af f.length cf, .slice af f.length cf]) (fill_s3 _ _ _ _ _ _ _ _ _) (by kernel_rfl) ?_
              have hs := hs.lits #[.slice al l.length cl, .slice af f.length cf, .slice af f.length cf]
              refine hK _ _ (HY.out _ _ _ _ _ hs) ?_
              clear hK K
              obtain ⟨q2, hq2⟩ : ∃ b, b = wa2.heap.size := ⟨_, rfl⟩
              rw [← hq2] at hs ⊢
              generalize wa2.alloc (.cells #[.slice al l.length cl, .slice af f.length cf, .slice af f.length cf] 44) = wa3 at hs ⊢
              clear hq2
              refine mix_eff2 rfl false rfl (fun K hK => ?_)
              refine step_lit2 29 24 3 rfl rfl rfl rfl Try.underlying29 inf24 (by decide) (cells := #[.int .i64 x.points, .int .i64 x.bend, .slice ax x.claims.length cx, .int .i64 m.points, .int .i64 m.bend, .slice am m.claims.length cm, .int .i64 m.points, .int .i64 m.bend, .slice am m.claims.length cm]) (fill_e3 _ _ _ _ _ _ _ _ _ _ _ _ _ _ _) (by kernel_rfl) ?_
              have hs := hs.lite #[.int .i64 x.points, .int .i64 x.bend, .slice ax x.claims.length cx, .int .i64 m.points, .int .i64 m.bend, .slice am m.claims.length cm, .int .i64 m.points, .int .i64 m.bend, .slice am m.claims.length cm]
              refine hK _ _ (HY.out _ _ _ _ _ hs) ?_
              clear hK K
              obtain ⟨q1, hq1⟩ : ∃ b, b = wa3.heap.size := ⟨_, rfl⟩
              rw [← hq1] at hs ⊢
              generalize wa3.alloc (.cells #[.int .i64 x.points, .int .i64 x.bend, .slice ax x.claims.length cx, .int .i64 m.points, .int .i64 m.bend, .slice am m.claims.length cm, .int .i64 m.points, .int .i64 m.bend, .slice am m.claims.length cm] 24) = wa4 at hs ⊢
              clear hq1
              refine mix_pur2 rfl (fun K hK => ?_)
              go_simp
              first | refine ⟨_, fun _ => rfl, hK _ ?_⟩ | refine hK _ ?_
              clear hK K
              refine mix_pur2 rfl (fun K hK => ?_)
              go_simp
              first | refine ⟨_, fun _ => rfl, hK _ ?_⟩ | refine hK _ ?_
              clear hK K
              refine mix_pur2 rfl (fun K hK => ?_)
              go_simp
              first | refine ⟨_, fun _ => rfl, hK _ ?_⟩ | refine hK _ ?_
              clear hK K
              refine mix_done2 ?_
              go_wp2_with fail
              go_meet
              case rel => exact ⟨q1, q2, q3, u1, rfl, rfl, rfl, hs.mono (by omega)⟩
      case rest =>
      obtain ⟨q1, q2, q3, u1, rfl, rfl, rfl, hs7⟩ := hcut
      rename World => w7
      clear HY hs0
      obtain ⟨w8, hw8⟩ : ∃ w8, w8 = w7.alloc (.cells #[.int .i64 lo, .int .i64 u0, .int .i64 lo] 3) := ⟨_, rfl⟩
      obtain ⟨q4, hq4⟩ : ∃ b, b = w7.heap.size := ⟨_, rfl⟩
      have hA8 : Blk q4 #[.int .i64 lo, .int .i64 u0, .int .i64 lo] 3 w8 := by rw [hw8, hq4]; exact Blk.new _ _ _
      have hs8 := hs7.call ((Below.refl w7.heap.size w7).alloc (Nat.le_refl _) (.cells #[.int .i64 lo, .int .i64 u0, .int .i64 lo] 3))
      rw [← hw8] at hs8
      obtain ⟨k8, hk8, hH8⟩ := hs8.hnd
      go_wp2_with fail
      rw [← hw8, ← hq4]
      clear hw8 hq4 hs7
      refine (among_c hH8 (by omega) u0 30 (by omega) (by omega) (by omega) (by omega)).mono ?_
      rintro e w9 ⟨⟨u5, rfl, hu5, hu5b⟩, ⟨k9, hk9, hH9⟩, hG9⟩
      have hA9 := hA8.hand hG9 (hA8.ne_hnd hs8.hnd (by decide))
      have hs9 := hs8.hand (K' := 700) ⟨k9, by omega, hH9⟩ hG9
      obtain ⟨wz, hwz⟩ : ∃ wz, wz = w9.alloc (.cells #[.int .i64 hi, .int .i64 u5, .int .i64 hi] 3) := ⟨_, rfl⟩
      obtain ⟨q5, hq5⟩ : ∃ b, b = w9.heap.size := ⟨_, rfl⟩
      have hC9 : Blk q5 #[.int .i64 hi, .int .i64 u5, .int .i64 hi] 3 wz := by rw [hwz, hq5]; exact Blk.new _ _ _
      have hE9 := (Below.refl w9.heap.size w9).alloc (Nat.le_refl _) (.cells #[.int .i64 hi, .int .i64 u5, .int .i64 hi] 3)
      rw [← hwz] at hE9
      have hAz := hA9.call hE9
      have hsz := hs9.call hE9
      go_upto_region 9 with fail
      rw [← hwz, ← hq5]
      clear hwz hq5 hE9 hA9 hs9 hs8 hA8 hG9 hH8 hH9
      have hEz := hsz.he _ _ rfl
      have hSz := hsz.hs _ _ rfl
      have hIz := hsz.hi _ _ rfl
      have hBz := hsz.below
      have l1 := hEz.lt
      have l2 := hSz.lt
      have l3 := hIz.lt
      have l4 := hAz.lt
      have l5 := hC9.lt
      have hrow : ∀ i, i < 3 → ∃ (y : Edg) (ay : Option Addr) (cy : Nat) (g : List Fu) (ag : Option Addr) (cg : Nat) (ir ia ib : Int), RowE q1 i y (.slice ay y.claims.length cy) q2 (.slice ag g.length cg) q3 ir q4 ia q5 ib wz ∧ ClsM (fun _ => True) wz (.slice ay y.claims.length cy) y.claims ∧ FusM (fun _ => True) wz (.slice ag g.length cg) g ∧ y.claims.length ≤ 20 ∧ g.length ≤ 20 := by
        intro i hi
        have hi3 : i = 0 ∨ i = 1 ∨ i = 2 := by omega
        rcases hi3 with rfl | rfl | rfl
        · exact ⟨x, ax, cx, l, al, cl, rate, lo, _, ⟨⟨hEz.cell 0, hEz.cell 1, hEz.cell 2⟩, hSz.cell 0, hIz.cell 0, hAz.cell 0, hC9.cell 0⟩, hsz.rx.wide fun _ _ _ => trivial, hsz.rl.wide fun _ _ _ => trivial, by omega, by omega⟩
        · exact ⟨m, am, cm, f, af, cf, u1, u0, u5, ⟨⟨hEz.cell 3, hEz.cell 4, hEz.cell 5⟩, hSz.cell 1, hIz.cell 1, hAz.cell 1, hC9.cell 1⟩, hsz.rm.wide fun _ _ _ => trivial, hsz.rf.wide fun _ _ _ => trivial, by omega, by omega⟩
        · exact ⟨m, am, cm, f, af, cf, rate, lo, _, ⟨⟨hEz.cell 6, hEz.cell 7, hEz.cell 8⟩, hSz.cell 2, hIz.cell 2, hAz.cell 2, hC9.cell 2⟩, hsz.rm.wide fun _ _ _ => trivial, hsz.rf.wide fun _ _ _ => trivial, by omega, by omega⟩
      have HROW := Lib.hid hrow
      clear hrow hEz hSz hIz hAz hC9 hsz hm
      go_wp2_with fail
      go_loopw [22] (fun vi wr => ∃ i : Nat, i ≤ 3 ∧ vi = .int .i64 i ∧ Below wz.heap.size wz wr) (fun vi _ => 3 - (intOf vi).toNat)
      case atStart => exact ⟨0, by omega, rfl, Below.refl _ _⟩
      case round =>
        obtain ⟨i, hi', rfl, hBr⟩ := hrel
        by_cases hlt : i < 3
        · obtain ⟨y, ay, cy, g, ag, cg, ir, ia, ib, hS4, hC4, hG4, hy20, hg20⟩ := HROW.out i hlt
          have hEq : ∀ w', Below wz.heap.size wz w' → (RowE q1 i y (.slice ay y.claims.length cy) q2 (.slice ag g.length cg) q3 ir q4 ia q5 ib) w' := fun w' hb => hS4.below hb l1 l2 l3 l4 l5
          have HEQ := Lib.hid hEq
          have hCr := hC4.call hBr
          have hFr := hG4.call hBr
          have hF : ∀ w', Below wr.heap.size wr w' → (RowE q1 i y (.slice ay y.claims.length cy) q2 (.slice ag g.length cg) q3 ir q4 ia q5 ib) w' := fun w' hb => HEQ.out w' (bnx hBr hb)
          clear hS4 hEq
          go_upto_region 12 with fail
          go_cut [23, 24] from 71 to 154 (fun s23 s24 wx => ∃ (b9 : Nat) (ao : Option Addr) (co : Nat) (ap : Option Addr) (cp : Nat), s23 = .pointer (some ⟨b9, 0, none⟩) ∧ s24 = .slice ap g.length cp ∧ Blk b9 #[.int .i64 y.points, .int .i64 y.bend, .slice ao y.claims.length co] 24 wx ∧ ClsM (fun _ => True) wx (.slice ao y.claims.length co) y.claims ∧ FusM (fun _ => True) wx (.slice ap g.length cp) g ∧ Below wr.heap.size wr wx)
          case first => as_aux_lemma =>
            refine wp_region_mix2 (.pur 0 (.pur 1 (.pur 2 (.one 3 (.pur 5 (.pur 6 (.pur 7 (.one 8 (.two 4 (.two 9 (.act 10 (.act 11 (.pur 12 .fin))) 10 (.act 9 (.act 11 (.pur 12 .fin)))) 10 (.act 4 (.act 9 (.act 11 (.pur 12 .fin))))))))))))) 11 (RowE q1 i y (.slice ay y.claims.length cy) q2 (.slice ag g.length cg) q3 ir q4 ia q5 ib) (fun _ => True) (by kernel_rfl) (by kernel_rfl) rfl (by kernel_rfl) (hF _ (((Qt.refl _).drewN 1).below _)) (fun wd hqd _ => ?_)
            have z0 : Below wr.heap.size wr wd := hqd.below _
            refine mix_pur2 rfl (fun K hK => ?_)
            go_simp
            first | refine ⟨_, fun _ => rfl, hK _ ?_⟩ | refine hK _ ?_
            clear hK K
            refine mix_pur2 rfl (fun K hK => ?_)
            go_simp
            first | refine ⟨_, fun _ => rfl, hK _ ?_⟩ | refine hK _ ?_
            clear hK K
            refine mix_pur2 rfl (fun K hK => ?_)
            go_simp
            first | refine ⟨_, fun _ => rfl, hK _ ?_⟩ | refine hK _ ?_
            clear hK K
            refine mix_load2 rfl rfl rfl (.agg #[.int .i64 y.points, .int .i64 y.bend, .slice ay y.claims.length cy]) (fun w' h => by have h : (RowE q1 i y (.slice ay y.claims.length cy) q2 (.slice ag g.length cg) q3 ir q4 ia q5 ib) w' := h; have e0 := h.1.1; have e1 := h.1.2.1; have e2 := h.1.2.2; go_simp) rfl ?_
            refine mix_pur2 rfl (fun K hK => ?_)
            go_simp
            first | refine ⟨_, fun _ => rfl, hK _ ?_⟩ | refine hK _ ?_
            clear hK K
            refine mix_pur2 rfl (fun K hK => ?_)
            go_simp
            first | refine ⟨_, fun _ => rfl, hK _ ?_⟩ | refine hK _ ?_
            clear hK K
            refine mix_pur2 rfl (fun K hK => ?_)
            go_simp
            first | refine ⟨_, fun _ => rfl, hK _ ?_⟩ | refine hK _ ?_
            clear hK K
            refine mix_load2 rfl rfl rfl (.slice ag g.length cg) (fun w' h => by have h : (RowE q1 i y (.slice ay y.claims.length cy) q2 (.slice ag g.length cg) q3 ir q4 ia q5 ib) w' := h; have e0 := h.2.1; go_simp) rfl ?_
            refine mix_two2 rfl rfl false false rfl rfl (fun K hK => ?_) (fun K hK => ?_)
            · go_simp
              refine (copyEdge_c (hCr.call z0) (by omega)).mono ?_
              rintro e' wa1 ⟨vo, rfl, hOo, hB9⟩
              obtain ⟨ao, co, rfl⟩ := own_slice hOo
              have hO := Own.cls hOo
              have z1 := z0.trans (hB9.mono z0.size)
              refine hK _ _ (hF _ z1) ?_
              clear hK K hB9 hOo
              refine mix_two2 rfl rfl false false rfl rfl (fun K hK => ?_) (fun K hK => ?_)
              · go_simp
                refine (copyFurrows_c (hFr.call z1) (by omega)).mono ?_
                rintro e' wa2 ⟨vp, rfl, hPo, hB9⟩
                obtain ⟨ap, cp, rfl⟩ := own_slice hPo
                have hP := Own.fus hPo
                have hO := hO.call hB9
                have z2 := z1.trans (hB9.mono z1.size)
                refine hK _ _ (hF _ z2) ?_
                clear hK K hB9 hPo
                refine mix_eff2 rfl false rfl (fun K hK => ?_)
                go_simp
                have hO := hO.wide (A' := fun q => q ≠ wa2.heap.size) fun q _ hl => by omega
                have hO := hO.call ((Below.refl wa2.heap.size wa2).alloc (Nat.le_refl _) (.cells #[.int .i64 0, .int .i64 0, .slice none 0 0] 24))
                have hP := hP.wide (A' := fun q => q ≠ wa2.heap.size) fun q _ hl => by omega
                have hP := hP.call ((Below.refl wa2.heap.size wa2).alloc (Nat.le_refl _) (.cells #[.int .i64 0, .int .i64 0, .slice none 0 0] 24))
                have z3 := bal2 (o := .cells #[.int .i64 0, .int .i64 0, .slice none 0 0] 24) z2
                have hA := Blk.new wa2 #[.int .i64 0, .int .i64 0, .slice none 0 0] 24
                have hAn : wr.heap.size ≤ wa2.heap.size := z2.size
                refine hK _ _ (hF _ z3) ?_
                clear hK K
                obtain ⟨ba, hba⟩ : ∃ b, b = wa2.heap.size := ⟨_, rfl⟩
                rw [← hba] at hA hAn hO hP ⊢
                generalize wa2.alloc (.cells #[.int .i64 0, .int .i64 0, .slice none 0 0] 24) = wa3 at hA z3 hO hP ⊢
                clear hba
                refine mix_eff2 rfl true rfl (fun K hK => ?_)
                have q0c := hA.cell 0
                have q1c := hA.cell 1
                have q2c := hA.cell 2
                have fq0 := hA.free 0
                have fq1 := hA.free 1
                have fq2 := hA.free 2
                go_simp
                refine hK _ _ trivial ?_
                clear hK K
                refine mix_pur2 rfl (fun K hK => ?_)
                go_simp
                first | refine ⟨_, fun _ => rfl, hK _ ?_⟩ | refine hK _ ?_
                clear hK K
                refine mix_done2 ?_
                go_wp2_with fail
                go_meet
                case rel => exact ⟨ba, ao, co, ap, cp, rfl, rfl, ((hA.set 0 _).set 1 _).set 2 _, ((Elems.step (Elems.step (Elems.step hO (by simp [World.setCell]) fun q hq _ => Below.heap_setCell _ _ _ _ hq) (by simp [World.setCell]) fun q hq _ => Below.heap_setCell _ _ _ _ hq) (by simp [World.setCell]) fun q hq _ => Below.heap_setCell _ _ _ _ hq)).wide fun _ _ _ => trivial, ((Elems.step (Elems.step (Elems.step hP (by simp [World.setCell]) fun q hq _ => Below.heap_setCell _ _ _ _ hq) (by simp [World.setCell]) fun q hq _ => Below.heap_setCell _ _ _ _ hq) (by simp [World.setCell]) fun q hq _ => Below.heap_setCell _ _ _ _ hq)).wide fun _ _ _ => trivial, (Below.setCell (Below.setCell (Below.setCell z3 (p := ⟨ba, 0, none⟩) hAn _) (p := ⟨ba, 1, none⟩) hAn _) (p := ⟨ba, 2, none⟩) hAn _)⟩
              · go_simp
                have hO := hO.wide (A' := fun q => q ≠ wa1.heap.size) fun q _ hl => by omega
                have hO := hO.call ((Below.refl wa1.heap.size wa1).alloc (Nat.le_refl _) (.cells #[.int .i64 0, .int .i64 0, .slice none 0 0] 24))
                have z2 := bal2 (o := .cells #[.int .i64 0, .int .i64 0, .slice none 0 0] 24) z1
                have hA := Blk.new wa1 #[.int .i64 0, .int .i64 0, .slice none 0 0] 24
                have hAn : wr.heap.size ≤ wa1.heap.size := z1.size
                refine hK _ _ (hF _ z2) ?_
                clear hK K
                obtain ⟨ba, hba⟩ : ∃ b, b = wa1.heap.size := ⟨_, rfl⟩
                rw [← hba] at hA hAn hO ⊢
                generalize wa1.alloc (.cells #[.int .i64 0, .int .i64 0, .slice none 0 0] 24) = wa2 at hA z2 hO ⊢
                clear hba
                refine mix_eff2 rfl false rfl (fun K hK => ?_)
                go_simp
                refine (copyFurrows_c (hFr.call z2) (by omega)).mono ?_
                rintro e' wa3 ⟨vp, rfl, hPo, hB9⟩
                obtain ⟨ap, cp, rfl⟩ := own_slice hPo
                have hP := Own.fus hPo
                have hO := hO.call hB9
                have hP := hP.wide (A' := fun q => q ≠ ba) fun q hq _ => by have := hA.lt; omega
                have hA := hA.call hB9
                have z3 := z2.trans (hB9.mono z2.size)
                refine hK _ _ (hF _ z3) ?_
                clear hK K hB9 hPo
                refine mix_eff2 rfl true rfl (fun K hK => ?_)
                have q0c := hA.cell 0
                have q1c := hA.cell 1
                have q2c := hA.cell 2
                have fq0 := hA.free 0
                have fq1 := hA.free 1
                have fq2 := hA.free 2
                go_simp
                refine hK _ _ trivial ?_
                clear hK K
                refine mix_pur2 rfl (fun K hK => ?_)
                go_simp
                first | refine ⟨_, fun _ => rfl, hK _ ?_⟩ | refine hK _ ?_
                clear hK K
                refine mix_done2 ?_
                go_wp2_with fail
                go_meet
                case rel => exact ⟨ba, ao, co, ap, cp, rfl, rfl, ((hA.set 0 _).set 1 _).set 2 _, ((Elems.step (Elems.step (Elems.step hO (by simp [World.setCell]) fun q hq _ => Below.heap_setCell _ _ _ _ hq) (by simp [World.setCell]) fun q hq _ => Below.heap_setCell _ _ _ _ hq) (by simp [World.setCell]) fun q hq _ => Below.heap_setCell _ _ _ _ hq)).wide fun _ _ _ => trivial, ((Elems.step (Elems.step (Elems.step hP (by simp [World.setCell]) fun q hq _ => Below.heap_setCell _ _ _ _ hq) (by simp [World.setCell]) fun q hq _ => Below.heap_setCell _ _ _ _ hq) (by simp [World.setCell]) fun q hq _ => Below.heap_setCell _ _ _ _ hq)).wide fun _ _ _ => trivial, (Below.setCell (Below.setCell (Below.setCell z3 (p := ⟨ba, 0, none⟩) hAn _) (p := ⟨ba, 1, none⟩) hAn _) (p := ⟨ba, 2, none⟩) hAn _)⟩
            · go_simp
              have z1 := bal2 (o := .cells #[.int .i64 0, .int .i64 0, .slice none 0 0] 24) z0
              have hA := Blk.new wd #[.int .i64 0, .int .i64 0, .slice none 0 0] 24
              have hAn : wr.heap.size ≤ wd.heap.size := z0.size
              refine hK _ _ (hF _ z1) ?_
              clear hK K
              obtain ⟨ba, hba⟩ : ∃ b, b = wd.heap.size := ⟨_, rfl⟩
              rw [← hba] at hA hAn ⊢
              generalize wd.alloc (.cells #[.int .i64 0, .int .i64 0, .slice none 0 0] 24) = wa1 at hA z1 ⊢
              clear hba
              refine mix_eff2 rfl false rfl (fun K hK => ?_)
              go_simp
              refine (copyEdge_c (hCr.call z1) (by omega)).mono ?_
              rintro e' wa2 ⟨vo, rfl, hOo, hB9⟩
              obtain ⟨ao, co, rfl⟩ := own_slice hOo
              have hO := Own.cls hOo
              have hO := hO.wide (A' := fun q => q ≠ ba) fun q hq _ => by have := hA.lt; omega
              have hA := hA.call hB9
              have z2 := z1.trans (hB9.mono z1.size)
              refine hK _ _ (hF _ z2) ?_
              clear hK K hB9 hOo
              refine mix_eff2 rfl false rfl (fun K hK => ?_)
              go_simp
              refine (copyFurrows_c (hFr.call z2) (by omega)).mono ?_
              rintro e' wa3 ⟨vp, rfl, hPo, hB9⟩
              obtain ⟨ap, cp, rfl⟩ := own_slice hPo
              have hP := Own.fus hPo
              have hO := hO.call hB9
              have hP := hP.wide (A' := fun q => q ≠ ba) fun q hq _ => by have := hA.lt; omega
              have hA := hA.call hB9
              have z3 := z2.trans (hB9.mono z2.size)
              refine hK _ _ (hF _ z3) ?_
              clear hK K hB9 hPo
              refine mix_eff2 rfl true rfl (fun K hK => ?_)
              have q0c := hA.cell 0
              have q1c := hA.cell 1
              have q2c := hA.cell 2
              have fq0 := hA.free 0
              have fq1 := hA.free 1
              have fq2 := hA.free 2
              go_simp
              refine hK _ _ trivial ?_
              clear hK K
              refine mix_pur2 rfl (fun K hK => ?_)
              go_simp
              first | refine ⟨_, fun _ => rfl, hK _ ?_⟩ | refine hK _ ?_
              clear hK K
              refine mix_done2 ?_
              go_wp2_with fail
              go_meet
              case rel => exact ⟨ba, ao, co, ap, cp, rfl, rfl, ((hA.set 0 _).set 1 _).set 2 _, ((Elems.step (Elems.step (Elems.step hO (by simp [World.setCell]) fun q hq _ => Below.heap_setCell _ _ _ _ hq) (by simp [World.setCell]) fun q hq _ => Below.heap_setCell _ _ _ _ hq) (by simp [World.setCell]) fun q hq _ => Below.heap_setCell _ _ _ _ hq)).wide fun _ _ _ => trivial, ((Elems.step (Elems.step (Elems.step hP (by simp [World.setCell]) fun q hq _ => Below.heap_setCell _ _ _ _ hq) (by simp [World.setCell]) fun q hq _ => Below.heap_setCell _ _ _ _ hq) (by simp [World.setCell]) fun q hq _ => Below.heap_setCell _ _ _ _ hq)).wide fun _ _ _ => trivial, (Below.setCell (Below.setCell (Below.setCell z3 (p := ⟨ba, 0, none⟩) hAn _) (p := ⟨ba, 1, none⟩) hAn _) (p := ⟨ba, 2, none⟩) hAn _)⟩
          case rest =>
          obtain ⟨b9, ao, co, ap, cp, rfl, rfl, hD1, hO1, hP1, hU⟩ := hcut
          rename World => u1'
          obtain ⟨u1, hu1⟩ : ∃ u, u = u1' := ⟨_, rfl⟩
          rw [← hu1] at hD1 hO1 hP1 hU ⊢
          have hBu1 := bnx hBr hU
          clear hu1 hF hU hCr hFr
          go_upto_region 13 with fail
          obtain ⟨R, hR⟩ : ∃ R, R = fineX y g ir ia ib := ⟨_, rfl⟩
          have HR := Lib.hid hR
          clear hR
          have hF : ∀ w', Below u1.heap.size u1 w' → (RowD b9 y (.slice ao y.claims.length co) q1 i (.slice ay y.claims.length cy) q2 (.slice ag g.length cg) q3 ir q4 ia q5 ib) w' := fun w' hb => ⟨hD1.call hb, HEQ.out w' (bnx hBu1 hb)⟩
          go_cut [25, 26] from 71 to 154 (fun s25 s26 wx => ∃ a25 : Nat, s25 = .pointer (some ⟨a25, 0, none⟩) ∧ s26 = .int .i64 R.2 ∧ Blk a25 #[.int .i64 R.1.1, .int .i64 R.1.2] 52 wx ∧ Below u1.heap.size u1 wx)
          case first => as_aux_lemma =>
            refine wp_region_mix2 (.one 0 (.pur 1 (.pur 2 (.pur 3 (.pur 4 (.one 5 (.pur 6 (.pur 7 (.pur 8 (.one 9 (.pur 10 (.pur 11 (.pur 12 (.one 13 (.two 14 (.pur 15 (.pur 16 (.pur 17 (.act 18 (.act 19 (.pur 20 .fin)))))) 18 (.act 14 (.pur 15 (.pur 16 (.pur 17 (.act 19 (.pur 20 .fin))))))))))))))))))))) 19 (RowD b9 y (.slice ao y.claims.length co) q1 i (.slice ay y.claims.length cy) q2 (.slice ag g.length cg) q3 ir q4 ia q5 ib) (fun _ => True) (by kernel_rfl) (by kernel_rfl) rfl (by kernel_rfl) (hF _ (((Qt.refl _).drewN 1).below _)) (fun wd hqd _ => ?_)
            have z0 : Below u1.heap.size u1 wd := hqd.below _
            refine mix_load2 rfl rfl rfl (.agg #[.int .i64 y.points, .int .i64 y.bend, .slice ao y.claims.length co]) (fun w' h => by have h : (RowD b9 y (.slice ao y.claims.length co) q1 i (.slice ay y.claims.length cy) q2 (.slice ag g.length cg) q3 ir q4 ia q5 ib) w' := h; have e0 := h.1.cell 0; have e1 := h.1.cell 1; have e2 := h.1.cell 2; go_simp) rfl ?_
            refine mix_pur2 rfl (fun K hK => ?_)
            go_simp
            first | refine ⟨_, fun _ => rfl, hK _ ?_⟩ | refine hK _ ?_
            clear hK K
            refine mix_pur2 rfl (fun K hK => ?_)
            go_simp
            first | refine ⟨_, fun _ => rfl, hK _ ?_⟩ | refine hK _ ?_
            clear hK K
            refine mix_pur2 rfl (fun K hK => ?_)
            go_simp
            first | refine ⟨_, fun _ => rfl, hK _ ?_⟩ | refine hK _ ?_
            clear hK K
            refine mix_pur2 rfl (fun K hK => ?_)
            go_simp
            first | refine ⟨_, fun _ => rfl, hK _ ?_⟩ | refine hK _ ?_
            clear hK K
            refine mix_load2 rfl rfl rfl (.int .i64 ir) (fun w' h => by have h : (RowD b9 y (.slice ao y.claims.length co) q1 i (.slice ay y.claims.length cy) q2 (.slice ag g.length cg) q3 ir q4 ia q5 ib) w' := h; have e0 := h.2.2.2.1; go_simp) rfl ?_
            refine mix_pur2 rfl (fun K hK => ?_)
            go_simp
            first | refine ⟨_, fun _ => rfl, hK _ ?_⟩ | refine hK _ ?_
            clear hK K
            refine mix_pur2 rfl (fun K hK => ?_)
            go_simp
            first | refine ⟨_, fun _ => rfl, hK _ ?_⟩ | refine hK _ ?_
            clear hK K
            refine mix_pur2 rfl (fun K hK => ?_)
            go_simp
            first | refine ⟨_, fun _ => rfl, hK _ ?_⟩ | refine hK _ ?_
            clear hK K
            refine mix_load2 rfl rfl rfl (.int .i64 ia) (fun w' h => by have h : (RowD b9 y (.slice ao y.claims.length co) q1 i (.slice ay y.claims.length cy) q2 (.slice ag g.length cg) q3 ir q4 ia q5 ib) w' := h; have e0 := h.2.2.2.2.1; go_simp) rfl ?_
            refine mix_pur2 rfl (fun K hK => ?_)
            go_simp
            first | refine ⟨_, fun _ => rfl, hK _ ?_⟩ | refine hK _ ?_
            clear hK K
            refine mix_pur2 rfl (fun K hK => ?_)
            go_simp
            first | refine ⟨_, fun _ => rfl, hK _ ?_⟩ | refine hK _ ?_
            clear hK K
            refine mix_pur2 rfl (fun K hK => ?_)
            go_simp
            first | refine ⟨_, fun _ => rfl, hK _ ?_⟩ | refine hK _ ?_
            clear hK K
            refine mix_load2 rfl rfl rfl (.int .i64 ib) (fun w' h => by have h : (RowD b9 y (.slice ao y.claims.length co) q1 i (.slice ay y.claims.length cy) q2 (.slice ag g.length cg) q3 ir q4 ia q5 ib) w' := h; have e0 := h.2.2.2.2.2; go_simp) rfl ?_
            refine mix_two2 rfl rfl false false rfl rfl (fun K hK => ?_) (fun K hK => ?_)
            · go_simp
              refine (fine_c (hO1.call z0) (hP1.call z0) ir ia ib).mono ?_
              rintro e' wa1 ⟨rfl, hB9⟩
              rw [← HR.out]
              have z1 := z0.trans (hB9.mono z0.size)
              refine hK _ _ (hF _ z1) ?_
              clear hK K hB9
              refine mix_pur2 rfl (fun K hK => ?_)
              go_simp
              first | refine ⟨_, fun _ => rfl, hK _ ?_⟩ | refine hK _ ?_
              clear hK K
              refine mix_pur2 rfl (fun K hK => ?_)
              go_simp
              first | refine ⟨_, fun _ => rfl, hK _ ?_⟩ | refine hK _ ?_
              clear hK K
              refine mix_pur2 rfl (fun K hK => ?_)
              go_simp
              first | refine ⟨_, fun _ => rfl, hK _ ?_⟩ | refine hK _ ?_
              clear hK K
              refine mix_eff2 rfl false rfl (fun K hK => ?_)
              go_simp
              have z2 := bal2 (o := .cells #[.int .i64 0, .int .i64 0] 52) z1
              have hA := Blk.new wa1 #[.int .i64 0, .int .i64 0] 52
              have hAn : u1.heap.size ≤ wa1.heap.size := z1.size
              refine hK _ _ (hF _ z2) ?_
              clear hK K
              obtain ⟨ba, hba⟩ : ∃ b, b = wa1.heap.size := ⟨_, rfl⟩
              rw [← hba] at hA hAn ⊢
              generalize wa1.alloc (.cells #[.int .i64 0, .int .i64 0] 52) = wa2 at hA z2 ⊢
              clear hba
              refine mix_eff2 rfl true rfl (fun K hK => ?_)
              have q0c := hA.cell 0
              have q1c := hA.cell 1
              have fq0 := hA.free 0
              have fq1 := hA.free 1
              go_simp
              refine hK _ _ trivial ?_
              clear hK K
              refine mix_pur2 rfl (fun K hK => ?_)
              go_simp
              first | refine ⟨_, fun _ => rfl, hK _ ?_⟩ | refine hK _ ?_
              clear hK K
              refine mix_done2 ?_
              go_wp2_with fail
              go_meet
              case rel => exact ⟨ba, rfl, rfl, (hA.set 0 _).set 1 _, (Below.setCell (Below.setCell z2 (p := ⟨ba, 0, none⟩) hAn _) (p := ⟨ba, 1, none⟩) hAn _)⟩
            · go_simp
              have z1 := bal2 (o := .cells #[.int .i64 0, .int .i64 0] 52) z0
              have hA := Blk.new wd #[.int .i64 0, .int .i64 0] 52
              have hAn : u1.heap.size ≤ wd.heap.size := z0.size
              refine hK _ _ (hF _ z1) ?_
              clear hK K
              obtain ⟨ba, hba⟩ : ∃ b, b = wd.heap.size := ⟨_, rfl⟩
              rw [← hba] at hA hAn ⊢
              generalize wd.alloc (.cells #[.int .i64 0, .int .i64 0] 52) = wa1 at hA z1 ⊢
              clear hba
              refine mix_eff2 rfl false rfl (fun K hK => ?_)
              go_simp
              refine (fine_c (hO1.call z1) (hP1.call z1) ir ia ib).mono ?_
              rintro e' wa2 ⟨rfl, hB9⟩
              rw [← HR.out]
              have hA := hA.call hB9
              have z2 := z1.trans (hB9.mono z1.size)
              refine hK _ _ (hF _ z2) ?_
              clear hK K hB9
              refine mix_pur2 rfl (fun K hK => ?_)
              go_simp
              first | refine ⟨_, fun _ => rfl, hK _ ?_⟩ | refine hK _ ?_
              clear hK K
              refine mix_pur2 rfl (fun K hK => ?_)
              go_simp
              first | refine ⟨_, fun _ => rfl, hK _ ?_⟩ | refine hK _ ?_
              clear hK K
              refine mix_pur2 rfl (fun K hK => ?_)
              go_simp
              first | refine ⟨_, fun _ => rfl, hK _ ?_⟩ | refine hK _ ?_
              clear hK K
              refine mix_eff2 rfl true rfl (fun K hK => ?_)
              have q0c := hA.cell 0
              have q1c := hA.cell 1
              have fq0 := hA.free 0
              have fq1 := hA.free 1
              go_simp
              refine hK _ _ trivial ?_
              clear hK K
              refine mix_pur2 rfl (fun K hK => ?_)
              go_simp
              first | refine ⟨_, fun _ => rfl, hK _ ?_⟩ | refine hK _ ?_
              clear hK K
              refine mix_done2 ?_
              go_wp2_with fail
              go_meet
              case rel => exact ⟨ba, rfl, rfl, (hA.set 0 _).set 1 _, (Below.setCell (Below.setCell z2 (p := ⟨ba, 0, none⟩) hAn _) (p := ⟨ba, 1, none⟩) hAn _)⟩
          case rest =>
          obtain ⟨a25, rfl, rfl, hA25, hU⟩ := hcut
          rename World => u2
          go_upto_region 14 with fail
          have hD2 := hD1.call hU
          have hO2 := hO1.call hU
          have hP2 := hP1.call hU
          have hBu2 := bnx hBu1 hU
          clear hD1 hO1 hP1 hU hF
          have hF : ∀ w', Below u2.heap.size u2 w' → (RowD b9 y (.slice ao y.claims.length co) q1 i (.slice ay y.claims.length cy) q2 (.slice ag g.length cg) q3 ir q4 ia q5 ib) w' := fun w' hb => ⟨hD2.call hb, HEQ.out w' (bnx hBu2 hb)⟩
          go_cut [27, 28] from 71 to 154 (fun s27 s28 wx => ∃ a27 : Nat, s27 = .pointer (some ⟨a27, 0, none⟩) ∧ s28 = .int .i64 R.2 ∧ Blk a27 #[.int .i64 R.1.1, .int .i64 R.1.2] 52 wx ∧ Below u2.heap.size u2 wx)
          case first => as_aux_lemma =>
            refine wp_region_mix2 (.pur 0 (.pur 1 (.pur 2 (.one 3 (.pur 4 (.pur 5 (.pur 6 (.one 7 (.pur 8 (.pur 9 (.pur 10 (.one 11 (.pur 12 (.pur 13 (.pur 14 (.one 15 (.pur 16 (.pur 17 (.pur 18 (.one 19 (.two 20 (.pur 21 (.pur 22 (.pur 23 (.act 24 (.act 25 (.pur 26 .fin)))))) 24 (.act 20 (.pur 21 (.pur 22 (.pur 23 (.act 25 (.pur 26 .fin))))))))))))))))))))))))))) 25 (RowD b9 y (.slice ao y.claims.length co) q1 i (.slice ay y.claims.length cy) q2 (.slice ag g.length cg) q3 ir q4 ia q5 ib) (fun _ => True) (by kernel_rfl) (by kernel_rfl) rfl (by kernel_rfl) (hF _ (((Qt.refl _).drewN 1).below _)) (fun wd hqd _ => ?_)
            have z0 : Below u2.heap.size u2 wd := hqd.below _
            refine mix_pur2 rfl (fun K hK => ?_)
            go_simp
            first | refine ⟨_, fun _ => rfl, hK _ ?_⟩ | refine hK _ ?_
            clear hK K
            refine mix_pur2 rfl (fun K hK => ?_)
            go_simp
            first | refine ⟨_, fun _ => rfl, hK _ ?_⟩ | refine hK _ ?_
            clear hK K
            refine mix_pur2 rfl (fun K hK => ?_)
            go_simp
            first | refine ⟨_, fun _ => rfl, hK _ ?_⟩ | refine hK _ ?_
            clear hK K
            refine mix_load2 rfl rfl rfl (.agg #[.int .i64 y.points, .int .i64 y.bend, .slice ay y.claims.length cy]) (fun w' h => by have h : (RowD b9 y (.slice ao y.claims.length co) q1 i (.slice ay y.claims.length cy) q2 (.slice ag g.length cg) q3 ir q4 ia q5 ib) w' := h; have e0 := h.2.1.1; have e1 := h.2.1.2.1; have e2 := h.2.1.2.2; go_simp) rfl ?_
            refine mix_pur2 rfl (fun K hK => ?_)
            go_simp
            first | refine ⟨_, fun _ => rfl, hK _ ?_⟩ | refine hK _ ?_
            clear hK K
            refine mix_pur2 rfl (fun K hK => ?_)
            go_simp
            first | refine ⟨_, fun _ => rfl, hK _ ?_⟩ | refine hK _ ?_
            clear hK K
            refine mix_pur2 rfl (fun K hK => ?_)
            go_simp
            first | refine ⟨_, fun _ => rfl, hK _ ?_⟩ | refine hK _ ?_
            clear hK K
            refine mix_load2 rfl rfl rfl (.slice ag g.length cg) (fun w' h => by have h : (RowD b9 y (.slice ao y.claims.length co) q1 i (.slice ay y.claims.length cy) q2 (.slice ag g.length cg) q3 ir q4 ia q5 ib) w' := h; have e0 := h.2.2.1; go_simp) rfl ?_
            refine mix_pur2 rfl (fun K hK => ?_)
            go_simp
            first | refine ⟨_, fun _ => rfl, hK _ ?_⟩ | refine hK _ ?_
            clear hK K
            refine mix_pur2 rfl (fun K hK => ?_)
            go_simp
            first | refine ⟨_, fun _ => rfl, hK _ ?_⟩ | refine hK _ ?_
            clear hK K
            refine mix_pur2 rfl (fun K hK => ?_)
            go_simp
            first | refine ⟨_, fun _ => rfl, hK _ ?_⟩ | refine hK _ ?_
            clear hK K
            refine mix_load2 rfl rfl rfl (.int .i64 ir) (fun w' h => by have h : (RowD b9 y (.slice ao y.claims.length co) q1 i (.slice ay y.claims.length cy) q2 (.slice ag g.length cg) q3 ir q4 ia q5 ib) w' := h; have e0 := h.2.2.2.1; go_simp) rfl ?_
            refine mix_pur2 rfl (fun K hK => ?_)
            go_simp
            first | refine ⟨_, fun _ => rfl, hK _ ?_⟩ | refine hK _ ?_
            clear hK K
            refine mix_pur2 rfl (fun K hK => ?_)
            go_simp
            first | refine ⟨_, fun _ => rfl, hK _ ?_⟩ | refine hK _ ?_
            clear hK K
            refine mix_pur2 rfl (fun K hK => ?_)
            go_simp
            first | refine ⟨_, fun _ => rfl, hK _ ?_⟩ | refine hK _ ?_
            clear hK K
            refine mix_load2 rfl rfl rfl (.int .i64 ia) (fun w' h => by have h : (RowD b9 y (.slice ao y.claims.length co) q1 i (.slice ay y.claims.length cy) q2 (.slice ag g.length cg) q3 ir q4 ia q5 ib) w' := h; have e0 := h.2.2.2.2.1; go_simp) rfl ?_
            refine mix_pur2 rfl (fun K hK => ?_)
            go_simp
            first | refine ⟨_, fun _ => rfl, hK _ ?_⟩ | refine hK _ ?_
            clear hK K
            refine mix_pur2 rfl (fun K hK => ?_)
            go_simp
            first | refine ⟨_, fun _ => rfl, hK _ ?_⟩ | refine hK _ ?_
            clear hK K
            refine mix_pur2 rfl (fun K hK => ?_)
            go_simp
            first | refine ⟨_, fun _ => rfl, hK _ ?_⟩ | refine hK _ ?_
            clear hK K
            refine mix_load2 rfl rfl rfl (.int .i64 ib) (fun w' h => by have h : (RowD b9 y (.slice ao y.claims.length co) q1 i (.slice ay y.claims.length cy) q2 (.slice ag g.length cg) q3 ir q4 ia q5 ib) w' := h; have e0 := h.2.2.2.2.2; go_simp) rfl ?_
            refine mix_two2 rfl rfl false false rfl rfl (fun K hK => ?_) (fun K hK => ?_)
            · go_simp
              refine (rfine_c (hC4.call (bnx hBu2 z0)) (hG4.call (bnx hBu2 z0)) ir ia ib).mono ?_
              rintro e' wa1 ⟨rfl, hB9⟩
              rw [← HR.out]
              have z1 := z0.trans (hB9.mono z0.size)
              refine hK _ _ (hF _ z1) ?_
              clear hK K hB9
              refine mix_pur2 rfl (fun K hK => ?_)
              go_simp
              first | refine ⟨_, fun _ => rfl, hK _ ?_⟩ | refine hK _ ?_
              clear hK K
              refine mix_pur2 rfl (fun K hK => ?_)
              go_simp
              first | refine ⟨_, fun _ => rfl, hK _ ?_⟩ | refine hK _ ?_
              clear hK K
              refine mix_pur2 rfl (fun K hK => ?_)
              go_simp
              first | refine ⟨_, fun _ => rfl, hK _ ?_⟩ | refine hK _ ?_
              clear hK K
              refine mix_eff2 rfl false rfl (fun K hK => ?_)
              go_simp
              have z2 := bal2 (o := .cells #[.int .i64 0, .int .i64 0] 52) z1
              have hA := Blk.new wa1 #[.int .i64 0, .int .i64 0] 52
              have hAn : u2.heap.size ≤ wa1.heap.size := z1.size
              refine hK _ _ (hF _ z2) ?_
              clear hK K
              obtain ⟨ba, hba⟩ : ∃ b, b = wa1.heap.size := ⟨_, rfl⟩
              rw [← hba] at hA hAn ⊢
              generalize wa1.alloc (.cells #[.int .i64 0, .int .i64 0] 52) = wa2 at hA z2 ⊢
              clear hba
              refine mix_eff2 rfl true rfl (fun K hK => ?_)
              have q0c := hA.cell 0
              have q1c := hA.cell 1
              have fq0 := hA.free 0
              have fq1 := hA.free 1
              go_simp
              refine hK _ _ trivial ?_
              clear hK K
              refine mix_pur2 rfl (fun K hK => ?_)
              go_simp
              first | refine ⟨_, fun _ => rfl, hK _ ?_⟩ | refine hK _ ?_
              clear hK K
              refine mix_done2 ?_
              go_wp2_with fail
              go_meet
              case rel => exact ⟨ba, rfl, rfl, (hA.set 0 _).set 1 _, (Below.setCell (Below.setCell z2 (p := ⟨ba, 0, none⟩) hAn _) (p := ⟨ba, 1, none⟩) hAn _)⟩
            · go_simp
              have z1 := bal2 (o := .cells #[.int .i64 0, .int .i64 0] 52) z0
              have hA := Blk.new wd #[.int .i64 0, .int .i64 0] 52
              have hAn : u2.heap.size ≤ wd.heap.size := z0.size
              refine hK _ _ (hF _ z1) ?_
              clear hK K
              obtain ⟨ba, hba⟩ : ∃ b, b = wd.heap.size := ⟨_, rfl⟩
              rw [← hba] at hA hAn ⊢
              generalize wd.alloc (.cells #[.int .i64 0, .int .i64 0] 52) = wa1 at hA z1 ⊢
              clear hba
              refine mix_eff2 rfl false rfl (fun K hK => ?_)
              go_simp
              refine (rfine_c (hC4.call (bnx hBu2 z1)) (hG4.call (bnx hBu2 z1)) ir ia ib).mono ?_
              rintro e' wa2 ⟨rfl, hB9⟩
              rw [← HR.out]
              have hA := hA.call hB9
              have z2 := z1.trans (hB9.mono z1.size)
              refine hK _ _ (hF _ z2) ?_
              clear hK K hB9
              refine mix_pur2 rfl (fun K hK => ?_)
              go_simp
              first | refine ⟨_, fun _ => rfl, hK _ ?_⟩ | refine hK _ ?_
              clear hK K
              refine mix_pur2 rfl (fun K hK => ?_)
              go_simp
              first | refine ⟨_, fun _ => rfl, hK _ ?_⟩ | refine hK _ ?_
              clear hK K
              refine mix_pur2 rfl (fun K hK => ?_)
              go_simp
              first | refine ⟨_, fun _ => rfl, hK _ ?_⟩ | refine hK _ ?_
              clear hK K
              refine mix_eff2 rfl true rfl (fun K hK => ?_)
              have q0c := hA.cell 0
              have q1c := hA.cell 1
              have fq0 := hA.free 0
              have fq1 := hA.free 1
              go_simp
              refine hK _ _ trivial ?_
              clear hK K
              refine mix_pur2 rfl (fun K hK => ?_)
              go_simp
              first | refine ⟨_, fun _ => rfl, hK _ ?_⟩ | refine hK _ ?_
              clear hK K
              refine mix_done2 ?_
              go_wp2_with fail
              go_meet
              case rel => exact ⟨ba, rfl, rfl, (hA.set 0 _).set 1 _, (Below.setCell (Below.setCell z2 (p := ⟨ba, 0, none⟩) hAn _) (p := ⟨ba, 1, none⟩) hAn _)⟩
          case rest =>
          obtain ⟨a27, rfl, rfl, hA27, hU⟩ := hcut
          rename World => u3
          go_upto_region 15 with fail
          have hD3 := hD2.call hU
          have hO3 := hO2.call hU
          have hP3 := hP2.call hU
          have hBu3 := bnx hBu2 hU
          have hA25 := hA25.call hU
          clear hD2 hO2 hP2 hU hF
          have hG : ∀ w', Below u3.heap.size u3 w' → (FiT a25 a27 R b9 y (.slice ao y.claims.length co) q1 i (.slice ay y.claims.length cy) q2 (.slice ag g.length cg) q3 ir q4 ia q5 ib) w' := fun w' hb => ⟨hA25.call hb, hA27.call hb, hD3.call hb, HEQ.out w' (bnx hBu3 hb)⟩
          refine wp_region_mix2 (.one 0 (.one 1 (.pur 2 (.pur 3 (.pur 4 (.pur 5 (.pur 6 (.pur 7 (.pur 8 (.one 9 (.pur 10 (.pur 11 (.pur 12 (.one 13 (.act 14 (.pur 15 (.pur 16 (.pur 17 (.pur 18 (.pur 19 (.pur 20 (.pur 21 (.one 22 (.act 23 (.pur 24 (.pur 25 .fin)))))))))))))))))))))))))) 99 (FiT a25 a27 R b9 y (.slice ao y.claims.length co) q1 i (.slice ay y.claims.length cy) q2 (.slice ag g.length cg) q3 ir q4 ia q5 ib) (fun _ => True) (by kernel_rfl) (by kernel_rfl) rfl (by kernel_rfl) (hG _ (((Qt.refl _).drewN 1).below _)) (fun wd hqd _ => ?_)
          have z0 : Below u3.heap.size u3 wd := hqd.below _
          refine mix_load2 rfl rfl rfl (.agg #[.int .i64 R.1.1, .int .i64 R.1.2]) (fun w' h => by have h : (FiT a25 a27 R b9 y (.slice ao y.claims.length co) q1 i (.slice ay y.claims.length cy) q2 (.slice ag g.length cg) q3 ir q4 ia q5 ib) w' := h; have e0 := h.1.cell 0; have e1 := h.1.cell 1; go_simp) rfl ?_
          refine mix_load2 rfl rfl rfl (.agg #[.int .i64 R.1.1, .int .i64 R.1.2]) (fun w' h => by have h : (FiT a25 a27 R b9 y (.slice ao y.claims.length co) q1 i (.slice ay y.claims.length cy) q2 (.slice ag g.length cg) q3 ir q4 ia q5 ib) w' := h; have e0 := h.2.1.cell 0; have e1 := h.2.1.cell 1; go_simp) rfl ?_
          refine mix_pur2 rfl (fun K hK => ?_)
          go_simp
          first | refine ⟨_, fun _ => rfl, hK _ ?_⟩ | refine hK _ ?_
          clear hK K
          refine mix_pur2 rfl (fun K hK => ?_)
          go_simp
          first | refine ⟨_, fun _ => rfl, hK _ ?_⟩ | refine hK _ ?_
          clear hK K
          refine mix_pur2 rfl (fun K hK => ?_)
          go_simp
          first | refine ⟨_, fun _ => rfl, hK _ ?_⟩ | refine hK _ ?_
          clear hK K
          refine mix_pur2 rfl (fun K hK => ?_)
          go_simp
          first | refine ⟨_, fun _ => rfl, hK _ ?_⟩ | refine hK _ ?_
          clear hK K
          refine mix_pur2 rfl (fun K hK => ?_)
          go_simp
          first | refine ⟨_, fun _ => rfl, hK _ ?_⟩ | refine hK _ ?_
          clear hK K
          refine mix_pur2 rfl (fun K hK => ?_)
          go_simp
          first | refine ⟨_, fun _ => rfl, hK _ ?_⟩ | refine hK _ ?_
          clear hK K
          refine mix_pur2 rfl (fun K hK => ?_)
          go_simp
          first | refine ⟨_, fun _ => rfl, hK _ ?_⟩ | refine hK _ ?_
          clear hK K
          refine mix_loadg2 rfl rfl (.agg #[.int .i64 y.points, .int .i64 y.bend, .slice ao y.claims.length co]) (by go_simp) (fun w' h => by have h : (FiT a25 a27 R b9 y (.slice ao y.claims.length co) q1 i (.slice ay y.claims.length cy) q2 (.slice ag g.length cg) q3 ir q4 ia q5 ib) w' := h; have e0 := h.2.2.1.cell 0; have e1 := h.2.2.1.cell 1; have e2 := h.2.2.1.cell 2; go_simp) rfl ?_
          refine mix_pur2 rfl (fun K hK => ?_)
          go_simp
          first | refine ⟨_, fun _ => rfl, hK _ ?_⟩ | refine hK _ ?_
          clear hK K
          refine mix_pur2 rfl (fun K hK => ?_)
          go_simp
          first | refine ⟨_, fun _ => rfl, hK _ ?_⟩ | refine hK _ ?_
          clear hK K
          refine mix_pur2 rfl (fun K hK => ?_)
          go_simp
          first | refine ⟨_, fun _ => rfl, hK _ ?_⟩ | refine hK _ ?_
          clear hK K
          refine mix_loadg2 rfl rfl (.agg #[.int .i64 y.points, .int .i64 y.bend, .slice ay y.claims.length cy]) (by go_simp) (fun w' h => by have h : (FiT a25 a27 R b9 y (.slice ao y.claims.length co) q1 i (.slice ay y.claims.length cy) q2 (.slice ag g.length cg) q3 ir q4 ia q5 ib) w' := h; have e0 := h.2.2.2.1.1; have e1 := h.2.2.2.1.2.1; have e2 := h.2.2.2.1.2.2; go_simp) rfl ?_
          refine mix_eff2 rfl false rfl (fun K hK => ?_)
          go_simp
          refine (sameEdges_c (hO3.call z0) (hC4.call (bnx hBu3 z0))).mono ?_
          rintro e' y1 ⟨rfl, hy1⟩
          have z1 := z0.trans (hy1.mono z0.size)
          refine hK _ _ (hG _ z1) ?_
          clear hK K
          refine mix_pur2 rfl (fun K hK => ?_)
          go_simp
          first | refine ⟨_, fun _ => rfl, hK _ ?_⟩ | refine hK _ ?_
          clear hK K
          refine mix_pur2 rfl (fun K hK => ?_)
          go_simp
          first | refine ⟨_, fun _ => rfl, hK _ ?_⟩ | refine hK _ ?_
          clear hK K
          refine mix_pur2 rfl (fun K hK => ?_)
          go_simp
          first | refine ⟨_, fun _ => rfl, hK _ ?_⟩ | refine hK _ ?_
          clear hK K
          refine mix_pur2 rfl (fun K hK => ?_)
          go_simp
          first | refine ⟨_, fun _ => rfl, hK _ ?_⟩ | refine hK _ ?_
          clear hK K
          refine mix_pur2 rfl (fun K hK => ?_)
          go_simp
          first | refine ⟨_, fun _ => rfl, hK _ ?_⟩ | refine hK _ ?_
          clear hK K
          refine mix_pur2 rfl (fun K hK => ?_)
          go_simp
          first | refine ⟨_, fun _ => rfl, hK _ ?_⟩ | refine hK _ ?_
          clear hK K
          refine mix_pur2 rfl (fun K hK => ?_)
          go_simp
          first | refine ⟨_, fun _ => rfl, hK _ ?_⟩ | refine hK _ ?_
          clear hK K
          refine mix_loadg2 rfl rfl (.slice ag g.length cg) (by go_simp) (fun w' h => by have h : (FiT a25 a27 R b9 y (.slice ao y.claims.length co) q1 i (.slice ay y.claims.length cy) q2 (.slice ag g.length cg) q3 ir q4 ia q5 ib) w' := h; have e0 := h.2.2.2.2.1; go_simp) rfl ?_
          refine mix_eff2 rfl false rfl (fun K hK => ?_)
          go_simp
          refine (sameFurrows_q (hP3.call z1) (hG4.call (bnx hBu3 z1))).mono ?_
          rintro e' y2 ⟨⟨bb, rfl, hbb⟩, hq2⟩
          obtain rfl : bb = true := hbb.2 rfl
          have z2 := z1.trans ((hq2.below y1.heap.size).mono z1.size)
          refine hK _ _ (hG _ z2) ?_
          clear hK K
          refine mix_pur2 rfl (fun K hK => ?_)
          go_simp
          first | refine ⟨_, fun _ => rfl, hK _ ?_⟩ | refine hK _ ?_
          clear hK K
          refine mix_pur2 rfl (fun K hK => ?_)
          go_simp
          first | refine ⟨_, fun _ => rfl, hK _ ?_⟩ | refine hK _ ?_
          clear hK K
          refine mix_done2 ?_
          go_wp2_with fail
          go_roundw
          case rel => exact ⟨i + 1, by omega, by go_num, hBu3.trans (z2.mono hBu3.size)⟩
          case measure => simp [intOf]; omega
        · obtain rfl : i = 3 := by omega
          go_wp2_with fail
          refine (surveyed_c _).mono ?_
          rintro e u1 ⟨rfl, hU1⟩
          go_wp2_with fail
          go_ret
          exact ⟨rfl, bnx (bnx hBz hBr) hU1⟩

end Go.Proofs.Ytgdifckmjdjcpaa
