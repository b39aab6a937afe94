/- EdgeFollows: what its walk hands back; conditions: the arguments read as an edge, numbers, a claim, a list of numbers. -/
import Derived.Test.YtgdifckmjdjcpaaFst
import Derived.Test.YtgdifckmjdjcpaaApa
import Derived.Test.YtgdifckmjdjcpaaRap
import Derived.Test.YtgdifckmjdjcpaaFol
import Derived.Test.YtgdifckmjdjcpaaRfo
import Derived.Test.YtgdifckmjdjcpaaRad
import Derived.Test.YtgdifckmjdjcpaaSae
import Derived.Test.YtgdifckmjdjcpaaSur
namespace Go.Proofs.Ytgdifckmjdjcpaa
open Go.RowKit

/-- A row of edges, and one of its own. -/
def ErS (b i : Nat) (y : Edg) (v : Value) (w : World) : Prop := w.cell? ⟨b, i * 3, none⟩ = some (.int .i64 y.points) ∧ w.cell? ⟨b, i * 3 + 1, none⟩ = some (.int .i64 y.bend) ∧ w.cell? ⟨b, i * 3 + 2, none⟩ = some v
theorem ErS.below {b i : Nat} {y : Edg} {v : Value} {B : Nat} {w w' : World} (h : ErS b i y v w) (hB : Below B w w') (hb : b < B) : ErS b i y v w' :=
  ⟨(cell_same (hB.block b hb)).trans h.1, (cell_same (hB.block b hb)).trans h.2.1, (cell_same (hB.block b hb)).trans h.2.2⟩
/-- What is read of the edges' block while a claim is dealt. -/
def FxS (b n : Nat) (w : World) : Prop := w.cell? ⟨b, 3, none⟩ = some (.int .i64 (n : Int))
def FzS (b n bc : Nat) (c : Cl) (ba : Nat) (d : Cl) (w : World) : Prop := FxS b n w ∧ Blk bc #[.int .i64 c.kind, .int .i64 c.point, .int .i64 c.other, .int .i64 c.off, .int .i64 c.err] 26 w ∧ Blk ba #[.int .i64 d.kind, .int .i64 d.point, .int .i64 d.other, .int .i64 d.off, .int .i64 d.err] 26 w
/-- What stands at one place of the rows. -/
def RowF (b i : Nat) (y : Edg) (v : Value) (q1 : Nat) (ia : Int) (q2 : Nat) (ib : Int) (q3 : Nat) (e : Cl) (w : World) : Prop :=
  ErS b i y v w ∧ w.cell? ⟨q1, i, none⟩ = some (.int .i64 ia) ∧ w.cell? ⟨q2, i, none⟩ = some (.int .i64 ib) ∧ w.cell? ⟨q3, i * 5, none⟩ = some (.int .i64 e.kind) ∧ w.cell? ⟨q3, i * 5 + 1, none⟩ = some (.int .i64 e.point) ∧ w.cell? ⟨q3, i * 5 + 2, none⟩ = some (.int .i64 e.other) ∧ w.cell? ⟨q3, i * 5 + 3, none⟩ = some (.int .i64 e.off) ∧ w.cell? ⟨q3, i * 5 + 4, none⟩ = some (.int .i64 e.err)
theorem RowF.below {b i q1 q2 q3 : Nat} {y : Edg} {v : Value} {ia ib : Int} {e : Cl} {B : Nat} {w w' : World} (h : RowF b i y v q1 ia q2 ib q3 e w) (hB : Below B w w') (hb : b < B) (h1 : q1 < B) (h2 : q2 < B) (h3 : q3 < B) : RowF b i y v q1 ia q2 ib q3 e w' :=
  ⟨h.1.below hB hb, (cell_same (hB.block q1 h1)).trans h.2.1, (cell_same (hB.block q2 h2)).trans h.2.2.1, (cell_same (hB.block q3 h3)).trans h.2.2.2.1, (cell_same (hB.block q3 h3)).trans h.2.2.2.2.1, (cell_same (hB.block q3 h3)).trans h.2.2.2.2.2.1, (cell_same (hB.block q3 h3)).trans h.2.2.2.2.2.2.1, (cell_same (hB.block q3 h3)).trans h.2.2.2.2.2.2.2⟩
def FolS (b9 b i : Nat) (y : Edg) (v9 v : Value) (q1 : Nat) (ia : Int) (q2 : Nat) (ib : Int) (q3 : Nat) (e : Cl) (w : World) : Prop := Blk b9 #[.int .i64 y.points, .int .i64 y.bend, v9] 24 w ∧ RowF b i y v q1 ia q2 ib q3 e w
def FoT (a19 a21 : Nat) (R : (Int × Int) × Int) (a27 a29 : Nat) (T : Edg) (v27 v29 : Value) (b9 b i : Nat) (y : Edg) (v9 v : Value) (q1 : Nat) (ia : Int) (q2 : Nat) (ib : Int) (q3 : Nat) (e : Cl) (w : World) : Prop :=
  Blk a19 #[.int .i64 R.1.1, .int .i64 R.1.2] 52 w ∧ Blk a21 #[.int .i64 R.1.1, .int .i64 R.1.2] 52 w ∧ Blk a27 #[.int .i64 T.points, .int .i64 T.bend, v27] 24 w ∧ Blk a29 #[.int .i64 T.points, .int .i64 T.bend, v29] 24 w ∧ FolS b9 b i y v9 v q1 ia q2 ib q3 e w

set_option maxRecDepth 100000 in
set_option maxHeartbeats 100000000 in
theorem edgeFollows_c {A A2 : Nat → Prop} {w : World} {vx vn : Value} {x : Edg} (h : ClsM A w vx x.claims) (pa pb : Int) (c : Cl) {nums : List Int} (hn : Ints A2 w vn nums) : Calls Try.prog 20 #[.agg #[.int .i64 x.points, .int .i64 x.bend, vx], .int .i64 pa, .int .i64 pb, .agg #[.int .i64 c.kind, .int .i64 c.point, .int .i64 c.other, .int .i64 c.off, .int .i64 c.err], vn] w fun e w' => e = .returned (.bool true) ∧ Below w.heap.size w w' := by
  obtain ⟨ax, cx, rfl, hcx1, hcx2⟩ := h.shape
  obtain ⟨an, cn, rfl, _, _⟩ := hn.shape
  have n1 := h.len
  obtain ⟨w1, hw1⟩ : ∃ w1, w1 = (w.alloc (.cells #[.int .i64 x.points, .int .i64 x.bend, .slice ax x.claims.length cx] 24)).alloc (.cells #[.int .i64 c.kind, .int .i64 c.point, .int .i64 c.other, .int .i64 c.off, .int .i64 c.err] 26) := ⟨_, rfl⟩
  obtain ⟨b1, hb1⟩ : ∃ b, b = w.heap.size := ⟨_, rfl⟩
  have hX1 : Blk b1 #[.int .i64 x.points, .int .i64 x.bend, .slice ax x.claims.length cx] 24 w1 := by rw [hw1, hb1]; exact (Blk.new w _ _).alloc _
  have hC1 : Blk (b1 + 1) #[.int .i64 c.kind, .int .i64 c.point, .int .i64 c.other, .int .i64 c.off, .int .i64 c.err] 26 w1 := by rw [hw1, hb1]; exact blk_at (by simp) _ _
  have hB1 : Below w.heap.size w w1 := by rw [hw1]; exact bal2 ((Below.refl _ w).alloc (Nat.le_refl _) _)
  have hn1 := hn.call hB1
  go_enter Try.func20, Try.ntmps20
  go_upto_region 1 with fail
  rw [← hw1, ← hb1]
  clear hw1 hb1
  have c2 := hX1.cell 2
  by_cases h20 : 20 < x.claims.length
  · go_wp2_with fail
    refine (surveyed_c _).mono ?_
    rintro e w2 ⟨rfl, hB2⟩
    go_wp2_with fail
    go_ret
    exact ⟨rfl, bnx hB1 hB2⟩
  · go_wp2_with fail
    refine (newHand_c hn1).mono ?_
    rintro e w2 ⟨rfl, hH2, hB2⟩
    obtain ⟨hb, hhb⟩ : ∃ b, b = w1.heap.size := ⟨_, rfl⟩
    have hb1 : b1 + 1 < hb := by rw [hhb]; exact hC1.lt
    have hb2 : w.heap.size ≤ hb := by rw [hhb]; exact hB1.size
    rw [← hhb] at hH2 ⊢
    have hX2 := hX1.call hB2
    have hC2 := hC1.call hB2
    have hBw2 := bnx hB1 hB2
    clear hhb c2 hX1 hC1 hB1 hB2 hn1
    have c0 := hX2.cell 0
    have c1 := hX2.cell 1
    have c2 := hX2.cell 2
    have d0 := hC2.cell 0
    have d1 := hC2.cell 1
    have d2 := hC2.cell 2
    have d3 := hC2.cell 3
    have d4 := hC2.cell 4
    go_wp2_with fail
    refine (edges_c hH2 (by omega) x ax x.claims.length cx c).mono ?_
    rintro e w4 ⟨⟨b, md, vm, vz, rfl, hmd, hmd6, hE4, hm4, hz4⟩, ⟨k4, hk4, hH4⟩, hG4⟩
    have hl2 := hH2.lt
    have hl4 := hH4.lt
    have hB4 := bhand hBw2 hG4 hb2
    have hC4 := hC2.hand hG4 (by omega)
    have hs0 : FoC w hb w4.heap.size b x md (md.add c) (.slice ax x.claims.length cx) vm vz (b1 + 1) c none 100 w4 :=
      ⟨⟨k4, by omega, hH4⟩, hE4, hC4, ((h.wide (A' := fun q => q < w.heap.size) fun q _ hq => hq).below hB4 fun q hq _ => hq).wide fun q hq hl => ⟨by omega, hl⟩,
        hm4.wide fun q hq hl => ⟨by omega, hl⟩, hz4.wide fun q hq hl => ⟨by omega, hl⟩, fun a e => (by cases e), hB4, hb2, ⟨hl4, Blk.lt hE4, hC4.lt⟩, Nat.le_refl _⟩
    have hmp := hmd.p
    obtain ⟨n, hn⟩ : ∃ n : Nat, md.points = (n : Int) := ⟨md.points.toNat, by omega⟩
    have hn4 : 1 ≤ n ∧ n ≤ 4 := by omega
    have hX : ∀ bo K u, FoC w hb w4.heap.size b x md (md.add c) (.slice ax x.claims.length cx) vm vz (b1 + 1) c bo K u → FxS b n u := fun bo K u h => by
      have := Blk.cell h.e 3
      unfold FxS
      rw [← hn]
      exact this
    have HX := Lib.hid hX
    have bm1 : IntKind.i64.wrap ((n : Int) - 1) = (n : Int) - 1 := IntWalk.i64_in _ (by omega)
    obtain ⟨am, cm, rfl, _, _⟩ := hm4.shape
    obtain ⟨az, cz, rfl, _, _⟩ := hz4.shape
    have hl : (md.add c).claims.length ≤ 7 := by unfold Edg.add; simp only [List.length_append, List.length_singleton]; omega
    clear hn hX hmp hmd hX2 hC2 hC4 hE4 hm4 hz4 hH4 hG4 hB4 hH2 hBw2 c0 c1 c2 d0 d1 d2 d3 d4 hl2 hl4
    go_upto_region 5 with fail
    go_cut [13] from 31 (fun s13 wx => ∃ (d : Cl) (ba : Nat), s13 = .pointer (some ⟨ba, 0, none⟩) ∧ d.Ok (n : Int) ∧ FoC w hb w4.heap.size b x md (md.add c) (.slice ax x.claims.length cx) (.slice am md.claims.length cm) (.slice az (md.add c).claims.length cz) (b1 + 1) c none 120 wx ∧ Blk ba #[.int .i64 d.kind, .int .i64 d.point, .int .i64 d.other, .int .i64 d.off, .int .i64 d.err] 26 wx)
    case first => as_aux_lemma =>
      refine wp_region_mix2 (.pur 0 (.pur 1 (.pur 2 (.pur 3 (.one 4 (.pur 5 (.pur 7 (.pur 9 (.pur 11 (.two 6 (.two 8 (.two 10 (.two 12 (.two 13 (.two 14 (.act 15 (.act 16 .fin)) 15 (.act 14 (.act 16 .fin))) 15 (.act 13 (.act 14 (.act 16 .fin)))) 15 (.act 12 (.act 13 (.act 14 (.act 16 .fin))))) 15 (.act 10 (.act 12 (.act 13 (.act 14 (.act 16 .fin)))))) 15 (.act 8 (.act 10 (.act 12 (.act 13 (.act 14 (.act 16 .fin))))))) 15 (.act 6 (.act 8 (.act 10 (.act 12 (.act 13 (.act 14 (.act 16 .fin))))))))))))))))) 16 (FxS b n) (fun _ => True) (by kernel_rfl) (by kernel_rfl) rfl (by kernel_rfl) (HX.out _ _ _ (hs0.qt ((Qt.refl _).drewN 1))) (fun wd hqd _ => ?_)
      have hs := hs0.qt hqd
      refine mix_pur2 rfl (fun K hK => ?_)
      go_simp
      first | refine ⟨_, fun _ => rfl, hK _ ?_⟩ | refine hK _ ?_
      clear hK K
      refine mix_pur2 rfl (fun K hK => ?_)
      go_simp
      first | refine ⟨_, fun _ => rfl, hK _ ?_⟩ | refine hK _ ?_
      clear hK K
      refine mix_pur2 rfl (fun K hK => ?_)
      go_simp
      first | refine ⟨_, fun _ => rfl, hK _ ?_⟩ | refine hK _ ?_
      clear hK K
      refine mix_pur2 rfl (fun K hK => ?_)
      go_simp
      first | refine ⟨_, fun _ => rfl, hK _ ?_⟩ | refine hK _ ?_
      clear hK K
      refine mix_load2 rfl rfl rfl (.int .i64 (n : Int)) (fun w' h => by have h : (FxS b n) w' := h; have h2 : w'.cell? ⟨b, 3, none⟩ = some (.int .i64 (n : Int)) := h; go_simp) rfl ?_
      refine mix_pur2 rfl (fun K hK => ?_)
      go_simp
      first | refine ⟨_, fun _ => rfl, hK _ ?_⟩ | refine hK _ ?_
      clear hK K
      refine mix_pur2 rfl (fun K hK => ?_)
      go_simp
      first | refine ⟨_, fun _ => rfl, hK _ ?_⟩ | refine hK _ ?_
      clear hK K
      refine mix_pur2 rfl (fun K hK => ?_)
      go_simp
      first | refine ⟨_, fun _ => rfl, hK _ ?_⟩ | refine hK _ ?_
      clear hK K
      refine mix_pur2 rfl (fun K hK => ?_)
      go_simp
      first | refine ⟨_, fun _ => rfl, hK _ ?_⟩ | refine hK _ ?_
      clear hK K
      refine mix_two2 rfl rfl false false rfl rfl (fun K hK => ?_) (fun K hK => ?_)
      · as_aux_lemma =>
        refine wanted_none rfl ?_
        go_simp
        obtain ⟨kk, hkk, hHH⟩ := hs.hnd
        refine (upto_c hHH (by omega) 9 (by omega) (by omega)).mono ?_
        rintro e wa1 ⟨⟨u1, rfl, hu1, hu1b⟩, ⟨k9, hk9, hH9⟩, hG9⟩
        have hs := hs.hand (K' := 101) ⟨k9, by omega, hH9⟩ hG9
        refine hK _ _ (HX.out _ _ _ hs) ?_
        clear hK K hHH hH9 hG9 hkk hk9 kk k9
        refine mix_two2 rfl rfl false false rfl rfl (fun K hK => ?_) (fun K hK => ?_)
        · as_aux_lemma =>
          refine wanted_none rfl ?_
          go_simp
          obtain ⟨kk, hkk, hHH⟩ := hs.hnd
          refine (upto_c hHH (by omega) 9 (by omega) (by omega)).mono ?_
          rintro e wa2 ⟨⟨u2, rfl, hu2, hu2b⟩, ⟨k9, hk9, hH9⟩, hG9⟩
          have hs := hs.hand (K' := 102) ⟨k9, by omega, hH9⟩ hG9
          refine hK _ _ (HX.out _ _ _ hs) ?_
          clear hK K hHH hH9 hG9 hkk hk9 kk k9
          refine mix_two2 rfl rfl false false rfl rfl (fun K hK => ?_) (fun K hK => ?_)
          · as_aux_lemma =>
            refine wanted_none rfl ?_
            go_simp
            obtain ⟨kk, hkk, hHH⟩ := hs.hnd
            refine (upto_c hHH (by omega) 9 (by omega) (by omega)).mono ?_
            rintro e wa3 ⟨⟨u3, rfl, hu3, hu3b⟩, ⟨k9, hk9, hH9⟩, hG9⟩
            have hs := hs.hand (K' := 103) ⟨k9, by omega, hH9⟩ hG9
            refine hK _ _ (HX.out _ _ _ hs) ?_
            clear hK K hHH hH9 hG9 hkk hk9 kk k9
            refine mix_two2 rfl rfl false false rfl rfl (fun K hK => ?_) (fun K hK => ?_)
            · as_aux_lemma =>
              refine wanted_none rfl ?_
              go_simp
              obtain ⟨kk, hkk, hHH⟩ := hs.hnd
              refine (upto_c hHH (by omega) 9 (by omega) (by omega)).mono ?_
              rintro e wa4 ⟨⟨u4, rfl, hu4, hu4b⟩, ⟨k9, hk9, hH9⟩, hG9⟩
              have hs := hs.hand (K' := 104) ⟨k9, by omega, hH9⟩ hG9
              refine hK _ _ (HX.out _ _ _ hs) ?_
              clear hK K hHH hH9 hG9 hkk hk9 kk k9
              refine mix_two2 rfl rfl false false rfl rfl (fun K hK => ?_) (fun K hK => ?_)
              · as_aux_lemma =>
                go_simp
                have hI : Ints (fun q => wa4.heap.size ≤ q) (wa4.alloc (.cells #[.int .i64 u1, .int .i64 u2, .int .i64 u3, .int .i64 u4] 3)) (.slice (some ⟨wa4.heap.size, 0, none⟩) 4 4) [u1, u2, u3, u4] := Own.ints (own_lit wa4 3 1 #[.int .i64 u1, .int .i64 u2, .int .i64 u3, .int .i64 u4] 4 rfl (by omega))
                have hlt := hs.hlt
                have hI := hI.wide (A' := fun q => q ≠ hb) fun q hq _ => by omega
                have hs := hs.call ((Below.refl wa4.heap.size wa4).alloc (Nat.le_refl _) (.cells #[.int .i64 u1, .int .i64 u2, .int .i64 u3, .int .i64 u4] 3))
                refine hK _ _ (HX.out _ _ _ hs) ?_
                clear hK K hlt
                obtain ⟨bl, hbl⟩ : ∃ b, b = wa4.heap.size := ⟨_, rfl⟩
                rw [← hbl] at hI ⊢
                generalize wa4.alloc (.cells #[.int .i64 u1, .int .i64 u2, .int .i64 u3, .int .i64 u4] 3) = wa5 at hs hI ⊢
                clear hbl
                refine mix_two2 rfl rfl false false rfl rfl (fun K hK => ?_) (fun K hK => ?_)
                · refine wanted_none rfl ?_
                  go_simp
                  obtain ⟨kk, hkk, hHH⟩ := hs.hnd
                  refine (claimOf_c hHH (by omega) hn4 hI (fun h => h rfl) (by show n ≤ 4; omega) (by intro u hu; simp only [List.mem_cons, List.not_mem_nil, or_false] at hu; omega)).mono ?_
                  rintro e wa6 ⟨⟨d, rfl, hdok⟩, ⟨k9, hk9, hH9⟩, hG9⟩
                  have hs := hs.hand (K' := 120) ⟨k9, by omega, hH9⟩ hG9
                  refine hK _ _ (HX.out _ _ _ hs) ?_
                  clear hK K hHH hH9 hG9 hkk hk9 kk k9 hI
                  refine mix_eff2 rfl false rfl (fun K hK => ?_)
                  go_simp
                  have hs := hs.box
                  refine hK _ _ (HX.out _ _ _ hs) ?_
                  clear hK K
                  obtain ⟨ba, hba⟩ : ∃ b, b = wa6.heap.size := ⟨_, rfl⟩
                  rw [← hba] at hs ⊢
                  generalize wa6.alloc (.cells #[.int .i64 0, .int .i64 0, .int .i64 0, .int .i64 0, .int .i64 0] 26) = wa7 at hs ⊢
                  clear hba
                  refine mix_eff2 rfl true rfl (fun K hK => ?_)
                  obtain ⟨hA9, hA9b⟩ := hs.bo ba rfl
                  have q0 := hA9.cell 0
                  have q1 := hA9.cell 1
                  have q2 := hA9.cell 2
                  have q3 := hA9.cell 3
                  have q4 := hA9.cell 4
                  have fq0 := hA9.free 0
                  have fq1 := hA9.free 1
                  have fq2 := hA9.free 2
                  have fq3 := hA9.free 3
                  have fq4 := hA9.free 4
                  unfold Cl.val
                  go_simp
                  refine hK _ _ trivial ?_
                  clear hK K
                  refine mix_done2 ?_
                  go_wp2_with fail
                  go_meet
                  case rel => exact ⟨d, ba, rfl, hdok, (hs.put d).1, (hs.put d).2⟩
                · go_simp
                  have hs := hs.box
                  have hI := hI.call ((Below.refl wa5.heap.size wa5).alloc (Nat.le_refl _) (.cells #[.int .i64 0, .int .i64 0, .int .i64 0, .int .i64 0, .int .i64 0] 26))
                  refine hK _ _ (HX.out _ _ _ hs) ?_
                  clear hK K
                  obtain ⟨ba, hba⟩ : ∃ b, b = wa5.heap.size := ⟨_, rfl⟩
                  rw [← hba] at hs ⊢
                  generalize wa5.alloc (.cells #[.int .i64 0, .int .i64 0, .int .i64 0, .int .i64 0, .int .i64 0] 26) = wa6 at hs hI ⊢
                  clear hba
                  refine mix_eff2 rfl false rfl (fun K hK => ?_)
                  refine wanted_none rfl ?_
                  go_simp
                  obtain ⟨kk, hkk, hHH⟩ := hs.hnd
                  refine (claimOf_c hHH (by omega) hn4 hI (fun h => h rfl) (by show n ≤ 4; omega) (by intro u hu; simp only [List.mem_cons, List.not_mem_nil, or_false] at hu; omega)).mono ?_
                  rintro e wa7 ⟨⟨d, rfl, hdok⟩, ⟨k9, hk9, hH9⟩, hG9⟩
                  have hs := hs.hand (K' := 120) ⟨k9, by omega, hH9⟩ hG9
                  refine hK _ _ (HX.out _ _ _ hs) ?_
                  clear hK K hHH hH9 hG9 hkk hk9 kk k9 hI
                  refine mix_eff2 rfl true rfl (fun K hK => ?_)
                  obtain ⟨hA9, hA9b⟩ := hs.bo ba rfl
                  have q0 := hA9.cell 0
                  have q1 := hA9.cell 1
                  have q2 := hA9.cell 2
                  have q3 := hA9.cell 3
                  have q4 := hA9.cell 4
                  have fq0 := hA9.free 0
                  have fq1 := hA9.free 1
                  have fq2 := hA9.free 2
                  have fq3 := hA9.free 3
                  have fq4 := hA9.free 4
                  unfold Cl.val
                  go_simp
                  refine hK _ _ trivial ?_
                  clear hK K
                  refine mix_done2 ?_
                  go_wp2_with fail
                  go_meet
                  case rel => exact ⟨d, ba, rfl, hdok, (hs.put d).1, (hs.put d).2⟩
              · go_simp
                have hs := hs.box
                refine hK _ _ (HX.out _ _ _ hs) ?_
                clear hK K
                obtain ⟨ba, hba⟩ : ∃ b, b = wa4.heap.size := ⟨_, rfl⟩
                rw [← hba] at hs ⊢
                generalize wa4.alloc (.cells #[.int .i64 0, .int .i64 0, .int .i64 0, .int .i64 0, .int .i64 0] 26) = wa5 at hs ⊢
                clear hba
                refine mix_eff2 rfl false rfl (fun K hK => ?_)
                go_simp
                have hI : Ints (fun q => wa5.heap.size ≤ q) (wa5.alloc (.cells #[.int .i64 u1, .int .i64 u2, .int .i64 u3, .int .i64 u4] 3)) (.slice (some ⟨wa5.heap.size, 0, none⟩) 4 4) [u1, u2, u3, u4] := Own.ints (own_lit wa5 3 1 #[.int .i64 u1, .int .i64 u2, .int .i64 u3, .int .i64 u4] 4 rfl (by omega))
                have hlt := hs.hlt
                have hI := hI.wide (A' := fun q => q ≠ hb) fun q hq _ => by omega
                have hs := hs.call ((Below.refl wa5.heap.size wa5).alloc (Nat.le_refl _) (.cells #[.int .i64 u1, .int .i64 u2, .int .i64 u3, .int .i64 u4] 3))
                refine hK _ _ (HX.out _ _ _ hs) ?_
                clear hK K hlt
                obtain ⟨bl, hbl⟩ : ∃ b, b = wa5.heap.size := ⟨_, rfl⟩
                rw [← hbl] at hI ⊢
                generalize wa5.alloc (.cells #[.int .i64 u1, .int .i64 u2, .int .i64 u3, .int .i64 u4] 3) = wa6 at hs hI ⊢
                clear hbl
                refine mix_eff2 rfl false rfl (fun K hK => ?_)
                refine wanted_none rfl ?_
                go_simp
                obtain ⟨kk, hkk, hHH⟩ := hs.hnd
                refine (claimOf_c hHH (by omega) hn4 hI (fun h => h rfl) (by show n ≤ 4; omega) (by intro u hu; simp only [List.mem_cons, List.not_mem_nil, or_false] at hu; omega)).mono ?_
                rintro e wa7 ⟨⟨d, rfl, hdok⟩, ⟨k9, hk9, hH9⟩, hG9⟩
                have hs := hs.hand (K' := 120) ⟨k9, by omega, hH9⟩ hG9
                refine hK _ _ (HX.out _ _ _ hs) ?_
                clear hK K hHH hH9 hG9 hkk hk9 kk k9 hI
                refine mix_eff2 rfl true rfl (fun K hK => ?_)
                obtain ⟨hA9, hA9b⟩ := hs.bo ba rfl
                have q0 := hA9.cell 0
                have q1 := hA9.cell 1
                have q2 := hA9.cell 2
                have q3 := hA9.cell 3
                have q4 := hA9.cell 4
                have fq0 := hA9.free 0
                have fq1 := hA9.free 1
                have fq2 := hA9.free 2
                have fq3 := hA9.free 3
                have fq4 := hA9.free 4
                unfold Cl.val
                go_simp
                refine hK _ _ trivial ?_
                clear hK K
                refine mix_done2 ?_
                go_wp2_with fail
                go_meet
                case rel => exact ⟨d, ba, rfl, hdok, (hs.put d).1, (hs.put d).2⟩
            · go_simp
              have hs := hs.box
              refine hK _ _ (HX.out _ _ _ hs) ?_
              clear hK K
              obtain ⟨ba, hba⟩ : ∃ b, b = wa3.heap.size := ⟨_, rfl⟩
              rw [← hba] at hs ⊢
              generalize wa3.alloc (.cells #[.int .i64 0, .int .i64 0, .int .i64 0, .int .i64 0, .int .i64 0] 26) = wa4 at hs ⊢
              clear hba
              refine mix_eff2 rfl false rfl (fun K hK => ?_)
              refine wanted_none rfl ?_
              go_simp
              obtain ⟨kk, hkk, hHH⟩ := hs.hnd
              refine (upto_c hHH (by omega) 9 (by omega) (by omega)).mono ?_
              rintro e wa5 ⟨⟨u4, rfl, hu4, hu4b⟩, ⟨k9, hk9, hH9⟩, hG9⟩
              have hs := hs.hand (K' := 104) ⟨k9, by omega, hH9⟩ hG9
              refine hK _ _ (HX.out _ _ _ hs) ?_
              clear hK K hHH hH9 hG9 hkk hk9 kk k9
              refine mix_eff2 rfl false rfl (fun K hK => ?_)
              go_simp
              have hI : Ints (fun q => wa5.heap.size ≤ q) (wa5.alloc (.cells #[.int .i64 u1, .int .i64 u2, .int .i64 u3, .int .i64 u4] 3)) (.slice (some ⟨wa5.heap.size, 0, none⟩) 4 4) [u1, u2, u3, u4] := Own.ints (own_lit wa5 3 1 #[.int .i64 u1, .int .i64 u2, .int .i64 u3, .int .i64 u4] 4 rfl (by omega))
              have hlt := hs.hlt
              have hI := hI.wide (A' := fun q => q ≠ hb) fun q hq _ => by omega
              have hs := hs.call ((Below.refl wa5.heap.size wa5).alloc (Nat.le_refl _) (.cells #[.int .i64 u1, .int .i64 u2, .int .i64 u3, .int .i64 u4] 3))
              refine hK _ _ (HX.out _ _ _ hs) ?_
              clear hK K hlt
              obtain ⟨bl, hbl⟩ : ∃ b, b = wa5.heap.size := ⟨_, rfl⟩
              rw [← hbl] at hI ⊢
              generalize wa5.alloc (.cells #[.int .i64 u1, .int .i64 u2, .int .i64 u3, .int .i64 u4] 3) = wa6 at hs hI ⊢
              clear hbl
              refine mix_eff2 rfl false rfl (fun K hK => ?_)
              refine wanted_none rfl ?_
              go_simp
              obtain ⟨kk, hkk, hHH⟩ := hs.hnd
              refine (claimOf_c hHH (by omega) hn4 hI (fun h => h rfl) (by show n ≤ 4; omega) (by intro u hu; simp only [List.mem_cons, List.not_mem_nil, or_false] at hu; omega)).mono ?_
              rintro e wa7 ⟨⟨d, rfl, hdok⟩, ⟨k9, hk9, hH9⟩, hG9⟩
              have hs := hs.hand (K' := 120) ⟨k9, by omega, hH9⟩ hG9
              refine hK _ _ (HX.out _ _ _ hs) ?_
              clear hK K hHH hH9 hG9 hkk hk9 kk k9 hI
              refine mix_eff2 rfl true rfl (fun K hK => ?_)
              obtain ⟨hA9, hA9b⟩ := hs.bo ba rfl
              have q0 := hA9.cell 0
              have q1 := hA9.cell 1
              have q2 := hA9.cell 2
              have q3 := hA9.cell 3
              have q4 := hA9.cell 4
              have fq0 := hA9.free 0
              have fq1 := hA9.free 1
              have fq2 := hA9.free 2
              have fq3 := hA9.free 3
              have fq4 := hA9.free 4
              unfold Cl.val
              go_simp
              refine hK _ _ trivial ?_
              clear hK K
              refine mix_done2 ?_
              go_wp2_with fail
              go_meet
              case rel => exact ⟨d, ba, rfl, hdok, (hs.put d).1, (hs.put d).2⟩
          · go_simp
            have hs := hs.box
            refine hK _ _ (HX.out _ _ _ hs) ?_
            clear hK K
            obtain ⟨ba, hba⟩ : ∃ b, b = wa2.heap.size := ⟨_, rfl⟩
            rw [← hba] at hs ⊢
            generalize wa2.alloc (.cells #[.int .i64 0, .int .i64 0, .int .i64 0, .int .i64 0, .int .i64 0] 26) = wa3 at hs ⊢
            clear hba
            refine mix_eff2 rfl false rfl (fun K hK => ?_)
            refine wanted_none rfl ?_
            go_simp
            obtain ⟨kk, hkk, hHH⟩ := hs.hnd
            refine (upto_c hHH (by omega) 9 (by omega) (by omega)).mono ?_
            rintro e wa4 ⟨⟨u3, rfl, hu3, hu3b⟩, ⟨k9, hk9, hH9⟩, hG9⟩
            have hs := hs.hand (K' := 103) ⟨k9, by omega, hH9⟩ hG9
            refine hK _ _ (HX.out _ _ _ hs) ?_
            clear hK K hHH hH9 hG9 hkk hk9 kk k9
            refine mix_eff2 rfl false rfl (fun K hK => ?_)
            refine wanted_none rfl ?_
            go_simp
            obtain ⟨kk, hkk, hHH⟩ := hs.hnd
            refine (upto_c hHH (by omega) 9 (by omega) (by omega)).mono ?_
            rintro e wa5 ⟨⟨u4, rfl, hu4, hu4b⟩, ⟨k9, hk9, hH9⟩, hG9⟩
            have hs := hs.hand (K' := 104) ⟨k9, by omega, hH9⟩ hG9
            refine hK _ _ (HX.out _ _ _ hs) ?_
            clear hK K hHH hH9 hG9 hkk hk9 kk k9
            refine mix_eff2 rfl false rfl (fun K hK => ?_)
            go_simp
            have hI : Ints (fun q => wa5.heap.size ≤ q) (wa5.alloc (.cells #[.int .i64 u1, .int .i64 u2, .int .i64 u3, .int .i64 u4] 3)) (.slice (some ⟨wa5.heap.size, 0, none⟩) 4 4) [u1, u2, u3, u4] := Own.ints (own_lit wa5 3 1 #[.int .i64 u1, .int .i64 u2, .int .i64 u3, .int .i64 u4] 4 rfl (by omega))
            have hlt := hs.hlt
            have hI := hI.wide (A' := fun q => q ≠ hb) fun q hq _ => by omega
            have hs := hs.call ((Below.refl wa5.heap.size wa5).alloc (Nat.le_refl _) (.cells #[.int .i64 u1, .int .i64 u2, .int .i64 u3, .int .i64 u4] 3))
            refine hK _ _ (HX.out _ _ _ hs) ?_
            clear hK K hlt
            obtain ⟨bl, hbl⟩ : ∃ b, b = wa5.heap.size := ⟨_, rfl⟩
            rw [← hbl] at hI ⊢
            generalize wa5.alloc (.cells #[.int .i64 u1, .int .i64 u2, .int .i64 u3, .int .i64 u4] 3) = wa6 at hs hI ⊢
            clear hbl
            refine mix_eff2 rfl false rfl (fun K hK => ?_)
            refine wanted_none rfl ?_
            go_simp
            obtain ⟨kk, hkk, hHH⟩ := hs.hnd
            refine (claimOf_c hHH (by omega) hn4 hI (fun h => h rfl) (by show n ≤ 4; omega) (by intro u hu; simp only [List.mem_cons, List.not_mem_nil, or_false] at hu; omega)).mono ?_
            rintro e wa7 ⟨⟨d, rfl, hdok⟩, ⟨k9, hk9, hH9⟩, hG9⟩
            have hs := hs.hand (K' := 120) ⟨k9, by omega, hH9⟩ hG9
            refine hK _ _ (HX.out _ _ _ hs) ?_
            clear hK K hHH hH9 hG9 hkk hk9 kk k9 hI
            refine mix_eff2 rfl true rfl (fun K hK => ?_)
            obtain ⟨hA9, hA9b⟩ := hs.bo ba rfl
            have q0 := hA9.cell 0
            have q1 := hA9.cell 1
            have q2 := hA9.cell 2
            have q3 := hA9.cell 3
            have q4 := hA9.cell 4
            have fq0 := hA9.free 0
            have fq1 := hA9.free 1
            have fq2 := hA9.free 2
            have fq3 := hA9.free 3
            have fq4 := hA9.free 4
            unfold Cl.val
            go_simp
            refine hK _ _ trivial ?_
            clear hK K
            refine mix_done2 ?_
            go_wp2_with fail
            go_meet
            case rel => exact ⟨d, ba, rfl, hdok, (hs.put d).1, (hs.put d).2⟩
        · go_simp
          have hs := hs.box
          refine hK _ _ (HX.out _ _ _ hs) ?_
          clear hK K
          obtain ⟨ba, hba⟩ : ∃ b, b = wa1.heap.size := ⟨_, rfl⟩
          rw [← hba] at hs ⊢
          generalize wa1.alloc (.cells #[.int .i64 0, .int .i64 0, .int .i64 0, .int .i64 0, .int .i64 0] 26) = wa2 at hs ⊢
          clear hba
          refine mix_eff2 rfl false rfl (fun K hK => ?_)
          refine wanted_none rfl ?_
          go_simp
          obtain ⟨kk, hkk, hHH⟩ := hs.hnd
          refine (upto_c hHH (by omega) 9 (by omega) (by omega)).mono ?_
          rintro e wa3 ⟨⟨u2, rfl, hu2, hu2b⟩, ⟨k9, hk9, hH9⟩, hG9⟩
          have hs := hs.hand (K' := 102) ⟨k9, by omega, hH9⟩ hG9
          refine hK _ _ (HX.out _ _ _ hs) ?_
          clear hK K hHH hH9 hG9 hkk hk9 kk k9
          refine mix_eff2 rfl false rfl (fun K hK => ?_)
          refine wanted_none rfl ?_
          go_simp
          obtain ⟨kk, hkk, hHH⟩ := hs.hnd
          refine (upto_c hHH (by omega) 9 (by omega) (by omega)).mono ?_
          rintro e wa4 ⟨⟨u3, rfl, hu3, hu3b⟩, ⟨k9, hk9, hH9⟩, hG9⟩
          have hs := hs.hand (K' := 103) ⟨k9, by omega, hH9⟩ hG9
          refine hK _ _ (HX.out _ _ _ hs) ?_
          clear hK K hHH hH9 hG9 hkk hk9 kk k9
          refine mix_eff2 rfl false rfl (fun K hK => ?_)
          refine wanted_none rfl ?_
          go_simp
          obtain ⟨kk, hkk, hHH⟩ := hs.hnd
          refine (upto_c hHH (by omega) 9 (by omega) (by omega)).mono ?_
          rintro e wa5 ⟨⟨u4, rfl, hu4, hu4b⟩, ⟨k9, hk9, hH9⟩, hG9⟩
          have hs := hs.hand (K' := 104) ⟨k9, by omega, hH9⟩ hG9
          refine hK _ _ (HX.out _ _ _ hs) ?_
          clear hK K hHH hH9 hG9 hkk hk9 kk k9
          refine mix_eff2 rfl false rfl (fun K hK => ?_)
          go_simp
          have hI : Ints (fun q => wa5.heap.size ≤ q) (wa5.alloc (.cells #[.int .i64 u1, .int .i64 u2, .int .i64 u3, .int .i64 u4] 3)) (.slice (some ⟨wa5.heap.size, 0, none⟩) 4 4) [u1, u2, u3, u4] := Own.ints (own_lit wa5 3 1 #[.int .i64 u1, .int .i64 u2, .int .i64 u3, .int .i64 u4] 4 rfl (by omega))
          have hlt := hs.hlt
          have hI := hI.wide (A' := fun q => q ≠ hb) fun q hq _ => by omega
          have hs := hs.call ((Below.refl wa5.heap.size wa5).alloc (Nat.le_refl _) (.cells #[.int .i64 u1, .int .i64 u2, .int .i64 u3, .int .i64 u4] 3))
          refine hK _ _ (HX.out _ _ _ hs) ?_
          clear hK K hlt
          obtain ⟨bl, hbl⟩ : ∃ b, b = wa5.heap.size := ⟨_, rfl⟩
          rw [← hbl] at hI ⊢
          generalize wa5.alloc (.cells #[.int .i64 u1, .int .i64 u2, .int .i64 u3, .int .i64 u4] 3) = wa6 at hs hI ⊢
          clear hbl
          refine mix_eff2 rfl false rfl (fun K hK => ?_)
          refine wanted_none rfl ?_
          go_simp
          obtain ⟨kk, hkk, hHH⟩ := hs.hnd
          refine (claimOf_c hHH (by omega) hn4 hI (fun h => h rfl) (by show n ≤ 4; omega) (by intro u hu; simp only [List.mem_cons, List.not_mem_nil, or_false] at hu; omega)).mono ?_
          rintro e wa7 ⟨⟨d, rfl, hdok⟩, ⟨k9, hk9, hH9⟩, hG9⟩
          have hs := hs.hand (K' := 120) ⟨k9, by omega, hH9⟩ hG9
          refine hK _ _ (HX.out _ _ _ hs) ?_
          clear hK K hHH hH9 hG9 hkk hk9 kk k9 hI
          refine mix_eff2 rfl true rfl (fun K hK => ?_)
          obtain ⟨hA9, hA9b⟩ := hs.bo ba rfl
          have q0 := hA9.cell 0
          have q1 := hA9.cell 1
          have q2 := hA9.cell 2
          have q3 := hA9.cell 3
          have q4 := hA9.cell 4
          have fq0 := hA9.free 0
          have fq1 := hA9.free 1
          have fq2 := hA9.free 2
          have fq3 := hA9.free 3
          have fq4 := hA9.free 4
          unfold Cl.val
          go_simp
          refine hK _ _ trivial ?_
          clear hK K
          refine mix_done2 ?_
          go_wp2_with fail
          go_meet
          case rel => exact ⟨d, ba, rfl, hdok, (hs.put d).1, (hs.put d).2⟩
      · go_simp
        have hs := hs.box
        refine hK _ _ (HX.out _ _ _ hs) ?_
        clear hK K
        obtain ⟨ba, hba⟩ : ∃ b, b = wd.heap.size := ⟨_, rfl⟩
        rw [← hba] at hs ⊢
        generalize wd.alloc (.cells #[.int .i64 0, .int .i64 0, .int .i64 0, .int .i64 0, .int .i64 0] 26) = wa1 at hs ⊢
        clear hba
        refine mix_eff2 rfl false rfl (fun K hK => ?_)
        refine wanted_none rfl ?_
        go_simp
        obtain ⟨kk, hkk, hHH⟩ := hs.hnd
        refine (upto_c hHH (by omega) 9 (by omega) (by omega)).mono ?_
        rintro e wa2 ⟨⟨u1, rfl, hu1, hu1b⟩, ⟨k9, hk9, hH9⟩, hG9⟩
        have hs := hs.hand (K' := 101) ⟨k9, by omega, hH9⟩ hG9
        refine hK _ _ (HX.out _ _ _ hs) ?_
        clear hK K hHH hH9 hG9 hkk hk9 kk k9
        refine mix_eff2 rfl false rfl (fun K hK => ?_)
        refine wanted_none rfl ?_
        go_simp
        obtain ⟨kk, hkk, hHH⟩ := hs.hnd
        refine (upto_c hHH (by omega) 9 (by omega) (by omega)).mono ?_
        rintro e wa3 ⟨⟨u2, rfl, hu2, hu2b⟩, ⟨k9, hk9, hH9⟩, hG9⟩
        have hs := hs.hand (K' := 102) ⟨k9, by omega, hH9⟩ hG9
        refine hK _ _ (HX.out _ _ _ hs) ?_
        clear hK K hHH hH9 hG9 hkk hk9 kk k9
        refine mix_eff2 rfl false rfl (fun K hK => ?_)
        refine wanted_none rfl ?_
        go_simp
        obtain ⟨kk, hkk, hHH⟩ := hs.hnd
        refine (upto_c hHH (by omega) 9 (by omega) (by omega)).mono ?_
        rintro e wa4 ⟨⟨u3, rfl, hu3, hu3b⟩, ⟨k9, hk9, hH9⟩, hG9⟩
        have hs := hs.hand (K' := 103) ⟨k9, by omega, hH9⟩ hG9
        refine hK _ _ (HX.out _ _ _ hs) ?_
        clear hK K hHH hH9 hG9 hkk hk9 kk k9
        refine mix_eff2 rfl false rfl (fun K hK => ?_)
        refine wanted_none rfl ?_
        go_simp
        obtain ⟨kk, hkk, hHH⟩ := hs.hnd
        refine (upto_c hHH (by omega) 9 (by omega) (by omega)).mono ?_
        rintro e wa5 ⟨⟨u4, rfl, hu4, hu4b⟩, ⟨k9, hk9, hH9⟩, hG9⟩
        have hs := hs.hand (K' := 104) ⟨k9, by omega, hH9⟩ hG9
        refine hK _ _ (HX.out _ _ _ hs) ?_
        clear hK K hHH hH9 hG9 hkk hk9 kk k9
        refine mix_eff2 rfl false rfl (fun K hK => ?_)
        go_simp
        have hI : Ints (fun q => wa5.heap.size ≤ q) (wa5.alloc (.cells #[.int .i64 u1, .int .i64 u2, .int .i64 u3, .int .i64 u4] 3)) (.slice (some ⟨wa5.heap.size, 0, none⟩) 4 4) [u1, u2, u3, u4] := Own.ints (own_lit wa5 3 1 #[.int .i64 u1, .int .i64 u2, .int .i64 u3, .int .i64 u4] 4 rfl (by omega))
        have hlt := hs.hlt
        have hI := hI.wide (A' := fun q => q ≠ hb) fun q hq _ => by omega
        have hs := hs.call ((Below.refl wa5.heap.size wa5).alloc (Nat.le_refl _) (.cells #[.int .i64 u1, .int .i64 u2, .int .i64 u3, .int .i64 u4] 3))
        refine hK _ _ (HX.out _ _ _ hs) ?_
        clear hK K hlt
        obtain ⟨bl, hbl⟩ : ∃ b, b = wa5.heap.size := ⟨_, rfl⟩
        rw [← hbl] at hI ⊢
        generalize wa5.alloc (.cells #[.int .i64 u1, .int .i64 u2, .int .i64 u3, .int .i64 u4] 3) = wa6 at hs hI ⊢
        clear hbl
        refine mix_eff2 rfl false rfl (fun K hK => ?_)
        refine wanted_none rfl ?_
        go_simp
        obtain ⟨kk, hkk, hHH⟩ := hs.hnd
        refine (claimOf_c hHH (by omega) hn4 hI (fun h => h rfl) (by show n ≤ 4; omega) (by intro u hu; simp only [List.mem_cons, List.not_mem_nil, or_false] at hu; omega)).mono ?_
        rintro e wa7 ⟨⟨d, rfl, hdok⟩, ⟨k9, hk9, hH9⟩, hG9⟩
        have hs := hs.hand (K' := 120) ⟨k9, by omega, hH9⟩ hG9
        refine hK _ _ (HX.out _ _ _ hs) ?_
        clear hK K hHH hH9 hG9 hkk hk9 kk k9 hI
        refine mix_eff2 rfl true rfl (fun K hK => ?_)
        obtain ⟨hA9, hA9b⟩ := hs.bo ba rfl
        have q0 := hA9.cell 0
        have q1 := hA9.cell 1
        have q2 := hA9.cell 2
        have q3 := hA9.cell 3
        have q4 := hA9.cell 4
        have fq0 := hA9.free 0
        have fq1 := hA9.free 1
        have fq2 := hA9.free 2
        have fq3 := hA9.free 3
        have fq4 := hA9.free 4
        unfold Cl.val
        go_simp
        refine hK _ _ trivial ?_
        clear hK K
        refine mix_done2 ?_
        go_wp2_with fail
        go_meet
        case rel => exact ⟨d, ba, rfl, hdok, (hs.put d).1, (hs.put d).2⟩
    case rest =>
    obtain ⟨d, ba, rfl, hdok, hs4, hA4⟩ := hcut
    rename World => w5
    have hs5 : FoS w hb w4.heap.size b x md (md.add c) (.slice ax x.claims.length cx) (.slice am md.claims.length cm) (.slice az (md.add c).claims.length cz) (b1 + 1) c ba d none none none 120 w5 := ⟨hs4, hA4, fun q p r t e => (by cases e), fun q p r t e => (by cases e), fun q p r t e => (by cases e)⟩
    have hY : ∀ i1 i2 i3 K u, FoS w hb w4.heap.size b x md (md.add c) (.slice ax x.claims.length cx) (.slice am md.claims.length cm) (.slice az (md.add c).claims.length cz) (b1 + 1) c ba d i1 i2 i3 K u → FzS b n (b1 + 1) c ba d u := fun i1 i2 i3 K u h => ⟨HX.out _ _ _ h.s, h.s.c, h.a⟩
    have HY := Lib.hid hY
    clear hY hs0 hs4 hA4
    go_upto_region 6 with fail
    go_cut [14, 15, 16] from 31 (fun s14 s15 s16 wx => ∃ (q1 q2 q3 : Nat) (u1 u2 : Int), s14 = .slice (some ⟨q1, 0, none⟩) 3 3 ∧ s15 = .slice (some ⟨q2, 0, none⟩) 3 3 ∧ s16 = .slice (some ⟨q3, 0, none⟩) 3 3 ∧ FoS w hb w4.heap.size b x md (md.add c) (.slice ax x.claims.length cx) (.slice am md.claims.length cm) (.slice az (md.add c).claims.length cz) (b1 + 1) c ba d (some (q1, pa, u1, pa)) (some (q2, pb, u2, pb)) (some (q3, c, d, d)) 130 wx)
    case first => as_aux_lemma =>
      refine wp_region_mix2 (.pur 0 (.pur 1 (.pur 2 (.pur 3 (.pur 4 (.one 5 (.pur 6 (.pur 8 (.pur 10 (.pur 11 (.pur 12 (.pur 13 (.pur 14 (.one 15 (.pur 16 (.pur 18 (.one 20 (.one 21 (.one 22 (.two 7 (.three 9 (.two 17 (.pur 24 (.two 19 (.pur 25 (.act 23 (.pur 26 .fin))) 23 (.act 19 (.pur 25 (.pur 26 .fin))))) 23 (.act 17 (.pur 24 (.act 19 (.pur 25 (.pur 26 .fin)))))) 17 (.three 9 (.pur 24 (.two 19 (.pur 25 (.act 23 (.pur 26 .fin))) 23 (.act 19 (.pur 25 (.pur 26 .fin))))) 19 (.two 9 (.pur 24 (.pur 25 (.act 23 (.pur 26 .fin)))) 23 (.act 9 (.pur 24 (.pur 25 (.pur 26 .fin))))) 23 (.two 9 (.pur 24 (.act 19 (.pur 25 (.pur 26 .fin)))) 19 (.act 9 (.pur 24 (.pur 25 (.pur 26 .fin)))))) 23 (.two 9 (.act 17 (.pur 24 (.act 19 (.pur 25 (.pur 26 .fin))))) 17 (.two 9 (.pur 24 (.act 19 (.pur 25 (.pur 26 .fin)))) 19 (.act 9 (.pur 24 (.pur 25 (.pur 26 .fin))))))) 23 (.act 7 (.two 9 (.act 17 (.pur 24 (.act 19 (.pur 25 (.pur 26 .fin))))) 17 (.two 9 (.pur 24 (.act 19 (.pur 25 (.pur 26 .fin)))) 19 (.act 9 (.pur 24 (.pur 25 (.pur 26 .fin))))))))))))))))))))))))))) 99 (FzS b n (b1 + 1) c ba d) (fun _ => True) (by kernel_rfl) (by kernel_rfl) rfl (by kernel_rfl) (HY.out _ _ _ _ _ (hs5.qt ((Qt.refl _).drewN 1))) (fun wd hqd _ => ?_)
      have hs := hs5.qt hqd
      refine mix_pur2 rfl (fun K hK => ?_)
      go_simp
      first | refine ⟨_, fun _ => rfl, hK _ ?_⟩ | refine hK _ ?_
      clear hK K
      refine mix_pur2 rfl (fun K hK => ?_)
      go_simp
      first | refine ⟨_, fun _ => rfl, hK _ ?_⟩ | refine hK _ ?_
      clear hK K
      refine mix_pur2 rfl (fun K hK => ?_)
      go_simp
      first | refine ⟨_, fun _ => rfl, hK _ ?_⟩ | refine hK _ ?_
      clear hK K
      refine mix_pur2 rfl (fun K hK => ?_)
      go_simp
      first | refine ⟨_, fun _ => rfl, hK _ ?_⟩ | refine hK _ ?_
      clear hK K
      refine mix_pur2 rfl (fun K hK => ?_)
      go_simp
      first | refine ⟨_, fun _ => rfl, hK _ ?_⟩ | refine hK _ ?_
      clear hK K
      refine mix_load2 rfl rfl rfl (.int .i64 (n : Int)) (fun w' h => by have h : (FzS b n (b1 + 1) c ba d) w' := h; have h2 : w'.cell? ⟨b, 3, none⟩ = some (.int .i64 (n : Int)) := h.1; go_simp) rfl ?_
      refine mix_pur2 rfl (fun K hK => ?_)
      go_simp
      first | refine ⟨_, fun _ => rfl, hK _ ?_⟩ | refine hK _ ?_
      clear hK K
      refine mix_pur2 rfl (fun K hK => ?_)
      go_simp
      first | refine ⟨_, fun _ => rfl, hK _ ?_⟩ | refine hK _ ?_
      clear hK K
      refine mix_pur2 rfl (fun K hK => ?_)
      go_simp
      first | refine ⟨_, fun _ => rfl, hK _ ?_⟩ | refine hK _ ?_
      clear hK K
      refine mix_pur2 rfl (fun K hK => ?_)
      go_simp
      first | refine ⟨_, fun _ => rfl, hK _ ?_⟩ | refine hK _ ?_
      clear hK K
      refine mix_pur2 rfl (fun K hK => ?_)
      go_simp
      first | refine ⟨_, fun _ => rfl, hK _ ?_⟩ | refine hK _ ?_
      clear hK K
      refine mix_pur2 rfl (fun K hK => ?_)
      go_simp
      first | refine ⟨_, fun _ => rfl, hK _ ?_⟩ | refine hK _ ?_
      clear hK K
      refine mix_pur2 rfl (fun K hK => ?_)
      go_simp
      first | refine ⟨_, fun _ => rfl, hK _ ?_⟩ | refine hK _ ?_
      clear hK K
      refine mix_load2 rfl rfl rfl (.int .i64 (n : Int)) (fun w' h => by have h : (FzS b n (b1 + 1) c ba d) w' := h; have h2 : w'.cell? ⟨b, 3, none⟩ = some (.int .i64 (n : Int)) := h.1; go_simp) rfl ?_
      refine mix_pur2 rfl (fun K hK => ?_)
      go_simp
      first | refine ⟨_, fun _ => rfl, hK _ ?_⟩ | refine hK _ ?_
      clear hK K
      refine mix_pur2 rfl (fun K hK => ?_)
      go_simp
      first | refine ⟨_, fun _ => rfl, hK _ ?_⟩ | refine hK _ ?_
      clear hK K
      refine mix_load2 rfl rfl rfl (.agg #[.int .i64 c.kind, .int .i64 c.point, .int .i64 c.other, .int .i64 c.off, .int .i64 c.err]) (fun w' h => by have h : (FzS b n (b1 + 1) c ba d) w' := h; have e0 := h.2.1.cell 0; have e1 := h.2.1.cell 1; have e2 := h.2.1.cell 2; have e3 := h.2.1.cell 3; have e4 := h.2.1.cell 4; go_simp) rfl ?_
      refine mix_load2 rfl rfl rfl (.agg #[.int .i64 d.kind, .int .i64 d.point, .int .i64 d.other, .int .i64 d.off, .int .i64 d.err]) (fun w' h => by have h : (FzS b n (b1 + 1) c ba d) w' := h; have e0 := h.2.2.cell 0; have e1 := h.2.2.cell 1; have e2 := h.2.2.cell 2; have e3 := h.2.2.cell 3; have e4 := h.2.2.cell 4; go_simp) rfl ?_
      refine mix_load2 rfl rfl rfl (.agg #[.int .i64 d.kind, .int .i64 d.point, .int .i64 d.other, .int .i64 d.off, .int .i64 d.err]) (fun w' h => by have h : (FzS b n (b1 + 1) c ba d) w' := h; have e0 := h.2.2.cell 0; have e1 := h.2.2.cell 1; have e2 := h.2.2.cell 2; have e3 := h.2.2.cell 3; have e4 := h.2.2.cell 4; go_simp) rfl ?_
      refine mix_two2 rfl rfl false false rfl rfl (fun K hK => ?_) (fun K hK => ?_)
      · as_aux_lemma =>
        refine wanted_none rfl ?_
        go_simp
        obtain ⟨kk, hkk, hHH⟩ := hs.s.hnd
        refine (upto_c hHH (by omega) ((n : Int) - 1) (by omega) (by omega)).mono ?_
        rintro e wa1 ⟨⟨u1, rfl, hu1, hu1b⟩, ⟨k9, hk9, hH9⟩, hG9⟩
        have hs := hs.hand (K' := 121) ⟨k9, by omega, hH9⟩ hG9
        refine hK _ _ (HY.out _ _ _ _ _ hs) ?_
        clear hK K hHH hH9 hG9 hkk hk9 kk k9 hu1 hu1b
        refine mix_three2 rfl rfl rfl false false false rfl rfl rfl (fun K hK => ?_) (fun K hK => ?_) (fun K hK => ?_)
        · as_aux_lemma =>
          go_simp
          have hs := hs.lit1 pa u1 pa
          refine hK _ _ (HY.out _ _ _ _ _ hs) ?_
          clear hK K
          obtain ⟨q1, hq1⟩ : ∃ b, b = wa1.heap.size := ⟨_, rfl⟩
          rw [← hq1] at hs ⊢
          generalize wa1.alloc (.cells #[.int .i64 pa, .int .i64 u1, .int .i64 pa] 3) = wa2 at hs ⊢
          clear hq1
          refine mix_two2 rfl rfl false false rfl rfl (fun K hK => ?_) (fun K hK => ?_)
          · as_aux_lemma =>
            refine wanted_none rfl ?_
            go_simp
            obtain ⟨kk, hkk, hHH⟩ := hs.s.hnd
            refine (upto_c hHH (by omega) ((n : Int) - 1) (by omega) (by omega)).mono ?_
            rintro e wa3 ⟨⟨u2, rfl, hu2, hu2b⟩, ⟨k9, hk9, hH9⟩, hG9⟩
            have hs := hs.hand (K' := 122) ⟨k9, by omega, hH9⟩ hG9
            refine hK _ _ (HY.out _ _ _ _ _ hs) ?_
            clear hK K hHH hH9 hG9 hkk hk9 kk k9 hu2 hu2b
            refine mix_pur2 rfl (fun K hK => ?_)
            go_simp
            first | refine ⟨_, fun _ => rfl, hK _ ?_⟩ | refine hK _ ?_
            clear hK K
            refine mix_two2 rfl rfl false false rfl rfl (fun K hK => ?_) (fun K hK => ?_)
            · go_simp
              have hs := hs.lit2 pb u2 pb
              refine hK _ _ (HY.out _ _ _ _ _ hs) ?_
              clear hK K
              obtain ⟨q2, hq2⟩ : ∃ b, b = wa3.heap.size := ⟨_, rfl⟩
              rw [← hq2] at hs ⊢
              generalize wa3.alloc (.cells #[.int .i64 pb, .int .i64 u2, .int .i64 pb] 3) = wa4 at hs ⊢
              clear hq2
              refine mix_pur2 rfl (fun K hK => ?_)
              go_simp
              first | refine ⟨_, fun _ => rfl, hK _ ?_⟩ | refine hK _ ?_
              clear hK K
              refine mix_eff2 rfl false rfl (fun K hK => ?_)
              refine step_build22 (p := c) (r := d) (t := d) rfl rfl rfl rfl rfl ?_
              go_simp
              have hs := hs.lit3 c d d
              refine hK _ _ (HY.out _ _ _ _ _ hs) ?_
              clear hK K
              obtain ⟨q3, hq3⟩ : ∃ b, b = wa4.heap.size := ⟨_, rfl⟩
              rw [← hq3] at hs ⊢
              generalize wa4.alloc (.cells #[.int .i64 c.kind, .int .i64 c.point, .int .i64 c.other, .int .i64 c.off, .int .i64 c.err, .int .i64 d.kind, .int .i64 d.point, .int .i64 d.other, .int .i64 d.off, .int .i64 d.err, .int .i64 d.kind, .int .i64 d.point, .int .i64 d.other, .int .i64 d.off, .int .i64 d.err] 26) = wa5 at hs ⊢
              clear hq3
              refine mix_pur2 rfl (fun K hK => ?_)
              go_simp
              first | refine ⟨_, fun _ => rfl, hK _ ?_⟩ | refine hK _ ?_
              clear hK K
              refine mix_done2 ?_
              go_wp2_with fail
              go_meet
              case rel => exact ⟨q1, q2, q3, u1, u2, rfl, rfl, rfl, ⟨hs.s.mono (by omega), hs.a, hs.i1, hs.i2, hs.i3⟩⟩
            · refine step_build22 (p := c) (r := d) (t := d) rfl rfl rfl rfl rfl ?_
              go_simp
              have hs := hs.lit3 c d d
              refine hK _ _ (HY.out _ _ _ _ _ hs) ?_
              clear hK K
              obtain ⟨q3, hq3⟩ : ∃ b, b = wa3.heap.size := ⟨_, rfl⟩
              rw [← hq3] at hs ⊢
              generalize wa3.alloc (.cells #[.int .i64 c.kind, .int .i64 c.point, .int .i64 c.other, .int .i64 c.off, .int .i64 c.err, .int .i64 d.kind, .int .i64 d.point, .int .i64 d.other, .int .i64 d.off, .int .i64 d.err, .int .i64 d.kind, .int .i64 d.point, .int .i64 d.other, .int .i64 d.off, .int .i64 d.err] 26) = wa4 at hs ⊢
              clear hq3
              refine mix_eff2 rfl false rfl (fun K hK => ?_)
              go_simp
              have hs := hs.lit2 pb u2 pb
              refine hK _ _ (HY.out _ _ _ _ _ hs) ?_
              clear hK K
              obtain ⟨q2, hq2⟩ : ∃ b, b = wa4.heap.size := ⟨_, rfl⟩
              rw [← hq2] at hs ⊢
              generalize wa4.alloc (.cells #[.int .i64 pb, .int .i64 u2, .int .i64 pb] 3) = wa5 at hs ⊢
              clear hq2
              refine mix_pur2 rfl (fun K hK => ?_)
              go_simp
              first | refine ⟨_, fun _ => rfl, hK _ ?_⟩ | refine hK _ ?_
              clear hK K
              refine mix_pur2 rfl (fun K hK => ?_)
              go_simp
              first | refine ⟨_, fun _ => rfl, hK _ ?_⟩ | refine hK _ ?_
              clear hK K
              refine mix_done2 ?_
              go_wp2_with fail
              go_meet
              case rel => exact ⟨q1, q2, q3, u1, u2, rfl, rfl, rfl, ⟨hs.s.mono (by omega), hs.a, hs.i1, hs.i2, hs.i3⟩⟩
          · refine step_build22 (p := c) (r := d) (t := d) rfl rfl rfl rfl rfl ?_
            go_simp
            have hs := hs.lit3 c d d
            refine hK _ _ (HY.out _ _ _ _ _ hs) ?_
            clear hK K
            obtain ⟨q3, hq3⟩ : ∃ b, b = wa2.heap.size := ⟨_, rfl⟩
            rw [← hq3] at hs ⊢
            generalize wa2.alloc (.cells #[.int .i64 c.kind, .int .i64 c.point, .int .i64 c.other, .int .i64 c.off, .int .i64 c.err, .int .i64 d.kind, .int .i64 d.point, .int .i64 d.other, .int .i64 d.off, .int .i64 d.err, .int .i64 d.kind, .int .i64 d.point, .int .i64 d.other, .int .i64 d.off, .int .i64 d.err] 26) = wa3 at hs ⊢
            clear hq3
            refine mix_eff2 rfl false rfl (fun K hK => ?_)
            refine wanted_none rfl ?_
            go_simp
            obtain ⟨kk, hkk, hHH⟩ := hs.s.hnd
            refine (upto_c hHH (by omega) ((n : Int) - 1) (by omega) (by omega)).mono ?_
            rintro e wa4 ⟨⟨u2, rfl, hu2, hu2b⟩, ⟨k9, hk9, hH9⟩, hG9⟩
            have hs := hs.hand (K' := 122) ⟨k9, by omega, hH9⟩ hG9
            refine hK _ _ (HY.out _ _ _ _ _ hs) ?_
            clear hK K hHH hH9 hG9 hkk hk9 kk k9 hu2 hu2b
            refine mix_pur2 rfl (fun K hK => ?_)
            go_simp
            first | refine ⟨_, fun _ => rfl, hK _ ?_⟩ | refine hK _ ?_
            clear hK K
            refine mix_eff2 rfl false rfl (fun K hK => ?_)
            go_simp
            have hs := hs.lit2 pb u2 pb
            refine hK _ _ (HY.out _ _ _ _ _ hs) ?_
            clear hK K
            obtain ⟨q2, hq2⟩ : ∃ b, b = wa4.heap.size := ⟨_, rfl⟩
            rw [← hq2] at hs ⊢
            generalize wa4.alloc (.cells #[.int .i64 pb, .int .i64 u2, .int .i64 pb] 3) = wa5 at hs ⊢
            clear hq2
            refine mix_pur2 rfl (fun K hK => ?_)
            go_simp
            first | refine ⟨_, fun _ => rfl, hK _ ?_⟩ | refine hK _ ?_
            clear hK K
            refine mix_pur2 rfl (fun K hK => ?_)
            go_simp
            first | refine ⟨_, fun _ => rfl, hK _ ?_⟩ | refine hK _ ?_
            clear hK K
            refine mix_done2 ?_
            go_wp2_with fail
            go_meet
            case rel => exact ⟨q1, q2, q3, u1, u2, rfl, rfl, rfl, ⟨hs.s.mono (by omega), hs.a, hs.i1, hs.i2, hs.i3⟩⟩
        · as_aux_lemma =>
          refine wanted_none rfl ?_
          go_simp
          obtain ⟨kk, hkk, hHH⟩ := hs.s.hnd
          refine (upto_c hHH (by omega) ((n : Int) - 1) (by omega) (by omega)).mono ?_
          rintro e wa2 ⟨⟨u2, rfl, hu2, hu2b⟩, ⟨k9, hk9, hH9⟩, hG9⟩
          have hs := hs.hand (K' := 122) ⟨k9, by omega, hH9⟩ hG9
          refine hK _ _ (HY.out _ _ _ _ _ hs) ?_
          clear hK K hHH hH9 hG9 hkk hk9 kk k9 hu2 hu2b
          refine mix_three2 rfl rfl rfl false false false rfl rfl rfl (fun K hK => ?_) (fun K hK => ?_) (fun K hK => ?_)
          · as_aux_lemma =>
            go_simp
            have hs := hs.lit1 pa u1 pa
            refine hK _ _ (HY.out _ _ _ _ _ hs) ?_
            clear hK K
            obtain ⟨q1, hq1⟩ : ∃ b, b = wa2.heap.size := ⟨_, rfl⟩
            rw [← hq1] at hs ⊢
            generalize wa2.alloc (.cells #[.int .i64 pa, .int .i64 u1, .int .i64 pa] 3) = wa3 at hs ⊢
            clear hq1
            refine mix_pur2 rfl (fun K hK => ?_)
            go_simp
            first | refine ⟨_, fun _ => rfl, hK _ ?_⟩ | refine hK _ ?_
            clear hK K
            refine mix_two2 rfl rfl false false rfl rfl (fun K hK => ?_) (fun K hK => ?_)
            · go_simp
              have hs := hs.lit2 pb u2 pb
              refine hK _ _ (HY.out _ _ _ _ _ hs) ?_
              clear hK K
              obtain ⟨q2, hq2⟩ : ∃ b, b = wa3.heap.size := ⟨_, rfl⟩
              rw [← hq2] at hs ⊢
              generalize wa3.alloc (.cells #[.int .i64 pb, .int .i64 u2, .int .i64 pb] 3) = wa4 at hs ⊢
              clear hq2
              refine mix_pur2 rfl (fun K hK => ?_)
              go_simp
              first | refine ⟨_, fun _ => rfl, hK _ ?_⟩ | refine hK _ ?_
              clear hK K
              refine mix_eff2 rfl false rfl (fun K hK => ?_)
              refine step_build22 (p := c) (r := d) (t := d) rfl rfl rfl rfl rfl ?_
              go_simp
              have hs := hs.lit3 c d d
              refine hK _ _ (HY.out _ _ _ _ _ hs) ?_
              clear hK K
              obtain ⟨q3, hq3⟩ : ∃ b, b = wa4.heap.size := ⟨_, rfl⟩
              rw [← hq3] at hs ⊢
              generalize wa4.alloc (.cells #[.int .i64 c.kind, .int .i64 c.point, .int .i64 c.other, .int .i64 c.off, .int .i64 c.err, .int .i64 d.kind, .int .i64 d.point, .int .i64 d.other, .int .i64 d.off, .int .i64 d.err, .int .i64 d.kind, .int .i64 d.point, .int .i64 d.other, .int .i64 d.off, .int .i64 d.err] 26) = wa5 at hs ⊢
              clear hq3
              refine mix_pur2 rfl (fun K hK => ?_)
              go_simp
              first | refine ⟨_, fun _ => rfl, hK _ ?_⟩ | refine hK _ ?_
              clear hK K
              refine mix_done2 ?_
              go_wp2_with fail
              go_meet
              case rel => exact ⟨q1, q2, q3, u1, u2, rfl, rfl, rfl, ⟨hs.s.mono (by omega), hs.a, hs.i1, hs.i2, hs.i3⟩⟩
            · refine step_build22 (p := c) (r := d) (t := d) rfl rfl rfl rfl rfl ?_
              go_simp
              have hs := hs.lit3 c d d
              refine hK _ _ (HY.out _ _ _ _ _ hs) ?_
              clear hK K
              obtain ⟨q3, hq3⟩ : ∃ b, b = wa3.heap.size := ⟨_, rfl⟩
              rw [← hq3] at hs ⊢
              generalize wa3.alloc (.cells #[.int .i64 c.kind, .int .i64 c.point, .int .i64 c.other, .int .i64 c.off, .int .i64 c.err, .int .i64 d.kind, .int .i64 d.point, .int .i64 d.other, .int .i64 d.off, .int .i64 d.err, .int .i64 d.kind, .int .i64 d.point, .int .i64 d.other, .int .i64 d.off, .int .i64 d.err] 26) = wa4 at hs ⊢
              clear hq3
              refine mix_eff2 rfl false rfl (fun K hK => ?_)
              go_simp
              have hs := hs.lit2 pb u2 pb
              refine hK _ _ (HY.out _ _ _ _ _ hs) ?_
              clear hK K
              obtain ⟨q2, hq2⟩ : ∃ b, b = wa4.heap.size := ⟨_, rfl⟩
              rw [← hq2] at hs ⊢
              generalize wa4.alloc (.cells #[.int .i64 pb, .int .i64 u2, .int .i64 pb] 3) = wa5 at hs ⊢
              clear hq2
              refine mix_pur2 rfl (fun K hK => ?_)
              go_simp
              first | refine ⟨_, fun _ => rfl, hK _ ?_⟩ | refine hK _ ?_
              clear hK K
              refine mix_pur2 rfl (fun K hK => ?_)
              go_simp
              first | refine ⟨_, fun _ => rfl, hK _ ?_⟩ | refine hK _ ?_
              clear hK K
              refine mix_done2 ?_
              go_wp2_with fail
              go_meet
              case rel => exact ⟨q1, q2, q3, u1, u2, rfl, rfl, rfl, ⟨hs.s.mono (by omega), hs.a, hs.i1, hs.i2, hs.i3⟩⟩
          · as_aux_lemma =>
            go_simp
            have hs := hs.lit2 pb u2 pb
            refine hK _ _ (HY.out _ _ _ _ _ hs) ?_
            clear hK K
            obtain ⟨q2, hq2⟩ : ∃ b, b = wa2.heap.size := ⟨_, rfl⟩
            rw [← hq2] at hs ⊢
            generalize wa2.alloc (.cells #[.int .i64 pb, .int .i64 u2, .int .i64 pb] 3) = wa3 at hs ⊢
            clear hq2
            refine mix_two2 rfl rfl false false rfl rfl (fun K hK => ?_) (fun K hK => ?_)
            · go_simp
              have hs := hs.lit1 pa u1 pa
              refine hK _ _ (HY.out _ _ _ _ _ hs) ?_
              clear hK K
              obtain ⟨q1, hq1⟩ : ∃ b, b = wa3.heap.size := ⟨_, rfl⟩
              rw [← hq1] at hs ⊢
              generalize wa3.alloc (.cells #[.int .i64 pa, .int .i64 u1, .int .i64 pa] 3) = wa4 at hs ⊢
              clear hq1
              refine mix_pur2 rfl (fun K hK => ?_)
              go_simp
              first | refine ⟨_, fun _ => rfl, hK _ ?_⟩ | refine hK _ ?_
              clear hK K
              refine mix_pur2 rfl (fun K hK => ?_)
              go_simp
              first | refine ⟨_, fun _ => rfl, hK _ ?_⟩ | refine hK _ ?_
              clear hK K
              refine mix_eff2 rfl false rfl (fun K hK => ?_)
              refine step_build22 (p := c) (r := d) (t := d) rfl rfl rfl rfl rfl ?_
              go_simp
              have hs := hs.lit3 c d d
              refine hK _ _ (HY.out _ _ _ _ _ hs) ?_
              clear hK K
              obtain ⟨q3, hq3⟩ : ∃ b, b = wa4.heap.size := ⟨_, rfl⟩
              rw [← hq3] at hs ⊢
              generalize wa4.alloc (.cells #[.int .i64 c.kind, .int .i64 c.point, .int .i64 c.other, .int .i64 c.off, .int .i64 c.err, .int .i64 d.kind, .int .i64 d.point, .int .i64 d.other, .int .i64 d.off, .int .i64 d.err, .int .i64 d.kind, .int .i64 d.point, .int .i64 d.other, .int .i64 d.off, .int .i64 d.err] 26) = wa5 at hs ⊢
              clear hq3
              refine mix_pur2 rfl (fun K hK => ?_)
              go_simp
              first | refine ⟨_, fun _ => rfl, hK _ ?_⟩ | refine hK _ ?_
              clear hK K
              refine mix_done2 ?_
              go_wp2_with fail
              go_meet
              case rel => exact ⟨q1, q2, q3, u1, u2, rfl, rfl, rfl, ⟨hs.s.mono (by omega), hs.a, hs.i1, hs.i2, hs.i3⟩⟩
            · refine step_build22 (p := c) (r := d) (t := d) rfl rfl rfl rfl rfl ?_
              go_simp
              have hs := hs.lit3 c d d
              refine hK _ _ (HY.out _ _ _ _ _ hs) ?_
              clear hK K
              obtain ⟨q3, hq3⟩ : ∃ b, b = wa3.heap.size := ⟨_, rfl⟩
              rw [← hq3] at hs ⊢
              generalize wa3.alloc (.cells #[.int .i64 c.kind, .int .i64 c.point, .int .i64 c.other, .int .i64 c.off, .int .i64 c.err, .int .i64 d.kind, .int .i64 d.point, .int .i64 d.other, .int .i64 d.off, .int .i64 d.err, .int .i64 d.kind, .int .i64 d.point, .int .i64 d.other, .int .i64 d.off, .int .i64 d.err] 26) = wa4 at hs ⊢
              clear hq3
              refine mix_eff2 rfl false rfl (fun K hK => ?_)
              go_simp
              have hs := hs.lit1 pa u1 pa
              refine hK _ _ (HY.out _ _ _ _ _ hs) ?_
              clear hK K
              obtain ⟨q1, hq1⟩ : ∃ b, b = wa4.heap.size := ⟨_, rfl⟩
              rw [← hq1] at hs ⊢
              generalize wa4.alloc (.cells #[.int .i64 pa, .int .i64 u1, .int .i64 pa] 3) = wa5 at hs ⊢
              clear hq1
              refine mix_pur2 rfl (fun K hK => ?_)
              go_simp
              first | refine ⟨_, fun _ => rfl, hK _ ?_⟩ | refine hK _ ?_
              clear hK K
              refine mix_pur2 rfl (fun K hK => ?_)
              go_simp
              first | refine ⟨_, fun _ => rfl, hK _ ?_⟩ | refine hK _ ?_
              clear hK K
              refine mix_pur2 rfl (fun K hK => ?_)
              go_simp
              first | refine ⟨_, fun _ => rfl, hK _ ?_⟩ | refine hK _ ?_
              clear hK K
              refine mix_done2 ?_
              go_wp2_with fail
              go_meet
              case rel => exact ⟨q1, q2, q3, u1, u2, rfl, rfl, rfl, ⟨hs.s.mono (by omega), hs.a, hs.i1, hs.i2, hs.i3⟩⟩
          · as_aux_lemma =>
            refine step_build22 (p := c) (r := d) (t := d) rfl rfl rfl rfl rfl ?_
            go_simp
            have hs := hs.lit3 c d d
            refine hK _ _ (HY.out _ _ _ _ _ hs) ?_
            clear hK K
            obtain ⟨q3, hq3⟩ : ∃ b, b = wa2.heap.size := ⟨_, rfl⟩
            rw [← hq3] at hs ⊢
            generalize wa2.alloc (.cells #[.int .i64 c.kind, .int .i64 c.point, .int .i64 c.other, .int .i64 c.off, .int .i64 c.err, .int .i64 d.kind, .int .i64 d.point, .int .i64 d.other, .int .i64 d.off, .int .i64 d.err, .int .i64 d.kind, .int .i64 d.point, .int .i64 d.other, .int .i64 d.off, .int .i64 d.err] 26) = wa3 at hs ⊢
            clear hq3
            refine mix_two2 rfl rfl false false rfl rfl (fun K hK => ?_) (fun K hK => ?_)
            · go_simp
              have hs := hs.lit1 pa u1 pa
              refine hK _ _ (HY.out _ _ _ _ _ hs) ?_
              clear hK K
              obtain ⟨q1, hq1⟩ : ∃ b, b = wa3.heap.size := ⟨_, rfl⟩
              rw [← hq1] at hs ⊢
              generalize wa3.alloc (.cells #[.int .i64 pa, .int .i64 u1, .int .i64 pa] 3) = wa4 at hs ⊢
              clear hq1
              refine mix_pur2 rfl (fun K hK => ?_)
              go_simp
              first | refine ⟨_, fun _ => rfl, hK _ ?_⟩ | refine hK _ ?_
              clear hK K
              refine mix_eff2 rfl false rfl (fun K hK => ?_)
              go_simp
              have hs := hs.lit2 pb u2 pb
              refine hK _ _ (HY.out _ _ _ _ _ hs) ?_
              clear hK K
              obtain ⟨q2, hq2⟩ : ∃ b, b = wa4.heap.size := ⟨_, rfl⟩
              rw [← hq2] at hs ⊢
              generalize wa4.alloc (.cells #[.int .i64 pb, .int .i64 u2, .int .i64 pb] 3) = wa5 at hs ⊢
              clear hq2
              refine mix_pur2 rfl (fun K hK => ?_)
              go_simp
              first | refine ⟨_, fun _ => rfl, hK _ ?_⟩ | refine hK _ ?_
              clear hK K
              refine mix_pur2 rfl (fun K hK => ?_)
              go_simp
              first | refine ⟨_, fun _ => rfl, hK _ ?_⟩ | refine hK _ ?_
              clear hK K
              refine mix_done2 ?_
              go_wp2_with fail
              go_meet
              case rel => exact ⟨q1, q2, q3, u1, u2, rfl, rfl, rfl, ⟨hs.s.mono (by omega), hs.a, hs.i1, hs.i2, hs.i3⟩⟩
            · go_simp
              have hs := hs.lit2 pb u2 pb
              refine hK _ _ (HY.out _ _ _ _ _ hs) ?_
              clear hK K
              obtain ⟨q2, hq2⟩ : ∃ b, b = wa3.heap.size := ⟨_, rfl⟩
              rw [← hq2] at hs ⊢
              generalize wa3.alloc (.cells #[.int .i64 pb, .int .i64 u2, .int .i64 pb] 3) = wa4 at hs ⊢
              clear hq2
              refine mix_eff2 rfl false rfl (fun K hK => ?_)
              go_simp
              have hs := hs.lit1 pa u1 pa
              refine hK _ _ (HY.out _ _ _ _ _ hs) ?_
              clear hK K
              obtain ⟨q1, hq1⟩ : ∃ b, b = wa4.heap.size := ⟨_, rfl⟩
              rw [← hq1] at hs ⊢
              generalize wa4.alloc (.cells #[.int .i64 pa, .int .i64 u1, .int .i64 pa] 3) = wa5 at hs ⊢
              clear hq1
              refine mix_pur2 rfl (fun K hK => ?_)
              go_simp
              first | refine ⟨_, fun _ => rfl, hK _ ?_⟩ | refine hK _ ?_
              clear hK K
              refine mix_pur2 rfl (fun K hK => ?_)
              go_simp
              first | refine ⟨_, fun _ => rfl, hK _ ?_⟩ | refine hK _ ?_
              clear hK K
              refine mix_pur2 rfl (fun K hK => ?_)
              go_simp
              first | refine ⟨_, fun _ => rfl, hK _ ?_⟩ | refine hK _ ?_
              clear hK K
              refine mix_done2 ?_
              go_wp2_with fail
              go_meet
              case rel => exact ⟨q1, q2, q3, u1, u2, rfl, rfl, rfl, ⟨hs.s.mono (by omega), hs.a, hs.i1, hs.i2, hs.i3⟩⟩
        · as_aux_lemma =>
          refine step_build22 (p := c) (r := d) (t := d) rfl rfl rfl rfl rfl ?_
          go_simp
          have hs := hs.lit3 c d d
          refine hK _ _ (HY.out _ _ _ _ _ hs) ?_
          clear hK K
          obtain ⟨q3, hq3⟩ : ∃ b, b = wa1.heap.size := ⟨_, rfl⟩
          rw [← hq3] at hs ⊢
          generalize wa1.alloc (.cells #[.int .i64 c.kind, .int .i64 c.point, .int .i64 c.other, .int .i64 c.off, .int .i64 c.err, .int .i64 d.kind, .int .i64 d.point, .int .i64 d.other, .int .i64 d.off, .int .i64 d.err, .int .i64 d.kind, .int .i64 d.point, .int .i64 d.other, .int .i64 d.off, .int .i64 d.err] 26) = wa2 at hs ⊢
          clear hq3
          refine mix_two2 rfl rfl false false rfl rfl (fun K hK => ?_) (fun K hK => ?_)
          · go_simp
            have hs := hs.lit1 pa u1 pa
            refine hK _ _ (HY.out _ _ _ _ _ hs) ?_
            clear hK K
            obtain ⟨q1, hq1⟩ : ∃ b, b = wa2.heap.size := ⟨_, rfl⟩
            rw [← hq1] at hs ⊢
            generalize wa2.alloc (.cells #[.int .i64 pa, .int .i64 u1, .int .i64 pa] 3) = wa3 at hs ⊢
            clear hq1
            refine mix_eff2 rfl false rfl (fun K hK => ?_)
            refine wanted_none rfl ?_
            go_simp
            obtain ⟨kk, hkk, hHH⟩ := hs.s.hnd
            refine (upto_c hHH (by omega) ((n : Int) - 1) (by omega) (by omega)).mono ?_
            rintro e wa4 ⟨⟨u2, rfl, hu2, hu2b⟩, ⟨k9, hk9, hH9⟩, hG9⟩
            have hs := hs.hand (K' := 122) ⟨k9, by omega, hH9⟩ hG9
            refine hK _ _ (HY.out _ _ _ _ _ hs) ?_
            clear hK K hHH hH9 hG9 hkk hk9 kk k9 hu2 hu2b
            refine mix_pur2 rfl (fun K hK => ?_)
            go_simp
            first | refine ⟨_, fun _ => rfl, hK _ ?_⟩ | refine hK _ ?_
            clear hK K
            refine mix_eff2 rfl false rfl (fun K hK => ?_)
            go_simp
            have hs := hs.lit2 pb u2 pb
            refine hK _ _ (HY.out _ _ _ _ _ hs) ?_
            clear hK K
            obtain ⟨q2, hq2⟩ : ∃ b, b = wa4.heap.size := ⟨_, rfl⟩
            rw [← hq2] at hs ⊢
            generalize wa4.alloc (.cells #[.int .i64 pb, .int .i64 u2, .int .i64 pb] 3) = wa5 at hs ⊢
            clear hq2
            refine mix_pur2 rfl (fun K hK => ?_)
            go_simp
            first | refine ⟨_, fun _ => rfl, hK _ ?_⟩ | refine hK _ ?_
            clear hK K
            refine mix_pur2 rfl (fun K hK => ?_)
            go_simp
            first | refine ⟨_, fun _ => rfl, hK _ ?_⟩ | refine hK _ ?_
            clear hK K
            refine mix_done2 ?_
            go_wp2_with fail
            go_meet
            case rel => exact ⟨q1, q2, q3, u1, u2, rfl, rfl, rfl, ⟨hs.s.mono (by omega), hs.a, hs.i1, hs.i2, hs.i3⟩⟩
          · as_aux_lemma =>
            refine wanted_none rfl ?_
            go_simp
            obtain ⟨kk, hkk, hHH⟩ := hs.s.hnd
            refine (upto_c hHH (by omega) ((n : Int) - 1) (by omega) (by omega)).mono ?_
            rintro e wa3 ⟨⟨u2, rfl, hu2, hu2b⟩, ⟨k9, hk9, hH9⟩, hG9⟩
            have hs := hs.hand (K' := 122) ⟨k9, by omega, hH9⟩ hG9
            refine hK _ _ (HY.out _ _ _ _ _ hs) ?_
            clear hK K hHH hH9 hG9 hkk hk9 kk k9 hu2 hu2b
            refine mix_two2 rfl rfl false false rfl rfl (fun K hK => ?_) (fun K hK => ?_)
            · go_simp
              have hs := hs.lit1 pa u1 pa
              refine hK _ _ (HY.out _ _ _ _ _ hs) ?_
              clear hK K
              obtain ⟨q1, hq1⟩ : ∃ b, b = wa3.heap.size := ⟨_, rfl⟩
              rw [← hq1] at hs ⊢
              generalize wa3.alloc (.cells #[.int .i64 pa, .int .i64 u1, .int .i64 pa] 3) = wa4 at hs ⊢
              clear hq1
              refine mix_pur2 rfl (fun K hK => ?_)
              go_simp
              first | refine ⟨_, fun _ => rfl, hK _ ?_⟩ | refine hK _ ?_
              clear hK K
              refine mix_eff2 rfl false rfl (fun K hK => ?_)
              go_simp
              have hs := hs.lit2 pb u2 pb
              refine hK _ _ (HY.out _ _ _ _ _ hs) ?_
              clear hK K
              obtain ⟨q2, hq2⟩ : ∃ b, b = wa4.heap.size := ⟨_, rfl⟩
              rw [← hq2] at hs ⊢
              generalize wa4.alloc (.cells #[.int .i64 pb, .int .i64 u2, .int .i64 pb] 3) = wa5 at hs ⊢
              clear hq2
              refine mix_pur2 rfl (fun K hK => ?_)
              go_simp
              first | refine ⟨_, fun _ => rfl, hK _ ?_⟩ | refine hK _ ?_
              clear hK K
              refine mix_pur2 rfl (fun K hK => ?_)
              go_simp
              first | refine ⟨_, fun _ => rfl, hK _ ?_⟩ | refine hK _ ?_
              clear hK K
              refine mix_done2 ?_
              go_wp2_with fail
              go_meet
              case rel => exact ⟨q1, q2, q3, u1, u2, rfl, rfl, rfl, ⟨hs.s.mono (by omega), hs.a, hs.i1, hs.i2, hs.i3⟩⟩
            · go_simp
              have hs := hs.lit2 pb u2 pb
              refine hK _ _ (HY.out _ _ _ _ _ hs) ?_
              clear hK K
              obtain ⟨q2, hq2⟩ : ∃ b, b = wa3.heap.size := ⟨_, rfl⟩
              rw [← hq2] at hs ⊢
              generalize wa3.alloc (.cells #[.int .i64 pb, .int .i64 u2, .int .i64 pb] 3) = wa4 at hs ⊢
              clear hq2
              refine mix_eff2 rfl false rfl (fun K hK => ?_)
              go_simp
              have hs := hs.lit1 pa u1 pa
              refine hK _ _ (HY.out _ _ _ _ _ hs) ?_
              clear hK K
              obtain ⟨q1, hq1⟩ : ∃ b, b = wa4.heap.size := ⟨_, rfl⟩
              rw [← hq1] at hs ⊢
              generalize wa4.alloc (.cells #[.int .i64 pa, .int .i64 u1, .int .i64 pa] 3) = wa5 at hs ⊢
              clear hq1
              refine mix_pur2 rfl (fun K hK => ?_)
              go_simp
              first | refine ⟨_, fun _ => rfl, hK _ ?_⟩ | refine hK _ ?_
              clear hK K
              refine mix_pur2 rfl (fun K hK => ?_)
              go_simp
              first | refine ⟨_, fun _ => rfl, hK _ ?_⟩ | refine hK _ ?_
              clear hK K
              refine mix_pur2 rfl (fun K hK => ?_)
              go_simp
              first | refine ⟨_, fun _ => rfl, hK _ ?_⟩ | refine hK _ ?_
              clear hK K
              refine mix_done2 ?_
              go_wp2_with fail
              go_meet
              case rel => exact ⟨q1, q2, q3, u1, u2, rfl, rfl, rfl, ⟨hs.s.mono (by omega), hs.a, hs.i1, hs.i2, hs.i3⟩⟩
      · as_aux_lemma =>
        refine step_build22 (p := c) (r := d) (t := d) rfl rfl rfl rfl rfl ?_
        go_simp
        have hs := hs.lit3 c d d
        refine hK _ _ (HY.out _ _ _ _ _ hs) ?_
        clear hK K
        obtain ⟨q3, hq3⟩ : ∃ b, b = wd.heap.size := ⟨_, rfl⟩
        rw [← hq3] at hs ⊢
        generalize wd.alloc (.cells #[.int .i64 c.kind, .int .i64 c.point, .int .i64 c.other, .int .i64 c.off, .int .i64 c.err, .int .i64 d.kind, .int .i64 d.point, .int .i64 d.other, .int .i64 d.off, .int .i64 d.err, .int .i64 d.kind, .int .i64 d.point, .int .i64 d.other, .int .i64 d.off, .int .i64 d.err] 26) = wa1 at hs ⊢
        clear hq3
        refine mix_eff2 rfl false rfl (fun K hK => ?_)
        refine wanted_none rfl ?_
        go_simp
        obtain ⟨kk, hkk, hHH⟩ := hs.s.hnd
        refine (upto_c hHH (by omega) ((n : Int) - 1) (by omega) (by omega)).mono ?_
        rintro e wa2 ⟨⟨u1, rfl, hu1, hu1b⟩, ⟨k9, hk9, hH9⟩, hG9⟩
        have hs := hs.hand (K' := 121) ⟨k9, by omega, hH9⟩ hG9
        refine hK _ _ (HY.out _ _ _ _ _ hs) ?_
        clear hK K hHH hH9 hG9 hkk hk9 kk k9 hu1 hu1b
        refine mix_two2 rfl rfl false false rfl rfl (fun K hK => ?_) (fun K hK => ?_)
        · go_simp
          have hs := hs.lit1 pa u1 pa
          refine hK _ _ (HY.out _ _ _ _ _ hs) ?_
          clear hK K
          obtain ⟨q1, hq1⟩ : ∃ b, b = wa2.heap.size := ⟨_, rfl⟩
          rw [← hq1] at hs ⊢
          generalize wa2.alloc (.cells #[.int .i64 pa, .int .i64 u1, .int .i64 pa] 3) = wa3 at hs ⊢
          clear hq1
          refine mix_eff2 rfl false rfl (fun K hK => ?_)
          refine wanted_none rfl ?_
          go_simp
          obtain ⟨kk, hkk, hHH⟩ := hs.s.hnd
          refine (upto_c hHH (by omega) ((n : Int) - 1) (by omega) (by omega)).mono ?_
          rintro e wa4 ⟨⟨u2, rfl, hu2, hu2b⟩, ⟨k9, hk9, hH9⟩, hG9⟩
          have hs := hs.hand (K' := 122) ⟨k9, by omega, hH9⟩ hG9
          refine hK _ _ (HY.out _ _ _ _ _ hs) ?_
          clear hK K hHH hH9 hG9 hkk hk9 kk k9 hu2 hu2b
          refine mix_pur2 rfl (fun K hK => ?_)
          go_simp
          first | refine ⟨_, fun _ => rfl, hK _ ?_⟩ | refine hK _ ?_
          clear hK K
          refine mix_eff2 rfl false rfl (fun K hK => ?_)
          go_simp
          have hs := hs.lit2 pb u2 pb
          refine hK _ _ (HY.out _ _ _ _ _ hs) ?_
          clear hK K
          obtain ⟨q2, hq2⟩ : ∃ b, b = wa4.heap.size := ⟨_, rfl⟩
          rw [← hq2] at hs ⊢
          generalize wa4.alloc (.cells #[.int .i64 pb, .int .i64 u2, .int .i64 pb] 3) = wa5 at hs ⊢
          clear hq2
          refine mix_pur2 rfl (fun K hK => ?_)
          go_simp
          first | refine ⟨_, fun _ => rfl, hK _ ?_⟩ | refine hK _ ?_
          clear hK K
          refine mix_pur2 rfl (fun K hK => ?_)
          go_simp
          first | refine ⟨_, fun _ => rfl, hK _ ?_⟩ | refine hK _ ?_
          clear hK K
          refine mix_done2 ?_
          go_wp2_with fail
          go_meet
          case rel => exact ⟨q1, q2, q3, u1, u2, rfl, rfl, rfl, ⟨hs.s.mono (by omega), hs.a, hs.i1, hs.i2, hs.i3⟩⟩
        · as_aux_lemma =>
          refine wanted_none rfl ?_
          go_simp
          obtain ⟨kk, hkk, hHH⟩ := hs.s.hnd
          refine (upto_c hHH (by omega) ((n : Int) - 1) (by omega) (by omega)).mono ?_
          rintro e wa3 ⟨⟨u2, rfl, hu2, hu2b⟩, ⟨k9, hk9, hH9⟩, hG9⟩
          have hs := hs.hand (K' := 122) ⟨k9, by omega, hH9⟩ hG9
          refine hK _ _ (HY.out _ _ _ _ _ hs) ?_
          clear hK K hHH hH9 hG9 hkk hk9 kk k9 hu2 hu2b
          refine mix_two2 rfl rfl false false rfl rfl (fun K hK => ?_) (fun K hK => ?_)
          · go_simp
            have hs := hs.lit1 pa u1 pa
            refine hK _ _ (HY.out _ _ _ _ _ hs) ?_
            clear hK K
            obtain ⟨q1, hq1⟩ : ∃ b, b = wa3.heap.size := ⟨_, rfl⟩
            rw [← hq1] at hs ⊢
            generalize wa3.alloc (.cells #[.int .i64 pa, .int .i64 u1, .int .i64 pa] 3) = wa4 at hs ⊢
            clear hq1
            refine mix_pur2 rfl (fun K hK => ?_)
            go_simp
            first | refine ⟨_, fun _ => rfl, hK _ ?_⟩ | refine hK _ ?_
            clear hK K
            refine mix_eff2 rfl false rfl (fun K hK => ?_)
            go_simp
            have hs := hs.lit2 pb u2 pb
            refine hK _ _ (HY.out _ _ _ _ _ hs) ?_
            clear hK K
            obtain ⟨q2, hq2⟩ : ∃ b, b = wa4.heap.size := ⟨_, rfl⟩
            rw [← hq2] at hs ⊢
            generalize wa4.alloc (.cells #[.int .i64 pb, .int .i64 u2, .int .i64 pb] 3) = wa5 at hs ⊢
            clear hq2
            refine mix_pur2 rfl (fun K hK => ?_)
            go_simp
            first | refine ⟨_, fun _ => rfl, hK _ ?_⟩ | refine hK _ ?_
            clear hK K
            refine mix_pur2 rfl (fun K hK => ?_)
            go_simp
            first | refine ⟨_, fun _ => rfl, hK _ ?_⟩ | refine hK _ ?_
            clear hK K
            refine mix_done2 ?_
            go_wp2_with fail
            go_meet
            case rel => exact ⟨q1, q2, q3, u1, u2, rfl, rfl, rfl, ⟨hs.s.mono (by omega), hs.a, hs.i1, hs.i2, hs.i3⟩⟩
          · go_simp
            have hs := hs.lit2 pb u2 pb
            refine hK _ _ (HY.out _ _ _ _ _ hs) ?_
            clear hK K
            obtain ⟨q2, hq2⟩ : ∃ b, b = wa3.heap.size := ⟨_, rfl⟩
            rw [← hq2] at hs ⊢
            generalize wa3.alloc (.cells #[.int .i64 pb, .int .i64 u2, .int .i64 pb] 3) = wa4 at hs ⊢
            clear hq2
            refine mix_eff2 rfl false rfl (fun K hK => ?_)
            go_simp
            have hs := hs.lit1 pa u1 pa
            refine hK _ _ (HY.out _ _ _ _ _ hs) ?_
            clear hK K
            obtain ⟨q1, hq1⟩ : ∃ b, b = wa4.heap.size := ⟨_, rfl⟩
            rw [← hq1] at hs ⊢
            generalize wa4.alloc (.cells #[.int .i64 pa, .int .i64 u1, .int .i64 pa] 3) = wa5 at hs ⊢
            clear hq1
            refine mix_pur2 rfl (fun K hK => ?_)
            go_simp
            first | refine ⟨_, fun _ => rfl, hK _ ?_⟩ | refine hK _ ?_
            clear hK K
            refine mix_pur2 rfl (fun K hK => ?_)
            go_simp
            first | refine ⟨_, fun _ => rfl, hK _ ?_⟩ | refine hK _ ?_
            clear hK K
            refine mix_pur2 rfl (fun K hK => ?_)
            go_simp
            first | refine ⟨_, fun _ => rfl, hK _ ?_⟩ | refine hK _ ?_
            clear hK K
            refine mix_done2 ?_
            go_wp2_with fail
            go_meet
            case rel => exact ⟨q1, q2, q3, u1, u2, rfl, rfl, rfl, ⟨hs.s.mono (by omega), hs.a, hs.i1, hs.i2, hs.i3⟩⟩
    case rest =>
    obtain ⟨q1, q2, q3, u1, u2, rfl, rfl, rfl, hs6⟩ := hcut
    rename World => w6
    have hE6 := hs6.s.e
    have hI1 := hs6.i1 _ _ _ _ rfl
    have hI2 := hs6.i2 _ _ _ _ rfl
    have hI3 := hs6.i3 _ _ _ _ rfl
    have hB6 := hs6.s.below
    have hbl : b < w6.heap.size := Blk.lt hE6
    have hl1 := hI1.lt
    have hl2 := hI2.lt
    have hl3 := hI3.lt
    have hrow : ∀ i, i < 3 → ∃ (y : Edg) (ay : Option Addr) (cy : Nat) (ia ib : Int) (e : Cl), RowF b i y (.slice ay y.claims.length cy) q1 ia q2 ib q3 e w6 ∧ ClsM (fun _ => True) w6 (.slice ay y.claims.length cy) y.claims ∧ y.claims.length ≤ 20 := by
      intro i hi
      have hi3 : i = 0 ∨ i = 1 ∨ i = 2 := by omega
      rcases hi3 with rfl | rfl | rfl
      · exact ⟨x, ax, cx, pa, pb, c, ⟨⟨Blk.cell hE6 0, Blk.cell hE6 1, Blk.cell hE6 2⟩, hI1.cell 0, hI2.cell 0, hI3.cell 0, hI3.cell 1, hI3.cell 2, hI3.cell 3, hI3.cell 4⟩, hs6.s.rx.wide fun _ _ _ => trivial, by omega⟩
      · exact ⟨md, am, cm, u1, u2, d, ⟨⟨Blk.cell hE6 3, Blk.cell hE6 4, Blk.cell hE6 5⟩, hI1.cell 1, hI2.cell 1, hI3.cell 5, hI3.cell 6, hI3.cell 7, hI3.cell 8, hI3.cell 9⟩, hs6.s.ry.wide fun _ _ _ => trivial, by omega⟩
      · exact ⟨md.add c, az, cz, pa, pb, d, ⟨⟨Blk.cell hE6 6, Blk.cell hE6 7, Blk.cell hE6 8⟩, hI1.cell 2, hI2.cell 2, hI3.cell 10, hI3.cell 11, hI3.cell 12, hI3.cell 13, hI3.cell 14⟩, hs6.s.rz.wide fun _ _ _ => trivial, by omega⟩
    have HROW := Lib.hid hrow
    clear hrow hl hE6 hI1 hI2 hI3 hs6 hs5 HX HY bm1 hdok
    go_wp2_with fail
    go_loopw [17] (fun vi wr => ∃ i : Nat, i ≤ 3 ∧ vi = .int .i64 i ∧ Below w6.heap.size w6 wr) (fun vi _ => 3 - (intOf vi).toNat)
    case atStart => exact ⟨0, by omega, rfl, Below.refl _ _⟩
    case round =>
      obtain ⟨i, hi, rfl, hBr⟩ := hrel
      by_cases hlt : i < 3
      · obtain ⟨y, ay, cy, ia, ib, e, hS4, hC4, hy20⟩ := HROW.out i hlt
        have hEq : ∀ w', Below w6.heap.size w6 w' → RowF b i y (.slice ay y.claims.length cy) q1 ia q2 ib q3 e w' := fun w' hb => hS4.below hb hbl hl1 hl2 hl3
        have HEQ := Lib.hid hEq
        have hCr := hC4.call hBr
        obtain ⟨⟨r0, r1, r2⟩, -⟩ := HEQ.out wr hBr
        clear hS4 hEq
        go_wp2_with fail
        refine (copyEdge_c hCr (by omega)).mono ?_
        rintro e' u0 ⟨vo, rfl, hOo, hU0⟩
        obtain ⟨ao, co, rfl⟩ := own_slice hOo
        obtain ⟨u1, hu1⟩ : ∃ u1, u1 = u0.alloc (.cells #[.int .i64 y.points, .int .i64 y.bend, .slice ao y.claims.length co] 24) := ⟨_, rfl⟩
        obtain ⟨b9, hb9⟩ : ∃ b, b = u0.heap.size := ⟨_, rfl⟩
        have hD1 : Blk b9 #[.int .i64 y.points, .int .i64 y.bend, .slice ao y.claims.length co] 24 u1 := by rw [hu1, hb9]; exact Blk.new _ _ _
        have hO1 := (Own.cls hOo).call ((Below.refl u0.heap.size u0).alloc (Nat.le_refl _) (.cells #[.int .i64 y.points, .int .i64 y.bend, .slice ao y.claims.length co] 24))
        rw [← hu1] at hO1
        have hU1 : Below wr.heap.size wr u1 := by rw [hu1]; exact bal2 hU0
        have hBu1 := bnx hBr hU1
        go_upto_region 11 with fail
        rw [← hu1, ← hb9]
        clear hu1 hb9 hOo hU0 hU1 r0 r1 r2
        obtain ⟨R, hR⟩ : ∃ R, R = apartX y ia ib := ⟨_, rfl⟩
        obtain ⟨S, hS⟩ : ∃ S, S = followsX y e := ⟨_, rfl⟩
        obtain ⟨T, hT⟩ : ∃ T, T = addX y e := ⟨_, rfl⟩
        have HR := Lib.hid hR
        have HS := Lib.hid hS
        have HT := Lib.hid hT
        clear hR hS hT
        have hF : ∀ w', Below u1.heap.size u1 w' → (FolS b9 b i y (.slice ao y.claims.length co) (.slice ay y.claims.length cy) q1 ia q2 ib q3 e) w' := fun w' hb => ⟨hD1.call hb, HEQ.out w' (bnx hBu1 hb)⟩
        go_cut [19, 20] from 87 to 200 (fun s19 s20 wx => ∃ a19 : Nat, s19 = .pointer (some ⟨a19, 0, none⟩) ∧ s20 = .int .i64 R.2 ∧ Blk a19 #[.int .i64 R.1.1, .int .i64 R.1.2] 52 wx ∧ Below u1.heap.size u1 wx)
        case first => as_aux_lemma =>
          refine wp_region_mix2 (.one 0 (.pur 1 (.pur 2 (.pur 3 (.one 4 (.pur 5 (.pur 6 (.pur 7 (.one 8 (.two 9 (.pur 10 (.pur 11 (.pur 12 (.act 13 (.act 14 (.pur 15 .fin)))))) 13 (.act 9 (.pur 10 (.pur 11 (.pur 12 (.act 14 (.pur 15 .fin)))))))))))))))) 14 (FolS b9 b i y (.slice ao y.claims.length co) (.slice ay y.claims.length cy) q1 ia q2 ib q3 e) (fun _ => True) (by kernel_rfl) (by kernel_rfl) rfl (by kernel_rfl) (hF _ (((Qt.refl _).drewN 1).below _)) (fun wd hqd _ => ?_)
          have z0 : Below u1.heap.size u1 wd := hqd.below _
          refine mix_load2 rfl rfl rfl (.agg #[.int .i64 y.points, .int .i64 y.bend, .slice ao y.claims.length co]) (fun w' h => by have h : (FolS b9 b i y (.slice ao y.claims.length co) (.slice ay y.claims.length cy) q1 ia q2 ib q3 e) w' := h; have e0 := h.1.cell 0; have e1 := h.1.cell 1; have e2 := h.1.cell 2; go_simp) rfl ?_
          refine mix_pur2 rfl (fun K hK => ?_)
          go_simp
          first | refine ⟨_, fun _ => rfl, hK _ ?_⟩ | refine hK _ ?_
          clear hK K
          refine mix_pur2 rfl (fun K hK => ?_)
          go_simp
          first | refine ⟨_, fun _ => rfl, hK _ ?_⟩ | refine hK _ ?_
          clear hK K
          refine mix_pur2 rfl (fun K hK => ?_)
          go_simp
          first | refine ⟨_, fun _ => rfl, hK _ ?_⟩ | refine hK _ ?_
          clear hK K
          refine mix_load2 rfl rfl rfl (.int .i64 ia) (fun w' h => by have h : (FolS b9 b i y (.slice ao y.claims.length co) (.slice ay y.claims.length cy) q1 ia q2 ib q3 e) w' := h; have e0 := h.2.2.1; go_simp) rfl ?_
          refine mix_pur2 rfl (fun K hK => ?_)
          go_simp
          first | refine ⟨_, fun _ => rfl, hK _ ?_⟩ | refine hK _ ?_
          clear hK K
          refine mix_pur2 rfl (fun K hK => ?_)
          go_simp
          first | refine ⟨_, fun _ => rfl, hK _ ?_⟩ | refine hK _ ?_
          clear hK K
          refine mix_pur2 rfl (fun K hK => ?_)
          go_simp
          first | refine ⟨_, fun _ => rfl, hK _ ?_⟩ | refine hK _ ?_
          clear hK K
          refine mix_load2 rfl rfl rfl (.int .i64 ib) (fun w' h => by have h : (FolS b9 b i y (.slice ao y.claims.length co) (.slice ay y.claims.length cy) q1 ia q2 ib q3 e) w' := h; have e0 := h.2.2.2.1; go_simp) rfl ?_
          refine mix_two2 rfl rfl false false rfl rfl (fun K hK => ?_) (fun K hK => ?_)
          · go_simp
            refine (apart_c (hO1.call z0) ia ib).mono ?_
            rintro e' wa1 ⟨rfl, hB9⟩
            rw [← HR.out]
            have z1 := z0.trans (hB9.mono z0.size)
            refine hK _ _ (hF _ z1) ?_
            clear hK K hB9
            refine mix_pur2 rfl (fun K hK => ?_)
            go_simp
            first | refine ⟨_, fun _ => rfl, hK _ ?_⟩ | refine hK _ ?_
            clear hK K
            refine mix_pur2 rfl (fun K hK => ?_)
            go_simp
            first | refine ⟨_, fun _ => rfl, hK _ ?_⟩ | refine hK _ ?_
            clear hK K
            refine mix_pur2 rfl (fun K hK => ?_)
            go_simp
            first | refine ⟨_, fun _ => rfl, hK _ ?_⟩ | refine hK _ ?_
            clear hK K
            refine mix_eff2 rfl false rfl (fun K hK => ?_)
            go_simp
            have z2 := bal2 (o := .cells #[.int .i64 0, .int .i64 0] 52) z1
            have hA := Blk.new wa1 #[.int .i64 0, .int .i64 0] 52
            have hAn : u1.heap.size ≤ wa1.heap.size := z1.size
            refine hK _ _ (hF _ z2) ?_
            clear hK K
            obtain ⟨ba, hba⟩ : ∃ b, b = wa1.heap.size := ⟨_, rfl⟩
            rw [← hba] at hA hAn ⊢
            generalize wa1.alloc (.cells #[.int .i64 0, .int .i64 0] 52) = wa2 at hA z2 ⊢
            clear hba
            refine mix_eff2 rfl true rfl (fun K hK => ?_)
            have q0 := hA.cell 0
            have q1 := hA.cell 1
            have fq0 := hA.free 0
            have fq1 := hA.free 1
            go_simp
            refine hK _ _ trivial ?_
            clear hK K
            refine mix_pur2 rfl (fun K hK => ?_)
            go_simp
            first | refine ⟨_, fun _ => rfl, hK _ ?_⟩ | refine hK _ ?_
            clear hK K
            refine mix_done2 ?_
            go_wp2_with fail
            go_meet
            case rel => exact ⟨ba, rfl, rfl, (hA.set 0 _).set 1 _, (Below.setCell (Below.setCell z2 (p := ⟨ba, 0, none⟩) hAn _) (p := ⟨ba, 1, none⟩) hAn _)⟩
          · go_simp
            have z1 := bal2 (o := .cells #[.int .i64 0, .int .i64 0] 52) z0
            have hA := Blk.new wd #[.int .i64 0, .int .i64 0] 52
            have hAn : u1.heap.size ≤ wd.heap.size := z0.size
            refine hK _ _ (hF _ z1) ?_
            clear hK K
            obtain ⟨ba, hba⟩ : ∃ b, b = wd.heap.size := ⟨_, rfl⟩
            rw [← hba] at hA hAn ⊢
            generalize wd.alloc (.cells #[.int .i64 0, .int .i64 0] 52) = wa1 at hA z1 ⊢
            clear hba
            refine mix_eff2 rfl false rfl (fun K hK => ?_)
            go_simp
            refine (apart_c (hO1.call z1) ia ib).mono ?_
            rintro e' wa2 ⟨rfl, hB9⟩
            rw [← HR.out]
            have hA := hA.call hB9
            have z2 := z1.trans (hB9.mono z1.size)
            refine hK _ _ (hF _ z2) ?_
            clear hK K hB9
            refine mix_pur2 rfl (fun K hK => ?_)
            go_simp
            first | refine ⟨_, fun _ => rfl, hK _ ?_⟩ | refine hK _ ?_
            clear hK K
            refine mix_pur2 rfl (fun K hK => ?_)
            go_simp
            first | refine ⟨_, fun _ => rfl, hK _ ?_⟩ | refine hK _ ?_
            clear hK K
            refine mix_pur2 rfl (fun K hK => ?_)
            go_simp
            first | refine ⟨_, fun _ => rfl, hK _ ?_⟩ | refine hK _ ?_
            clear hK K
            refine mix_eff2 rfl true rfl (fun K hK => ?_)
            have q0 := hA.cell 0
            have q1 := hA.cell 1
            have fq0 := hA.free 0
            have fq1 := hA.free 1
            go_simp
            refine hK _ _ trivial ?_
            clear hK K
            refine mix_pur2 rfl (fun K hK => ?_)
            go_simp
            first | refine ⟨_, fun _ => rfl, hK _ ?_⟩ | refine hK _ ?_
            clear hK K
            refine mix_done2 ?_
            go_wp2_with fail
            go_meet
            case rel => exact ⟨ba, rfl, rfl, (hA.set 0 _).set 1 _, (Below.setCell (Below.setCell z2 (p := ⟨ba, 0, none⟩) hAn _) (p := ⟨ba, 1, none⟩) hAn _)⟩
        case rest =>
        obtain ⟨a19, rfl, rfl, hP19, hU⟩ := hcut
        rename World => u2
        go_upto_region 12 with fail
        have hD2 := hD1.call hU
        have hO2 := hO1.call hU
        have hBu2 := bnx hBu1 hU
        clear hD1 hO1 hU hF
        have hF : ∀ w', Below u2.heap.size u2 w' → (FolS b9 b i y (.slice ao y.claims.length co) (.slice ay y.claims.length cy) q1 ia q2 ib q3 e) w' := fun w' hb => ⟨hD2.call hb, HEQ.out w' (bnx hBu2 hb)⟩
        go_cut [21, 22] from 87 to 200 (fun s21 s22 wx => ∃ a21 : Nat, s21 = .pointer (some ⟨a21, 0, none⟩) ∧ s22 = .int .i64 R.2 ∧ Blk a21 #[.int .i64 R.1.1, .int .i64 R.1.2] 52 wx ∧ Below u2.heap.size u2 wx)
        case first => as_aux_lemma =>
          refine wp_region_mix2 (.pur 0 (.pur 1 (.pur 2 (.one 3 (.pur 4 (.pur 5 (.pur 6 (.one 7 (.pur 8 (.pur 9 (.pur 10 (.one 11 (.two 12 (.pur 13 (.pur 14 (.pur 15 (.act 16 (.act 17 (.pur 18 .fin)))))) 16 (.act 12 (.pur 13 (.pur 14 (.pur 15 (.act 17 (.pur 18 .fin))))))))))))))))))) 17 (FolS b9 b i y (.slice ao y.claims.length co) (.slice ay y.claims.length cy) q1 ia q2 ib q3 e) (fun _ => True) (by kernel_rfl) (by kernel_rfl) rfl (by kernel_rfl) (hF _ (((Qt.refl _).drewN 1).below _)) (fun wd hqd _ => ?_)
          have z0 : Below u2.heap.size u2 wd := hqd.below _
          refine mix_pur2 rfl (fun K hK => ?_)
          go_simp
          first | refine ⟨_, fun _ => rfl, hK _ ?_⟩ | refine hK _ ?_
          clear hK K
          refine mix_pur2 rfl (fun K hK => ?_)
          go_simp
          first | refine ⟨_, fun _ => rfl, hK _ ?_⟩ | refine hK _ ?_
          clear hK K
          refine mix_pur2 rfl (fun K hK => ?_)
          go_simp
          first | refine ⟨_, fun _ => rfl, hK _ ?_⟩ | refine hK _ ?_
          clear hK K
          refine mix_load2 rfl rfl rfl (.agg #[.int .i64 y.points, .int .i64 y.bend, .slice ay y.claims.length cy]) (fun w' h => by have h : (FolS b9 b i y (.slice ao y.claims.length co) (.slice ay y.claims.length cy) q1 ia q2 ib q3 e) w' := h; have e0 := h.2.1.1; have e1 := h.2.1.2.1; have e2 := h.2.1.2.2; go_simp) rfl ?_
          refine mix_pur2 rfl (fun K hK => ?_)
          go_simp
          first | refine ⟨_, fun _ => rfl, hK _ ?_⟩ | refine hK _ ?_
          clear hK K
          refine mix_pur2 rfl (fun K hK => ?_)
          go_simp
          first | refine ⟨_, fun _ => rfl, hK _ ?_⟩ | refine hK _ ?_
          clear hK K
          refine mix_pur2 rfl (fun K hK => ?_)
          go_simp
          first | refine ⟨_, fun _ => rfl, hK _ ?_⟩ | refine hK _ ?_
          clear hK K
          refine mix_load2 rfl rfl rfl (.int .i64 ia) (fun w' h => by have h : (FolS b9 b i y (.slice ao y.claims.length co) (.slice ay y.claims.length cy) q1 ia q2 ib q3 e) w' := h; have e0 := h.2.2.1; go_simp) rfl ?_
          refine mix_pur2 rfl (fun K hK => ?_)
          go_simp
          first | refine ⟨_, fun _ => rfl, hK _ ?_⟩ | refine hK _ ?_
          clear hK K
          refine mix_pur2 rfl (fun K hK => ?_)
          go_simp
          first | refine ⟨_, fun _ => rfl, hK _ ?_⟩ | refine hK _ ?_
          clear hK K
          refine mix_pur2 rfl (fun K hK => ?_)
          go_simp
          first | refine ⟨_, fun _ => rfl, hK _ ?_⟩ | refine hK _ ?_
          clear hK K
          refine mix_load2 rfl rfl rfl (.int .i64 ib) (fun w' h => by have h : (FolS b9 b i y (.slice ao y.claims.length co) (.slice ay y.claims.length cy) q1 ia q2 ib q3 e) w' := h; have e0 := h.2.2.2.1; go_simp) rfl ?_
          refine mix_two2 rfl rfl false false rfl rfl (fun K hK => ?_) (fun K hK => ?_)
          · go_simp
            refine (rapart_c (hC4.call (bnx hBu2 z0)) ia ib).mono ?_
            rintro e' wa1 ⟨rfl, hB9⟩
            rw [← HR.out]
            have z1 := z0.trans (hB9.mono z0.size)
            refine hK _ _ (hF _ z1) ?_
            clear hK K hB9
            refine mix_pur2 rfl (fun K hK => ?_)
            go_simp
            first | refine ⟨_, fun _ => rfl, hK _ ?_⟩ | refine hK _ ?_
            clear hK K
            refine mix_pur2 rfl (fun K hK => ?_)
            go_simp
            first | refine ⟨_, fun _ => rfl, hK _ ?_⟩ | refine hK _ ?_
            clear hK K
            refine mix_pur2 rfl (fun K hK => ?_)
            go_simp
            first | refine ⟨_, fun _ => rfl, hK _ ?_⟩ | refine hK _ ?_
            clear hK K
            refine mix_eff2 rfl false rfl (fun K hK => ?_)
            go_simp
            have z2 := bal2 (o := .cells #[.int .i64 0, .int .i64 0] 52) z1
            have hA := Blk.new wa1 #[.int .i64 0, .int .i64 0] 52
            have hAn : u2.heap.size ≤ wa1.heap.size := z1.size
            refine hK _ _ (hF _ z2) ?_
            clear hK K
            obtain ⟨ba, hba⟩ : ∃ b, b = wa1.heap.size := ⟨_, rfl⟩
            rw [← hba] at hA hAn ⊢
            generalize wa1.alloc (.cells #[.int .i64 0, .int .i64 0] 52) = wa2 at hA z2 ⊢
            clear hba
            refine mix_eff2 rfl true rfl (fun K hK => ?_)
            have q0 := hA.cell 0
            have q1 := hA.cell 1
            have fq0 := hA.free 0
            have fq1 := hA.free 1
            go_simp
            refine hK _ _ trivial ?_
            clear hK K
            refine mix_pur2 rfl (fun K hK => ?_)
            go_simp
            first | refine ⟨_, fun _ => rfl, hK _ ?_⟩ | refine hK _ ?_
            clear hK K
            refine mix_done2 ?_
            go_wp2_with fail
            go_meet
            case rel => exact ⟨ba, rfl, rfl, (hA.set 0 _).set 1 _, (Below.setCell (Below.setCell z2 (p := ⟨ba, 0, none⟩) hAn _) (p := ⟨ba, 1, none⟩) hAn _)⟩
          · go_simp
            have z1 := bal2 (o := .cells #[.int .i64 0, .int .i64 0] 52) z0
            have hA := Blk.new wd #[.int .i64 0, .int .i64 0] 52
            have hAn : u2.heap.size ≤ wd.heap.size := z0.size
            refine hK _ _ (hF _ z1) ?_
            clear hK K
            obtain ⟨ba, hba⟩ : ∃ b, b = wd.heap.size := ⟨_, rfl⟩
            rw [← hba] at hA hAn ⊢
            generalize wd.alloc (.cells #[.int .i64 0, .int .i64 0] 52) = wa1 at hA z1 ⊢
            clear hba
            refine mix_eff2 rfl false rfl (fun K hK => ?_)
            go_simp
            refine (rapart_c (hC4.call (bnx hBu2 z1)) ia ib).mono ?_
            rintro e' wa2 ⟨rfl, hB9⟩
            rw [← HR.out]
            have hA := hA.call hB9
            have z2 := z1.trans (hB9.mono z1.size)
            refine hK _ _ (hF _ z2) ?_
            clear hK K hB9
            refine mix_pur2 rfl (fun K hK => ?_)
            go_simp
            first | refine ⟨_, fun _ => rfl, hK _ ?_⟩ | refine hK _ ?_
            clear hK K
            refine mix_pur2 rfl (fun K hK => ?_)
            go_simp
            first | refine ⟨_, fun _ => rfl, hK _ ?_⟩ | refine hK _ ?_
            clear hK K
            refine mix_pur2 rfl (fun K hK => ?_)
            go_simp
            first | refine ⟨_, fun _ => rfl, hK _ ?_⟩ | refine hK _ ?_
            clear hK K
            refine mix_eff2 rfl true rfl (fun K hK => ?_)
            have q0 := hA.cell 0
            have q1 := hA.cell 1
            have fq0 := hA.free 0
            have fq1 := hA.free 1
            go_simp
            refine hK _ _ trivial ?_
            clear hK K
            refine mix_pur2 rfl (fun K hK => ?_)
            go_simp
            first | refine ⟨_, fun _ => rfl, hK _ ?_⟩ | refine hK _ ?_
            clear hK K
            refine mix_done2 ?_
            go_wp2_with fail
            go_meet
            case rel => exact ⟨ba, rfl, rfl, (hA.set 0 _).set 1 _, (Below.setCell (Below.setCell z2 (p := ⟨ba, 0, none⟩) hAn _) (p := ⟨ba, 1, none⟩) hAn _)⟩
        case rest =>
        obtain ⟨a21, rfl, rfl, hP21, hU⟩ := hcut
        rename World => u3
        go_upto_region 13 with fail
        have hD3 := hD2.call hU
        have hO3 := hO2.call hU
        have hBu3 := bnx hBu2 hU
        have hP19 := hP19.call hU
        clear hD2 hO2 hU hF
        have hF : ∀ w', Below u3.heap.size u3 w' → (FolS b9 b i y (.slice ao y.claims.length co) (.slice ay y.claims.length cy) q1 ia q2 ib q3 e) w' := fun w' hb => ⟨hD3.call hb, HEQ.out w' (bnx hBu3 hb)⟩
        refine wp_region_mix2 (.one 0 (.pur 1 (.pur 2 (.pur 3 (.one 4 (.act 5 (.pur 6 (.pur 7 (.pur 8 (.pur 9 (.pur 10 .fin))))))))))) 99 (FolS b9 b i y (.slice ao y.claims.length co) (.slice ay y.claims.length cy) q1 ia q2 ib q3 e) (fun _ => True) (by kernel_rfl) (by kernel_rfl) rfl (by kernel_rfl) (hF _ (((Qt.refl _).drewN 1).below _)) (fun wd hqd _ => ?_)
        have z0 : Below u3.heap.size u3 wd := hqd.below _
        refine mix_load2 rfl rfl rfl (.agg #[.int .i64 y.points, .int .i64 y.bend, .slice ao y.claims.length co]) (fun w' h => by have h : (FolS b9 b i y (.slice ao y.claims.length co) (.slice ay y.claims.length cy) q1 ia q2 ib q3 e) w' := h; have e0 := h.1.cell 0; have e1 := h.1.cell 1; have e2 := h.1.cell 2; go_simp) rfl ?_
        refine mix_pur2 rfl (fun K hK => ?_)
        go_simp
        first | refine ⟨_, fun _ => rfl, hK _ ?_⟩ | refine hK _ ?_
        clear hK K
        refine mix_pur2 rfl (fun K hK => ?_)
        go_simp
        first | refine ⟨_, fun _ => rfl, hK _ ?_⟩ | refine hK _ ?_
        clear hK K
        refine mix_pur2 rfl (fun K hK => ?_)
        go_simp
        first | refine ⟨_, fun _ => rfl, hK _ ?_⟩ | refine hK _ ?_
        clear hK K
        refine mix_load2 rfl rfl rfl (.agg #[.int .i64 e.kind, .int .i64 e.point, .int .i64 e.other, .int .i64 e.off, .int .i64 e.err]) (fun w' h => by have h : (FolS b9 b i y (.slice ao y.claims.length co) (.slice ay y.claims.length cy) q1 ia q2 ib q3 e) w' := h; have e0 := h.2.2.2.2.1; have e1 := h.2.2.2.2.2.1; have e2 := h.2.2.2.2.2.2.1; have e3 := h.2.2.2.2.2.2.2.1; have e4 := h.2.2.2.2.2.2.2.2; go_simp) rfl ?_
        refine mix_eff2 rfl false rfl (fun K hK => ?_)
        go_simp
        refine (follows_c (hO3.call z0) e).mono ?_
        rintro e' y1 ⟨rfl, hy1⟩
        rw [← HS.out]
        have z1 := z0.trans (hy1.mono z0.size)
        refine hK _ _ (hF _ z1) ?_
        clear hK K
        refine mix_pur2 rfl (fun K hK => ?_)
        go_simp
        first | refine ⟨_, fun _ => rfl, hK _ ?_⟩ | refine hK _ ?_
        clear hK K
        refine mix_pur2 rfl (fun K hK => ?_)
        go_simp
        first | refine ⟨_, fun _ => rfl, hK _ ?_⟩ | refine hK _ ?_
        clear hK K
        refine mix_pur2 rfl (fun K hK => ?_)
        go_simp
        first | refine ⟨_, fun _ => rfl, hK _ ?_⟩ | refine hK _ ?_
        clear hK K
        refine mix_pur2 rfl (fun K hK => ?_)
        go_simp
        first | refine ⟨_, fun _ => rfl, hK _ ?_⟩ | refine hK _ ?_
        clear hK K
        refine mix_pur2 rfl (fun K hK => ?_)
        go_simp
        first | refine ⟨_, fun _ => rfl, hK _ ?_⟩ | refine hK _ ?_
        clear hK K
        refine mix_done2 ?_
        go_upto_region 14 with fail
        have hU : Below u3.heap.size u3 y1 := z1
        clear z0 z1 hqd
        obtain ⟨u4, hu⟩ : ∃ u, u = y1 := ⟨_, rfl⟩
        rw [← hu] at hU ⊢
        clear hu
        have hD4 := hD3.call hU
        have hO4 := hO3.call hU
        have hBu4 := bnx hBu3 hU
        have hP19 := hP19.call hU
        have hP21 := hP21.call hU
        clear hD3 hO3 hU hF
        have hF : ∀ w', Below u4.heap.size u4 w' → (FolS b9 b i y (.slice ao y.claims.length co) (.slice ay y.claims.length cy) q1 ia q2 ib q3 e) w' := fun w' hb => ⟨hD4.call hb, HEQ.out w' (bnx hBu4 hb)⟩
        refine wp_region_mix2 (.pur 0 (.pur 1 (.pur 2 (.one 3 (.pur 4 (.pur 5 (.pur 6 (.one 7 (.act 8 (.pur 9 (.pur 10 (.pur 11 (.pur 12 (.pur 13 .fin)))))))))))))) 99 (FolS b9 b i y (.slice ao y.claims.length co) (.slice ay y.claims.length cy) q1 ia q2 ib q3 e) (fun _ => True) (by kernel_rfl) (by kernel_rfl) rfl (by kernel_rfl) (hF _ (((Qt.refl _).drewN 1).below _)) (fun wd hqd _ => ?_)
        have z0 : Below u4.heap.size u4 wd := hqd.below _
        refine mix_pur2 rfl (fun K hK => ?_)
        go_simp
        first | refine ⟨_, fun _ => rfl, hK _ ?_⟩ | refine hK _ ?_
        clear hK K
        refine mix_pur2 rfl (fun K hK => ?_)
        go_simp
        first | refine ⟨_, fun _ => rfl, hK _ ?_⟩ | refine hK _ ?_
        clear hK K
        refine mix_pur2 rfl (fun K hK => ?_)
        go_simp
        first | refine ⟨_, fun _ => rfl, hK _ ?_⟩ | refine hK _ ?_
        clear hK K
        refine mix_load2 rfl rfl rfl (.agg #[.int .i64 y.points, .int .i64 y.bend, .slice ay y.claims.length cy]) (fun w' h => by have h : (FolS b9 b i y (.slice ao y.claims.length co) (.slice ay y.claims.length cy) q1 ia q2 ib q3 e) w' := h; have e0 := h.2.1.1; have e1 := h.2.1.2.1; have e2 := h.2.1.2.2; go_simp) rfl ?_
        refine mix_pur2 rfl (fun K hK => ?_)
        go_simp
        first | refine ⟨_, fun _ => rfl, hK _ ?_⟩ | refine hK _ ?_
        clear hK K
        refine mix_pur2 rfl (fun K hK => ?_)
        go_simp
        first | refine ⟨_, fun _ => rfl, hK _ ?_⟩ | refine hK _ ?_
        clear hK K
        refine mix_pur2 rfl (fun K hK => ?_)
        go_simp
        first | refine ⟨_, fun _ => rfl, hK _ ?_⟩ | refine hK _ ?_
        clear hK K
        refine mix_load2 rfl rfl rfl (.agg #[.int .i64 e.kind, .int .i64 e.point, .int .i64 e.other, .int .i64 e.off, .int .i64 e.err]) (fun w' h => by have h : (FolS b9 b i y (.slice ao y.claims.length co) (.slice ay y.claims.length cy) q1 ia q2 ib q3 e) w' := h; have e0 := h.2.2.2.2.1; have e1 := h.2.2.2.2.2.1; have e2 := h.2.2.2.2.2.2.1; have e3 := h.2.2.2.2.2.2.2.1; have e4 := h.2.2.2.2.2.2.2.2; go_simp) rfl ?_
        refine mix_eff2 rfl false rfl (fun K hK => ?_)
        go_simp
        refine (rfollows_c (hC4.call (bnx hBu4 z0)) e).mono ?_
        rintro e' y1 ⟨rfl, hy1⟩
        rw [← HS.out]
        have z1 := z0.trans (hy1.mono z0.size)
        refine hK _ _ (hF _ z1) ?_
        clear hK K
        refine mix_pur2 rfl (fun K hK => ?_)
        go_simp
        first | refine ⟨_, fun _ => rfl, hK _ ?_⟩ | refine hK _ ?_
        clear hK K
        refine mix_pur2 rfl (fun K hK => ?_)
        go_simp
        first | refine ⟨_, fun _ => rfl, hK _ ?_⟩ | refine hK _ ?_
        clear hK K
        refine mix_pur2 rfl (fun K hK => ?_)
        go_simp
        first | refine ⟨_, fun _ => rfl, hK _ ?_⟩ | refine hK _ ?_
        clear hK K
        refine mix_pur2 rfl (fun K hK => ?_)
        go_simp
        first | refine ⟨_, fun _ => rfl, hK _ ?_⟩ | refine hK _ ?_
        clear hK K
        refine mix_pur2 rfl (fun K hK => ?_)
        go_simp
        first | refine ⟨_, fun _ => rfl, hK _ ?_⟩ | refine hK _ ?_
        clear hK K
        refine mix_done2 ?_
        go_upto_region 15 with fail
        have hU : Below u4.heap.size u4 y1 := z1
        clear z0 z1 hqd
        obtain ⟨u5, hu⟩ : ∃ u, u = y1 := ⟨_, rfl⟩
        rw [← hu] at hU ⊢
        clear hu
        have hD5 := hD4.call hU
        have hO5 := hO4.call hU
        have hBu5 := bnx hBu4 hU
        have hP19 := hP19.call hU
        have hP21 := hP21.call hU
        clear hD4 hO4 hU hF
        have hF : ∀ w', Below u5.heap.size u5 w' → (FolS b9 b i y (.slice ao y.claims.length co) (.slice ay y.claims.length cy) q1 ia q2 ib q3 e) w' := fun w' hb => ⟨hD5.call hb, HEQ.out w' (bnx hBu5 hb)⟩
        go_cut [27, 28] from 87 to 200 (fun s27 s28 wx => ∃ (a27 : Nat) (o27 : Option Addr) (m27 : Nat), s27 = .pointer (some ⟨a27, 0, none⟩) ∧ s28 = .int .i64 T.2 ∧ Blk a27 #[.int .i64 T.1.points, .int .i64 T.1.bend, .slice o27 T.1.claims.length m27] 24 wx ∧ ClsM (fun _ => True) wx (.slice o27 T.1.claims.length m27) T.1.claims ∧ Below u5.heap.size u5 wx)
        case first => as_aux_lemma =>
          refine wp_region_mix2 (.one 0 (.pur 1 (.pur 2 (.pur 3 (.one 4 (.two 5 (.pur 6 (.pur 7 (.pur 8 (.act 9 (.act 10 (.pur 11 .fin)))))) 9 (.act 5 (.pur 6 (.pur 7 (.pur 8 (.act 10 (.pur 11 .fin)))))))))))) 10 (FolS b9 b i y (.slice ao y.claims.length co) (.slice ay y.claims.length cy) q1 ia q2 ib q3 e) (fun _ => True) (by kernel_rfl) (by kernel_rfl) rfl (by kernel_rfl) (hF _ (((Qt.refl _).drewN 1).below _)) (fun wd hqd _ => ?_)
          have z0 : Below u5.heap.size u5 wd := hqd.below _
          refine mix_load2 rfl rfl rfl (.agg #[.int .i64 y.points, .int .i64 y.bend, .slice ao y.claims.length co]) (fun w' h => by have h : (FolS b9 b i y (.slice ao y.claims.length co) (.slice ay y.claims.length cy) q1 ia q2 ib q3 e) w' := h; have e0 := h.1.cell 0; have e1 := h.1.cell 1; have e2 := h.1.cell 2; go_simp) rfl ?_
          refine mix_pur2 rfl (fun K hK => ?_)
          go_simp
          first | refine ⟨_, fun _ => rfl, hK _ ?_⟩ | refine hK _ ?_
          clear hK K
          refine mix_pur2 rfl (fun K hK => ?_)
          go_simp
          first | refine ⟨_, fun _ => rfl, hK _ ?_⟩ | refine hK _ ?_
          clear hK K
          refine mix_pur2 rfl (fun K hK => ?_)
          go_simp
          first | refine ⟨_, fun _ => rfl, hK _ ?_⟩ | refine hK _ ?_
          clear hK K
          refine mix_load2 rfl rfl rfl (.agg #[.int .i64 e.kind, .int .i64 e.point, .int .i64 e.other, .int .i64 e.off, .int .i64 e.err]) (fun w' h => by have h : (FolS b9 b i y (.slice ao y.claims.length co) (.slice ay y.claims.length cy) q1 ia q2 ib q3 e) w' := h; have e0 := h.2.2.2.2.1; have e1 := h.2.2.2.2.2.1; have e2 := h.2.2.2.2.2.2.1; have e3 := h.2.2.2.2.2.2.2.1; have e4 := h.2.2.2.2.2.2.2.2; go_simp) rfl ?_
          refine mix_two2 rfl rfl false false rfl rfl (fun K hK => ?_) (fun K hK => ?_)
          · go_simp
            refine (add_c (hO5.call z0) e).mono ?_
            rintro e' wa1 ⟨v9, rfl, hV9, hB9⟩
            rw [← HT.out] at hV9 ⊢
            obtain ⟨a9, c9, rfl, _, _⟩ := hV9.shape
            have z1 := z0.trans (hB9.mono z0.size)
            refine hK _ _ (hF _ z1) ?_
            clear hK K hB9
            refine mix_pur2 rfl (fun K hK => ?_)
            go_simp
            first | refine ⟨_, fun _ => rfl, hK _ ?_⟩ | refine hK _ ?_
            clear hK K
            refine mix_pur2 rfl (fun K hK => ?_)
            go_simp
            first | refine ⟨_, fun _ => rfl, hK _ ?_⟩ | refine hK _ ?_
            clear hK K
            refine mix_pur2 rfl (fun K hK => ?_)
            go_simp
            first | refine ⟨_, fun _ => rfl, hK _ ?_⟩ | refine hK _ ?_
            clear hK K
            refine mix_eff2 rfl false rfl (fun K hK => ?_)
            go_simp
            have hV9 := hV9.wide (A' := fun q => q ≠ wa1.heap.size) fun q _ hl => by omega
            have hV9 := hV9.call ((Below.refl wa1.heap.size wa1).alloc (Nat.le_refl _) (.cells #[.int .i64 0, .int .i64 0, .slice none 0 0] 24))
            have z2 := bal2 (o := .cells #[.int .i64 0, .int .i64 0, .slice none 0 0] 24) z1
            have hA := Blk.new wa1 #[.int .i64 0, .int .i64 0, .slice none 0 0] 24
            have hAn : u5.heap.size ≤ wa1.heap.size := z1.size
            refine hK _ _ (hF _ z2) ?_
            clear hK K
            obtain ⟨ba, hba⟩ : ∃ b, b = wa1.heap.size := ⟨_, rfl⟩
            rw [← hba] at hA hAn hV9 ⊢
            generalize wa1.alloc (.cells #[.int .i64 0, .int .i64 0, .slice none 0 0] 24) = wa2 at hA z2 hV9 ⊢
            clear hba
            refine mix_eff2 rfl true rfl (fun K hK => ?_)
            have q0 := hA.cell 0
            have q1 := hA.cell 1
            have q2 := hA.cell 2
            have fq0 := hA.free 0
            have fq1 := hA.free 1
            have fq2 := hA.free 2
            go_simp
            refine hK _ _ trivial ?_
            clear hK K
            refine mix_pur2 rfl (fun K hK => ?_)
            go_simp
            first | refine ⟨_, fun _ => rfl, hK _ ?_⟩ | refine hK _ ?_
            clear hK K
            refine mix_done2 ?_
            go_wp2_with fail
            go_meet
            case rel => exact ⟨ba, a9, c9, rfl, rfl, ((hA.set 0 _).set 1 _).set 2 _, ((Elems.step (Elems.step (Elems.step hV9 (by simp [World.setCell]) fun q hq _ => Below.heap_setCell _ _ _ _ hq) (by simp [World.setCell]) fun q hq _ => Below.heap_setCell _ _ _ _ hq) (by simp [World.setCell]) fun q hq _ => Below.heap_setCell _ _ _ _ hq)).wide fun _ _ _ => trivial, (Below.setCell (Below.setCell (Below.setCell z2 (p := ⟨ba, 0, none⟩) hAn _) (p := ⟨ba, 1, none⟩) hAn _) (p := ⟨ba, 2, none⟩) hAn _)⟩
          · go_simp
            have z1 := bal2 (o := .cells #[.int .i64 0, .int .i64 0, .slice none 0 0] 24) z0
            have hA := Blk.new wd #[.int .i64 0, .int .i64 0, .slice none 0 0] 24
            have hAn : u5.heap.size ≤ wd.heap.size := z0.size
            refine hK _ _ (hF _ z1) ?_
            clear hK K
            obtain ⟨ba, hba⟩ : ∃ b, b = wd.heap.size := ⟨_, rfl⟩
            rw [← hba] at hA hAn ⊢
            generalize wd.alloc (.cells #[.int .i64 0, .int .i64 0, .slice none 0 0] 24) = wa1 at hA z1 ⊢
            clear hba
            refine mix_eff2 rfl false rfl (fun K hK => ?_)
            go_simp
            refine (add_c (hO5.call z1) e).mono ?_
            rintro e' wa2 ⟨v9, rfl, hV9, hB9⟩
            rw [← HT.out] at hV9 ⊢
            obtain ⟨a9, c9, rfl, _, _⟩ := hV9.shape
            have hV9 := hV9.wide (A' := fun q => q ≠ ba) fun q hq _ => by have := hA.lt; omega
            have hA := hA.call hB9
            have z2 := z1.trans (hB9.mono z1.size)
            refine hK _ _ (hF _ z2) ?_
            clear hK K hB9
            refine mix_pur2 rfl (fun K hK => ?_)
            go_simp
            first | refine ⟨_, fun _ => rfl, hK _ ?_⟩ | refine hK _ ?_
            clear hK K
            refine mix_pur2 rfl (fun K hK => ?_)
            go_simp
            first | refine ⟨_, fun _ => rfl, hK _ ?_⟩ | refine hK _ ?_
            clear hK K
            refine mix_pur2 rfl (fun K hK => ?_)
            go_simp
            first | refine ⟨_, fun _ => rfl, hK _ ?_⟩ | refine hK _ ?_
            clear hK K
            refine mix_eff2 rfl true rfl (fun K hK => ?_)
            have q0 := hA.cell 0
            have q1 := hA.cell 1
            have q2 := hA.cell 2
            have fq0 := hA.free 0
            have fq1 := hA.free 1
            have fq2 := hA.free 2
            go_simp
            refine hK _ _ trivial ?_
            clear hK K
            refine mix_pur2 rfl (fun K hK => ?_)
            go_simp
            first | refine ⟨_, fun _ => rfl, hK _ ?_⟩ | refine hK _ ?_
            clear hK K
            refine mix_done2 ?_
            go_wp2_with fail
            go_meet
            case rel => exact ⟨ba, a9, c9, rfl, rfl, ((hA.set 0 _).set 1 _).set 2 _, ((Elems.step (Elems.step (Elems.step hV9 (by simp [World.setCell]) fun q hq _ => Below.heap_setCell _ _ _ _ hq) (by simp [World.setCell]) fun q hq _ => Below.heap_setCell _ _ _ _ hq) (by simp [World.setCell]) fun q hq _ => Below.heap_setCell _ _ _ _ hq)).wide fun _ _ _ => trivial, (Below.setCell (Below.setCell (Below.setCell z2 (p := ⟨ba, 0, none⟩) hAn _) (p := ⟨ba, 1, none⟩) hAn _) (p := ⟨ba, 2, none⟩) hAn _)⟩
        case rest =>
        obtain ⟨a27, o27, m27, rfl, rfl, hP27, hV27, hU⟩ := hcut
        rename World => u6
        go_upto_region 16 with fail
        have hD6 := hD5.call hU
        have hO6 := hO5.call hU
        have hBu6 := bnx hBu5 hU
        have hP19 := hP19.call hU
        have hP21 := hP21.call hU
        clear hD5 hO5 hU hF
        have hF : ∀ w', Below u6.heap.size u6 w' → (FolS b9 b i y (.slice ao y.claims.length co) (.slice ay y.claims.length cy) q1 ia q2 ib q3 e) w' := fun w' hb => ⟨hD6.call hb, HEQ.out w' (bnx hBu6 hb)⟩
        go_cut [29, 30] from 87 to 200 (fun s29 s30 wx => ∃ (a29 : Nat) (o29 : Option Addr) (m29 : Nat), s29 = .pointer (some ⟨a29, 0, none⟩) ∧ s30 = .int .i64 T.2 ∧ Blk a29 #[.int .i64 T.1.points, .int .i64 T.1.bend, .slice o29 T.1.claims.length m29] 24 wx ∧ ClsM (fun _ => True) wx (.slice o29 T.1.claims.length m29) T.1.claims ∧ Below u6.heap.size u6 wx)
        case first => as_aux_lemma =>
          refine wp_region_mix2 (.pur 0 (.pur 1 (.pur 2 (.one 3 (.pur 4 (.pur 5 (.pur 6 (.one 7 (.two 8 (.pur 9 (.pur 10 (.pur 11 (.act 12 (.act 13 (.pur 14 .fin)))))) 12 (.act 8 (.pur 9 (.pur 10 (.pur 11 (.act 13 (.pur 14 .fin))))))))))))))) 13 (FolS b9 b i y (.slice ao y.claims.length co) (.slice ay y.claims.length cy) q1 ia q2 ib q3 e) (fun _ => True) (by kernel_rfl) (by kernel_rfl) rfl (by kernel_rfl) (hF _ (((Qt.refl _).drewN 1).below _)) (fun wd hqd _ => ?_)
          have z0 : Below u6.heap.size u6 wd := hqd.below _
          refine mix_pur2 rfl (fun K hK => ?_)
          go_simp
          first | refine ⟨_, fun _ => rfl, hK _ ?_⟩ | refine hK _ ?_
          clear hK K
          refine mix_pur2 rfl (fun K hK => ?_)
          go_simp
          first | refine ⟨_, fun _ => rfl, hK _ ?_⟩ | refine hK _ ?_
          clear hK K
          refine mix_pur2 rfl (fun K hK => ?_)
          go_simp
          first | refine ⟨_, fun _ => rfl, hK _ ?_⟩ | refine hK _ ?_
          clear hK K
          refine mix_load2 rfl rfl rfl (.agg #[.int .i64 y.points, .int .i64 y.bend, .slice ay y.claims.length cy]) (fun w' h => by have h : (FolS b9 b i y (.slice ao y.claims.length co) (.slice ay y.claims.length cy) q1 ia q2 ib q3 e) w' := h; have e0 := h.2.1.1; have e1 := h.2.1.2.1; have e2 := h.2.1.2.2; go_simp) rfl ?_
          refine mix_pur2 rfl (fun K hK => ?_)
          go_simp
          first | refine ⟨_, fun _ => rfl, hK _ ?_⟩ | refine hK _ ?_
          clear hK K
          refine mix_pur2 rfl (fun K hK => ?_)
          go_simp
          first | refine ⟨_, fun _ => rfl, hK _ ?_⟩ | refine hK _ ?_
          clear hK K
          refine mix_pur2 rfl (fun K hK => ?_)
          go_simp
          first | refine ⟨_, fun _ => rfl, hK _ ?_⟩ | refine hK _ ?_
          clear hK K
          refine mix_load2 rfl rfl rfl (.agg #[.int .i64 e.kind, .int .i64 e.point, .int .i64 e.other, .int .i64 e.off, .int .i64 e.err]) (fun w' h => by have h : (FolS b9 b i y (.slice ao y.claims.length co) (.slice ay y.claims.length cy) q1 ia q2 ib q3 e) w' := h; have e0 := h.2.2.2.2.1; have e1 := h.2.2.2.2.2.1; have e2 := h.2.2.2.2.2.2.1; have e3 := h.2.2.2.2.2.2.2.1; have e4 := h.2.2.2.2.2.2.2.2; go_simp) rfl ?_
          refine mix_two2 rfl rfl false false rfl rfl (fun K hK => ?_) (fun K hK => ?_)
          · go_simp
            refine (radd_c (hC4.call (bnx hBu6 z0)) e).mono ?_
            rintro e' wa1 ⟨v9, rfl, hV9, hB9⟩
            rw [← HT.out] at hV9 ⊢
            obtain ⟨a9, c9, rfl, _, _⟩ := hV9.shape
            have z1 := z0.trans (hB9.mono z0.size)
            refine hK _ _ (hF _ z1) ?_
            clear hK K hB9
            refine mix_pur2 rfl (fun K hK => ?_)
            go_simp
            first | refine ⟨_, fun _ => rfl, hK _ ?_⟩ | refine hK _ ?_
            clear hK K
            refine mix_pur2 rfl (fun K hK => ?_)
            go_simp
            first | refine ⟨_, fun _ => rfl, hK _ ?_⟩ | refine hK _ ?_
            clear hK K
            refine mix_pur2 rfl (fun K hK => ?_)
            go_simp
            first | refine ⟨_, fun _ => rfl, hK _ ?_⟩ | refine hK _ ?_
            clear hK K
            refine mix_eff2 rfl false rfl (fun K hK => ?_)
            go_simp
            have hV9 := hV9.wide (A' := fun q => q ≠ wa1.heap.size) fun q _ hl => by omega
            have hV9 := hV9.call ((Below.refl wa1.heap.size wa1).alloc (Nat.le_refl _) (.cells #[.int .i64 0, .int .i64 0, .slice none 0 0] 24))
            have z2 := bal2 (o := .cells #[.int .i64 0, .int .i64 0, .slice none 0 0] 24) z1
            have hA := Blk.new wa1 #[.int .i64 0, .int .i64 0, .slice none 0 0] 24
            have hAn : u6.heap.size ≤ wa1.heap.size := z1.size
            refine hK _ _ (hF _ z2) ?_
            clear hK K
            obtain ⟨ba, hba⟩ : ∃ b, b = wa1.heap.size := ⟨_, rfl⟩
            rw [← hba] at hA hAn hV9 ⊢
            generalize wa1.alloc (.cells #[.int .i64 0, .int .i64 0, .slice none 0 0] 24) = wa2 at hA z2 hV9 ⊢
            clear hba
            refine mix_eff2 rfl true rfl (fun K hK => ?_)
            have q0 := hA.cell 0
            have q1 := hA.cell 1
            have q2 := hA.cell 2
            have fq0 := hA.free 0
            have fq1 := hA.free 1
            have fq2 := hA.free 2
            go_simp
            refine hK _ _ trivial ?_
            clear hK K
            refine mix_pur2 rfl (fun K hK => ?_)
            go_simp
            first | refine ⟨_, fun _ => rfl, hK _ ?_⟩ | refine hK _ ?_
            clear hK K
            refine mix_done2 ?_
            go_wp2_with fail
            go_meet
            case rel => exact ⟨ba, a9, c9, rfl, rfl, ((hA.set 0 _).set 1 _).set 2 _, ((Elems.step (Elems.step (Elems.step hV9 (by simp [World.setCell]) fun q hq _ => Below.heap_setCell _ _ _ _ hq) (by simp [World.setCell]) fun q hq _ => Below.heap_setCell _ _ _ _ hq) (by simp [World.setCell]) fun q hq _ => Below.heap_setCell _ _ _ _ hq)).wide fun _ _ _ => trivial, (Below.setCell (Below.setCell (Below.setCell z2 (p := ⟨ba, 0, none⟩) hAn _) (p := ⟨ba, 1, none⟩) hAn _) (p := ⟨ba, 2, none⟩) hAn _)⟩
          · go_simp
            have z1 := bal2 (o := .cells #[.int .i64 0, .int .i64 0, .slice none 0 0] 24) z0
            have hA := Blk.new wd #[.int .i64 0, .int .i64 0, .slice none 0 0] 24
            have hAn : u6.heap.size ≤ wd.heap.size := z0.size
            refine hK _ _ (hF _ z1) ?_
            clear hK K
            obtain ⟨ba, hba⟩ : ∃ b, b = wd.heap.size := ⟨_, rfl⟩
            rw [← hba] at hA hAn ⊢
            generalize wd.alloc (.cells #[.int .i64 0, .int .i64 0, .slice none 0 0] 24) = wa1 at hA z1 ⊢
            clear hba
            refine mix_eff2 rfl false rfl (fun K hK => ?_)
            go_simp
            refine (radd_c (hC4.call (bnx hBu6 z1)) e).mono ?_
            rintro e' wa2 ⟨v9, rfl, hV9, hB9⟩
            rw [← HT.out] at hV9 ⊢
            obtain ⟨a9, c9, rfl, _, _⟩ := hV9.shape
            have hV9 := hV9.wide (A' := fun q => q ≠ ba) fun q hq _ => by have := hA.lt; omega
            have hA := hA.call hB9
            have z2 := z1.trans (hB9.mono z1.size)
            refine hK _ _ (hF _ z2) ?_
            clear hK K hB9
            refine mix_pur2 rfl (fun K hK => ?_)
            go_simp
            first | refine ⟨_, fun _ => rfl, hK _ ?_⟩ | refine hK _ ?_
            clear hK K
            refine mix_pur2 rfl (fun K hK => ?_)
            go_simp
            first | refine ⟨_, fun _ => rfl, hK _ ?_⟩ | refine hK _ ?_
            clear hK K
            refine mix_pur2 rfl (fun K hK => ?_)
            go_simp
            first | refine ⟨_, fun _ => rfl, hK _ ?_⟩ | refine hK _ ?_
            clear hK K
            refine mix_eff2 rfl true rfl (fun K hK => ?_)
            have q0 := hA.cell 0
            have q1 := hA.cell 1
            have q2 := hA.cell 2
            have fq0 := hA.free 0
            have fq1 := hA.free 1
            have fq2 := hA.free 2
            go_simp
            refine hK _ _ trivial ?_
            clear hK K
            refine mix_pur2 rfl (fun K hK => ?_)
            go_simp
            first | refine ⟨_, fun _ => rfl, hK _ ?_⟩ | refine hK _ ?_
            clear hK K
            refine mix_done2 ?_
            go_wp2_with fail
            go_meet
            case rel => exact ⟨ba, a9, c9, rfl, rfl, ((hA.set 0 _).set 1 _).set 2 _, ((Elems.step (Elems.step (Elems.step hV9 (by simp [World.setCell]) fun q hq _ => Below.heap_setCell _ _ _ _ hq) (by simp [World.setCell]) fun q hq _ => Below.heap_setCell _ _ _ _ hq) (by simp [World.setCell]) fun q hq _ => Below.heap_setCell _ _ _ _ hq)).wide fun _ _ _ => trivial, (Below.setCell (Below.setCell (Below.setCell z2 (p := ⟨ba, 0, none⟩) hAn _) (p := ⟨ba, 1, none⟩) hAn _) (p := ⟨ba, 2, none⟩) hAn _)⟩
        case rest =>
        obtain ⟨a29, o29, m29, rfl, rfl, hP29, hV29, hU⟩ := hcut
        rename World => u7
        go_upto_region 17 with fail
        have hD7 := hD6.call hU
        have hO7 := hO6.call hU
        have hBu7 := bnx hBu6 hU
        have hP19 := hP19.call hU
        have hP21 := hP21.call hU
        have hP27 := hP27.call hU
        have hV27 := hV27.call hU
        clear hD6 hO6 hU hF
        have hG : ∀ w', Below u7.heap.size u7 w' → (FoT a19 a21 R a27 a29 T.1 (.slice o27 T.1.claims.length m27) (.slice o29 T.1.claims.length m29) b9 b i y (.slice ao y.claims.length co) (.slice ay y.claims.length cy) q1 ia q2 ib q3 e) w' := fun w' hb => ⟨hP19.call hb, hP21.call hb, hP27.call hb, hP29.call hb, hD7.call hb, HEQ.out w' (bnx hBu7 hb)⟩
        refine wp_region_mix2 (.one 0 (.one 1 (.pur 2 (.pur 3 (.pur 4 (.pur 5 (.pur 6 (.pur 7 (.pur 8 (.pur 9 (.pur 10 (.pur 11 (.pur 12 (.pur 13 (.pur 14 (.pur 15 (.pur 16 (.pur 17 (.pur 18 (.pur 19 (.pur 20 (.pur 21 (.pur 22 (.pur 23 (.one 24 (.one 25 (.act 26 (.pur 27 (.pur 28 (.pur 29 (.one 30 (.pur 31 (.pur 32 (.pur 33 (.one 34 (.act 35 (.pur 36 (.pur 37 .fin)))))))))))))))))))))))))))))))))))))) 99 (FoT a19 a21 R a27 a29 T.1 (.slice o27 T.1.claims.length m27) (.slice o29 T.1.claims.length m29) b9 b i y (.slice ao y.claims.length co) (.slice ay y.claims.length cy) q1 ia q2 ib q3 e) (fun _ => True) (by kernel_rfl) (by kernel_rfl) rfl (by kernel_rfl) (hG _ (((Qt.refl _).drewN 1).below _)) (fun wd hqd _ => ?_)
        have z0 : Below u7.heap.size u7 wd := hqd.below _
        refine mix_load2 rfl rfl rfl (.agg #[.int .i64 R.1.1, .int .i64 R.1.2]) (fun w' h => by have h : (FoT a19 a21 R a27 a29 T.1 (.slice o27 T.1.claims.length m27) (.slice o29 T.1.claims.length m29) b9 b i y (.slice ao y.claims.length co) (.slice ay y.claims.length cy) q1 ia q2 ib q3 e) w' := h; have e0 := h.1.cell 0; have e1 := h.1.cell 1; go_simp) rfl ?_
        refine mix_load2 rfl rfl rfl (.agg #[.int .i64 R.1.1, .int .i64 R.1.2]) (fun w' h => by have h : (FoT a19 a21 R a27 a29 T.1 (.slice o27 T.1.claims.length m27) (.slice o29 T.1.claims.length m29) b9 b i y (.slice ao y.claims.length co) (.slice ay y.claims.length cy) q1 ia q2 ib q3 e) w' := h; have e0 := h.2.1.cell 0; have e1 := h.2.1.cell 1; go_simp) rfl ?_
        refine mix_pur2 rfl (fun K hK => ?_)
        go_simp
        first | refine ⟨_, fun _ => rfl, hK _ ?_⟩ | refine hK _ ?_
        clear hK K
        refine mix_pur2 rfl (fun K hK => ?_)
        go_simp
        first | refine ⟨_, fun _ => rfl, hK _ ?_⟩ | refine hK _ ?_
        clear hK K
        refine mix_pur2 rfl (fun K hK => ?_)
        go_simp
        first | refine ⟨_, fun _ => rfl, hK _ ?_⟩ | refine hK _ ?_
        clear hK K
        refine mix_pur2 rfl (fun K hK => ?_)
        go_simp
        first | refine ⟨_, fun _ => rfl, hK _ ?_⟩ | refine hK _ ?_
        clear hK K
        refine mix_pur2 rfl (fun K hK => ?_)
        go_simp
        first | refine ⟨_, fun _ => rfl, hK _ ?_⟩ | refine hK _ ?_
        clear hK K
        refine mix_pur2 rfl (fun K hK => ?_)
        go_simp
        first | refine ⟨_, fun _ => rfl, hK _ ?_⟩ | refine hK _ ?_
        clear hK K
        refine mix_pur2 rfl (fun K hK => ?_)
        go_simp
        first | refine ⟨_, fun _ => rfl, hK _ ?_⟩ | refine hK _ ?_
        clear hK K
        refine mix_pur2 rfl (fun K hK => ?_)
        go_simp
        first | refine ⟨_, fun _ => rfl, hK _ ?_⟩ | refine hK _ ?_
        clear hK K
        refine mix_pur2 rfl (fun K hK => ?_)
        go_simp
        first | refine ⟨_, fun _ => rfl, hK _ ?_⟩ | refine hK _ ?_
        clear hK K
        refine mix_pur2 rfl (fun K hK => ?_)
        go_simp
        first | refine ⟨_, fun _ => rfl, hK _ ?_⟩ | refine hK _ ?_
        clear hK K
        refine mix_pur2 rfl (fun K hK => ?_)
        go_simp
        first | refine ⟨_, fun _ => rfl, hK _ ?_⟩ | refine hK _ ?_
        clear hK K
        refine mix_pur2 rfl (fun K hK => ?_)
        go_simp
        first | refine ⟨_, fun _ => rfl, hK _ ?_⟩ | refine hK _ ?_
        clear hK K
        refine mix_pur2 rfl (fun K hK => ?_)
        go_simp
        first | refine ⟨_, fun _ => rfl, hK _ ?_⟩ | refine hK _ ?_
        clear hK K
        refine mix_pur2 rfl (fun K hK => ?_)
        go_simp
        first | refine ⟨_, fun _ => rfl, hK _ ?_⟩ | refine hK _ ?_
        clear hK K
        refine mix_pur2 rfl (fun K hK => ?_)
        go_simp
        first | refine ⟨_, fun _ => rfl, hK _ ?_⟩ | refine hK _ ?_
        clear hK K
        refine mix_pur2 rfl (fun K hK => ?_)
        go_simp
        first | refine ⟨_, fun _ => rfl, hK _ ?_⟩ | refine hK _ ?_
        clear hK K
        refine mix_pur2 rfl (fun K hK => ?_)
        go_simp
        first | refine ⟨_, fun _ => rfl, hK _ ?_⟩ | refine hK _ ?_
        clear hK K
        refine mix_pur2 rfl (fun K hK => ?_)
        go_simp
        first | refine ⟨_, fun _ => rfl, hK _ ?_⟩ | refine hK _ ?_
        clear hK K
        refine mix_pur2 rfl (fun K hK => ?_)
        go_simp
        first | refine ⟨_, fun _ => rfl, hK _ ?_⟩ | refine hK _ ?_
        clear hK K
        refine mix_pur2 rfl (fun K hK => ?_)
        go_simp
        first | refine ⟨_, fun _ => rfl, hK _ ?_⟩ | refine hK _ ?_
        clear hK K
        refine mix_pur2 rfl (fun K hK => ?_)
        go_simp
        first | refine ⟨_, fun _ => rfl, hK _ ?_⟩ | refine hK _ ?_
        clear hK K
        refine mix_pur2 rfl (fun K hK => ?_)
        go_simp
        first | refine ⟨_, fun _ => rfl, hK _ ?_⟩ | refine hK _ ?_
        clear hK K
        refine mix_loadg2 rfl rfl (.agg #[.int .i64 T.1.points, .int .i64 T.1.bend, .slice o27 T.1.claims.length m27]) (by go_simp) (fun w' h => by have h : (FoT a19 a21 R a27 a29 T.1 (.slice o27 T.1.claims.length m27) (.slice o29 T.1.claims.length m29) b9 b i y (.slice ao y.claims.length co) (.slice ay y.claims.length cy) q1 ia q2 ib q3 e) w' := h; have e0 := h.2.2.1.cell 0; have e1 := h.2.2.1.cell 1; have e2 := h.2.2.1.cell 2; go_simp) rfl ?_
        refine mix_loadg2 rfl rfl (.agg #[.int .i64 T.1.points, .int .i64 T.1.bend, .slice o29 T.1.claims.length m29]) (by go_simp) (fun w' h => by have h : (FoT a19 a21 R a27 a29 T.1 (.slice o27 T.1.claims.length m27) (.slice o29 T.1.claims.length m29) b9 b i y (.slice ao y.claims.length co) (.slice ay y.claims.length cy) q1 ia q2 ib q3 e) w' := h; have e0 := h.2.2.2.1.cell 0; have e1 := h.2.2.2.1.cell 1; have e2 := h.2.2.2.1.cell 2; go_simp) rfl ?_
        refine mix_eff2 rfl false rfl (fun K hK => ?_)
        go_simp
        refine (sameEdges_c (x := T.1) (hV27.call z0) (hV29.call z0)).mono ?_
        rintro e' y1 ⟨rfl, hy1⟩
        have z1 := z0.trans (hy1.mono z0.size)
        refine hK _ _ (hG _ z1) ?_
        clear hK K
        refine mix_pur2 rfl (fun K hK => ?_)
        go_simp
        first | refine ⟨_, fun _ => rfl, hK _ ?_⟩ | refine hK _ ?_
        clear hK K
        refine mix_pur2 rfl (fun K hK => ?_)
        go_simp
        first | refine ⟨_, fun _ => rfl, hK _ ?_⟩ | refine hK _ ?_
        clear hK K
        refine mix_pur2 rfl (fun K hK => ?_)
        go_simp
        first | refine ⟨_, fun _ => rfl, hK _ ?_⟩ | refine hK _ ?_
        clear hK K
        refine mix_loadg2 rfl rfl (.agg #[.int .i64 y.points, .int .i64 y.bend, .slice ao y.claims.length co]) (by go_simp) (fun w' h => by have h : (FoT a19 a21 R a27 a29 T.1 (.slice o27 T.1.claims.length m27) (.slice o29 T.1.claims.length m29) b9 b i y (.slice ao y.claims.length co) (.slice ay y.claims.length cy) q1 ia q2 ib q3 e) w' := h; have e0 := h.2.2.2.2.1.cell 0; have e1 := h.2.2.2.2.1.cell 1; have e2 := h.2.2.2.2.1.cell 2; go_simp) rfl ?_
        refine mix_pur2 rfl (fun K hK => ?_)
        go_simp
        first | refine ⟨_, fun _ => rfl, hK _ ?_⟩ | refine hK _ ?_
        clear hK K
        refine mix_pur2 rfl (fun K hK => ?_)
        go_simp
        first | refine ⟨_, fun _ => rfl, hK _ ?_⟩ | refine hK _ ?_
        clear hK K
        refine mix_pur2 rfl (fun K hK => ?_)
        go_simp
        first | refine ⟨_, fun _ => rfl, hK _ ?_⟩ | refine hK _ ?_
        clear hK K
        refine mix_loadg2 rfl rfl (.agg #[.int .i64 y.points, .int .i64 y.bend, .slice ay y.claims.length cy]) (by go_simp) (fun w' h => by have h : (FoT a19 a21 R a27 a29 T.1 (.slice o27 T.1.claims.length m27) (.slice o29 T.1.claims.length m29) b9 b i y (.slice ao y.claims.length co) (.slice ay y.claims.length cy) q1 ia q2 ib q3 e) w' := h; have e0 := h.2.2.2.2.2.1.1; have e1 := h.2.2.2.2.2.1.2.1; have e2 := h.2.2.2.2.2.1.2.2; go_simp) rfl ?_
        refine mix_eff2 rfl false rfl (fun K hK => ?_)
        go_simp
        refine (sameEdges_c (hO7.call z1) (hC4.call (bnx hBu7 z1))).mono ?_
        rintro e' y2 ⟨rfl, hy2⟩
        have z2 := z1.trans (hy2.mono z1.size)
        refine hK _ _ (hG _ z2) ?_
        clear hK K
        refine mix_pur2 rfl (fun K hK => ?_)
        go_simp
        first | refine ⟨_, fun _ => rfl, hK _ ?_⟩ | refine hK _ ?_
        clear hK K
        refine mix_pur2 rfl (fun K hK => ?_)
        go_simp
        first | refine ⟨_, fun _ => rfl, hK _ ?_⟩ | refine hK _ ?_
        clear hK K
        refine mix_done2 ?_
        go_wp2_with fail
        go_roundw
        case rel => exact ⟨i + 1, by omega, by go_num, hBu7.trans (z2.mono hBu7.size)⟩
        case measure => simp [intOf]; omega
      · obtain rfl : i = 3 := by omega
        go_wp2_with fail
        refine (surveyed_c _).mono ?_
        rintro e u1 ⟨rfl, hU1⟩
        go_wp2_with fail
        go_ret
        exact ⟨rfl, bnx (bnx hB6 hBr) hU1⟩

end Go.Proofs.Ytgdifckmjdjcpaa
