/- Reading an edge and furrows (edge.Read); conditions: the library's variables hold what they are laid with. -/
import Derived.Test.YtbpfhoihfoojfaaGreatDoorPr2
namespace Go.Proofs.YtbpfhoihfoojfaaGreatDoor
open Go.RowKit

theorem as_odd (e : Int) (bt : Nat) (v : Value) (w : World) (hG : GV w) (hX : Blk bt #[v] 93 w) :
    Calls Tryz.prog 38 #[.iface 93 (.int .i64 e), .iface 95 (.pointer (some ⟨bt, 0, none⟩))] w fun ev w' => ev = .returned (.bool true) ∧ Blk bt #[.int .i64 e] 93 w' ∧ (∀ B, B ≤ bt → Below B w w') := by
  refine (as_hit e ⟨bt, 0, none⟩ v w hG.e (hX.cell 0) (hX.free 0)).mono ?_
  rintro ev w' ⟨rfl, rfl⟩
  have hlt := hX.lt
  refine ⟨rfl, ((((hX.alloc _).alloc _).alloc _).alloc _).set 0 (.int .i64 e), fun B hB => ?_⟩
  refine Below.setCell (p := ⟨bt, 0, none⟩) ?_ hB _
  have h0 : B ≤ w.heap.size := by omega
  exact ((((Below.refl B w).alloc h0 _).alloc (by simp; omega) _).alloc (by simp; omega) _).alloc (by simp; omega) _
theorem arr_nil (A : Nat → Prop) (w : World) : Arr A w (.slice none 0 0) 0 [] := ⟨none, 0, rfl, Nat.le_refl _, ⟨by unfold maxLen; omega, fun _ => rfl⟩, .inl rfl⟩
theorem cls_nil (A : Nat → Prop) (w : World) : ClsM A w (.slice none 0 0) [] := arr_nil A w
theorem fus_nil (A : Nat → Prop) (w : World) : FusM A w (.slice none 0 0) [] := arr_nil A w
/-- What Read hands back. -/
def RdPost (r : RdO) (w : World) (e : Ending) (w' : World) : Prop :=
  ∃ vx vl, e = .returned (.tuple #[.agg #[.int .i64 r.x.points, .int .i64 r.x.bend, vx], vl, .int .i64 r.line, .int .i64 r.e]) ∧ ClsM (fun q => w.heap.size ≤ q) w' vx r.x.claims ∧ FusM (fun q => w.heap.size ≤ q) w' vl r.l ∧ Below w.heap.size w w'

set_option maxRecDepth 100000 in
set_option maxHeartbeats 4000000 in
theorem read_c (t : List UInt8) (ht : t.length ≤ 9000000000000000000) (w : World) (hG : GV w) :
    Calls Tryz.prog 12 #[.string (str t)] w (RdPost (readR t) w) := by
  obtain ⟨w1, hw1⟩ : ∃ x, x = w.alloc (.cells #[.int .i64 0, .int .i64 0, .slice none 0 0] 24) := ⟨_, rfl⟩
  obtain ⟨b2, hb2e⟩ : ∃ x, x = w.heap.size := ⟨_, rfl⟩
  have hO1 : Blk b2 #[.int .i64 0, .int .i64 0, .slice none 0 0] 24 w1 := by rw [hw1, hb2e]; exact Blk.new _ _ _
  have hB1 : Below w.heap.size w w1 := by rw [hw1]; exact (Below.refl _ w).alloc (Nat.le_refl _) _
  have hb2 : w.heap.size ≤ b2 := Nat.le_of_eq hb2e.symm
  have hG1 := hG.call hB1
  have hz := str_size t
  have hlt1 := hO1.lt
  by_cases hl : 500 < t.length
  · have hd : decide ((500 : Int) < t.length) = true := decide_eq_true (by omega)
    have HR := Lib.hid (show readR t = ⟨emptyX, [], 0, 10⟩ by unfold readR; rw [if_pos hl])
    have o0 := hO1.cell 0
    have o1 := hO1.cell 1
    have o2 := hO1.cell 2
    have f0 := hO1.free 0
    have f1 := hO1.free 1
    have f2 := hO1.free 2
    have hbw := hB1
    go_enter Tryz.func12, Tryz.ntmps12
    go_upto_region 1 with fail
    rw [← hw1, ← hb2e]
    clear hw1 hb2e
    go_wp2
    have hOu : Blk b2 #[.int .i64 0, .int .i64 0, (.slice none 0 0)] 24 (((w1.setCell ⟨b2, 0, none⟩ (.int .i64 0)).setCell ⟨b2, 1, none⟩ (.int .i64 0)).setCell ⟨b2, 2, none⟩ (.slice none 0 0)) := ((hO1.set 0 (.int .i64 0)).set 1 (.int .i64 0)).set 2 (.slice none 0 0)
    have hBu := ((hbw.setCell (p := ⟨b2, 0, none⟩) hb2 (.int .i64 0)).setCell (p := ⟨b2, 1, none⟩) hb2 (.int .i64 0)).setCell (p := ⟨b2, 2, none⟩) hb2 (.slice none 0 0)
    generalize ((w1.setCell ⟨b2, 0, none⟩ (.int .i64 0)).setCell ⟨b2, 1, none⟩ (.int .i64 0)).setCell ⟨b2, 2, none⟩ (.slice none 0 0) = wf at hOu hBu ⊢
    have x0 := hOu.cell 0
    have x1 := hOu.cell 1
    have x2 := hOu.cell 2
    refine bodyPost_ret (v := .tuple #[.agg #[.int .i64 0, .int .i64 0, (.slice none 0 0)], .slice none 0 0, .int .i64 0, .int .i64 10]) (by simp [results, Tryz.results12, go_sem, x0, x1, x2]) rfl ?_
    rw [HR.out]
    exact ⟨_, _, rfl, cls_nil _ _, fus_nil _ _, hBu⟩
  · have hd : decide ((500 : Int) < t.length) = false := decide_eq_false (by omega)
    have hps := parse_c t (by omega) w1 hG1
    obtain ⟨ls, hls⟩ : ∃ x, x = cutL 10 t := ⟨_, rfl⟩
    rw [← hls] at hps
    have hRR : ∀ n, takeR ls = .error n → readR t = ⟨emptyX, [], (n : Int), 2⟩ := fun n h => by
      unfold readR
      rw [if_neg hl, ← hls, h]
    have hRO : ∀ m, takeR ls = .ok m → readR t = if bothX m.1 m.2 = 0 then ⟨m.1, m.2, 0, 0⟩ else ⟨emptyX, [], 0, bothX m.1 m.2⟩ := fun m h => by
      unfold readR
      rw [if_neg hl, ← hls, h]
    have HRR := Lib.hid hRR
    have HRO := Lib.hid hRO
    have HPS := Lib.hid hps
    clear hRR hRO hps hls
    go_enter Tryz.func12, Tryz.ntmps12
    go_upto_region 1 with fail
    rw [← hw1, ← hb2e]
    clear hw1 hb2e
    go_wp2_with fail
    refine HPS.out.mono ?_
    rintro e w2 ⟨(⟨n, p, b, a, k, c, hn, rfl⟩ | ⟨x, l, vx, vl, hn, rfl, hC2, hF2⟩), hB2⟩
    · have HN := Lib.hid (HRR.out n hn)
      clear hn
      have hO2 := hO1.call hB2
      have o0 := hO2.cell 0
      have o1 := hO2.cell 1
      have o2 := hO2.cell 2
      have f0 := hO2.free 0
      have f1 := hO2.free 1
      have f2 := hO2.free 2
      have hbw := bnw hB1 hB2
      have hO3 : Blk b2 #[.int .i64 p, .int .i64 b, .slice a k c] 24 (((w2.setCell ⟨b2, 0, none⟩ (.int .i64 p)).setCell ⟨b2, 1, none⟩ (.int .i64 b)).setCell ⟨b2, 2, none⟩ (.slice a k c)) := ((hO2.set 0 (.int .i64 p)).set 1 (.int .i64 b)).set 2 (.slice a k c)
      have hB3 := ((hbw.setCell (p := ⟨b2, 0, none⟩) hb2 (.int .i64 p)).setCell (p := ⟨b2, 1, none⟩) hb2 (.int .i64 b)).setCell (p := ⟨b2, 2, none⟩) hb2 (.slice a k c)
      go_upto_region 4 with fail
      clear o0 o1 o2 f0 f1 f2 hbw hO2
      generalize ((w2.setCell ⟨b2, 0, none⟩ (.int .i64 p)).setCell ⟨b2, 1, none⟩ (.int .i64 b)).setCell ⟨b2, 2, none⟩ (.slice a k c) = w3 at hO3 hB3 ⊢
      obtain ⟨w4, hw4⟩ : ∃ x, x = w3.alloc (.cells #[.int .i64 0] 93) := ⟨_, rfl⟩
      obtain ⟨b7, hb7⟩ : ∃ x, x = w3.heap.size := ⟨_, rfl⟩
      have hY4 : Blk b7 #[.int .i64 0] 93 w4 := by rw [hw4, hb7]; exact Blk.new _ _ _
      have hA4 : Below w3.heap.size w3 w4 := by rw [hw4]; exact (Below.refl _ w3).alloc (Nat.le_refl _) _
      have hO4 := hO3.call hA4
      have hB4 := bnw hB3 hA4
      have hG4 := hG.call hB4
      have h27 : b2 < b7 := by rw [hb7]; exact hO3.lt
      go_upto_region 5 with fail
      rw [← hw4, ← hb7]
      clear hw4 hb7 hA4 hO3 hB3
      go_wp2_with fail
      refine (as_odd n b7 _ w4 hG4 hY4).mono ?_
      rintro e w5 ⟨rfl, hY5, hB5⟩
      have hO5 := hO4.below (hB5 b7 (Nat.le_refl _)) h27
      have hB5w := hB4.trans (hB5 w.heap.size (by omega))
      clear hB5 hY4 hO4 hB4
      go_wp2_with fail
      refine wp_region_mix2 (.pur 0 (.pur 1 (.act 2 (.pur 3 (.pur 4 (.pur 5 .fin)))))) 2 (fun w => Blk b7 #[.int .i64 (n : Int)] 93 w) (fun w => Blk b7 #[.int .i64 (n : Int)] 93 w) (by kernel_rfl) (by kernel_rfl) rfl (by kernel_rfl) (hY5.qt ((Qt.refl _).drewN 1)) (fun wd hqd _ => ?_)
      have hYd := hY5.qt hqd
      have hOd := hO5.qt hqd
      have hbw := bnw hB5w (hqd.below _)
      refine mix_pur2 rfl (fun K hK => ?_)
      go_simp
      first | refine ⟨_, fun _ => rfl, hK _ ?_⟩ | refine hK _ ?_
      clear hK K
      refine mix_pload2 rfl rfl rfl (.int .i64 (n : Int)) (fun w' h => by have h : (fun w => Blk b7 #[.int .i64 (n : Int)] 93 w) w' ∨ (fun w => Blk b7 #[.int .i64 (n : Int)] 93 w) w' := h; rcases h with h | h; all_goals (have h0 := Blk.cell h 0; go_simp)) rfl ?_
      refine mix_eff2 rfl true rfl (fun K hK => ?_)
      have o0 := hOd.cell 0
      have o1 := hOd.cell 1
      have o2 := hOd.cell 2
      have f0 := hOd.free 0
      have f1 := hOd.free 1
      have f2 := hOd.free 2
      go_simp
      refine hK _ _ (((hYd.other (show b7 ≠ b2 by omega) _).other (show b7 ≠ b2 by omega) _).other (show b7 ≠ b2 by omega) _) ?_
      clear hK K o0 o1 o2 f0 f1 f2
      refine mix_pur2 rfl (fun K hK => ?_)
      go_simp
      first | refine ⟨_, fun _ => rfl, hK _ ?_⟩ | refine hK _ ?_
      clear hK K
      refine mix_pur2 rfl (fun K hK => ?_)
      go_simp
      first | refine ⟨_, fun _ => rfl, hK _ ?_⟩ | refine hK _ ?_
      clear hK K
      refine mix_pur2 rfl (fun K hK => ?_)
      go_simp
      first | refine ⟨_, fun _ => rfl, hK _ ?_⟩ | refine hK _ ?_
      clear hK K
      refine mix_done2 ?_
      go_wp2
      have hOu : Blk b2 #[.int .i64 0, .int .i64 0, (.slice none 0 0)] 24 (((wd.setCell ⟨b2, 0, none⟩ (.int .i64 0)).setCell ⟨b2, 1, none⟩ (.int .i64 0)).setCell ⟨b2, 2, none⟩ (.slice none 0 0)) := ((hOd.set 0 (.int .i64 0)).set 1 (.int .i64 0)).set 2 (.slice none 0 0)
      have hBu := ((hbw.setCell (p := ⟨b2, 0, none⟩) hb2 (.int .i64 0)).setCell (p := ⟨b2, 1, none⟩) hb2 (.int .i64 0)).setCell (p := ⟨b2, 2, none⟩) hb2 (.slice none 0 0)
      generalize ((wd.setCell ⟨b2, 0, none⟩ (.int .i64 0)).setCell ⟨b2, 1, none⟩ (.int .i64 0)).setCell ⟨b2, 2, none⟩ (.slice none 0 0) = wf at hOu hBu ⊢
      have x0 := hOu.cell 0
      have x1 := hOu.cell 1
      have x2 := hOu.cell 2
      refine bodyPost_ret (v := .tuple #[.agg #[.int .i64 0, .int .i64 0, (.slice none 0 0)], .slice none 0 0, .int .i64 (n : Int), .int .i64 2]) (by simp [results, Tryz.results12, go_sem, x0, x1, x2]) rfl ?_
      rw [HN.out]
      exact ⟨_, _, rfl, cls_nil _ _, fus_nil _ _, hBu⟩
    · have HN := Lib.hid (HRO.out (x, l) hn)
      clear hn
      obtain ⟨ax, cx, rfl, _, _⟩ := hC2.shape
      obtain ⟨al, cl, rfl, _, _⟩ := hF2.shape
      have hO2 := hO1.call hB2
      have hC2 : ClsM (fun q => w1.heap.size ≤ q) w2 (.slice ax x.claims.length cx) x.claims := hC2
      have hF2 : FusM (fun q => w1.heap.size ≤ q) w2 (.slice al l.length cl) l := hF2
      have o0 := hO2.cell 0
      have o1 := hO2.cell 1
      have o2 := hO2.cell 2
      have f0 := hO2.free 0
      have f1 := hO2.free 1
      have f2 := hO2.free 2
      have hbw := bnw hB1 hB2
      have hst : ∀ q, q ≠ b2 → (((w2.setCell ⟨b2, 0, none⟩ (.int .i64 x.points)).setCell ⟨b2, 1, none⟩ (.int .i64 x.bend)).setCell ⟨b2, 2, none⟩ (.slice ax x.claims.length cx)).heap[q]? = w2.heap[q]? := fun q hq => (Below.heap_setCell _ _ _ _ hq).trans ((Below.heap_setCell _ _ _ _ hq).trans (Below.heap_setCell _ _ _ _ hq))
      have hO3 : Blk b2 #[.int .i64 x.points, .int .i64 x.bend, .slice ax x.claims.length cx] 24 (((w2.setCell ⟨b2, 0, none⟩ (.int .i64 x.points)).setCell ⟨b2, 1, none⟩ (.int .i64 x.bend)).setCell ⟨b2, 2, none⟩ (.slice ax x.claims.length cx)) := ((hO2.set 0 (.int .i64 x.points)).set 1 (.int .i64 x.bend)).set 2 (.slice ax x.claims.length cx)
      have hB3 := ((hbw.setCell (p := ⟨b2, 0, none⟩) hb2 (.int .i64 x.points)).setCell (p := ⟨b2, 1, none⟩) hb2 (.int .i64 x.bend)).setCell (p := ⟨b2, 2, none⟩) hb2 (.slice ax x.claims.length cx)
      have hzs : w2.heap.size ≤ (((w2.setCell ⟨b2, 0, none⟩ (.int .i64 x.points)).setCell ⟨b2, 1, none⟩ (.int .i64 x.bend)).setCell ⟨b2, 2, none⟩ (.slice ax x.claims.length cx)).heap.size := by simp [World.setCell]
      have hC3 : ClsM (fun q => w1.heap.size ≤ q) (((w2.setCell ⟨b2, 0, none⟩ (.int .i64 x.points)).setCell ⟨b2, 1, none⟩ (.int .i64 x.bend)).setCell ⟨b2, 2, none⟩ (.slice ax x.claims.length cx)) (.slice ax x.claims.length cx) x.claims := Arr.step hC2 hzs fun q (hq : w1.heap.size ≤ q) _ => hst q (by omega)
      have hF3 : FusM (fun q => w1.heap.size ≤ q) (((w2.setCell ⟨b2, 0, none⟩ (.int .i64 x.points)).setCell ⟨b2, 1, none⟩ (.int .i64 x.bend)).setCell ⟨b2, 2, none⟩ (.slice ax x.claims.length cx)) (.slice al l.length cl) l := Arr.step hF2 hzs fun q (hq : w1.heap.size ≤ q) _ => hst q (by omega)
      go_upto_region 4 with fail
      clear o0 o1 o2 f0 f1 f2 hbw hO2 hC2 hF2 hst hzs
      generalize ((w2.setCell ⟨b2, 0, none⟩ (.int .i64 x.points)).setCell ⟨b2, 1, none⟩ (.int .i64 x.bend)).setCell ⟨b2, 2, none⟩ (.slice ax x.claims.length cx) = w3 at hO3 hB3 hC3 hF3 ⊢
      obtain ⟨w4, hw4⟩ : ∃ x, x = w3.alloc (.cells #[.int .i64 0] 93) := ⟨_, rfl⟩
      obtain ⟨b7, hb7⟩ : ∃ x, x = w3.heap.size := ⟨_, rfl⟩
      have hA4 : Below w3.heap.size w3 w4 := by rw [hw4]; exact (Below.refl _ w3).alloc (Nat.le_refl _) _
      have hO4 := hO3.call hA4
      have hB4 := bnw hB3 hA4
      have hC4 := hC3.call hA4
      have hF4 := hF3.call hA4
      go_upto_region 5 with fail
      rw [← hw4, ← hb7]
      clear hw4 hb7 hA4 hO3 hB3 hC3 hF3
      go_wp2_with fail
      refine (as_nil _ w4).mono ?_
      rintro e w5 ⟨rfl, rfl⟩
      rename World => w4
      have o0 := hO4.cell 0
      have o1 := hO4.cell 1
      have o2 := hO4.cell 2
      go_wp2_with fail
      refine (checked_c hC4 hF4).mono ?_
      rintro e w5 ⟨rfl, hB5⟩
      have hO5 := hO4.call hB5
      have hC5 := hC4.call hB5
      have hF5 := hF4.call hB5
      have hbw := bnw hB4 hB5
      clear o0 o1 o2 hO4 hC4 hF4 hB4 hB5
      by_cases hck : bothX x l = 0
      · have hbt : (bothX x l != 0) = false := by rw [hck]; rfl
        have HR := Lib.hid (show readR t = ⟨x, l, 0, 0⟩ by rw [HN.out]; exact if_pos hck)
        clear hck
        have o0 := hO5.cell 0
        have o1 := hO5.cell 1
        have o2 := hO5.cell 2
        have f0 := hO5.free 0
        have f1 := hO5.free 1
        have f2 := hO5.free 2
        go_wp2
        have hOu : Blk b2 #[.int .i64 x.points, .int .i64 x.bend, (.slice ax x.claims.length cx)] 24 (((w5.setCell ⟨b2, 0, none⟩ (.int .i64 x.points)).setCell ⟨b2, 1, none⟩ (.int .i64 x.bend)).setCell ⟨b2, 2, none⟩ (.slice ax x.claims.length cx)) := ((hO5.set 0 (.int .i64 x.points)).set 1 (.int .i64 x.bend)).set 2 (.slice ax x.claims.length cx)
        have hBu := ((hbw.setCell (p := ⟨b2, 0, none⟩) hb2 (.int .i64 x.points)).setCell (p := ⟨b2, 1, none⟩) hb2 (.int .i64 x.bend)).setCell (p := ⟨b2, 2, none⟩) hb2 (.slice ax x.claims.length cx)
        have hst : ∀ q, q ≠ b2 → (((w5.setCell ⟨b2, 0, none⟩ (.int .i64 x.points)).setCell ⟨b2, 1, none⟩ (.int .i64 x.bend)).setCell ⟨b2, 2, none⟩ (.slice ax x.claims.length cx)).heap[q]? = w5.heap[q]? := fun q hq => (Below.heap_setCell _ _ _ _ hq).trans ((Below.heap_setCell _ _ _ _ hq).trans (Below.heap_setCell _ _ _ _ hq))
        have hzs : w5.heap.size ≤ (((w5.setCell ⟨b2, 0, none⟩ (.int .i64 x.points)).setCell ⟨b2, 1, none⟩ (.int .i64 x.bend)).setCell ⟨b2, 2, none⟩ (.slice ax x.claims.length cx)).heap.size := by simp [World.setCell]
        have hC6 : ClsM (fun q => w1.heap.size ≤ q) (((w5.setCell ⟨b2, 0, none⟩ (.int .i64 x.points)).setCell ⟨b2, 1, none⟩ (.int .i64 x.bend)).setCell ⟨b2, 2, none⟩ (.slice ax x.claims.length cx)) (.slice ax x.claims.length cx) x.claims := Arr.step hC5 hzs fun q (hq : w1.heap.size ≤ q) _ => hst q (by omega)
        have hF6 : FusM (fun q => w1.heap.size ≤ q) (((w5.setCell ⟨b2, 0, none⟩ (.int .i64 x.points)).setCell ⟨b2, 1, none⟩ (.int .i64 x.bend)).setCell ⟨b2, 2, none⟩ (.slice ax x.claims.length cx)) (.slice al l.length cl) l := Arr.step hF5 hzs fun q (hq : w1.heap.size ≤ q) _ => hst q (by omega)
        clear hst hzs
        generalize ((w5.setCell ⟨b2, 0, none⟩ (.int .i64 x.points)).setCell ⟨b2, 1, none⟩ (.int .i64 x.bend)).setCell ⟨b2, 2, none⟩ (.slice ax x.claims.length cx) = wf at hOu hBu hC6 hF6 ⊢
        have x0 := hOu.cell 0
        have x1 := hOu.cell 1
        have x2 := hOu.cell 2
        refine bodyPost_ret (v := .tuple #[.agg #[.int .i64 x.points, .int .i64 x.bend, (.slice ax x.claims.length cx)], .slice al l.length cl, .int .i64 0, .int .i64 0]) (by simp [results, Tryz.results12, go_sem, x0, x1, x2]) rfl ?_
        rw [HR.out]
        have hz1 := hB1.size
        exact ⟨_, _, rfl, hC6.wide fun q (hq : w1.heap.size ≤ q) _ => by omega, hF6.wide fun q (hq : w1.heap.size ≤ q) _ => by omega, hBu⟩
      · have hbt : (bothX x l != 0) = true := by simpa using hck
        have HR := Lib.hid (show readR t = ⟨emptyX, [], 0, bothX x l⟩ by rw [HN.out]; exact if_neg hck)
        clear hck
        have o0 := hO5.cell 0
        have o1 := hO5.cell 1
        have o2 := hO5.cell 2
        have f0 := hO5.free 0
        have f1 := hO5.free 1
        have f2 := hO5.free 2
        go_wp2
        have hOu : Blk b2 #[.int .i64 0, .int .i64 0, (.slice none 0 0)] 24 (((w5.setCell ⟨b2, 0, none⟩ (.int .i64 0)).setCell ⟨b2, 1, none⟩ (.int .i64 0)).setCell ⟨b2, 2, none⟩ (.slice none 0 0)) := ((hO5.set 0 (.int .i64 0)).set 1 (.int .i64 0)).set 2 (.slice none 0 0)
        have hBu := ((hbw.setCell (p := ⟨b2, 0, none⟩) hb2 (.int .i64 0)).setCell (p := ⟨b2, 1, none⟩) hb2 (.int .i64 0)).setCell (p := ⟨b2, 2, none⟩) hb2 (.slice none 0 0)
        generalize ((w5.setCell ⟨b2, 0, none⟩ (.int .i64 0)).setCell ⟨b2, 1, none⟩ (.int .i64 0)).setCell ⟨b2, 2, none⟩ (.slice none 0 0) = wf at hOu hBu ⊢
        have x0 := hOu.cell 0
        have x1 := hOu.cell 1
        have x2 := hOu.cell 2
        refine bodyPost_ret (v := .tuple #[.agg #[.int .i64 0, .int .i64 0, (.slice none 0 0)], .slice none 0 0, .int .i64 0, .int .i64 (bothX x l)]) (by simp [results, Tryz.results12, go_sem, x0, x1, x2]) rfl ?_
        rw [HR.out]
        exact ⟨_, _, rfl, cls_nil _ _, fus_nil _ _, hBu⟩

end Go.Proofs.YtbpfhoihfoojfaaGreatDoor
