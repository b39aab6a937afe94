/- The text of an edge and its furrows (edge.Write); conditions: the library's variables hold what they are laid with. -/
import Derived.Test.YtbpfhoihfoojfaaGreatDoorTx1
namespace Go.Proofs.YtbpfhoihfoojfaaGreatDoor
open Go.RowKit

attribute [local go_sem] ta133_133 ta135_133 ta135_135 ta136_133 ta136_135 ta136_136 ta137_133 ta137_135 ta137_136 ta137_137 ta139_133 ta139_135 ta139_136 ta139_137 ta139_139

theorem numD_l {i : Int} (h : In99 i) : (numD i).length ≤ 20 := by
  obtain ⟨h1, h2⟩ := h
  unfold numD
  split
  · have := (dec_len (-i).toNat (by omega)).2
    simp; omega
  · have := (dec_len i.toNat (by omega)).2
    omega
theorem clIn_all {c : Cl} (h : ClIn c) : (In99 c.point ∧ 0 ≤ c.point) ∧ (In99 c.other ∧ 0 ≤ c.other) ∧ In99 c.off ∧ (c.kind ≠ 5 → 0 ≤ c.off) ∧ (In99 c.err ∧ 0 ≤ c.err) := by
  have h0 : In99 0 := ⟨by omega, by omega⟩
  refine ⟨h.p, ?_, h.a.1, h.a.2, ?_⟩
  · have := h.o
    split at this
    · exact this
    · rw [this]; exact ⟨h0, Int.le_refl _⟩
  · have := h.e
    split at this
    · exact this
    · rw [this]; exact ⟨h0, Int.le_refl _⟩
theorem clT_l {c : Cl} (h : ClIn c) : (clT numD c).length ≤ 99 := by
  obtain ⟨h1, h2, h3, _, h4⟩ := clIn_all h
  have h1 := numD_l h1.1
  have h2 := numD_l h2.1
  have h3 := numD_l h3
  have h4 := numD_l h4.1
  unfold clT
  split
  · simp; omega
  split
  · simp; omega
  split
  · simp; omega
  split
  · simp; omega
  · simp; omega
theorem fuT_l {f : Fu} (h : FuIn f) : (fuT numD f).length ≤ 100 := by
  have h1 := numD_l h.p.1
  have h2 := numD_l h.y.1
  have h3 := numD_l h.a.1
  unfold fuT
  simp; omega

set_option maxRecDepth 100000 in
set_option maxHeartbeats 4000000 in
theorem write_c {A A' : Nat → Prop} {w : World} {x : Edg} {vx v : Value} {l : List Fu} (hx : ClsM A w vx x.claims) (h : FusM A' w v l) (hG : GV w) :
    Calls Tryz.prog 9 #[.agg #[.int .i64 x.points, .int .i64 x.bend, vx], v] w fun e w' => e = .returned (.tuple #[.string (if bothX x l = 0 then str (edT numD x l) else ⟨#[]⟩), .int .i64 (bothX x l)]) ∧ Below w.heap.size w w' := by
  have HIQ : ∀ {wz : World}, Below w.heap.size w wz → ∀ i, In99 i ∧ 0 ≤ i → ∀ u, Qt wz u → Calls Tryz.prog 32 #[.int .i64 i] u fun e u' => e = .returned (.string (str (numD i))) ∧ Qt u u' := fun hB i hi u hu => (itoa_q i hi u).mono fun e u' hh => ⟨hh.1, by rw [hh.2]; exact Qt.refl _⟩
  obtain ⟨R, hR⟩ : ∃ R, R = (if bothX x l = 0 then str (edT numD x l) else ⟨#[]⟩) := ⟨_, rfl⟩
  rw [← hR]
  obtain ⟨ax, cx, rfl, _, _⟩ := hx.shape
  obtain ⟨al, cl, rfl, _, _⟩ := h.shape
  obtain ⟨w1, hw1⟩ : ∃ w1, w1 = w.alloc (.cells #[.int .i64 x.points, .int .i64 x.bend, .slice ax x.claims.length cx] 24) := ⟨_, rfl⟩
  obtain ⟨b0, hb0⟩ : ∃ b, b = w.heap.size := ⟨_, rfl⟩
  have hX1 : Blk b0 #[.int .i64 x.points, .int .i64 x.bend, .slice ax x.claims.length cx] 24 w1 := by rw [hw1, hb0]; exact blk_at rfl _ _
  have hB1 : Below w.heap.size w w1 := by rw [hw1]; exact (Below.refl _ w).alloc (Nat.le_refl _) _
  have hx1 := hx.call hB1
  have h1 := h.call hB1
  go_enter Tryz.func9, Tryz.ntmps9
  go_upto_region 1 with fail
  rw [← hw1, ← hb0]
  clear hw1 hb0
  have c0 := hX1.cell 0
  have c1 := hX1.cell 1
  have c2 := hX1.cell 2
  go_wp2_with fail
  clear c0 c1 c2
  refine (checked_c hx1 h1).mono ?_
  rintro e w2 ⟨rfl, hB2⟩
  have hX2 := hX1.call hB2
  have hx2 := hx1.call hB2
  have h2 := h1.call hB2
  have hB2w := bnx hB1 hB2
  by_cases hck : bothX x l = 0
  · have hb : (bothX x l != 0) = false := by rw [hck]; rfl
    obtain ⟨hok, hfx⟩ := both_zero hck
    obtain ⟨hf8, -, -⟩ := furX_facts hfx
    obtain ⟨hP1, hP2, hPc, hPf, -⟩ := okV hck
    have hm := hok.m
    rw [if_pos hck] at hR
    have HR := Lib.hid hR
    have HCK := Lib.hid hck
    clear hck hfx hok hR
    have c0 := hX2.cell 0
    have c1 := hX2.cell 1
    have c2 := hX2.cell 2
    have d0 := (hX2.qt ((Qt.refl _).drewN 1)).cell 0
    have d1 := (hX2.qt ((Qt.refl _).drewN 1)).cell 1
    have d2 := (hX2.qt ((Qt.refl _).drewN 1)).cell 2
    obtain ⟨n1, hn1⟩ : ∃ n, n = numD x.points := ⟨_, rfl⟩
    obtain ⟨n2, hn2⟩ : ∃ n, n = numD x.bend := ⟨_, rfl⟩
    have l1 : n1.length ≤ 20 := by rw [hn1]; exact numD_l hP1.1
    have l2 : n2.length ≤ 20 := by rw [hn2]; exact numD_l hP2.1
    have q1 := HIQ hB2w x.points hP1
    have q2 := HIQ hB2w x.bend hP2
    rw [← hn1] at q1
    rw [← hn2] at q2
    obtain ⟨s1, hs1⟩ : ∃ s, s = [101, 100, 103, 101, 32] ++ n1 := ⟨_, rfl⟩
    have L1 : s1.length ≤ 25 := by rw [hs1]; first | (simp; omega) | omega
    have e1 : ∀ w, (Op.stringOp .add (⟨#[101, 100, 103, 101, 32]⟩ : ByteArray) (str n1)).run Tryz.prog w = .ok (.string (str s1)) w := fun w => by rw [hs1]; exact sadd [101, 100, 103, 101, 32] n1 (by first | (simp; omega) | omega) w
    obtain ⟨s2, hs2⟩ : ∃ s, s = s1 ++ [32, 112, 111, 105, 110, 116, 115, 32, 98, 101, 110, 100, 32] := ⟨_, rfl⟩
    have L2 : s2.length ≤ 38 := by rw [hs2]; first | (simp; omega) | omega
    have e2 : ∀ w, (Op.stringOp .add (str s1) (⟨#[32, 112, 111, 105, 110, 116, 115, 32, 98, 101, 110, 100, 32]⟩ : ByteArray)).run Tryz.prog w = .ok (.string (str s2)) w := fun w => by rw [hs2]; exact sadd s1 [32, 112, 111, 105, 110, 116, 115, 32, 98, 101, 110, 100, 32] (by first | (simp; omega) | omega) w
    obtain ⟨s3, hs3⟩ : ∃ s, s = s2 ++ n2 := ⟨_, rfl⟩
    have L3 : s3.length ≤ 58 := by rw [hs3]; first | (simp; omega) | omega
    have e3 : ∀ w, (Op.stringOp .add (str s2) (str n2)).run Tryz.prog w = .ok (.string (str s3)) w := fun w => by rw [hs3]; exact sadd s2 n2 (by first | (simp; omega) | omega) w
    obtain ⟨s4, hs4⟩ : ∃ s, s = s3 ++ [10] := ⟨_, rfl⟩
    have L4 : s4.length ≤ 59 := by rw [hs4]; first | (simp; omega) | omega
    have e4 : ∀ w, (Op.stringOp .add (str s3) (⟨#[10]⟩ : ByteArray)).run Tryz.prog w = .ok (.string (str s4)) w := fun w => by rw [hs4]; exact sadd s3 [10] (by first | (simp; omega) | omega) w
    have E4 := Lib.hid (show s4 = hdT numD x by rw [hs4, hs3, hs2, hs1, hn1, hn2]; rfl)
    clear hs1 hs2 hs3 hs4 hn1 hn2 L1 L2 L3 l1 l2
    go_wp2_with fail
    go_quiet ((go_at_call 32; first | refine qt_of (q1 _ (by first | exact Qt.refl _ | exact ⟨_, rfl⟩)) | refine qt_of (q2 _ (by first | exact Qt.refl _ | exact ⟨_, rfl⟩))))

    have hq3 : Qt w2 (w2.drewN nq) := ⟨nq, rfl⟩
    generalize w2.drewN nq = w3 at hq3 ⊢
    have hX3 := hX2.qt hq3
    have hx3 := hx2.qt hq3
    have h3 := h2.qt hq3
    have hB3w := bnx hB2w (hq3.below _)
    clear c0 c1 c2 d0 d1 d2 e1 e2 e3 e4 q1 q2 hX2 hx2 h2 hB2 hX1 hx1 h1 hB1 hq3 hx h
    have c2 := hX3.cell 2
    go_wp2_with fail
    clear c2
    go_loopw [8, 39] (fun v8 v39 wr => ∃ k : Nat, k ≤ x.claims.length ∧ v39 = .int .i64 k ∧ v8 = .string (str (s4 ++ (x.claims.take k).flatMap fun c => clT numD c ++ [10])) ∧ Below w3.heap.size w3 wr) (fun _ v39 _ => x.claims.length - (intOf v39).toNat)
    case atStart => exact ⟨0, Nat.zero_le _, rfl, by simp, Below.refl _ _⟩
    case round =>
      obtain ⟨k, hk, rfl, rfl, hB⟩ := hrel
      have hcr := hx3.call hB
      have hBr := bnx hB3w hB
      by_cases hlt : k < x.claims.length
      · obtain ⟨gc, oc, rfl, -, -⟩ := cls_addr hcr (by omega)
        obtain ⟨d0, d1, d2, d3, d4⟩ := cls_at hcr k hlt
        obtain ⟨S, hS⟩ : ∃ S, S = s4 ++ (x.claims.take k).flatMap fun c => clT numD c ++ [10] := ⟨_, rfl⟩
        have hSl : S.length ≤ 1000 := by
          have := flat_le 100 (fun c => clT numD c ++ [10]) (x.claims.take k) (fun c hc => by have := clT_l (hPc c (List.mem_of_mem_take hc)); simp; omega)
          rw [hS, List.length_append]
          have h5 := List.length_take_le k x.claims
          omega
        rw [← hS]
        have HSS := Lib.hid hS
        clear hS
        obtain ⟨c, hc⟩ : ∃ c, c = x.claims[k] := ⟨_, rfl⟩
        have hPc1 := hPc c (by rw [hc]; exact List.getElem_mem _)
        rw [← hc] at d0 d1 d2 d3 d4
        have HC := Lib.hid hc
        clear hc
        go_upto_region 9 with fail
        obtain ⟨w4, hw4⟩ : ∃ w4, w4 = wr.alloc (.cells #[.int .i64 c.kind, .int .i64 c.point, .int .i64 c.other, .int .i64 c.off, .int .i64 c.err] 54) := ⟨_, rfl⟩
        obtain ⟨b4, hb4⟩ : ∃ b, b = wr.heap.size := ⟨_, rfl⟩
        have hC4 : Blk b4 #[.int .i64 c.kind, .int .i64 c.point, .int .i64 c.other, .int .i64 c.off, .int .i64 c.err] 54 w4 := by rw [hw4, hb4]; exact Blk.new _ _ _
        have hB4 : Below wr.heap.size wr w4 := by rw [hw4]; exact (Below.refl _ wr).alloc (Nat.le_refl _) _
        rw [← hw4, ← hb4]
        clear hw4 hb4 d0 d1 d2 d3 d4
        have k0 := hC4.cell 0
        have k1 := hC4.cell 1
        have k2 := hC4.cell 2
        have k3 := hC4.cell 3
        have k4 := hC4.cell 4
        go_wp2_with fail
        clear k0 k1 k2 k3 k4
        refine (ofCl_c c _).mono ?_
        rintro e w5 ⟨rfl, hB5⟩
        have hB35 := bnx hB (bnx hB4 hB5)
        have hBw5 := bnx hB3w hB35
        clear hB4 hB5 hC4 hcr hBr hB
        obtain ⟨nP, hnP⟩ : ∃ n, n = numD c.point := ⟨_, rfl⟩
        obtain ⟨nO, hnO⟩ : ∃ n, n = numD c.other := ⟨_, rfl⟩
        obtain ⟨nA, hnA⟩ : ∃ n, n = numD c.off := ⟨_, rfl⟩
        obtain ⟨nE, hnE⟩ : ∃ n, n = numD c.err := ⟨_, rfl⟩
        obtain ⟨hp1, hp2, ha9, hai, hp4⟩ := clIn_all hPc1
        have lP : nP.length ≤ 20 := by rw [hnP]; exact numD_l hp1.1
        have lO : nO.length ≤ 20 := by rw [hnO]; exact numD_l hp2.1
        have lA : nA.length ≤ 20 := by rw [hnA]; exact numD_l ha9
        have lE : nE.length ≤ 20 := by rw [hnE]; exact numD_l hp4.1
        by_cases hk1 : c.kind = 1
        · have hcv : clV c = .iface 80 (.agg #[.int .i64 c.point, .int .i64 c.off]) := by unfold clV; rw [if_pos hk1]
          have HT := Lib.hid (show clT numD c = ((([115, 116, 111, 110, 101, 32, 97, 116, 32] ++ numD c.point) ++ [32, 105, 115, 32]) ++ numD c.off) by unfold clT; rw [if_pos hk1])
          rw [hcv]
          have hp3 : In99 c.off ∧ 0 ≤ c.off := ⟨ha9, hai (by omega)⟩
          clear hcv hk1
          go_upto_region 12 with fail
          obtain ⟨w6, hw6⟩ : ∃ w6, w6 = w5.alloc (.cells #[.int .i64 c.point, .int .i64 c.off] 80) := ⟨_, rfl⟩
          obtain ⟨b6, hb6⟩ : ∃ b, b = w5.heap.size := ⟨_, rfl⟩
          have hC6 : Blk b6 #[.int .i64 c.point, .int .i64 c.off] 80 w6 := by rw [hw6, hb6]; exact Blk.new _ _ _
          have hB6 : Below w5.heap.size w5 w6 := by rw [hw6]; exact (Below.refl _ w5).alloc (Nat.le_refl _) _
          rw [← hw6, ← hb6]
          clear hw6 hb6
          have hB36 := bnx hB35 hB6
          have hBw6 := bnx hBw5 hB6
          have k0 := hC6.cell 0
          have m0 := (hC6.qt ((Qt.refl _).drewN 1)).cell 0
          have k1 := hC6.cell 1
          have m1 := (hC6.qt ((Qt.refl _).drewN 1)).cell 1
          have q0 := HIQ hBw6 c.point hp1
          rw [← hnP] at q0
          have q1 := HIQ hBw6 c.off hp3
          rw [← hnA] at q1
          obtain ⟨s1, hs1⟩ : ∃ s, s = [115, 116, 111, 110, 101, 32, 97, 116, 32] ++ nP := ⟨_, rfl⟩
          have L1 : s1.length ≤ 29 := by rw [hs1]; first | (simp; omega) | omega
          have e1 : ∀ w, (Op.stringOp .add (⟨#[115, 116, 111, 110, 101, 32, 97, 116, 32]⟩ : ByteArray) (str nP)).run Tryz.prog w = .ok (.string (str s1)) w := fun w => by rw [hs1]; exact sadd [115, 116, 111, 110, 101, 32, 97, 116, 32] nP (by first | (simp; omega) | omega) w
          obtain ⟨s2, hs2⟩ : ∃ s, s = s1 ++ [32, 105, 115, 32] := ⟨_, rfl⟩
          have L2 : s2.length ≤ 33 := by rw [hs2]; first | (simp; omega) | omega
          have e2 : ∀ w, (Op.stringOp .add (str s1) (⟨#[32, 105, 115, 32]⟩ : ByteArray)).run Tryz.prog w = .ok (.string (str s2)) w := fun w => by rw [hs2]; exact sadd s1 [32, 105, 115, 32] (by first | (simp; omega) | omega) w
          obtain ⟨s3, hs3⟩ : ∃ s, s = s2 ++ nA := ⟨_, rfl⟩
          have L3 : s3.length ≤ 53 := by rw [hs3]; first | (simp; omega) | omega
          have e3 : ∀ w, (Op.stringOp .add (str s2) (str nA)).run Tryz.prog w = .ok (.string (str s3)) w := fun w => by rw [hs3]; exact sadd s2 nA (by first | (simp; omega) | omega) w
          have eS : ∀ w, (Op.stringOp .add (str S) (str s3)).run Tryz.prog w = .ok (.string (str (S ++ s3))) w := fun w => sadd S s3 (by omega) w
          have eN : ∀ w, (Op.stringOp .add (str (S ++ s3)) (⟨#[10]⟩ : ByteArray)).run Tryz.prog w = .ok (.string (str ((S ++ s3) ++ [10]))) w := fun w => sadd (S ++ s3) [10] (by simp; omega) w
          have HE := Lib.hid (show s3 = clT numD c by rw [HT.out, hs3, hs2, hs1, hnP, hnA])
          clear hs1 hs2 hs3 hnP hnO hnA hnE
          go_wp2_with fail
          go_quiet ((go_at_call 32; first | refine qt_of (q0 _ (by first | exact Qt.refl _ | exact ⟨_, rfl⟩)) | refine qt_of (q1 _ (by first | exact Qt.refl _ | exact ⟨_, rfl⟩))))
          have hq7 : Qt w6 (w6.drewN nq) := ⟨nq, rfl⟩
          generalize w6.drewN nq = w7 at hq7 ⊢
          clear k0 m0 q0 k1 m1 q1
          go_wp2_with fail
          go_roundw
          case rel =>
            refine ⟨k + 1, by omega, by go_num, ?_, bnx hB36 (hq7.below _)⟩
            rw [List.take_succ_eq_append_getElem hlt, List.flatMap_append, ← HC.out, HE.out, HSS.out]
            simp [List.append_assoc]
          case measure => simp [intOf]; omega
        · skip
          by_cases hk2 : c.kind = 2
          · have hcv : clV c = .iface 82 (.agg #[.int .i64 c.point, .int .i64 c.off, .int .i64 c.err]) := by unfold clV; rw [if_neg hk1, if_pos hk2]
            have HT := Lib.hid (show clT numD c = ((((([109, 101, 97, 115, 117, 114, 101, 32, 97, 116, 32] ++ numD c.point) ++ [32, 105, 115, 32]) ++ numD c.off) ++ [32, 101, 114, 114, 32]) ++ numD c.err) by unfold clT; rw [if_neg hk1, if_pos hk2])
            rw [hcv]
            have hp3 : In99 c.off ∧ 0 ≤ c.off := ⟨ha9, hai (by omega)⟩
            clear hcv hk1 hk2
            go_upto_region 15 with fail
            obtain ⟨w6, hw6⟩ : ∃ w6, w6 = w5.alloc (.cells #[.int .i64 c.point, .int .i64 c.off, .int .i64 c.err] 82) := ⟨_, rfl⟩
            obtain ⟨b6, hb6⟩ : ∃ b, b = w5.heap.size := ⟨_, rfl⟩
            have hC6 : Blk b6 #[.int .i64 c.point, .int .i64 c.off, .int .i64 c.err] 82 w6 := by rw [hw6, hb6]; exact Blk.new _ _ _
            have hB6 : Below w5.heap.size w5 w6 := by rw [hw6]; exact (Below.refl _ w5).alloc (Nat.le_refl _) _
            rw [← hw6, ← hb6]
            clear hw6 hb6
            have hB36 := bnx hB35 hB6
            have hBw6 := bnx hBw5 hB6
            have k0 := hC6.cell 0
            have m0 := (hC6.qt ((Qt.refl _).drewN 1)).cell 0
            have k1 := hC6.cell 1
            have m1 := (hC6.qt ((Qt.refl _).drewN 1)).cell 1
            have k2 := hC6.cell 2
            have m2 := (hC6.qt ((Qt.refl _).drewN 1)).cell 2
            have q0 := HIQ hBw6 c.point hp1
            rw [← hnP] at q0
            have q1 := HIQ hBw6 c.off hp3
            rw [← hnA] at q1
            have q2 := HIQ hBw6 c.err hp4
            rw [← hnE] at q2
            obtain ⟨s1, hs1⟩ : ∃ s, s = [109, 101, 97, 115, 117, 114, 101, 32, 97, 116, 32] ++ nP := ⟨_, rfl⟩
            have L1 : s1.length ≤ 31 := by rw [hs1]; first | (simp; omega) | omega
            have e1 : ∀ w, (Op.stringOp .add (⟨#[109, 101, 97, 115, 117, 114, 101, 32, 97, 116, 32]⟩ : ByteArray) (str nP)).run Tryz.prog w = .ok (.string (str s1)) w := fun w => by rw [hs1]; exact sadd [109, 101, 97, 115, 117, 114, 101, 32, 97, 116, 32] nP (by first | (simp; omega) | omega) w
            obtain ⟨s2, hs2⟩ : ∃ s, s = s1 ++ [32, 105, 115, 32] := ⟨_, rfl⟩
            have L2 : s2.length ≤ 35 := by rw [hs2]; first | (simp; omega) | omega
            have e2 : ∀ w, (Op.stringOp .add (str s1) (⟨#[32, 105, 115, 32]⟩ : ByteArray)).run Tryz.prog w = .ok (.string (str s2)) w := fun w => by rw [hs2]; exact sadd s1 [32, 105, 115, 32] (by first | (simp; omega) | omega) w
            obtain ⟨s3, hs3⟩ : ∃ s, s = s2 ++ nA := ⟨_, rfl⟩
            have L3 : s3.length ≤ 55 := by rw [hs3]; first | (simp; omega) | omega
            have e3 : ∀ w, (Op.stringOp .add (str s2) (str nA)).run Tryz.prog w = .ok (.string (str s3)) w := fun w => by rw [hs3]; exact sadd s2 nA (by first | (simp; omega) | omega) w
            obtain ⟨s4, hs4⟩ : ∃ s, s = s3 ++ [32, 101, 114, 114, 32] := ⟨_, rfl⟩
            have L4 : s4.length ≤ 60 := by rw [hs4]; first | (simp; omega) | omega
            have e4 : ∀ w, (Op.stringOp .add (str s3) (⟨#[32, 101, 114, 114, 32]⟩ : ByteArray)).run Tryz.prog w = .ok (.string (str s4)) w := fun w => by rw [hs4]; exact sadd s3 [32, 101, 114, 114, 32] (by first | (simp; omega) | omega) w
            obtain ⟨s5, hs5⟩ : ∃ s, s = s4 ++ nE := ⟨_, rfl⟩
            have L5 : s5.length ≤ 80 := by rw [hs5]; first | (simp; omega) | omega
            have e5 : ∀ w, (Op.stringOp .add (str s4) (str nE)).run Tryz.prog w = .ok (.string (str s5)) w := fun w => by rw [hs5]; exact sadd s4 nE (by first | (simp; omega) | omega) w
            have eS : ∀ w, (Op.stringOp .add (str S) (str s5)).run Tryz.prog w = .ok (.string (str (S ++ s5))) w := fun w => sadd S s5 (by omega) w
            have eN : ∀ w, (Op.stringOp .add (str (S ++ s5)) (⟨#[10]⟩ : ByteArray)).run Tryz.prog w = .ok (.string (str ((S ++ s5) ++ [10]))) w := fun w => sadd (S ++ s5) [10] (by simp; omega) w
            have HE := Lib.hid (show s5 = clT numD c by rw [HT.out, hs5, hs4, hs3, hs2, hs1, hnP, hnA, hnE])
            clear hs1 hs2 hs3 hs4 hs5 hnP hnO hnA hnE
            go_wp2_with fail
            go_quiet ((go_at_call 32; first | refine qt_of (q0 _ (by first | exact Qt.refl _ | exact ⟨_, rfl⟩)) | refine qt_of (q1 _ (by first | exact Qt.refl _ | exact ⟨_, rfl⟩)) | refine qt_of (q2 _ (by first | exact Qt.refl _ | exact ⟨_, rfl⟩))))
            have hq7 : Qt w6 (w6.drewN nq) := ⟨nq, rfl⟩
            generalize w6.drewN nq = w7 at hq7 ⊢
            clear k0 m0 q0 k1 m1 q1 k2 m2 q2
            go_wp2_with fail
            go_roundw
            case rel =>
              refine ⟨k + 1, by omega, by go_num, ?_, bnx hB36 (hq7.below _)⟩
              rw [List.take_succ_eq_append_getElem hlt, List.flatMap_append, ← HC.out, HE.out, HSS.out]
              simp [List.append_assoc]
            case measure => simp [intOf]; omega
          · skip
            by_cases hk3 : c.kind = 3
            · have hcv : clV c = .iface 83 (.agg #[.int .i64 c.point, .int .i64 c.off]) := by unfold clV; rw [if_neg hk1, if_neg hk2, if_pos hk3]
              have HT := Lib.hid (show clT numD c = ((([119, 105, 116, 104, 105, 110, 32, 97, 116, 32] ++ numD c.point) ++ [32, 105, 115, 32]) ++ numD c.off) by unfold clT; rw [if_neg hk1, if_neg hk2, if_pos hk3])
              rw [hcv]
              have hp3 : In99 c.off ∧ 0 ≤ c.off := ⟨ha9, hai (by omega)⟩
              clear hcv hk1 hk2 hk3
              go_upto_region 18 with fail
              obtain ⟨w6, hw6⟩ : ∃ w6, w6 = w5.alloc (.cells #[.int .i64 c.point, .int .i64 c.off] 83) := ⟨_, rfl⟩
              obtain ⟨b6, hb6⟩ : ∃ b, b = w5.heap.size := ⟨_, rfl⟩
              have hC6 : Blk b6 #[.int .i64 c.point, .int .i64 c.off] 83 w6 := by rw [hw6, hb6]; exact Blk.new _ _ _
              have hB6 : Below w5.heap.size w5 w6 := by rw [hw6]; exact (Below.refl _ w5).alloc (Nat.le_refl _) _
              rw [← hw6, ← hb6]
              clear hw6 hb6
              have hB36 := bnx hB35 hB6
              have hBw6 := bnx hBw5 hB6
              have k0 := hC6.cell 0
              have m0 := (hC6.qt ((Qt.refl _).drewN 1)).cell 0
              have k1 := hC6.cell 1
              have m1 := (hC6.qt ((Qt.refl _).drewN 1)).cell 1
              have q0 := HIQ hBw6 c.point hp1
              rw [← hnP] at q0
              have q1 := HIQ hBw6 c.off hp3
              rw [← hnA] at q1
              obtain ⟨s1, hs1⟩ : ∃ s, s = [119, 105, 116, 104, 105, 110, 32, 97, 116, 32] ++ nP := ⟨_, rfl⟩
              have L1 : s1.length ≤ 30 := by rw [hs1]; first | (simp; omega) | omega
              have e1 : ∀ w, (Op.stringOp .add (⟨#[119, 105, 116, 104, 105, 110, 32, 97, 116, 32]⟩ : ByteArray) (str nP)).run Tryz.prog w = .ok (.string (str s1)) w := fun w => by rw [hs1]; exact sadd [119, 105, 116, 104, 105, 110, 32, 97, 116, 32] nP (by first | (simp; omega) | omega) w
              obtain ⟨s2, hs2⟩ : ∃ s, s = s1 ++ [32, 105, 115, 32] := ⟨_, rfl⟩
              have L2 : s2.length ≤ 34 := by rw [hs2]; first | (simp; omega) | omega
              have e2 : ∀ w, (Op.stringOp .add (str s1) (⟨#[32, 105, 115, 32]⟩ : ByteArray)).run Tryz.prog w = .ok (.string (str s2)) w := fun w => by rw [hs2]; exact sadd s1 [32, 105, 115, 32] (by first | (simp; omega) | omega) w
              obtain ⟨s3, hs3⟩ : ∃ s, s = s2 ++ nA := ⟨_, rfl⟩
              have L3 : s3.length ≤ 54 := by rw [hs3]; first | (simp; omega) | omega
              have e3 : ∀ w, (Op.stringOp .add (str s2) (str nA)).run Tryz.prog w = .ok (.string (str s3)) w := fun w => by rw [hs3]; exact sadd s2 nA (by first | (simp; omega) | omega) w
              have eS : ∀ w, (Op.stringOp .add (str S) (str s3)).run Tryz.prog w = .ok (.string (str (S ++ s3))) w := fun w => sadd S s3 (by omega) w
              have eN : ∀ w, (Op.stringOp .add (str (S ++ s3)) (⟨#[10]⟩ : ByteArray)).run Tryz.prog w = .ok (.string (str ((S ++ s3) ++ [10]))) w := fun w => sadd (S ++ s3) [10] (by simp; omega) w
              have HE := Lib.hid (show s3 = clT numD c by rw [HT.out, hs3, hs2, hs1, hnP, hnA])
              clear hs1 hs2 hs3 hnP hnO hnA hnE
              go_wp2_with fail
              go_quiet ((go_at_call 32; first | refine qt_of (q0 _ (by first | exact Qt.refl _ | exact ⟨_, rfl⟩)) | refine qt_of (q1 _ (by first | exact Qt.refl _ | exact ⟨_, rfl⟩))))
              have hq7 : Qt w6 (w6.drewN nq) := ⟨nq, rfl⟩
              generalize w6.drewN nq = w7 at hq7 ⊢
              clear k0 m0 q0 k1 m1 q1
              go_wp2_with fail
              go_roundw
              case rel =>
                refine ⟨k + 1, by omega, by go_num, ?_, bnx hB36 (hq7.below _)⟩
                rw [List.take_succ_eq_append_getElem hlt, List.flatMap_append, ← HC.out, HE.out, HSS.out]
                simp [List.append_assoc]
              case measure => simp [intOf]; omega
            · skip
              by_cases hk4 : c.kind = 4
              · have hcv : clV c = .iface 84 (.agg #[.int .i64 c.point, .int .i64 c.off]) := by unfold clV; rw [if_neg hk1, if_neg hk2, if_neg hk3, if_pos hk4]
                have HT := Lib.hid (show clT numD c = ((([98, 101, 121, 111, 110, 100, 32, 97, 116, 32] ++ numD c.point) ++ [32, 105, 115, 32]) ++ numD c.off) by unfold clT; rw [if_neg hk1, if_neg hk2, if_neg hk3, if_pos hk4])
                rw [hcv]
                have hp3 : In99 c.off ∧ 0 ≤ c.off := ⟨ha9, hai (by omega)⟩
                clear hcv hk1 hk2 hk3 hk4
                go_upto_region 21 with fail
                obtain ⟨w6, hw6⟩ : ∃ w6, w6 = w5.alloc (.cells #[.int .i64 c.point, .int .i64 c.off] 84) := ⟨_, rfl⟩
                obtain ⟨b6, hb6⟩ : ∃ b, b = w5.heap.size := ⟨_, rfl⟩
                have hC6 : Blk b6 #[.int .i64 c.point, .int .i64 c.off] 84 w6 := by rw [hw6, hb6]; exact Blk.new _ _ _
                have hB6 : Below w5.heap.size w5 w6 := by rw [hw6]; exact (Below.refl _ w5).alloc (Nat.le_refl _) _
                rw [← hw6, ← hb6]
                clear hw6 hb6
                have hB36 := bnx hB35 hB6
                have hBw6 := bnx hBw5 hB6
                have k0 := hC6.cell 0
                have m0 := (hC6.qt ((Qt.refl _).drewN 1)).cell 0
                have k1 := hC6.cell 1
                have m1 := (hC6.qt ((Qt.refl _).drewN 1)).cell 1
                have q0 := HIQ hBw6 c.point hp1
                rw [← hnP] at q0
                have q1 := HIQ hBw6 c.off hp3
                rw [← hnA] at q1
                obtain ⟨s1, hs1⟩ : ∃ s, s = [98, 101, 121, 111, 110, 100, 32, 97, 116, 32] ++ nP := ⟨_, rfl⟩
                have L1 : s1.length ≤ 30 := by rw [hs1]; first | (simp; omega) | omega
                have e1 : ∀ w, (Op.stringOp .add (⟨#[98, 101, 121, 111, 110, 100, 32, 97, 116, 32]⟩ : ByteArray) (str nP)).run Tryz.prog w = .ok (.string (str s1)) w := fun w => by rw [hs1]; exact sadd [98, 101, 121, 111, 110, 100, 32, 97, 116, 32] nP (by first | (simp; omega) | omega) w
                obtain ⟨s2, hs2⟩ : ∃ s, s = s1 ++ [32, 105, 115, 32] := ⟨_, rfl⟩
                have L2 : s2.length ≤ 34 := by rw [hs2]; first | (simp; omega) | omega
                have e2 : ∀ w, (Op.stringOp .add (str s1) (⟨#[32, 105, 115, 32]⟩ : ByteArray)).run Tryz.prog w = .ok (.string (str s2)) w := fun w => by rw [hs2]; exact sadd s1 [32, 105, 115, 32] (by first | (simp; omega) | omega) w
                obtain ⟨s3, hs3⟩ : ∃ s, s = s2 ++ nA := ⟨_, rfl⟩
                have L3 : s3.length ≤ 54 := by rw [hs3]; first | (simp; omega) | omega
                have e3 : ∀ w, (Op.stringOp .add (str s2) (str nA)).run Tryz.prog w = .ok (.string (str s3)) w := fun w => by rw [hs3]; exact sadd s2 nA (by first | (simp; omega) | omega) w
                have eS : ∀ w, (Op.stringOp .add (str S) (str s3)).run Tryz.prog w = .ok (.string (str (S ++ s3))) w := fun w => sadd S s3 (by omega) w
                have eN : ∀ w, (Op.stringOp .add (str (S ++ s3)) (⟨#[10]⟩ : ByteArray)).run Tryz.prog w = .ok (.string (str ((S ++ s3) ++ [10]))) w := fun w => sadd (S ++ s3) [10] (by simp; omega) w
                have HE := Lib.hid (show s3 = clT numD c by rw [HT.out, hs3, hs2, hs1, hnP, hnA])
                clear hs1 hs2 hs3 hnP hnO hnA hnE
                go_wp2_with fail
                go_quiet ((go_at_call 32; first | refine qt_of (q0 _ (by first | exact Qt.refl _ | exact ⟨_, rfl⟩)) | refine qt_of (q1 _ (by first | exact Qt.refl _ | exact ⟨_, rfl⟩))))
                have hq7 : Qt w6 (w6.drewN nq) := ⟨nq, rfl⟩
                generalize w6.drewN nq = w7 at hq7 ⊢
                clear k0 m0 q0 k1 m1 q1
                go_wp2_with fail
                go_roundw
                case rel =>
                  refine ⟨k + 1, by omega, by go_num, ?_, bnx hB36 (hq7.below _)⟩
                  rw [List.take_succ_eq_append_getElem hlt, List.flatMap_append, ← HC.out, HE.out, HSS.out]
                  simp [List.append_assoc]
                case measure => simp [intOf]; omega
              · skip
                have hcv : clV c = .iface 86 (.agg #[.int .i64 c.point, .int .i64 c.other, .int .i64 c.off]) := by unfold clV; rw [if_neg hk1, if_neg hk2, if_neg hk3, if_neg hk4]
                have HT := Lib.hid (show clT numD c = ((((([97, 98, 114, 101, 97, 115, 116, 32, 97, 116, 32] ++ numD c.point) ++ [32, 111, 102, 32]) ++ numD c.other) ++ [32, 105, 115, 32]) ++ numD c.off) by unfold clT; rw [if_neg hk1, if_neg hk2, if_neg hk3, if_neg hk4])
                rw [hcv]
                clear hcv hk1 hk2 hk3 hk4
                go_upto_region 24 with fail
                obtain ⟨w6, hw6⟩ : ∃ w6, w6 = w5.alloc (.cells #[.int .i64 c.point, .int .i64 c.other, .int .i64 c.off] 86) := ⟨_, rfl⟩
                obtain ⟨b6, hb6⟩ : ∃ b, b = w5.heap.size := ⟨_, rfl⟩
                have hC6 : Blk b6 #[.int .i64 c.point, .int .i64 c.other, .int .i64 c.off] 86 w6 := by rw [hw6, hb6]; exact Blk.new _ _ _
                have hB6 : Below w5.heap.size w5 w6 := by rw [hw6]; exact (Below.refl _ w5).alloc (Nat.le_refl _) _
                rw [← hw6, ← hb6]
                clear hw6 hb6
                have hB36 := bnx hB35 hB6
                have hBw6 := bnx hBw5 hB6
                have k0 := hC6.cell 0
                have m0 := (hC6.qt ((Qt.refl _).drewN 1)).cell 0
                have k1 := hC6.cell 1
                have m1 := (hC6.qt ((Qt.refl _).drewN 1)).cell 1
                have k2 := hC6.cell 2
                have m2 := (hC6.qt ((Qt.refl _).drewN 1)).cell 2
                obtain ⟨s1, hs1⟩ : ∃ s, s = [97, 98, 114, 101, 97, 115, 116, 32, 97, 116, 32] ++ nP := ⟨_, rfl⟩
                have L1 : s1.length ≤ 31 := by rw [hs1]; first | (simp; omega) | omega
                have e1 : ∀ w, (Op.stringOp .add (⟨#[97, 98, 114, 101, 97, 115, 116, 32, 97, 116, 32]⟩ : ByteArray) (str nP)).run Tryz.prog w = .ok (.string (str s1)) w := fun w => by rw [hs1]; exact sadd [97, 98, 114, 101, 97, 115, 116, 32, 97, 116, 32] nP (by first | (simp; omega) | omega) w
                obtain ⟨s2, hs2⟩ : ∃ s, s = s1 ++ [32, 111, 102, 32] := ⟨_, rfl⟩
                have L2 : s2.length ≤ 35 := by rw [hs2]; first | (simp; omega) | omega
                have e2 : ∀ w, (Op.stringOp .add (str s1) (⟨#[32, 111, 102, 32]⟩ : ByteArray)).run Tryz.prog w = .ok (.string (str s2)) w := fun w => by rw [hs2]; exact sadd s1 [32, 111, 102, 32] (by first | (simp; omega) | omega) w
                obtain ⟨s3, hs3⟩ : ∃ s, s = s2 ++ nO := ⟨_, rfl⟩
                have L3 : s3.length ≤ 55 := by rw [hs3]; first | (simp; omega) | omega
                have e3 : ∀ w, (Op.stringOp .add (str s2) (str nO)).run Tryz.prog w = .ok (.string (str s3)) w := fun w => by rw [hs3]; exact sadd s2 nO (by first | (simp; omega) | omega) w
                obtain ⟨s4, hs4⟩ : ∃ s, s = s3 ++ [32, 105, 115, 32] := ⟨_, rfl⟩
                have L4 : s4.length ≤ 59 := by rw [hs4]; first | (simp; omega) | omega
                have e4 : ∀ w, (Op.stringOp .add (str s3) (⟨#[32, 105, 115, 32]⟩ : ByteArray)).run Tryz.prog w = .ok (.string (str s4)) w := fun w => by rw [hs4]; exact sadd s3 [32, 105, 115, 32] (by first | (simp; omega) | omega) w
                obtain ⟨s5, hs5⟩ : ∃ s, s = s4 ++ nA := ⟨_, rfl⟩
                have L5 : s5.length ≤ 79 := by rw [hs5]; first | (simp; omega) | omega
                have e5 : ∀ w, (Op.stringOp .add (str s4) (str nA)).run Tryz.prog w = .ok (.string (str s5)) w := fun w => by rw [hs5]; exact sadd s4 nA (by first | (simp; omega) | omega) w
                have eS : ∀ w, (Op.stringOp .add (str S) (str s5)).run Tryz.prog w = .ok (.string (str (S ++ s5))) w := fun w => sadd S s5 (by omega) w
                have eN : ∀ w, (Op.stringOp .add (str (S ++ s5)) (⟨#[10]⟩ : ByteArray)).run Tryz.prog w = .ok (.string (str ((S ++ s5) ++ [10]))) w := fun w => sadd (S ++ s5) [10] (by simp; omega) w
                have HE := Lib.hid (show s5 = clT numD c by rw [HT.out, hs5, hs4, hs3, hs2, hs1, hnP, hnO, hnA])
                have HNP := Lib.hid hnP
                have HNO := Lib.hid hnO
                have HNA := Lib.hid hnA
                clear hs1 hs2 hs3 hs4 hs5 hnP hnO hnA hnE
                go_wp2_with fail
                refine wp_region_mix2 (.pur 0 (.pur 1 (.pur 2 (.pur 7 (.pur 8 (.pur 13 (.pur 14 (.one 3 (.one 9 (.one 15 (.act 4 (.pur 5 (.pur 6 (.act 10 (.pur 11 (.pur 12 (.act 16 (.pur 17 (.pur 18 (.pur 19 .fin)))))))))))))))))))) 16 (fun u => Blk b6 #[.int .i64 c.point, .int .i64 c.other, .int .i64 c.off] 86 u) (fun _ => True) (by kernel_rfl) (by kernel_rfl) rfl (by kernel_rfl) (hC6.qt ((Qt.refl _).drewN 1)) (fun wd hqd _ => ?_)
                have hC6d := hC6.qt hqd
                have hBd := hqd.below w6.heap.size
                refine mix_pur2 rfl (fun K hK => ?_)
                go_simp
                first | refine ⟨_, fun _ => rfl, hK _ ?_⟩ | refine hK _ ?_
                clear hK K
                refine mix_pur2 rfl (fun K hK => ?_)
                go_simp
                first | refine ⟨_, fun _ => rfl, hK _ ?_⟩ | refine hK _ ?_
                clear hK K
                refine mix_pur2 rfl (fun K hK => ?_)
                go_simp
                first | refine ⟨_, fun _ => rfl, hK _ ?_⟩ | refine hK _ ?_
                clear hK K
                refine mix_pur2 rfl (fun K hK => ?_)
                go_simp
                first | refine ⟨_, fun _ => rfl, hK _ ?_⟩ | refine hK _ ?_
                clear hK K
                refine mix_pur2 rfl (fun K hK => ?_)
                go_simp
                first | refine ⟨_, fun _ => rfl, hK _ ?_⟩ | refine hK _ ?_
                clear hK K
                refine mix_pur2 rfl (fun K hK => ?_)
                go_simp
                first | refine ⟨_, fun _ => rfl, hK _ ?_⟩ | refine hK _ ?_
                clear hK K
                refine mix_pur2 rfl (fun K hK => ?_)
                go_simp
                first | refine ⟨_, fun _ => rfl, hK _ ?_⟩ | refine hK _ ?_
                clear hK K
                refine mix_load2 rfl rfl rfl (.int .i64 c.point) (fun w' h => by have h : (fun u => Blk b6 #[.int .i64 c.point, .int .i64 c.other, .int .i64 c.off] 86 u) w' := h; have h0 := h.cell 0; go_simp) rfl ?_
                refine mix_load2 rfl rfl rfl (.int .i64 c.other) (fun w' h => by have h : (fun u => Blk b6 #[.int .i64 c.point, .int .i64 c.other, .int .i64 c.off] 86 u) w' := h; have h0 := h.cell 1; go_simp) rfl ?_
                refine mix_load2 rfl rfl rfl (.int .i64 c.off) (fun w' h => by have h : (fun u => Blk b6 #[.int .i64 c.point, .int .i64 c.other, .int .i64 c.off] 86 u) w' := h; have h0 := h.cell 2; go_simp) rfl ?_
                refine mix_eff2 rfl false rfl (fun K hK => ?_)
                go_simp
                refine (itoa_c c.point hp1.1 wd (hG.call (bnx hBw6 hBd))).mono ?_
                rintro e wq0 ⟨rfl, hBq0⟩
                rw [HNP.out.symm]
                have hC60 := hC6d.call hBq0
                have hBz0 := bnx hBd hBq0
                refine hK _ _ hC60 ?_
                clear hK K
                refine mix_pur2 rfl (fun K hK => ?_)
                go_simp
                first | refine ⟨_, fun _ => rfl, hK _ ?_⟩ | refine hK _ ?_
                clear hK K
                refine mix_pur2 rfl (fun K hK => ?_)
                go_simp
                first | refine ⟨_, fun _ => rfl, hK _ ?_⟩ | refine hK _ ?_
                clear hK K
                refine mix_eff2 rfl false rfl (fun K hK => ?_)
                go_simp
                refine (itoa_c c.other hp2.1 wq0 (hG.call (bnx hBw6 hBz0))).mono ?_
                rintro e wq1 ⟨rfl, hBq1⟩
                rw [HNO.out.symm]
                have hC61 := hC60.call hBq1
                have hBz1 := bnx hBz0 hBq1
                refine hK _ _ hC61 ?_
                clear hK K
                refine mix_pur2 rfl (fun K hK => ?_)
                go_simp
                first | refine ⟨_, fun _ => rfl, hK _ ?_⟩ | refine hK _ ?_
                clear hK K
                refine mix_pur2 rfl (fun K hK => ?_)
                go_simp
                first | refine ⟨_, fun _ => rfl, hK _ ?_⟩ | refine hK _ ?_
                clear hK K
                refine mix_eff2 rfl true rfl (fun K hK => ?_)
                go_simp
                refine (itoa_c c.off ha9 wq1 (hG.call (bnx hBw6 hBz1))).mono ?_
                rintro e wq2 ⟨rfl, hBq2⟩
                rw [HNA.out.symm]
                have hC62 := hC61.call hBq2
                have hBz2 := bnx hBz1 hBq2
                refine hK _ _ trivial ?_
                clear hK K
                refine mix_pur2 rfl (fun K hK => ?_)
                go_simp
                first | refine ⟨_, fun _ => rfl, hK _ ?_⟩ | refine hK _ ?_
                clear hK K
                refine mix_pur2 rfl (fun K hK => ?_)
                go_simp
                first | refine ⟨_, fun _ => rfl, hK _ ?_⟩ | refine hK _ ?_
                clear hK K
                refine mix_pur2 rfl (fun K hK => ?_)
                go_simp
                first | refine ⟨_, fun _ => rfl, hK _ ?_⟩ | refine hK _ ?_
                clear hK K
                refine mix_done2 ?_
                clear k0 m0 k1 m1 k2 m2
                go_wp2_with fail
                go_roundw
                case rel =>
                  refine ⟨k + 1, by omega, by go_num, ?_, bnx hB36 hBz2⟩
                  rw [List.take_succ_eq_append_getElem hlt, List.flatMap_append, ← HC.out, HE.out, HSS.out]
                  simp [List.append_assoc]
                case measure => simp [intOf]; omega
      · obtain rfl : k = x.claims.length := by omega
        rw [List.take_length]
        obtain ⟨S, hS⟩ : ∃ S, S = s4 ++ x.claims.flatMap fun c => clT numD c ++ [10] := ⟨_, rfl⟩
        have hSl : S.length ≤ 1000 := by
          have := flat_le 100 (fun c => clT numD c ++ [10]) x.claims (fun c hc => by have := clT_l (hPc c hc); simp; omega)
          rw [hS, List.length_append]
          omega
        rw [← hS]
        have HSS := Lib.hid hS
        clear hS
        have h4 := h3.call hB
        clear hcr
        go_wp2_with fail
        go_loopw [8, 142] (fun v8 v142 wu => ∃ k : Nat, k ≤ l.length ∧ v142 = .int .i64 k ∧ v8 = .string (str (S ++ (l.take k).flatMap (fuT numD))) ∧ Below wr.heap.size wr wu) (fun _ v142 _ => l.length - (intOf v142).toNat)
        case atStart => exact ⟨0, Nat.zero_le _, rfl, by simp, Below.refl _ _⟩
        case round =>
          rename World => wu
          obtain ⟨k, hk, rfl, rfl, hBu⟩ := hrel
          have hfr := h4.call hBu
          have hBuw := bnx hBr hBu
          by_cases hlt : k < l.length
          · obtain ⟨gf, of_, rfl, -, -⟩ := fus_addr hfr (by omega)
            obtain ⟨d0, d1, d2⟩ := fus_at hfr k hlt
            obtain ⟨Z, hZ⟩ : ∃ Z, Z = S ++ (l.take k).flatMap (fuT numD) := ⟨_, rfl⟩
            have hZl : Z.length ≤ 2000 := by
              have := flat_le 100 (fuT numD) (l.take k) (fun f hf => fuT_l (hPf f (List.mem_of_mem_take hf)))
              rw [hZ, List.length_append]
              have h5 := List.length_take_le k l
              omega
            rw [← hZ]
            have HZ := Lib.hid hZ
            clear hZ
            obtain ⟨f, hf⟩ : ∃ f, f = l[k] := ⟨_, rfl⟩
            have hPf1 := hPf f (by rw [hf]; exact List.getElem_mem _)
            have hp1 := hPf1.p
            have hp2 := hPf1.y
            have hp3 := hPf1.a
            rw [← hf] at d0 d1 d2
            have HF := Lib.hid hf
            clear hf
            go_upto_region 30 with fail
            obtain ⟨w5, hw5⟩ : ∃ w5, w5 = wu.alloc (.cells #[.int .i64 f.point, .int .i64 f.year, .int .i64 f.off] 73) := ⟨_, rfl⟩
            obtain ⟨b5, hb5⟩ : ∃ b, b = wu.heap.size := ⟨_, rfl⟩
            have hC5 : Blk b5 #[.int .i64 f.point, .int .i64 f.year, .int .i64 f.off] 73 w5 := by rw [hw5, hb5]; exact Blk.new _ _ _
            have hB5 : Below wu.heap.size wu w5 := by rw [hw5]; exact (Below.refl _ wu).alloc (Nat.le_refl _) _
            rw [← hw5, ← hb5]
            clear hw5 hb5 d0 d1 d2
            have hB45 := bnx hBu hB5
            have hBw5 := bnx hBr hB45
            obtain ⟨nP, hnP⟩ : ∃ n, n = numD f.point := ⟨_, rfl⟩
            obtain ⟨nO, hnO⟩ : ∃ n, n = numD f.year := ⟨_, rfl⟩
            obtain ⟨nA, hnA⟩ : ∃ n, n = numD f.off := ⟨_, rfl⟩
            have lP : nP.length ≤ 20 := by rw [hnP]; exact numD_l hp1.1
            have lO : nO.length ≤ 20 := by rw [hnO]; exact numD_l hp2.1
            have lA : nA.length ≤ 20 := by rw [hnA]; exact numD_l hp3.1
            have k0 := hC5.cell 0
            have m0 := (hC5.qt ((Qt.refl _).drewN 1)).cell 0
            have k1 := hC5.cell 1
            have m1 := (hC5.qt ((Qt.refl _).drewN 1)).cell 1
            have k2 := hC5.cell 2
            have m2 := (hC5.qt ((Qt.refl _).drewN 1)).cell 2
            have q0 := HIQ hBw5 f.point hp1
            rw [← hnP] at q0
            have q1 := HIQ hBw5 f.year hp2
            rw [← hnO] at q1
            have q2 := HIQ hBw5 f.off hp3
            rw [← hnA] at q2
            obtain ⟨s1, hs1⟩ : ∃ s, s = [102, 117, 114, 114, 111, 119, 32, 97, 116, 32] ++ nP := ⟨_, rfl⟩
            have L1 : s1.length ≤ 30 := by rw [hs1]; first | (simp; omega) | omega
            have e1 : ∀ w, (Op.stringOp .add (⟨#[102, 117, 114, 114, 111, 119, 32, 97, 116, 32]⟩ : ByteArray) (str nP)).run Tryz.prog w = .ok (.string (str s1)) w := fun w => by rw [hs1]; exact sadd [102, 117, 114, 114, 111, 119, 32, 97, 116, 32] nP (by first | (simp; omega) | omega) w
            obtain ⟨s2, hs2⟩ : ∃ s, s = s1 ++ [32, 121, 101, 97, 114, 32] := ⟨_, rfl⟩
            have L2 : s2.length ≤ 36 := by rw [hs2]; first | (simp; omega) | omega
            have e2 : ∀ w, (Op.stringOp .add (str s1) (⟨#[32, 121, 101, 97, 114, 32]⟩ : ByteArray)).run Tryz.prog w = .ok (.string (str s2)) w := fun w => by rw [hs2]; exact sadd s1 [32, 121, 101, 97, 114, 32] (by first | (simp; omega) | omega) w
            obtain ⟨s3, hs3⟩ : ∃ s, s = s2 ++ nO := ⟨_, rfl⟩
            have L3 : s3.length ≤ 56 := by rw [hs3]; first | (simp; omega) | omega
            have e3 : ∀ w, (Op.stringOp .add (str s2) (str nO)).run Tryz.prog w = .ok (.string (str s3)) w := fun w => by rw [hs3]; exact sadd s2 nO (by first | (simp; omega) | omega) w
            obtain ⟨s4, hs4⟩ : ∃ s, s = s3 ++ [32, 105, 115, 32] := ⟨_, rfl⟩
            have L4 : s4.length ≤ 60 := by rw [hs4]; first | (simp; omega) | omega
            have e4 : ∀ w, (Op.stringOp .add (str s3) (⟨#[32, 105, 115, 32]⟩ : ByteArray)).run Tryz.prog w = .ok (.string (str s4)) w := fun w => by rw [hs4]; exact sadd s3 [32, 105, 115, 32] (by first | (simp; omega) | omega) w
            obtain ⟨s5, hs5⟩ : ∃ s, s = s4 ++ nA := ⟨_, rfl⟩
            have L5 : s5.length ≤ 80 := by rw [hs5]; first | (simp; omega) | omega
            have e5 : ∀ w, (Op.stringOp .add (str s4) (str nA)).run Tryz.prog w = .ok (.string (str s5)) w := fun w => by rw [hs5]; exact sadd s4 nA (by first | (simp; omega) | omega) w
            obtain ⟨s6, hs6⟩ : ∃ s, s = s5 ++ [10] := ⟨_, rfl⟩
            have L6 : s6.length ≤ 81 := by rw [hs6]; first | (simp; omega) | omega
            have e6 : ∀ w, (Op.stringOp .add (str s5) (⟨#[10]⟩ : ByteArray)).run Tryz.prog w = .ok (.string (str s6)) w := fun w => by rw [hs6]; exact sadd s5 [10] (by first | (simp; omega) | omega) w
            have eS : ∀ w, (Op.stringOp .add (str Z) (str s6)).run Tryz.prog w = .ok (.string (str (Z ++ s6))) w := fun w => sadd Z s6 (by omega) w
            have HE := Lib.hid (show s6 = fuT numD f by rw [hs6, hs5, hs4, hs3, hs2, hs1, hnP, hnO, hnA]; rfl)
            clear hs1 hs2 hs3 hs4 hs5 hs6 hnP hnO hnA
            go_wp2_with fail
            go_quiet ((go_at_call 32; first | refine qt_of (q0 _ (by first | exact Qt.refl _ | exact ⟨_, rfl⟩)) | refine qt_of (q1 _ (by first | exact Qt.refl _ | exact ⟨_, rfl⟩)) | refine qt_of (q2 _ (by first | exact Qt.refl _ | exact ⟨_, rfl⟩))))
            have hq7 : Qt w5 (w5.drewN nq) := ⟨nq, rfl⟩
            generalize w5.drewN nq = w7 at hq7 ⊢
            clear k0 m0 q0 k1 m1 q1 k2 m2 q2
            go_wp2_with fail
            go_roundw
            case rel =>
              refine ⟨k + 1, by omega, by go_num, ?_, bnx hB45 (hq7.below _)⟩
              rw [List.take_succ_eq_append_getElem hlt, List.flatMap_append, ← HF.out, HE.out, HZ.out]
              simp [List.append_assoc]
            case measure => simp [intOf]; omega
          · obtain rfl : k = l.length := by omega
            rw [List.take_length]
            obtain ⟨Z, hZ⟩ : ∃ Z, Z = S ++ l.flatMap (fuT numD) := ⟨_, rfl⟩
            have hZl : Z.length ≤ 2000 := by
              have := flat_le 100 (fuT numD) l (fun f hf => fuT_l (hPf f hf))
              rw [hZ, List.length_append]
              omega
            rw [← hZ]
            have eZ : ∀ w, (Op.stringOp .add (str Z) (⟨#[101, 100, 103, 101, 100, 10]⟩ : ByteArray)).run Tryz.prog w = .ok (.string (str (Z ++ [101, 100, 103, 101, 100, 10]))) w := fun w => sadd Z [101, 100, 103, 101, 100, 10] (by simp; omega) w
            have HZ := Lib.hid hZ
            clear hZ
            go_wp2_with fail
            go_ret2
            rw [HR.out, HCK.out]
            refine ⟨?_, hBuw⟩
            rw [HZ.out, HSS.out, E4.out]
            rfl
  · have hb : (bothX x l != 0) = true := by simpa using hck
    rw [if_neg hck] at hR
    have HR := Lib.hid hR
    clear hR
    go_wp2_with fail
    go_ret2
    rw [HR.out]
    exact ⟨rfl, hB2w⟩

end Go.Proofs.YtbpfhoihfoojfaaGreatDoor
