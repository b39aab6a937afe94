/- The reference's Write; conditions: the library's variables hold what they are laid with. -/
import Derived.Test.YtbpfhoihfoojfaaGreatDoorR3
import Derived.Test.YtbpfhoihfoojfaaGreatDoorRfu
import Derived.Test.YtbpfhoihfoojfaaGreatDoorWrz
namespace Go.Proofs.YtbpfhoihfoojfaaGreatDoor
open Go.RowKit

theorem kind_word {k : Nat} (h : k < 6) : (kindsW.getD k []).length ≤ 7 := by
  have : ∀ k < 6, (kindsW.getD k []).length ≤ 7 := by decide
  exact this k h
theorem clT_kind {c : Cl} (h : 1 ≤ c.kind ∧ c.kind ≤ 5) : clT numD c = ((((kindsW.getD c.kind.toNat [] ++ [32, 97, 116, 32]) ++ numD c.point) ++ (if c.kind = 5 then [32, 111, 102, 32] ++ numD c.other else [])) ++ ([32, 105, 115, 32] ++ numD c.off)) ++ (if c.kind = 2 then [32, 101, 114, 114, 32] ++ numD c.err else []) := by
  obtain ⟨k1, k2⟩ := h
  unfold clT
  rcases (show c.kind = 1 ∨ c.kind = 2 ∨ c.kind = 3 ∨ c.kind = 4 ∨ c.kind = 5 by omega) with h | h | h | h | h <;> rw [h] <;> simp [kindsW, wSt, wMe, wWi, wBe, wAb]

set_option maxRecDepth 100000 in
set_option maxHeartbeats 4000000 in
theorem write_r {A A' : Nat → Prop} {w : World} {x : Edg} {vx v : Value} {l : List Fu} (hx : ClsM A w vx x.claims) (h : FusM A' w v l) (hG : GV w) :
    Calls Tryz.prog 10 #[.agg #[.int .i64 x.points, .int .i64 x.bend, vx], v] w fun e w' => e = .returned (.tuple #[.string (if bothX x l = 0 then str (edT numD x l) else ⟨#[]⟩), .int .i64 (bothX x l)]) ∧ Below w.heap.size w w' := by
  have HIQ : ∀ {wz : World}, Below w.heap.size w wz → ∀ i, In99 i ∧ 0 ≤ i → ∀ u, Qt wz u → Calls Tryz.prog 32 #[.int .i64 i] u fun e u' => e = .returned (.string (str (numD i))) ∧ Qt u u' := fun hB i hi u hu => (itoa_q i hi u).mono fun e u' hh => ⟨hh.1, by rw [hh.2]; exact Qt.refl _⟩
  obtain ⟨R, hR⟩ : ∃ R, R = (if bothX x l = 0 then str (edT numD x l) else ⟨#[]⟩) := ⟨_, rfl⟩
  rw [← hR]
  obtain ⟨ax, cx, rfl, _, _⟩ := hx.shape
  obtain ⟨al, cl, rfl, _, _⟩ := h.shape
  obtain ⟨w1, hw1⟩ : ∃ w1, w1 = w.alloc (.cells #[.int .i64 x.points, .int .i64 x.bend, .slice ax x.claims.length cx] 24) := ⟨_, rfl⟩
  obtain ⟨b0, hb0⟩ : ∃ b, b = w.heap.size := ⟨_, rfl⟩
  have hX1 : Blk b0 #[.int .i64 x.points, .int .i64 x.bend, .slice ax x.claims.length cx] 24 w1 := by rw [hw1, hb0]; exact blk_at rfl _ _
  have hB1 : Below w.heap.size w w1 := by rw [hw1]; exact (Below.refl _ w).alloc (Nat.le_refl _) _
  have hx1 := hx.call hB1
  have h1 := h.call hB1
  go_enter Tryz.func10, Tryz.ntmps10
  go_upto_region 1 with fail
  rw [← hw1, ← hb0]
  clear hw1 hb0
  have c0 := hX1.cell 0
  have c1 := hX1.cell 1
  have c2 := hX1.cell 2
  go_wp2_with fail
  clear c0 c1 c2
  refine (rready_c hx1 h1).mono ?_
  rintro e w2 ⟨rfl, hB2⟩
  have hX2 := hX1.call hB2
  have hx2 := hx1.call hB2
  have h2 := h1.call hB2
  have hB2w := bnx hB1 hB2
  by_cases hck : bothX x l = 0
  · have hb : (bothX x l != 0) = false := by rw [hck]; rfl
    obtain ⟨hok, hfx⟩ := both_zero hck
    obtain ⟨hf8, -, -⟩ := furX_facts hfx
    obtain ⟨hP1, hP2, hPc, hPf, -⟩ := okV hck
    have hm := hok.m
    rw [if_pos hck] at hR
    have HR := Lib.hid hR
    have HCK := Lib.hid hck
    clear hck hfx hok hR
    have c0 := hX2.cell 0
    have c1 := hX2.cell 1
    have c2 := hX2.cell 2
    have d0 := (hX2.qt ((Qt.refl _).drewN 1)).cell 0
    have d1 := (hX2.qt ((Qt.refl _).drewN 1)).cell 1
    have d2 := (hX2.qt ((Qt.refl _).drewN 1)).cell 2
    obtain ⟨n1, hn1⟩ : ∃ n, n = numD x.points := ⟨_, rfl⟩
    obtain ⟨n2, hn2⟩ : ∃ n, n = numD x.bend := ⟨_, rfl⟩
    have l1 : n1.length ≤ 20 := by rw [hn1]; exact numD_l hP1.1
    have l2 : n2.length ≤ 20 := by rw [hn2]; exact numD_l hP2.1
    have q1 := HIQ hB2w x.points hP1
    have q2 := HIQ hB2w x.bend hP2
    rw [← hn1] at q1
    rw [← hn2] at q2
    obtain ⟨s1, hs1⟩ : ∃ s, s = [101, 100, 103, 101, 32] ++ n1 := ⟨_, rfl⟩
    have Ls1 : s1.length ≤ 25 := by rw [hs1]; first | (simp; omega) | omega
    have es1 : ∀ w, (Op.stringOp .add (⟨#[101, 100, 103, 101, 32]⟩ : ByteArray) (str n1)).run Tryz.prog w = .ok (.string (str s1)) w := fun w => by rw [hs1]; exact sadd [101, 100, 103, 101, 32] n1 (by first | (simp; omega) | omega) w
    obtain ⟨s2, hs2⟩ : ∃ s, s = s1 ++ [32, 112, 111, 105, 110, 116, 115, 32, 98, 101, 110, 100, 32] := ⟨_, rfl⟩
    have Ls2 : s2.length ≤ 38 := by rw [hs2]; first | (simp; omega) | omega
    have es2 : ∀ w, (Op.stringOp .add (str s1) (⟨#[32, 112, 111, 105, 110, 116, 115, 32, 98, 101, 110, 100, 32]⟩ : ByteArray)).run Tryz.prog w = .ok (.string (str s2)) w := fun w => by rw [hs2]; exact sadd s1 [32, 112, 111, 105, 110, 116, 115, 32, 98, 101, 110, 100, 32] (by first | (simp; omega) | omega) w
    obtain ⟨s3, hs3⟩ : ∃ s, s = s2 ++ n2 := ⟨_, rfl⟩
    have Ls3 : s3.length ≤ 58 := by rw [hs3]; first | (simp; omega) | omega
    have es3 : ∀ w, (Op.stringOp .add (str s2) (str n2)).run Tryz.prog w = .ok (.string (str s3)) w := fun w => by rw [hs3]; exact sadd s2 n2 (by first | (simp; omega) | omega) w
    obtain ⟨s4, hs4⟩ : ∃ s, s = s3 ++ [10] := ⟨_, rfl⟩
    have Ls4 : s4.length ≤ 59 := by rw [hs4]; first | (simp; omega) | omega
    have es4 : ∀ w, (Op.stringOp .add (str s3) (⟨#[10]⟩ : ByteArray)).run Tryz.prog w = .ok (.string (str s4)) w := fun w => by rw [hs4]; exact sadd s3 [10] (by first | (simp; omega) | omega) w
    have E4 := Lib.hid (show s4 = hdT numD x by rw [hs4, hs3, hs2, hs1, hn1, hn2]; rfl)
    clear hs1 hs2 hs3 hs4 hn1 hn2 Ls1 Ls2 Ls3 l1 l2
    go_wp2_with fail
    go_quiet ((go_at_call 32; first | refine qt_of (q1 _ (by first | exact Qt.refl _ | exact ⟨_, rfl⟩)) | refine qt_of (q2 _ (by first | exact Qt.refl _ | exact ⟨_, rfl⟩))))
    have hq3 : Qt w2 (w2.drewN nq) := ⟨nq, rfl⟩
    generalize w2.drewN nq = w3 at hq3 ⊢
    have hX3 := hX2.qt hq3
    have hx3 := hx2.qt hq3
    have h3 := h2.qt hq3
    have hB3w := bnx hB2w (hq3.below _)
    clear c0 c1 c2 d0 d1 d2 es1 es2 es3 es4 q1 q2 hX2 hx2 h2 hB2 hX1 hx1 h1 hB1 hq3 hx h
    go_wp2_with fail
    go_loopw [7, 8] (fun v7 v8 wr => ∃ k : Nat, k ≤ x.claims.length ∧ v8 = .int .i64 k ∧ v7 = .string (str (s4 ++ (x.claims.take k).flatMap fun c => clT numD c ++ [10])) ∧ Below w3.heap.size w3 wr) (fun _ v8 _ => x.claims.length - (intOf v8).toNat)
    case atStart => exact ⟨0, Nat.zero_le _, rfl, by simp, Below.refl _ _⟩
    case round =>
      obtain ⟨k, hk, rfl, rfl, hB⟩ := hrel
      have hcr := hx3.call hB
      have hXr := hX3.call hB
      have hBr := bnx hB3w hB
      have c2 := hXr.cell 2
      by_cases hlt : k < x.claims.length
      · obtain ⟨gc, oc, rfl, -, -⟩ := cls_addr hcr (by omega)
        obtain ⟨d0, d1, d2, d3, d4⟩ := cls_at hcr k hlt
        obtain ⟨S, hS⟩ : ∃ S, S = s4 ++ (x.claims.take k).flatMap fun c => clT numD c ++ [10] := ⟨_, rfl⟩
        have hSl : S.length ≤ 1000 := by
          have := flat_le 100 (fun c => clT numD c ++ [10]) (x.claims.take k) (fun c hc => by have := clT_l (hPc c (List.mem_of_mem_take hc)); simp; omega)
          rw [hS, List.length_append]
          have h5 := List.length_take_le k x.claims
          omega
        rw [← hS]
        have HSS := Lib.hid hS
        clear hS
        obtain ⟨c, hc⟩ : ∃ c, c = x.claims[k] := ⟨_, rfl⟩
        have hPc1 := hPc c (by rw [hc]; exact List.getElem_mem _)
        rw [← hc] at d0 d1 d2 d3 d4
        have HC := Lib.hid hc
        clear hc
        go_upto_region 9 with fail
        obtain ⟨w4, hw4⟩ : ∃ w4, w4 = wr.alloc (.cells #[.int .i64 c.kind, .int .i64 c.point, .int .i64 c.other, .int .i64 c.off, .int .i64 c.err] 54) := ⟨_, rfl⟩
        obtain ⟨b4, hb4⟩ : ∃ b, b = wr.heap.size := ⟨_, rfl⟩
        have hC4 : Blk b4 #[.int .i64 c.kind, .int .i64 c.point, .int .i64 c.other, .int .i64 c.off, .int .i64 c.err] 54 w4 := by rw [hw4, hb4]; exact Blk.new _ _ _
        have hB4 : Below wr.heap.size wr w4 := by rw [hw4]; exact (Below.refl _ wr).alloc (Nat.le_refl _) _
        rw [← hw4, ← hb4]
        clear hw4 hb4 d0 d1 d2 d3 d4 c2
        have hB34 := bnx hB hB4
        have hBw4 := bnx hB3w hB34
        clear hB4 hcr hXr hBr hB
        obtain ⟨nP, hnP⟩ : ∃ n, n = numD c.point := ⟨_, rfl⟩
        obtain ⟨nO, hnO⟩ : ∃ n, n = numD c.other := ⟨_, rfl⟩
        obtain ⟨nA, hnA⟩ : ∃ n, n = numD c.off := ⟨_, rfl⟩
        obtain ⟨nE, hnE⟩ : ∃ n, n = numD c.err := ⟨_, rfl⟩
        obtain ⟨hp1, hp2, ha9, hai, hp4⟩ := clIn_all hPc1
        have lP : nP.length ≤ 20 := by rw [hnP]; exact numD_l hp1.1
        have lO : nO.length ≤ 20 := by rw [hnO]; exact numD_l hp2.1
        have lA : nA.length ≤ 20 := by rw [hnA]; exact numD_l ha9
        have lE : nE.length ≤ 20 := by rw [hnE]; exact numD_l hp4.1
        obtain ⟨kk, hkk⟩ : ∃ kk : Nat, c.kind = kk := ⟨c.kind.toNat, by have := hPc1.k; omega⟩
        have hk6 : kk < 6 := by have := hPc1.k; omega
        have hk0 : 1 ≤ kk := by have := hPc1.k; omega
        obtain ⟨kw, hkw⟩ : ∃ x, x = kindsW.getD kk [] := ⟨_, rfl⟩
        have lK : kw.length ≤ 20 := by rw [hkw]; have := kind_word hk6; omega
        have hn0 : ∀ (n : Nat) (u : World), SW n 0 kindsW u → u.cell? ⟨n, kk, none⟩ = some (.string (str kw)) := fun n u h => by
          have := h.2 kk (show kk < 6 by omega)
          rw [Nat.zero_add] at this
          rw [this, hkw]
          congr 3
          rw [List.getD_eq_getElem?_getD, List.getElem?_eq_getElem (show kk < kindsW.length from (show kk < 6 by omega))]
          rfl
        have HN0 := Lib.hid hn0
        have hkt : c.kind.toNat = kk := by omega
        have HCT := Lib.hid (clT_kind hPc1.k)
        have HKT := Lib.hid hkt
        have HKW := Lib.hid hkw
        have HNP := Lib.hid hnP
        have HNO := Lib.hid hnO
        have HNA := Lib.hid hnA
        have HNE := Lib.hid hnE
        rw [hkk] at hC4
        have HKK := Lib.hid hkk
        clear hn0 hkt hkw hnP hnO hnA hnE hkk
        have hki : 0 ≤ (kk : Int) := by omega
        have hki6 : (kk : Int) < 6 := by omega
        obtain ⟨t1, ht1⟩ : ∃ s, s = S ++ kw := ⟨_, rfl⟩
        have Lt1 : t1.length ≤ 1020 := by rw [ht1]; first | (simp; omega) | omega
        have et1 : ∀ w, (Op.stringOp .add (str S) (str kw)).run Tryz.prog w = .ok (.string (str t1)) w := fun w => by rw [ht1]; exact sadd S kw (by first | (simp; omega) | omega) w
        obtain ⟨t2, ht2⟩ : ∃ s, s = t1 ++ [32, 97, 116, 32] := ⟨_, rfl⟩
        have Lt2 : t2.length ≤ 1024 := by rw [ht2]; first | (simp; omega) | omega
        have et2 : ∀ w, (Op.stringOp .add (str t1) (⟨#[32, 97, 116, 32]⟩ : ByteArray)).run Tryz.prog w = .ok (.string (str t2)) w := fun w => by rw [ht2]; exact sadd t1 [32, 97, 116, 32] (by first | (simp; omega) | omega) w
        obtain ⟨t3, ht3⟩ : ∃ s, s = t2 ++ nP := ⟨_, rfl⟩
        have Lt3 : t3.length ≤ 1044 := by rw [ht3]; first | (simp; omega) | omega
        have et3 : ∀ w, (Op.stringOp .add (str t2) (str nP)).run Tryz.prog w = .ok (.string (str t3)) w := fun w => by rw [ht3]; exact sadd t2 nP (by first | (simp; omega) | omega) w
        have HT1 := Lib.hid ht1
        have HT2 := Lib.hid ht2
        have HT3 := Lib.hid ht3
        clear ht1 ht2 ht3
        have hb4 : b4 < w4.heap.size := hC4.lt
        go_upto_region 9 with fail
        go_cut [7] from 39 to 51 (fun s7 wx => s7 = .string (str t3) ∧ Blk b4 #[.int .i64 (kk : Int), .int .i64 c.point, .int .i64 c.other, .int .i64 c.off, .int .i64 c.err] 54 wx ∧ Below w4.heap.size w4 wx)
        case first =>
          go_wp2_with fail
          refine wp_region_mix2 (.pur 0 (.pur 2 (.pur 8 (.pur 3 (.pur 9 (.act 1 (.pur 4 (.one 5 (.pur 6 (.pur 7 (.act 10 (.pur 11 (.pur 12 .fin))))))))))))) 1 (fun u => Blk b4 #[.int .i64 (kk : Int), .int .i64 c.point, .int .i64 c.other, .int .i64 c.off, .int .i64 c.err] 54 u) (fun u => Blk b4 #[.int .i64 (kk : Int), .int .i64 c.point, .int .i64 c.other, .int .i64 c.off, .int .i64 c.err] 54 u ∧ u.cell? ⟨w4.heap.size, kk, none⟩ = some (.string (str kw))) (by kernel_rfl) (by kernel_rfl) rfl (by kernel_rfl) (hC4.qt ((Qt.refl _).drewN 1)) (fun wd hqd _ => ?_)
          have hsz := hqd.size
          have hCd := hC4.qt hqd
          have hBd := hqd.below w4.heap.size
          refine mix_pur2 rfl (fun K hK => ?_)
          go_simp
          first | refine ⟨_, fun _ => rfl, hK _ ?_⟩ | refine hK _ ?_
          clear hK K
          refine mix_pur2 rfl (fun K hK => ?_)
          go_simp
          first | refine ⟨_, fun _ => rfl, hK _ ?_⟩ | refine hK _ ?_
          clear hK K
          refine mix_pur2 rfl (fun K hK => ?_)
          go_simp
          first | refine ⟨_, fun _ => rfl, hK _ ?_⟩ | refine hK _ ?_
          clear hK K
          refine mix_pload2 rfl rfl rfl (.int .i64 (kk : Int)) (fun w' h => by have h : (fun u => Blk b4 #[.int .i64 (kk : Int), .int .i64 c.point, .int .i64 c.other, .int .i64 c.off, .int .i64 c.err] 54 u) w' ∨ (fun u => Blk b4 #[.int .i64 (kk : Int), .int .i64 c.point, .int .i64 c.other, .int .i64 c.off, .int .i64 c.err] 54 u ∧ u.cell? ⟨w4.heap.size, kk, none⟩ = some (.string (str kw))) w' := h; rcases h with h | h; all_goals (first | (have h0 := Blk.cell h 0; go_simp; done) | (have h0 := h.1.cell 0; go_simp))) rfl ?_
          refine mix_pload2 rfl rfl rfl (.int .i64 c.point) (fun w' h => by have h : (fun u => Blk b4 #[.int .i64 (kk : Int), .int .i64 c.point, .int .i64 c.other, .int .i64 c.off, .int .i64 c.err] 54 u) w' ∨ (fun u => Blk b4 #[.int .i64 (kk : Int), .int .i64 c.point, .int .i64 c.other, .int .i64 c.off, .int .i64 c.err] 54 u ∧ u.cell? ⟨w4.heap.size, kk, none⟩ = some (.string (str kw))) w' := h; rcases h with h | h; all_goals (first | (have h0 := Blk.cell h 1; go_simp; done) | (have h0 := h.1.cell 1; go_simp))) rfl ?_
          refine mix_eff2 rfl true rfl (fun K hK => ?_)
          go_simp
          refine (names_r wd).mono ?_
          rintro e w5 ⟨rfl, hS5, hB5⟩
          rw [hsz] at hS5 ⊢
          have hC5 := hCd.call hB5
          have hn5 := HN0.out _ _ hS5
          refine hK _ _ ⟨hC5, hn5⟩ ?_
          clear hK K hS5
          refine mix_pur2 rfl (fun K hK => ?_)
          go_simp
          first | refine ⟨_, fun _ => rfl, hK _ ?_⟩ | refine hK _ ?_
          clear hK K
          refine mix_load2 rfl rfl rfl (.string (str kw)) (fun w' h => by have h : (fun u => Blk b4 #[.int .i64 (kk : Int), .int .i64 c.point, .int .i64 c.other, .int .i64 c.off, .int .i64 c.err] 54 u ∧ u.cell? ⟨w4.heap.size, kk, none⟩ = some (.string (str kw))) w' := h; have h0 := h.2; go_simp) rfl ?_
          refine mix_pur2 rfl (fun K hK => ?_)
          go_simp
          first | refine ⟨_, fun _ => rfl, hK _ ?_⟩ | refine hK _ ?_
          clear hK K
          refine mix_pur2 rfl (fun K hK => ?_)
          go_simp
          first | refine ⟨_, fun _ => rfl, hK _ ?_⟩ | refine hK _ ?_
          clear hK K
          refine mix_eff2 rfl true rfl (fun K hK => ?_)
          go_simp
          refine (itoa_q c.point hp1 w5).mono ?_
          rintro e w6 ⟨rfl, rfl⟩
          rename World => w5
          rw [HNP.out.symm]
          refine hK _ _ ⟨hC5, hn5⟩ ?_
          clear hK K
          refine mix_pur2 rfl (fun K hK => ?_)
          go_simp
          first | refine ⟨_, fun _ => rfl, hK _ ?_⟩ | refine hK _ ?_
          clear hK K
          refine mix_pur2 rfl (fun K hK => ?_)
          go_simp
          first | refine ⟨_, fun _ => rfl, hK _ ?_⟩ | refine hK _ ?_
          clear hK K
          refine mix_done2 ?_
          rw [hsz] at hB5
          have hBe := hBd.trans hB5
          clear hsz
          go_wp2_with fail
          go_meet
          case rel => exact ⟨rfl, hC5, hBe⟩
        case rest =>
        obtain ⟨rfl, hC5, hB5⟩ := hcut
        rename World => w5
        have hB35 := bnx hB34 hB5
        have hBw5 := bnx hB3w hB35
        clear hC4 hB34 hBw4 hB5 et1 et2 et3 hb4 hki hki6
        by_cases h5 : kk = 5
        · have h2 : ¬ kk = 2 := by omega
          have bk5 : ((kk : Int) == 5) = true := by rw [h5]; rfl
          have bk2 : ((kk : Int) == 2) = false := by rw [beq_eq_false_iff_ne]; omega
          have H5 := Lib.hid h5
          have H2 := Lib.hid h2
          clear h5 h2
          obtain ⟨u1, hu1⟩ : ∃ s, s = t3 ++ [32, 111, 102, 32] := ⟨_, rfl⟩
          have Lu1 : u1.length ≤ 1054 := by rw [hu1]; first | (simp; omega) | omega
          have eu1 : ∀ w, (Op.stringOp .add (str t3) (⟨#[32, 111, 102, 32]⟩ : ByteArray)).run Tryz.prog w = .ok (.string (str u1)) w := fun w => by rw [hu1]; exact sadd t3 [32, 111, 102, 32] (by first | (simp; omega) | omega) w
          obtain ⟨u2, hu2⟩ : ∃ s, s = u1 ++ nO := ⟨_, rfl⟩
          have Lu2 : u2.length ≤ 1074 := by rw [hu2]; first | (simp; omega) | omega
          have eu2 : ∀ w, (Op.stringOp .add (str u1) (str nO)).run Tryz.prog w = .ok (.string (str u2)) w := fun w => by rw [hu2]; exact sadd u1 nO (by first | (simp; omega) | omega) w
          obtain ⟨u3, hu3⟩ : ∃ s, s = u2 ++ [32, 105, 115, 32] := ⟨_, rfl⟩
          have Lu3 : u3.length ≤ 1078 := by rw [hu3]; first | (simp; omega) | omega
          have eu3 : ∀ w, (Op.stringOp .add (str u2) (⟨#[32, 105, 115, 32]⟩ : ByteArray)).run Tryz.prog w = .ok (.string (str u3)) w := fun w => by rw [hu3]; exact sadd u2 [32, 105, 115, 32] (by first | (simp; omega) | omega) w
          obtain ⟨u4, hu4⟩ : ∃ s, s = u3 ++ nA := ⟨_, rfl⟩
          have Lu4 : u4.length ≤ 1098 := by rw [hu4]; first | (simp; omega) | omega
          have eu4 : ∀ w, (Op.stringOp .add (str u3) (str nA)).run Tryz.prog w = .ok (.string (str u4)) w := fun w => by rw [hu4]; exact sadd u3 nA (by first | (simp; omega) | omega) w
          have eN : ∀ w, (Op.stringOp .add (str u4) (⟨#[10]⟩ : ByteArray)).run Tryz.prog w = .ok (.string (str (u4 ++ [10]))) w := fun w => sadd u4 [10] (by simp; omega) w
          have HE := Lib.hid (show u4 = S ++ clT numD c by
            rw [HCT.out]
            rw [if_pos (show c.kind = 5 by rw [HKK.out, H5.out]; rfl)]
            rw [if_neg (show ¬ c.kind = 2 by have := HKK.out; have := H2.out; omega)]
            rw [hu4, hu3, hu2, hu1, HT3.out, HT2.out, HT1.out, HKT.out, ← HKW.out, ← HNP.out, ← HNA.out, ← HNO.out]
            simp [List.append_assoc])
          clear hu1 hu2 hu3 hu4
          have k0 := hC5.cell 0
          have k1 := hC5.cell 1
          have k2 := hC5.cell 2
          have k3 := hC5.cell 3
          have k4 := hC5.cell 4
          go_wp2_with fail
          refine (itoa_q c.other hp2 w5).mono ?_
          rintro e w6 ⟨rfl, rfl⟩
          rename World => w5
          rw [HNO.out.symm]
          go_wp2_with fail
          refine (itoa_c c.off ha9 w5 (hG.call (bnx hB3w hB35))).mono ?_
          rintro e w6 ⟨rfl, hB6⟩
          rw [HNA.out.symm]
          have hC6 := hC5.call hB6
          have hB36 := bnx hB35 hB6
          clear k0 k1 k2 k3 k4
          have k0 := hC6.cell 0
          have k1 := hC6.cell 1
          have k2 := hC6.cell 2
          have k3 := hC6.cell 3
          have k4 := hC6.cell 4
          go_wp2_with fail
          go_roundw
          case rel =>
            refine ⟨k + 1, by omega, by go_num, ?_, hB36⟩
            rw [List.take_succ_eq_append_getElem hlt, List.flatMap_append, ← HC.out, HE.out, HSS.out]
            simp [List.append_assoc]
          case measure => simp [intOf]; omega
        · by_cases h2 : kk = 2
          · skip
            have bk5 : ((kk : Int) == 5) = false := by rw [beq_eq_false_iff_ne]; omega
            have bk2 : ((kk : Int) == 2) = true := by rw [h2]; rfl
            have H5 := Lib.hid h5
            have H2 := Lib.hid h2
            clear h5 h2
            obtain ⟨u1, hu1⟩ : ∃ s, s = t3 ++ [32, 105, 115, 32] := ⟨_, rfl⟩
            have Lu1 : u1.length ≤ 1054 := by rw [hu1]; first | (simp; omega) | omega
            have eu1 : ∀ w, (Op.stringOp .add (str t3) (⟨#[32, 105, 115, 32]⟩ : ByteArray)).run Tryz.prog w = .ok (.string (str u1)) w := fun w => by rw [hu1]; exact sadd t3 [32, 105, 115, 32] (by first | (simp; omega) | omega) w
            obtain ⟨u2, hu2⟩ : ∃ s, s = u1 ++ nA := ⟨_, rfl⟩
            have Lu2 : u2.length ≤ 1074 := by rw [hu2]; first | (simp; omega) | omega
            have eu2 : ∀ w, (Op.stringOp .add (str u1) (str nA)).run Tryz.prog w = .ok (.string (str u2)) w := fun w => by rw [hu2]; exact sadd u1 nA (by first | (simp; omega) | omega) w
            obtain ⟨u3, hu3⟩ : ∃ s, s = u2 ++ [32, 101, 114, 114, 32] := ⟨_, rfl⟩
            have Lu3 : u3.length ≤ 1079 := by rw [hu3]; first | (simp; omega) | omega
            have eu3 : ∀ w, (Op.stringOp .add (str u2) (⟨#[32, 101, 114, 114, 32]⟩ : ByteArray)).run Tryz.prog w = .ok (.string (str u3)) w := fun w => by rw [hu3]; exact sadd u2 [32, 101, 114, 114, 32] (by first | (simp; omega) | omega) w
            obtain ⟨u4, hu4⟩ : ∃ s, s = u3 ++ nE := ⟨_, rfl⟩
            have Lu4 : u4.length ≤ 1099 := by rw [hu4]; first | (simp; omega) | omega
            have eu4 : ∀ w, (Op.stringOp .add (str u3) (str nE)).run Tryz.prog w = .ok (.string (str u4)) w := fun w => by rw [hu4]; exact sadd u3 nE (by first | (simp; omega) | omega) w
            have eN : ∀ w, (Op.stringOp .add (str u4) (⟨#[10]⟩ : ByteArray)).run Tryz.prog w = .ok (.string (str (u4 ++ [10]))) w := fun w => sadd u4 [10] (by simp; omega) w
            have HE := Lib.hid (show u4 = S ++ clT numD c by
              rw [HCT.out]
              rw [if_neg (show ¬ c.kind = 5 by have := HKK.out; have := H5.out; omega)]
              rw [if_pos (show c.kind = 2 by rw [HKK.out, H2.out]; rfl)]
              rw [hu4, hu3, hu2, hu1, HT3.out, HT2.out, HT1.out, HKT.out, ← HKW.out, ← HNP.out, ← HNA.out, ← HNE.out]
              simp [List.append_assoc])
            clear hu1 hu2 hu3 hu4
            have k0 := hC5.cell 0
            have k1 := hC5.cell 1
            have k2 := hC5.cell 2
            have k3 := hC5.cell 3
            have k4 := hC5.cell 4
            go_wp2_with fail
            refine (itoa_c c.off ha9 w5 (hG.call (bnx hB3w hB35))).mono ?_
            rintro e w6 ⟨rfl, hB6⟩
            rw [HNA.out.symm]
            have hC6 := hC5.call hB6
            have hB36 := bnx hB35 hB6
            clear k0 k1 k2 k3 k4
            have k0 := hC6.cell 0
            have k1 := hC6.cell 1
            have k2 := hC6.cell 2
            have k3 := hC6.cell 3
            have k4 := hC6.cell 4
            go_wp2_with fail
            refine (itoa_q c.err hp4 w6).mono ?_
            rintro e w7 ⟨rfl, rfl⟩
            rename World => w6
            rw [HNE.out.symm]
            go_wp2_with fail
            go_roundw
            case rel =>
              refine ⟨k + 1, by omega, by go_num, ?_, hB36⟩
              rw [List.take_succ_eq_append_getElem hlt, List.flatMap_append, ← HC.out, HE.out, HSS.out]
              simp [List.append_assoc]
            case measure => simp [intOf]; omega
          · skip
            have bk5 : ((kk : Int) == 5) = false := by rw [beq_eq_false_iff_ne]; omega
            have bk2 : ((kk : Int) == 2) = false := by rw [beq_eq_false_iff_ne]; omega
            have H5 := Lib.hid h5
            have H2 := Lib.hid h2
            clear h5 h2
            obtain ⟨u1, hu1⟩ : ∃ s, s = t3 ++ [32, 105, 115, 32] := ⟨_, rfl⟩
            have Lu1 : u1.length ≤ 1054 := by rw [hu1]; first | (simp; omega) | omega
            have eu1 : ∀ w, (Op.stringOp .add (str t3) (⟨#[32, 105, 115, 32]⟩ : ByteArray)).run Tryz.prog w = .ok (.string (str u1)) w := fun w => by rw [hu1]; exact sadd t3 [32, 105, 115, 32] (by first | (simp; omega) | omega) w
            obtain ⟨u2, hu2⟩ : ∃ s, s = u1 ++ nA := ⟨_, rfl⟩
            have Lu2 : u2.length ≤ 1074 := by rw [hu2]; first | (simp; omega) | omega
            have eu2 : ∀ w, (Op.stringOp .add (str u1) (str nA)).run Tryz.prog w = .ok (.string (str u2)) w := fun w => by rw [hu2]; exact sadd u1 nA (by first | (simp; omega) | omega) w
            have eN : ∀ w, (Op.stringOp .add (str u2) (⟨#[10]⟩ : ByteArray)).run Tryz.prog w = .ok (.string (str (u2 ++ [10]))) w := fun w => sadd u2 [10] (by simp; omega) w
            have HE := Lib.hid (show u2 = S ++ clT numD c by
              rw [HCT.out]
              rw [if_neg (show ¬ c.kind = 5 by have := HKK.out; have := H5.out; omega)]
              rw [if_neg (show ¬ c.kind = 2 by have := HKK.out; have := H2.out; omega)]
              rw [hu2, hu1, HT3.out, HT2.out, HT1.out, HKT.out, ← HKW.out, ← HNP.out, ← HNA.out]
              simp [List.append_assoc])
            clear hu1 hu2
            have k0 := hC5.cell 0
            have k1 := hC5.cell 1
            have k2 := hC5.cell 2
            have k3 := hC5.cell 3
            have k4 := hC5.cell 4
            go_wp2_with fail
            refine (itoa_c c.off ha9 w5 (hG.call (bnx hB3w hB35))).mono ?_
            rintro e w6 ⟨rfl, hB6⟩
            rw [HNA.out.symm]
            have hC6 := hC5.call hB6
            have hB36 := bnx hB35 hB6
            clear k0 k1 k2 k3 k4
            have k0 := hC6.cell 0
            have k1 := hC6.cell 1
            have k2 := hC6.cell 2
            have k3 := hC6.cell 3
            have k4 := hC6.cell 4
            go_wp2_with fail
            go_roundw
            case rel =>
              refine ⟨k + 1, by omega, by go_num, ?_, hB36⟩
              rw [List.take_succ_eq_append_getElem hlt, List.flatMap_append, ← HC.out, HE.out, HSS.out]
              simp [List.append_assoc]
            case measure => simp [intOf]; omega
      · obtain rfl : k = x.claims.length := by omega
        rw [List.take_length]
        obtain ⟨S, hS⟩ : ∃ S, S = s4 ++ x.claims.flatMap fun c => clT numD c ++ [10] := ⟨_, rfl⟩
        have hSl : S.length ≤ 1000 := by
          have := flat_le 100 (fun c => clT numD c ++ [10]) x.claims (fun c hc => by have := clT_l (hPc c hc); simp; omega)
          rw [hS, List.length_append]
          omega
        rw [← hS]
        have HSS := Lib.hid hS
        clear hS
        have h4 := h3.call hB
        clear hcr
        go_wp2_with fail
        clear c2
        go_loopw [7, 10] (fun v7 v10 wu => ∃ k : Nat, k ≤ l.length ∧ v10 = .int .i64 k ∧ v7 = .string (str (S ++ (l.take k).flatMap (fuT numD))) ∧ Below wr.heap.size wr wu) (fun _ v10 _ => l.length - (intOf v10).toNat)
        case atStart => exact ⟨0, Nat.zero_le _, rfl, by simp, Below.refl _ _⟩
        case round =>
          rename World => wu
          obtain ⟨k, hk, rfl, rfl, hBu⟩ := hrel
          have hfr := h4.call hBu
          have hBuw := bnx hBr hBu
          by_cases hlt : k < l.length
          · obtain ⟨gf, of_, rfl, -, -⟩ := fus_addr hfr (by omega)
            obtain ⟨d0, d1, d2⟩ := fus_at hfr k hlt
            obtain ⟨f0, f1, f2⟩ := fus_at (hfr.call (((Qt.refl wu).drewN 1).below _)) k hlt
            obtain ⟨Z, hZ⟩ : ∃ Z, Z = S ++ (l.take k).flatMap (fuT numD) := ⟨_, rfl⟩
            have hZl : Z.length ≤ 2000 := by
              have := flat_le 100 (fuT numD) (l.take k) (fun f hf => fuT_l (hPf f (List.mem_of_mem_take hf)))
              rw [hZ, List.length_append]
              have h5 := List.length_take_le k l
              omega
            rw [← hZ]
            have HZ := Lib.hid hZ
            clear hZ
            obtain ⟨f, hf⟩ : ∃ f, f = l[k] := ⟨_, rfl⟩
            have hPf1 := hPf f (by rw [hf]; exact List.getElem_mem _)
            have hp1 := hPf1.p
            have hp2 := hPf1.y
            have hp3 := hPf1.a
            rw [← hf] at d0 d1 d2 f0 f1 f2
            have HF := Lib.hid hf
            clear hf
            obtain ⟨nP, hnP⟩ : ∃ n, n = numD f.point := ⟨_, rfl⟩
            obtain ⟨nO, hnO⟩ : ∃ n, n = numD f.year := ⟨_, rfl⟩
            obtain ⟨nA, hnA⟩ : ∃ n, n = numD f.off := ⟨_, rfl⟩
            have lP : nP.length ≤ 20 := by rw [hnP]; exact numD_l hp1.1
            have lO : nO.length ≤ 20 := by rw [hnO]; exact numD_l hp2.1
            have lA : nA.length ≤ 20 := by rw [hnA]; exact numD_l hp3.1
            have q0 := HIQ hBuw f.point hp1
            rw [← hnP] at q0
            have q1 := HIQ hBuw f.year hp2
            rw [← hnO] at q1
            have q2 := HIQ hBuw f.off hp3
            rw [← hnA] at q2
            obtain ⟨z1, hz1⟩ : ∃ s, s = Z ++ [102, 117, 114, 114, 111, 119, 32, 97, 116, 32] := ⟨_, rfl⟩
            have Lz1 : z1.length ≤ 2010 := by rw [hz1]; first | (simp; omega) | omega
            have ez1 : ∀ w, (Op.stringOp .add (str Z) (⟨#[102, 117, 114, 114, 111, 119, 32, 97, 116, 32]⟩ : ByteArray)).run Tryz.prog w = .ok (.string (str z1)) w := fun w => by rw [hz1]; exact sadd Z [102, 117, 114, 114, 111, 119, 32, 97, 116, 32] (by first | (simp; omega) | omega) w
            obtain ⟨z2, hz2⟩ : ∃ s, s = z1 ++ nP := ⟨_, rfl⟩
            have Lz2 : z2.length ≤ 2030 := by rw [hz2]; first | (simp; omega) | omega
            have ez2 : ∀ w, (Op.stringOp .add (str z1) (str nP)).run Tryz.prog w = .ok (.string (str z2)) w := fun w => by rw [hz2]; exact sadd z1 nP (by first | (simp; omega) | omega) w
            obtain ⟨z3, hz3⟩ : ∃ s, s = z2 ++ [32, 121, 101, 97, 114, 32] := ⟨_, rfl⟩
            have Lz3 : z3.length ≤ 2036 := by rw [hz3]; first | (simp; omega) | omega
            have ez3 : ∀ w, (Op.stringOp .add (str z2) (⟨#[32, 121, 101, 97, 114, 32]⟩ : ByteArray)).run Tryz.prog w = .ok (.string (str z3)) w := fun w => by rw [hz3]; exact sadd z2 [32, 121, 101, 97, 114, 32] (by first | (simp; omega) | omega) w
            obtain ⟨z4, hz4⟩ : ∃ s, s = z3 ++ nO := ⟨_, rfl⟩
            have Lz4 : z4.length ≤ 2056 := by rw [hz4]; first | (simp; omega) | omega
            have ez4 : ∀ w, (Op.stringOp .add (str z3) (str nO)).run Tryz.prog w = .ok (.string (str z4)) w := fun w => by rw [hz4]; exact sadd z3 nO (by first | (simp; omega) | omega) w
            obtain ⟨z5, hz5⟩ : ∃ s, s = z4 ++ [32, 105, 115, 32] := ⟨_, rfl⟩
            have Lz5 : z5.length ≤ 2060 := by rw [hz5]; first | (simp; omega) | omega
            have ez5 : ∀ w, (Op.stringOp .add (str z4) (⟨#[32, 105, 115, 32]⟩ : ByteArray)).run Tryz.prog w = .ok (.string (str z5)) w := fun w => by rw [hz5]; exact sadd z4 [32, 105, 115, 32] (by first | (simp; omega) | omega) w
            obtain ⟨z6, hz6⟩ : ∃ s, s = z5 ++ nA := ⟨_, rfl⟩
            have Lz6 : z6.length ≤ 2080 := by rw [hz6]; first | (simp; omega) | omega
            have ez6 : ∀ w, (Op.stringOp .add (str z5) (str nA)).run Tryz.prog w = .ok (.string (str z6)) w := fun w => by rw [hz6]; exact sadd z5 nA (by first | (simp; omega) | omega) w
            obtain ⟨z7, hz7⟩ : ∃ s, s = z6 ++ [10] := ⟨_, rfl⟩
            have Lz7 : z7.length ≤ 2081 := by rw [hz7]; first | (simp; omega) | omega
            have ez7 : ∀ w, (Op.stringOp .add (str z6) (⟨#[10]⟩ : ByteArray)).run Tryz.prog w = .ok (.string (str z7)) w := fun w => by rw [hz7]; exact sadd z6 [10] (by first | (simp; omega) | omega) w
            have HE := Lib.hid (show z7 = Z ++ fuT numD f by rw [hz7, hz6, hz5, hz4, hz3, hz2, hz1, hnP, hnO, hnA]; simp [fuT])
            clear hz1 hz2 hz3 hz4 hz5 hz6 hz7 hnP hnO hnA
            go_wp2_with fail
            go_quiet ((go_at_call 32; first | refine qt_of (q0 _ (by first | exact Qt.refl _ | exact ⟨_, rfl⟩)) | refine qt_of (q1 _ (by first | exact Qt.refl _ | exact ⟨_, rfl⟩)) | refine qt_of (q2 _ (by first | exact Qt.refl _ | exact ⟨_, rfl⟩))))
            have hq7 : Qt wu (wu.drewN nq) := ⟨nq, rfl⟩
            generalize wu.drewN nq = w7 at hq7 ⊢
            clear d0 d1 d2 f0 f1 f2 q0 q1 q2
            go_wp2_with fail
            go_roundw
            case rel =>
              refine ⟨k + 1, by omega, by go_num, ?_, bnx hBu (hq7.below _)⟩
              rw [List.take_succ_eq_append_getElem hlt, List.flatMap_append, ← HF.out, HE.out, HZ.out]
              simp [List.append_assoc]
            case measure => simp [intOf]; omega
          · obtain rfl : k = l.length := by omega
            rw [List.take_length]
            obtain ⟨Z, hZ⟩ : ∃ Z, Z = S ++ l.flatMap (fuT numD) := ⟨_, rfl⟩
            have hZl : Z.length ≤ 2000 := by
              have := flat_le 100 (fuT numD) l (fun f hf => fuT_l (hPf f hf))
              rw [hZ, List.length_append]
              omega
            rw [← hZ]
            have eZ : ∀ w, (Op.stringOp .add (str Z) (⟨#[101, 100, 103, 101, 100, 10]⟩ : ByteArray)).run Tryz.prog w = .ok (.string (str (Z ++ [101, 100, 103, 101, 100, 10]))) w := fun w => sadd Z [101, 100, 103, 101, 100, 10] (by simp; omega) w
            have HZ := Lib.hid hZ
            clear hZ
            go_wp2_with fail
            go_ret2
            rw [HR.out, HCK.out]
            refine ⟨?_, hBuw⟩
            rw [HZ.out, HSS.out, E4.out]
            rfl
  · have hb : (bothX x l != 0) = true := by simpa using hck
    rw [if_neg hck] at hR
    have HR := Lib.hid hR
    clear hR
    go_wp2_with fail
    go_ret2
    rw [HR.out]
    exact ⟨rfl, hB2w⟩

end Go.Proofs.YtbpfhoihfoojfaaGreatDoor
