/- The text of an edge and its furrows; conditions: numbers are written as said. -/
import Derived.Test.YtgljiabmfcobiaaDoorFq
import Derived.Laws.Strings
import Derived.Laws.Concat
namespace Go.Proofs.YtgljiabmfcobiaaDoor
open Go.RowKit

attribute [local go_sem] ta133_133 ta135_133 ta135_135 ta136_133 ta136_135 ta136_136 ta137_133 ta137_135 ta137_136 ta137_137 ta139_133 ta139_135 ta139_136 ta139_137 ta139_139

/-- A string of a list. -/
def str (l : List UInt8) : ByteArray := ⟨l.toArray⟩
theorem sadd {P : Program} (x y : List UInt8) (h : x.length + y.length ≤ 9000000000000000000) (w : World) : (Op.stringOp .add (str x) (str y)).run P w = .ok (.string (str (x ++ y))) w := by
  unfold str
  rw [run_string_add_sum w _ _ (by simp [ByteArray.size]; omega), ByteArray.mk_append_mk]
/-- A claim's line. -/
def clT (num : Int → List UInt8) (c : Cl) : List UInt8 :=
  if c.kind = 1 then ((([115, 116, 111, 110, 101, 32, 97, 116, 32] ++ num c.point) ++ [32, 105, 115, 32]) ++ num c.off)
  else if c.kind = 2 then ((((([109, 101, 97, 115, 117, 114, 101, 32, 97, 116, 32] ++ num c.point) ++ [32, 105, 115, 32]) ++ num c.off) ++ [32, 101, 114, 114, 32]) ++ num c.err)
  else if c.kind = 3 then ((([119, 105, 116, 104, 105, 110, 32, 97, 116, 32] ++ num c.point) ++ [32, 105, 115, 32]) ++ num c.off)
  else if c.kind = 4 then ((([98, 101, 121, 111, 110, 100, 32, 97, 116, 32] ++ num c.point) ++ [32, 105, 115, 32]) ++ num c.off)
  else ((((([97, 98, 114, 101, 97, 115, 116, 32, 97, 116, 32] ++ num c.point) ++ [32, 111, 102, 32]) ++ num c.other) ++ [32, 105, 115, 32]) ++ num c.off)
/-- A furrow's line. -/
def fuT (num : Int → List UInt8) (f : Fu) : List UInt8 := ((((([102, 117, 114, 114, 111, 119, 32, 97, 116, 32] ++ num f.point) ++ [32, 121, 101, 97, 114, 32]) ++ num f.year) ++ [32, 105, 115, 32]) ++ num f.off) ++ [10]
/-- The text of an edge and furrows. -/
def hdT (num : Int → List UInt8) (x : Edg) : List UInt8 := (([101, 100, 103, 101, 32] ++ num x.points) ++ [32, 112, 111, 105, 110, 116, 115, 32, 98, 101, 110, 100, 32]) ++ num x.bend ++ [10]
def edT (num : Int → List UInt8) (x : Edg) (l : List Fu) : List UInt8 := hdT num x ++ (x.claims.flatMap fun c => clT num c ++ [10]) ++ (l.flatMap (fuT num)) ++ [101, 100, 103, 101, 100, 10]
theorem clT_len {num : Int → List UInt8} (hn : ∀ i, (num i).length ≤ 20) (c : Cl) : (clT num c).length ≤ 99 := by
  have h1 := hn c.point
  have h2 := hn c.other
  have h3 := hn c.off
  have h4 := hn c.err
  unfold clT
  split
  · simp; omega
  split
  · simp; omega
  split
  · simp; omega
  split
  · simp; omega
  · simp; omega
theorem fuT_len {num : Int → List UInt8} (hn : ∀ i, (num i).length ≤ 20) (f : Fu) : (fuT num f).length ≤ 100 := by
  have h1 := hn f.point
  have h2 := hn f.year
  have h3 := hn f.off
  unfold fuT
  simp; omega
theorem flat_le {α : Type} (f : α → List UInt8) (h : ∀ a, (f a).length ≤ 100) : ∀ l : List α, (l.flatMap f).length ≤ 100 * l.length
  | [] => by simp
  | a :: l => by have := h a; have := flat_le f h l; simp only [List.flatMap_cons, List.length_append, List.length_cons]; omega

set_option maxRecDepth 100000 in
set_option maxHeartbeats 4000000 in
theorem write_c {A A' : Nat → Prop} {w : World} {x : Edg} {vx v : Value} {l : List Fu} {num : Int → List UInt8} {Pn : Int → Prop} (hx : ClsM A w vx x.claims) (h : FusM A' w v l)
    (hI : ∀ i, Pn i → ∀ w', Below w.heap.size w w' → Calls Tryd.prog 39 #[.int .i64 i] w' fun e u => e = .returned (.string (str (num i))) ∧ u = w') (hnum : ∀ i, (num i).length ≤ 20)
    (hPx : bothX x l = 0 → Pn x.points ∧ Pn x.bend ∧ (∀ c ∈ x.claims, Pn c.point ∧ Pn c.other ∧ Pn c.off ∧ Pn c.err) ∧ ∀ f ∈ l, Pn f.point ∧ Pn f.year ∧ Pn f.off) :
    Calls Tryd.prog 22 #[.agg #[.int .i64 x.points, .int .i64 x.bend, vx], v] w fun e w' => e = .returned (.tuple #[.string (if bothX x l = 0 then str (edT num x l) else ⟨#[]⟩), .int .i64 (bothX x l)]) ∧ Below w.heap.size w w' := by
  have HIQ : ∀ {wz : World}, Below w.heap.size w wz → ∀ i, Pn i → ∀ u, Qt wz u → Calls Tryd.prog 39 #[.int .i64 i] u fun e u' => e = .returned (.string (str (num i))) ∧ Qt u u' := fun hB i hi u hu => (hI i hi u (bnx hB (hu.below _))).mono fun e u' hh => ⟨hh.1, by rw [hh.2]; exact Qt.refl _⟩
  obtain ⟨R, hR⟩ : ∃ R, R = (if bothX x l = 0 then str (edT num x l) else ⟨#[]⟩) := ⟨_, rfl⟩
  rw [← hR]
  obtain ⟨ax, cx, rfl, _, _⟩ := hx.shape
  obtain ⟨al, cl, rfl, _, _⟩ := h.shape
  obtain ⟨w1, hw1⟩ : ∃ w1, w1 = w.alloc (.cells #[.int .i64 x.points, .int .i64 x.bend, .slice ax x.claims.length cx] 24) := ⟨_, rfl⟩
  obtain ⟨b0, hb0⟩ : ∃ b, b = w.heap.size := ⟨_, rfl⟩
  have hX1 : Blk b0 #[.int .i64 x.points, .int .i64 x.bend, .slice ax x.claims.length cx] 24 w1 := by rw [hw1, hb0]; exact blk_at rfl _ _
  have hB1 : Below w.heap.size w w1 := by rw [hw1]; exact (Below.refl _ w).alloc (Nat.le_refl _) _
  have hx1 := hx.call hB1
  have h1 := h.call hB1
  go_enter Tryd.func22, Tryd.ntmps22
  go_upto_region 1 with fail
  rw [← hw1, ← hb0]
  clear hw1 hb0
  have c0 := hX1.cell 0
  have c1 := hX1.cell 1
  have c2 := hX1.cell 2
  go_wp2_with fail
  clear c0 c1 c2
  refine (checked_c hx1 h1).mono ?_
  rintro e w2 ⟨rfl, hB2⟩
  have hX2 := hX1.call hB2
  have hx2 := hx1.call hB2
  have h2 := h1.call hB2
  have hB2w := bnx hB1 hB2
  by_cases hck : bothX x l = 0
  · have hb : (bothX x l != 0) = false := by rw [hck]; rfl
    obtain ⟨hok, hfx⟩ := both_zero hck
    obtain ⟨hf8, -, -⟩ := furX_facts hfx
    obtain ⟨hP1, hP2, hPc, hPf⟩ := hPx hck
    have hm := hok.m
    rw [if_pos hck] at hR
    have HR := Lib.hid hR
    have HCK := Lib.hid hck
    clear hck hfx hPx hok hR
    have c0 := hX2.cell 0
    have c1 := hX2.cell 1
    have c2 := hX2.cell 2
    have d0 := (hX2.qt ((Qt.refl _).drewN 1)).cell 0
    have d1 := (hX2.qt ((Qt.refl _).drewN 1)).cell 1
    have d2 := (hX2.qt ((Qt.refl _).drewN 1)).cell 2
    obtain ⟨n1, hn1⟩ : ∃ n, n = num x.points := ⟨_, rfl⟩
    obtain ⟨n2, hn2⟩ : ∃ n, n = num x.bend := ⟨_, rfl⟩
    have l1 : n1.length ≤ 20 := by rw [hn1]; exact hnum _
    have l2 : n2.length ≤ 20 := by rw [hn2]; exact hnum _
    have q1 := HIQ hB2w x.points hP1
    have q2 := HIQ hB2w x.bend hP2
    rw [← hn1] at q1
    rw [← hn2] at q2
    obtain ⟨s1, hs1⟩ : ∃ s, s = [101, 100, 103, 101, 32] ++ n1 := ⟨_, rfl⟩
    have L1 : s1.length ≤ 25 := by rw [hs1]; first | (simp; omega) | omega
    have e1 : ∀ w, (Op.stringOp .add (⟨#[101, 100, 103, 101, 32]⟩ : ByteArray) (str n1)).run Tryd.prog w = .ok (.string (str s1)) w := fun w => by rw [hs1]; exact sadd [101, 100, 103, 101, 32] n1 (by first | (simp; omega) | omega) w
    obtain ⟨s2, hs2⟩ : ∃ s, s = s1 ++ [32, 112, 111, 105, 110, 116, 115, 32, 98, 101, 110, 100, 32] := ⟨_, rfl⟩
    have L2 : s2.length ≤ 38 := by rw [hs2]; first | (simp; omega) | omega
    have e2 : ∀ w, (Op.stringOp .add (str s1) (⟨#[32, 112, 111, 105, 110, 116, 115, 32, 98, 101, 110, 100, 32]⟩ : ByteArray)).run Tryd.prog w = .ok (.string (str s2)) w := fun w => by rw [hs2]; exact sadd s1 [32, 112, 111, 105, 110, 116, 115, 32, 98, 101, 110, 100, 32] (by first | (simp; omega) | omega) w
    obtain ⟨s3, hs3⟩ : ∃ s, s = s2 ++ n2 := ⟨_, rfl⟩
    have L3 : s3.length ≤ 58 := by rw [hs3]; first | (simp; omega) | omega
    have e3 : ∀ w, (Op.stringOp .add (str s2) (str n2)).run Tryd.prog w = .ok (.string (str s3)) w := fun w => by rw [hs3]; exact sadd s2 n2 (by first | (simp; omega) | omega) w
    obtain ⟨s4, hs4⟩ : ∃ s, s = s3 ++ [10] := ⟨_, rfl⟩
    have L4 : s4.length ≤ 59 := by rw [hs4]; first | (simp; omega) | omega
    have e4 : ∀ w, (Op.stringOp .add (str s3) (⟨#[10]⟩ : ByteArray)).run Tryd.prog w = .ok (.string (str s4)) w := fun w => by rw [hs4]; exact sadd s3 [10] (by first | (simp; omega) | omega) w
    have E4 := Lib.hid (show s4 = hdT num x by rw [hs4, hs3, hs2, hs1, hn1, hn2]; rfl)
    clear hs1 hs2 hs3 hs4 hn1 hn2 L1 L2 L3 l1 l2
    go_wp2_with fail
    go_quiet ((go_at_call 39; first | refine qt_of (q1 _ (by first | exact Qt.refl _ | exact ⟨_, rfl⟩)) | refine qt_of (q2 _ (by first | exact Qt.refl _ | exact ⟨_, rfl⟩))))

    have hq3 : Qt w2 (w2.drewN nq) := ⟨nq, rfl⟩
    generalize w2.drewN nq = w3 at hq3 ⊢
    have hX3 := hX2.qt hq3
    have hx3 := hx2.qt hq3
    have h3 := h2.qt hq3
    have hB3w := bnx hB2w (hq3.below _)
    clear c0 c1 c2 d0 d1 d2 e1 e2 e3 e4 q1 q2 hX2 hx2 h2 hB2 hX1 hx1 h1 hB1 hq3 hx h
    have c2 := hX3.cell 2
    go_wp2_with fail
    clear c2
    go_loopw [8, 39] (fun v8 v39 wr => ∃ k : Nat, k ≤ x.claims.length ∧ v39 = .int .i64 k ∧ v8 = .string (str (s4 ++ (x.claims.take k).flatMap fun c => clT num c ++ [10])) ∧ Below w3.heap.size w3 wr) (fun _ v39 _ => x.claims.length - (intOf v39).toNat)
    case atStart => exact ⟨0, Nat.zero_le _, rfl, by simp, Below.refl _ _⟩
    case round =>
      obtain ⟨k, hk, rfl, rfl, hB⟩ := hrel
      have hcr := hx3.call hB
      have hBr := bnx hB3w hB
      by_cases hlt : k < x.claims.length
      · obtain ⟨gc, oc, rfl, -, -⟩ := cls_addr hcr (by omega)
        obtain ⟨d0, d1, d2, d3, d4⟩ := cls_at hcr k hlt
        obtain ⟨S, hS⟩ : ∃ S, S = s4 ++ (x.claims.take k).flatMap fun c => clT num c ++ [10] := ⟨_, rfl⟩
        have hSl : S.length ≤ 1000 := by
          have := flat_le (fun c => clT num c ++ [10]) (fun c => by have := clT_len hnum c; simp; omega) (x.claims.take k)
          rw [hS, List.length_append]
          have h5 := List.length_take_le k x.claims
          omega
        rw [← hS]
        have HSS := Lib.hid hS
        clear hS
        obtain ⟨c, hc⟩ : ∃ c, c = x.claims[k] := ⟨_, rfl⟩
        have hPc1 := hPc c (by rw [hc]; exact List.getElem_mem _)
        rw [← hc] at d0 d1 d2 d3 d4
        have HC := Lib.hid hc
        clear hc
        go_upto_region 9 with fail
        obtain ⟨w4, hw4⟩ : ∃ w4, w4 = wr.alloc (.cells #[.int .i64 c.kind, .int .i64 c.point, .int .i64 c.other, .int .i64 c.off, .int .i64 c.err] 27) := ⟨_, rfl⟩
        obtain ⟨b4, hb4⟩ : ∃ b, b = wr.heap.size := ⟨_, rfl⟩
        have hC4 : Blk b4 #[.int .i64 c.kind, .int .i64 c.point, .int .i64 c.other, .int .i64 c.off, .int .i64 c.err] 27 w4 := by rw [hw4, hb4]; exact Blk.new _ _ _
        have hB4 : Below wr.heap.size wr w4 := by rw [hw4]; exact (Below.refl _ wr).alloc (Nat.le_refl _) _
        rw [← hw4, ← hb4]
        clear hw4 hb4 d0 d1 d2 d3 d4
        have k0 := hC4.cell 0
        have k1 := hC4.cell 1
        have k2 := hC4.cell 2
        have k3 := hC4.cell 3
        have k4 := hC4.cell 4
        go_wp2_with fail
        clear k0 k1 k2 k3 k4
        refine (ofCl_c c _).mono ?_
        rintro e w5 ⟨rfl, hB5⟩
        have hB35 := bnx hB (bnx hB4 hB5)
        have hBw5 := bnx hB3w hB35
        clear hB4 hB5 hC4 hcr hBr hB
        obtain ⟨nP, hnP⟩ : ∃ n, n = num c.point := ⟨_, rfl⟩
        obtain ⟨nO, hnO⟩ : ∃ n, n = num c.other := ⟨_, rfl⟩
        obtain ⟨nA, hnA⟩ : ∃ n, n = num c.off := ⟨_, rfl⟩
        obtain ⟨nE, hnE⟩ : ∃ n, n = num c.err := ⟨_, rfl⟩
        have lP : nP.length ≤ 20 := by rw [hnP]; exact hnum _
        have lO : nO.length ≤ 20 := by rw [hnO]; exact hnum _
        have lA : nA.length ≤ 20 := by rw [hnA]; exact hnum _
        have lE : nE.length ≤ 20 := by rw [hnE]; exact hnum _
        obtain ⟨hp1, hp2, hp3, hp4⟩ := hPc1
        by_cases hk1 : c.kind = 1
        · have hcv : clV c = .iface 93 (.agg #[.int .i64 c.point, .int .i64 c.off]) := by unfold clV; rw [if_pos hk1]
          have HT := Lib.hid (show clT num c = ((([115, 116, 111, 110, 101, 32, 97, 116, 32] ++ num c.point) ++ [32, 105, 115, 32]) ++ num c.off) by unfold clT; rw [if_pos hk1])
          rw [hcv]
          clear hcv hk1
          go_upto_region 12 with fail
          obtain ⟨w6, hw6⟩ : ∃ w6, w6 = w5.alloc (.cells #[.int .i64 c.point, .int .i64 c.off] 93) := ⟨_, rfl⟩
          obtain ⟨b6, hb6⟩ : ∃ b, b = w5.heap.size := ⟨_, rfl⟩
          have hC6 : Blk b6 #[.int .i64 c.point, .int .i64 c.off] 93 w6 := by rw [hw6, hb6]; exact Blk.new _ _ _
          have hB6 : Below w5.heap.size w5 w6 := by rw [hw6]; exact (Below.refl _ w5).alloc (Nat.le_refl _) _
          rw [← hw6, ← hb6]
          clear hw6 hb6
          have hB36 := bnx hB35 hB6
          have hBw6 := bnx hBw5 hB6
          have k0 := hC6.cell 0
          have m0 := (hC6.qt ((Qt.refl _).drewN 1)).cell 0
          have k1 := hC6.cell 1
          have m1 := (hC6.qt ((Qt.refl _).drewN 1)).cell 1
          have q0 := HIQ hBw6 c.point hp1
          rw [← hnP] at q0
          have q1 := HIQ hBw6 c.off hp3
          rw [← hnA] at q1
          obtain ⟨s1, hs1⟩ : ∃ s, s = [115, 116, 111, 110, 101, 32, 97, 116, 32] ++ nP := ⟨_, rfl⟩
          have L1 : s1.length ≤ 29 := by rw [hs1]; first | (simp; omega) | omega
          have e1 : ∀ w, (Op.stringOp .add (⟨#[115, 116, 111, 110, 101, 32, 97, 116, 32]⟩ : ByteArray) (str nP)).run Tryd.prog w = .ok (.string (str s1)) w := fun w => by rw [hs1]; exact sadd [115, 116, 111, 110, 101, 32, 97, 116, 32] nP (by first | (simp; omega) | omega) w
          obtain ⟨s2, hs2⟩ : ∃ s, s = s1 ++ [32, 105, 115, 32] := ⟨_, rfl⟩
          have L2 : s2.length ≤ 33 := by rw [hs2]; first | (simp; omega) | omega
          have e2 : ∀ w, (Op.stringOp .add (str s1) (⟨#[32, 105, 115, 32]⟩ : ByteArray)).run Tryd.prog w = .ok (.string (str s2)) w := fun w => by rw [hs2]; exact sadd s1 [32, 105, 115, 32] (by first | (simp; omega) | omega) w
          obtain ⟨s3, hs3⟩ : ∃ s, s = s2 ++ nA := ⟨_, rfl⟩
          have L3 : s3.length ≤ 53 := by rw [hs3]; first | (simp; omega) | omega
          have e3 : ∀ w, (Op.stringOp .add (str s2) (str nA)).run Tryd.prog w = .ok (.string (str s3)) w := fun w => by rw [hs3]; exact sadd s2 nA (by first | (simp; omega) | omega) w
          have eS : ∀ w, (Op.stringOp .add (str S) (str s3)).run Tryd.prog w = .ok (.string (str (S ++ s3))) w := fun w => sadd S s3 (by omega) w
          have eN : ∀ w, (Op.stringOp .add (str (S ++ s3)) (⟨#[10]⟩ : ByteArray)).run Tryd.prog w = .ok (.string (str ((S ++ s3) ++ [10]))) w := fun w => sadd (S ++ s3) [10] (by simp; omega) w
          have HE := Lib.hid (show s3 = clT num c by rw [HT.out, hs3, hs2, hs1, hnP, hnA])
          clear hs1 hs2 hs3 hnP hnO hnA hnE
          go_wp2_with fail
          go_quiet ((go_at_call 39; first | refine qt_of (q0 _ (by first | exact Qt.refl _ | exact ⟨_, rfl⟩)) | refine qt_of (q1 _ (by first | exact Qt.refl _ | exact ⟨_, rfl⟩))))
          have hq7 : Qt w6 (w6.drewN nq) := ⟨nq, rfl⟩
          generalize w6.drewN nq = w7 at hq7 ⊢
          clear k0 m0 q0 k1 m1 q1
          go_wp2_with fail
          go_roundw
          case rel =>
            refine ⟨k + 1, by omega, by go_num, ?_, bnx hB36 (hq7.below _)⟩
            rw [List.take_succ_eq_append_getElem hlt, List.flatMap_append, ← HC.out, HE.out, HSS.out]
            simp [List.append_assoc]
          case measure => simp [intOf]; omega
        · skip
          by_cases hk2 : c.kind = 2
          · have hcv : clV c = .iface 95 (.agg #[.int .i64 c.point, .int .i64 c.off, .int .i64 c.err]) := by unfold clV; rw [if_neg hk1, if_pos hk2]
            have HT := Lib.hid (show clT num c = ((((([109, 101, 97, 115, 117, 114, 101, 32, 97, 116, 32] ++ num c.point) ++ [32, 105, 115, 32]) ++ num c.off) ++ [32, 101, 114, 114, 32]) ++ num c.err) by unfold clT; rw [if_neg hk1, if_pos hk2])
            rw [hcv]
            clear hcv hk1 hk2
            go_upto_region 15 with fail
            obtain ⟨w6, hw6⟩ : ∃ w6, w6 = w5.alloc (.cells #[.int .i64 c.point, .int .i64 c.off, .int .i64 c.err] 95) := ⟨_, rfl⟩
            obtain ⟨b6, hb6⟩ : ∃ b, b = w5.heap.size := ⟨_, rfl⟩
            have hC6 : Blk b6 #[.int .i64 c.point, .int .i64 c.off, .int .i64 c.err] 95 w6 := by rw [hw6, hb6]; exact Blk.new _ _ _
            have hB6 : Below w5.heap.size w5 w6 := by rw [hw6]; exact (Below.refl _ w5).alloc (Nat.le_refl _) _
            rw [← hw6, ← hb6]
            clear hw6 hb6
            have hB36 := bnx hB35 hB6
            have hBw6 := bnx hBw5 hB6
            have k0 := hC6.cell 0
            have m0 := (hC6.qt ((Qt.refl _).drewN 1)).cell 0
            have k1 := hC6.cell 1
            have m1 := (hC6.qt ((Qt.refl _).drewN 1)).cell 1
            have k2 := hC6.cell 2
            have m2 := (hC6.qt ((Qt.refl _).drewN 1)).cell 2
            have q0 := HIQ hBw6 c.point hp1
            rw [← hnP] at q0
            have q1 := HIQ hBw6 c.off hp3
            rw [← hnA] at q1
            have q2 := HIQ hBw6 c.err hp4
            rw [← hnE] at q2
            obtain ⟨s1, hs1⟩ : ∃ s, s = [109, 101, 97, 115, 117, 114, 101, 32, 97, 116, 32] ++ nP := ⟨_, rfl⟩
            have L1 : s1.length ≤ 31 := by rw [hs1]; first | (simp; omega) | omega
            have e1 : ∀ w, (Op.stringOp .add (⟨#[109, 101, 97, 115, 117, 114, 101, 32, 97, 116, 32]⟩ : ByteArray) (str nP)).run Tryd.prog w = .ok (.string (str s1)) w := fun w => by rw [hs1]; exact sadd [109, 101, 97, 115, 117, 114, 101, 32, 97, 116, 32] nP (by first | (simp; omega) | omega) w
            obtain ⟨s2, hs2⟩ : ∃ s, s = s1 ++ [32, 105, 115, 32] := ⟨_, rfl⟩
            have L2 : s2.length ≤ 35 := by rw [hs2]; first | (simp; omega) | omega
            have e2 : ∀ w, (Op.stringOp .add (str s1) (⟨#[32, 105, 115, 32]⟩ : ByteArray)).run Tryd.prog w = .ok (.string (str s2)) w := fun w => by rw [hs2]; exact sadd s1 [32, 105, 115, 32] (by first | (simp; omega) | omega) w
            obtain ⟨s3, hs3⟩ : ∃ s, s = s2 ++ nA := ⟨_, rfl⟩
            have L3 : s3.length ≤ 55 := by rw [hs3]; first | (simp; omega) | omega
            have e3 : ∀ w, (Op.stringOp .add (str s2) (str nA)).run Tryd.prog w = .ok (.string (str s3)) w := fun w => by rw [hs3]; exact sadd s2 nA (by first | (simp; omega) | omega) w
            obtain ⟨s4, hs4⟩ : ∃ s, s = s3 ++ [32, 101, 114, 114, 32] := ⟨_, rfl⟩
            have L4 : s4.length ≤ 60 := by rw [hs4]; first | (simp; omega) | omega
            have e4 : ∀ w, (Op.stringOp .add (str s3) (⟨#[32, 101, 114, 114, 32]⟩ : ByteArray)).run Tryd.prog w = .ok (.string (str s4)) w := fun w => by rw [hs4]; exact sadd s3 [32, 101, 114, 114, 32] (by first | (simp; omega) | omega) w
            obtain ⟨s5, hs5⟩ : ∃ s, s = s4 ++ nE := ⟨_, rfl⟩
            have L5 : s5.length ≤ 80 := by rw [hs5]; first | (simp; omega) | omega
            have e5 : ∀ w, (Op.stringOp .add (str s4) (str nE)).run Tryd.prog w = .ok (.string (str s5)) w := fun w => by rw [hs5]; exact sadd s4 nE (by first | (simp; omega) | omega) w
            have eS : ∀ w, (Op.stringOp .add (str S) (str s5)).run Tryd.prog w = .ok (.string (str (S ++ s5))) w := fun w => sadd S s5 (by omega) w
            have eN : ∀ w, (Op.stringOp .add (str (S ++ s5)) (⟨#[10]⟩ : ByteArray)).run Tryd.prog w = .ok (.string (str ((S ++ s5) ++ [10]))) w := fun w => sadd (S ++ s5) [10] (by simp; omega) w
            have HE := Lib.hid (show s5 = clT num c by rw [HT.out, hs5, hs4, hs3, hs2, hs1, hnP, hnA, hnE])
            clear hs1 hs2 hs3 hs4 hs5 hnP hnO hnA hnE
            go_wp2_with fail
            go_quiet ((go_at_call 39; first | refine qt_of (q0 _ (by first | exact Qt.refl _ | exact ⟨_, rfl⟩)) | refine qt_of (q1 _ (by first | exact Qt.refl _ | exact ⟨_, rfl⟩)) | refine qt_of (q2 _ (by first | exact Qt.refl _ | exact ⟨_, rfl⟩))))
            have hq7 : Qt w6 (w6.drewN nq) := ⟨nq, rfl⟩
            generalize w6.drewN nq = w7 at hq7 ⊢
            clear k0 m0 q0 k1 m1 q1 k2 m2 q2
            go_wp2_with fail
            go_roundw
            case rel =>
              refine ⟨k + 1, by omega, by go_num, ?_, bnx hB36 (hq7.below _)⟩
              rw [List.take_succ_eq_append_getElem hlt, List.flatMap_append, ← HC.out, HE.out, HSS.out]
              simp [List.append_assoc]
            case measure => simp [intOf]; omega
          · skip
            by_cases hk3 : c.kind = 3
            · have hcv : clV c = .iface 96 (.agg #[.int .i64 c.point, .int .i64 c.off]) := by unfold clV; rw [if_neg hk1, if_neg hk2, if_pos hk3]
              have HT := Lib.hid (show clT num c = ((([119, 105, 116, 104, 105, 110, 32, 97, 116, 32] ++ num c.point) ++ [32, 105, 115, 32]) ++ num c.off) by unfold clT; rw [if_neg hk1, if_neg hk2, if_pos hk3])
              rw [hcv]
              clear hcv hk1 hk2 hk3
              go_upto_region 18 with fail
              obtain ⟨w6, hw6⟩ : ∃ w6, w6 = w5.alloc (.cells #[.int .i64 c.point, .int .i64 c.off] 96) := ⟨_, rfl⟩
              obtain ⟨b6, hb6⟩ : ∃ b, b = w5.heap.size := ⟨_, rfl⟩
              have hC6 : Blk b6 #[.int .i64 c.point, .int .i64 c.off] 96 w6 := by rw [hw6, hb6]; exact Blk.new _ _ _
              have hB6 : Below w5.heap.size w5 w6 := by rw [hw6]; exact (Below.refl _ w5).alloc (Nat.le_refl _) _
              rw [← hw6, ← hb6]
              clear hw6 hb6
              have hB36 := bnx hB35 hB6
              have hBw6 := bnx hBw5 hB6
              have k0 := hC6.cell 0
              have m0 := (hC6.qt ((Qt.refl _).drewN 1)).cell 0
              have k1 := hC6.cell 1
              have m1 := (hC6.qt ((Qt.refl _).drewN 1)).cell 1
              have q0 := HIQ hBw6 c.point hp1
              rw [← hnP] at q0
              have q1 := HIQ hBw6 c.off hp3
              rw [← hnA] at q1
              obtain ⟨s1, hs1⟩ : ∃ s, s = [119, 105, 116, 104, 105, 110, 32, 97, 116, 32] ++ nP := ⟨_, rfl⟩
              have L1 : s1.length ≤ 30 := by rw [hs1]; first | (simp; omega) | omega
              have e1 : ∀ w, (Op.stringOp .add (⟨#[119, 105, 116, 104, 105, 110, 32, 97, 116, 32]⟩ : ByteArray) (str nP)).run Tryd.prog w = .ok (.string (str s1)) w := fun w => by rw [hs1]; exact sadd [119, 105, 116, 104, 105, 110, 32, 97, 116, 32] nP (by first | (simp; omega) | omega) w
              obtain ⟨s2, hs2⟩ : ∃ s, s = s1 ++ [32, 105, 115, 32] := ⟨_, rfl⟩
              have L2 : s2.length ≤ 34 := by rw [hs2]; first | (simp; omega) | omega
              have e2 : ∀ w, (Op.stringOp .add (str s1) (⟨#[32, 105, 115, 32]⟩ : ByteArray)).run Tryd.prog w = .ok (.string (str s2)) w := fun w => by rw [hs2]; exact sadd s1 [32, 105, 115, 32] (by first | (simp; omega) | omega) w
              obtain ⟨s3, hs3⟩ : ∃ s, s = s2 ++ nA := ⟨_, rfl⟩
              have L3 : s3.length ≤ 54 := by rw [hs3]; first | (simp; omega) | omega
              have e3 : ∀ w, (Op.stringOp .add (str s2) (str nA)).run Tryd.prog w = .ok (.string (str s3)) w := fun w => by rw [hs3]; exact sadd s2 nA (by first | (simp; omega) | omega) w
              have eS : ∀ w, (Op.stringOp .add (str S) (str s3)).run Tryd.prog w = .ok (.string (str (S ++ s3))) w := fun w => sadd S s3 (by omega) w
              have eN : ∀ w, (Op.stringOp .add (str (S ++ s3)) (⟨#[10]⟩ : ByteArray)).run Tryd.prog w = .ok (.string (str ((S ++ s3) ++ [10]))) w := fun w => sadd (S ++ s3) [10] (by simp; omega) w
              have HE := Lib.hid (show s3 = clT num c by rw [HT.out, hs3, hs2, hs1, hnP, hnA])
              clear hs1 hs2 hs3 hnP hnO hnA hnE
              go_wp2_with fail
              go_quiet ((go_at_call 39; first | refine qt_of (q0 _ (by first | exact Qt.refl _ | exact ⟨_, rfl⟩)) | refine qt_of (q1 _ (by first | exact Qt.refl _ | exact ⟨_, rfl⟩))))
              have hq7 : Qt w6 (w6.drewN nq) := ⟨nq, rfl⟩
              generalize w6.drewN nq = w7 at hq7 ⊢
              clear k0 m0 q0 k1 m1 q1
              go_wp2_with fail
              go_roundw
              case rel =>
                refine ⟨k + 1, by omega, by go_num, ?_, bnx hB36 (hq7.below _)⟩
                rw [List.take_succ_eq_append_getElem hlt, List.flatMap_append, ← HC.out, HE.out, HSS.out]
                simp [List.append_assoc]
              case measure => simp [intOf]; omega
            · skip
              by_cases hk4 : c.kind = 4
              · have hcv : clV c = .iface 97 (.agg #[.int .i64 c.point, .int .i64 c.off]) := by unfold clV; rw [if_neg hk1, if_neg hk2, if_neg hk3, if_pos hk4]
                have HT := Lib.hid (show clT num c = ((([98, 101, 121, 111, 110, 100, 32, 97, 116, 32] ++ num c.point) ++ [32, 105, 115, 32]) ++ num c.off) by unfold clT; rw [if_neg hk1, if_neg hk2, if_neg hk3, if_pos hk4])
                rw [hcv]
                clear hcv hk1 hk2 hk3 hk4
                go_upto_region 21 with fail
                obtain ⟨w6, hw6⟩ : ∃ w6, w6 = w5.alloc (.cells #[.int .i64 c.point, .int .i64 c.off] 97) := ⟨_, rfl⟩
                obtain ⟨b6, hb6⟩ : ∃ b, b = w5.heap.size := ⟨_, rfl⟩
                have hC6 : Blk b6 #[.int .i64 c.point, .int .i64 c.off] 97 w6 := by rw [hw6, hb6]; exact Blk.new _ _ _
                have hB6 : Below w5.heap.size w5 w6 := by rw [hw6]; exact (Below.refl _ w5).alloc (Nat.le_refl _) _
                rw [← hw6, ← hb6]
                clear hw6 hb6
                have hB36 := bnx hB35 hB6
                have hBw6 := bnx hBw5 hB6
                have k0 := hC6.cell 0
                have m0 := (hC6.qt ((Qt.refl _).drewN 1)).cell 0
                have k1 := hC6.cell 1
                have m1 := (hC6.qt ((Qt.refl _).drewN 1)).cell 1
                have q0 := HIQ hBw6 c.point hp1
                rw [← hnP] at q0
                have q1 := HIQ hBw6 c.off hp3
                rw [← hnA] at q1
                obtain ⟨s1, hs1⟩ : ∃ s, s = [98, 101, 121, 111, 110, 100, 32, 97, 116, 32] ++ nP := ⟨_, rfl⟩
                have L1 : s1.length ≤ 30 := by rw [hs1]; first | (simp; omega) | omega
                have e1 : ∀ w, (Op.stringOp .add (⟨#[98, 101, 121, 111, 110, 100, 32, 97, 116, 32]⟩ : ByteArray) (str nP)).run Tryd.prog w = .ok (.string (str s1)) w := fun w => by rw [hs1]; exact sadd [98, 101, 121, 111, 110, 100, 32, 97, 116, 32] nP (by first | (simp; omega) | omega) w
                obtain ⟨s2, hs2⟩ : ∃ s, s = s1 ++ [32, 105, 115, 32] := ⟨_, rfl⟩
                have L2 : s2.length ≤ 34 := by rw [hs2]; first | (simp; omega) | omega
                have e2 : ∀ w, (Op.stringOp .add (str s1) (⟨#[32, 105, 115, 32]⟩ : ByteArray)).run Tryd.prog w = .ok (.string (str s2)) w := fun w => by rw [hs2]; exact sadd s1 [32, 105, 115, 32] (by first | (simp; omega) | omega) w
                obtain ⟨s3, hs3⟩ : ∃ s, s = s2 ++ nA := ⟨_, rfl⟩
                have L3 : s3.length ≤ 54 := by rw [hs3]; first | (simp; omega) | omega
                have e3 : ∀ w, (Op.stringOp .add (str s2) (str nA)).run Tryd.prog w = .ok (.string (str s3)) w := fun w => by rw [hs3]; exact sadd s2 nA (by first | (simp; omega) | omega) w
                have eS : ∀ w, (Op.stringOp .add (str S) (str s3)).run Tryd.prog w = .ok (.string (str (S ++ s3))) w := fun w => sadd S s3 (by omega) w
                have eN : ∀ w, (Op.stringOp .add (str (S ++ s3)) (⟨#[10]⟩ : ByteArray)).run Tryd.prog w = .ok (.string (str ((S ++ s3) ++ [10]))) w := fun w => sadd (S ++ s3) [10] (by simp; omega) w
                have HE := Lib.hid (show s3 = clT num c by rw [HT.out, hs3, hs2, hs1, hnP, hnA])
                clear hs1 hs2 hs3 hnP hnO hnA hnE
                go_wp2_with fail
                go_quiet ((go_at_call 39; first | refine qt_of (q0 _ (by first | exact Qt.refl _ | exact ⟨_, rfl⟩)) | refine qt_of (q1 _ (by first | exact Qt.refl _ | exact ⟨_, rfl⟩))))
                have hq7 : Qt w6 (w6.drewN nq) := ⟨nq, rfl⟩
                generalize w6.drewN nq = w7 at hq7 ⊢
                clear k0 m0 q0 k1 m1 q1
                go_wp2_with fail
                go_roundw
                case rel =>
                  refine ⟨k + 1, by omega, by go_num, ?_, bnx hB36 (hq7.below _)⟩
                  rw [List.take_succ_eq_append_getElem hlt, List.flatMap_append, ← HC.out, HE.out, HSS.out]
                  simp [List.append_assoc]
                case measure => simp [intOf]; omega
              · skip
                have hcv : clV c = .iface 99 (.agg #[.int .i64 c.point, .int .i64 c.other, .int .i64 c.off]) := by unfold clV; rw [if_neg hk1, if_neg hk2, if_neg hk3, if_neg hk4]
                have HT := Lib.hid (show clT num c = ((((([97, 98, 114, 101, 97, 115, 116, 32, 97, 116, 32] ++ num c.point) ++ [32, 111, 102, 32]) ++ num c.other) ++ [32, 105, 115, 32]) ++ num c.off) by unfold clT; rw [if_neg hk1, if_neg hk2, if_neg hk3, if_neg hk4])
                rw [hcv]
                clear hcv hk1 hk2 hk3 hk4
                go_upto_region 24 with fail
                obtain ⟨w6, hw6⟩ : ∃ w6, w6 = w5.alloc (.cells #[.int .i64 c.point, .int .i64 c.other, .int .i64 c.off] 99) := ⟨_, rfl⟩
                obtain ⟨b6, hb6⟩ : ∃ b, b = w5.heap.size := ⟨_, rfl⟩
                have hC6 : Blk b6 #[.int .i64 c.point, .int .i64 c.other, .int .i64 c.off] 99 w6 := by rw [hw6, hb6]; exact Blk.new _ _ _
                have hB6 : Below w5.heap.size w5 w6 := by rw [hw6]; exact (Below.refl _ w5).alloc (Nat.le_refl _) _
                rw [← hw6, ← hb6]
                clear hw6 hb6
                have hB36 := bnx hB35 hB6
                have hBw6 := bnx hBw5 hB6
                have k0 := hC6.cell 0
                have m0 := (hC6.qt ((Qt.refl _).drewN 1)).cell 0
                have k1 := hC6.cell 1
                have m1 := (hC6.qt ((Qt.refl _).drewN 1)).cell 1
                have k2 := hC6.cell 2
                have m2 := (hC6.qt ((Qt.refl _).drewN 1)).cell 2
                have q0 := HIQ hBw6 c.point hp1
                rw [← hnP] at q0
                have q1 := HIQ hBw6 c.other hp2
                rw [← hnO] at q1
                have q2 := HIQ hBw6 c.off hp3
                rw [← hnA] at q2
                obtain ⟨s1, hs1⟩ : ∃ s, s = [97, 98, 114, 101, 97, 115, 116, 32, 97, 116, 32] ++ nP := ⟨_, rfl⟩
                have L1 : s1.length ≤ 31 := by rw [hs1]; first | (simp; omega) | omega
                have e1 : ∀ w, (Op.stringOp .add (⟨#[97, 98, 114, 101, 97, 115, 116, 32, 97, 116, 32]⟩ : ByteArray) (str nP)).run Tryd.prog w = .ok (.string (str s1)) w := fun w => by rw [hs1]; exact sadd [97, 98, 114, 101, 97, 115, 116, 32, 97, 116, 32] nP (by first | (simp; omega) | omega) w
                obtain ⟨s2, hs2⟩ : ∃ s, s = s1 ++ [32, 111, 102, 32] := ⟨_, rfl⟩
                have L2 : s2.length ≤ 35 := by rw [hs2]; first | (simp; omega) | omega
                have e2 : ∀ w, (Op.stringOp .add (str s1) (⟨#[32, 111, 102, 32]⟩ : ByteArray)).run Tryd.prog w = .ok (.string (str s2)) w := fun w => by rw [hs2]; exact sadd s1 [32, 111, 102, 32] (by first | (simp; omega) | omega) w
                obtain ⟨s3, hs3⟩ : ∃ s, s = s2 ++ nO := ⟨_, rfl⟩
                have L3 : s3.length ≤ 55 := by rw [hs3]; first | (simp; omega) | omega
                have e3 : ∀ w, (Op.stringOp .add (str s2) (str nO)).run Tryd.prog w = .ok (.string (str s3)) w := fun w => by rw [hs3]; exact sadd s2 nO (by first | (simp; omega) | omega) w
                obtain ⟨s4, hs4⟩ : ∃ s, s = s3 ++ [32, 105, 115, 32] := ⟨_, rfl⟩
                have L4 : s4.length ≤ 59 := by rw [hs4]; first | (simp; omega) | omega
                have e4 : ∀ w, (Op.stringOp .add (str s3) (⟨#[32, 105, 115, 32]⟩ : ByteArray)).run Tryd.prog w = .ok (.string (str s4)) w := fun w => by rw [hs4]; exact sadd s3 [32, 105, 115, 32] (by first | (simp; omega) | omega) w
                obtain ⟨s5, hs5⟩ : ∃ s, s = s4 ++ nA := ⟨_, rfl⟩
                have L5 : s5.length ≤ 79 := by rw [hs5]; first | (simp; omega) | omega
                have e5 : ∀ w, (Op.stringOp .add (str s4) (str nA)).run Tryd.prog w = .ok (.string (str s5)) w := fun w => by rw [hs5]; exact sadd s4 nA (by first | (simp; omega) | omega) w
                have eS : ∀ w, (Op.stringOp .add (str S) (str s5)).run Tryd.prog w = .ok (.string (str (S ++ s5))) w := fun w => sadd S s5 (by omega) w
                have eN : ∀ w, (Op.stringOp .add (str (S ++ s5)) (⟨#[10]⟩ : ByteArray)).run Tryd.prog w = .ok (.string (str ((S ++ s5) ++ [10]))) w := fun w => sadd (S ++ s5) [10] (by simp; omega) w
                have HE := Lib.hid (show s5 = clT num c by rw [HT.out, hs5, hs4, hs3, hs2, hs1, hnP, hnO, hnA])
                clear hs1 hs2 hs3 hs4 hs5 hnP hnO hnA hnE
                go_wp2_with fail
                go_quiet ((go_at_call 39; first | refine qt_of (q0 _ (by first | exact Qt.refl _ | exact ⟨_, rfl⟩)) | refine qt_of (q1 _ (by first | exact Qt.refl _ | exact ⟨_, rfl⟩)) | refine qt_of (q2 _ (by first | exact Qt.refl _ | exact ⟨_, rfl⟩))))
                have hq7 : Qt w6 (w6.drewN nq) := ⟨nq, rfl⟩
                generalize w6.drewN nq = w7 at hq7 ⊢
                clear k0 m0 q0 k1 m1 q1 k2 m2 q2
                go_wp2_with fail
                go_roundw
                case rel =>
                  refine ⟨k + 1, by omega, by go_num, ?_, bnx hB36 (hq7.below _)⟩
                  rw [List.take_succ_eq_append_getElem hlt, List.flatMap_append, ← HC.out, HE.out, HSS.out]
                  simp [List.append_assoc]
                case measure => simp [intOf]; omega
      · obtain rfl : k = x.claims.length := by omega
        rw [List.take_length]
        obtain ⟨S, hS⟩ : ∃ S, S = s4 ++ x.claims.flatMap fun c => clT num c ++ [10] := ⟨_, rfl⟩
        have hSl : S.length ≤ 1000 := by
          have := flat_le (fun c => clT num c ++ [10]) (fun c => by have := clT_len hnum c; simp; omega) x.claims
          rw [hS, List.length_append]
          omega
        rw [← hS]
        have HSS := Lib.hid hS
        clear hS
        have h4 := h3.call hB
        clear hcr
        go_wp2_with fail
        go_loopw [8, 142] (fun v8 v142 wu => ∃ k : Nat, k ≤ l.length ∧ v142 = .int .i64 k ∧ v8 = .string (str (S ++ (l.take k).flatMap (fuT num))) ∧ Below wr.heap.size wr wu) (fun _ v142 _ => l.length - (intOf v142).toNat)
        case atStart => exact ⟨0, Nat.zero_le _, rfl, by simp, Below.refl _ _⟩
        case round =>
          rename World => wu
          obtain ⟨k, hk, rfl, rfl, hBu⟩ := hrel
          have hfr := h4.call hBu
          have hBuw := bnx hBr hBu
          by_cases hlt : k < l.length
          · obtain ⟨gf, of_, rfl, -, -⟩ := fus_addr hfr (by omega)
            obtain ⟨d0, d1, d2⟩ := fus_at hfr k hlt
            obtain ⟨Z, hZ⟩ : ∃ Z, Z = S ++ (l.take k).flatMap (fuT num) := ⟨_, rfl⟩
            have hZl : Z.length ≤ 2000 := by
              have := flat_le (fuT num) (fuT_len hnum) (l.take k)
              rw [hZ, List.length_append]
              have h5 := List.length_take_le k l
              omega
            rw [← hZ]
            have HZ := Lib.hid hZ
            clear hZ
            obtain ⟨f, hf⟩ : ∃ f, f = l[k] := ⟨_, rfl⟩
            obtain ⟨hp1, hp2, hp3⟩ := hPf f (by rw [hf]; exact List.getElem_mem _)
            rw [← hf] at d0 d1 d2
            have HF := Lib.hid hf
            clear hf
            go_upto_region 30 with fail
            obtain ⟨w5, hw5⟩ : ∃ w5, w5 = wu.alloc (.cells #[.int .i64 f.point, .int .i64 f.year, .int .i64 f.off] 89) := ⟨_, rfl⟩
            obtain ⟨b5, hb5⟩ : ∃ b, b = wu.heap.size := ⟨_, rfl⟩
            have hC5 : Blk b5 #[.int .i64 f.point, .int .i64 f.year, .int .i64 f.off] 89 w5 := by rw [hw5, hb5]; exact Blk.new _ _ _
            have hB5 : Below wu.heap.size wu w5 := by rw [hw5]; exact (Below.refl _ wu).alloc (Nat.le_refl _) _
            rw [← hw5, ← hb5]
            clear hw5 hb5 d0 d1 d2
            have hB45 := bnx hBu hB5
            have hBw5 := bnx hBr hB45
            obtain ⟨nP, hnP⟩ : ∃ n, n = num f.point := ⟨_, rfl⟩
            obtain ⟨nO, hnO⟩ : ∃ n, n = num f.year := ⟨_, rfl⟩
            obtain ⟨nA, hnA⟩ : ∃ n, n = num f.off := ⟨_, rfl⟩
            have lP : nP.length ≤ 20 := by rw [hnP]; exact hnum _
            have lO : nO.length ≤ 20 := by rw [hnO]; exact hnum _
            have lA : nA.length ≤ 20 := by rw [hnA]; exact hnum _
            have k0 := hC5.cell 0
            have m0 := (hC5.qt ((Qt.refl _).drewN 1)).cell 0
            have k1 := hC5.cell 1
            have m1 := (hC5.qt ((Qt.refl _).drewN 1)).cell 1
            have k2 := hC5.cell 2
            have m2 := (hC5.qt ((Qt.refl _).drewN 1)).cell 2
            have q0 := HIQ hBw5 f.point hp1
            rw [← hnP] at q0
            have q1 := HIQ hBw5 f.year hp2
            rw [← hnO] at q1
            have q2 := HIQ hBw5 f.off hp3
            rw [← hnA] at q2
            obtain ⟨s1, hs1⟩ : ∃ s, s = [102, 117, 114, 114, 111, 119, 32, 97, 116, 32] ++ nP := ⟨_, rfl⟩
            have L1 : s1.length ≤ 30 := by rw [hs1]; first | (simp; omega) | omega
            have e1 : ∀ w, (Op.stringOp .add (⟨#[102, 117, 114, 114, 111, 119, 32, 97, 116, 32]⟩ : ByteArray) (str nP)).run Tryd.prog w = .ok (.string (str s1)) w := fun w => by rw [hs1]; exact sadd [102, 117, 114, 114, 111, 119, 32, 97, 116, 32] nP (by first | (simp; omega) | omega) w
            obtain ⟨s2, hs2⟩ : ∃ s, s = s1 ++ [32, 121, 101, 97, 114, 32] := ⟨_, rfl⟩
            have L2 : s2.length ≤ 36 := by rw [hs2]; first | (simp; omega) | omega
            have e2 : ∀ w, (Op.stringOp .add (str s1) (⟨#[32, 121, 101, 97, 114, 32]⟩ : ByteArray)).run Tryd.prog w = .ok (.string (str s2)) w := fun w => by rw [hs2]; exact sadd s1 [32, 121, 101, 97, 114, 32] (by first | (simp; omega) | omega) w
            obtain ⟨s3, hs3⟩ : ∃ s, s = s2 ++ nO := ⟨_, rfl⟩
            have L3 : s3.length ≤ 56 := by rw [hs3]; first | (simp; omega) | omega
            have e3 : ∀ w, (Op.stringOp .add (str s2) (str nO)).run Tryd.prog w = .ok (.string (str s3)) w := fun w => by rw [hs3]; exact sadd s2 nO (by first | (simp; omega) | omega) w
            obtain ⟨s4, hs4⟩ : ∃ s, s = s3 ++ [32, 105, 115, 32] := ⟨_, rfl⟩
            have L4 : s4.length ≤ 60 := by rw [hs4]; first | (simp; omega) | omega
            have e4 : ∀ w, (Op.stringOp .add (str s3) (⟨#[32, 105, 115, 32]⟩ : ByteArray)).run Tryd.prog w = .ok (.string (str s4)) w := fun w => by rw [hs4]; exact sadd s3 [32, 105, 115, 32] (by first | (simp; omega) | omega) w
            obtain ⟨s5, hs5⟩ : ∃ s, s = s4 ++ nA := ⟨_, rfl⟩
            have L5 : s5.length ≤ 80 := by rw [hs5]; first | (simp; omega) | omega
            have e5 : ∀ w, (Op.stringOp .add (str s4) (str nA)).run Tryd.prog w = .ok (.string (str s5)) w := fun w => by rw [hs5]; exact sadd s4 nA (by first | (simp; omega) | omega) w
            obtain ⟨s6, hs6⟩ : ∃ s, s = s5 ++ [10] := ⟨_, rfl⟩
            have L6 : s6.length ≤ 81 := by rw [hs6]; first | (simp; omega) | omega
            have e6 : ∀ w, (Op.stringOp .add (str s5) (⟨#[10]⟩ : ByteArray)).run Tryd.prog w = .ok (.string (str s6)) w := fun w => by rw [hs6]; exact sadd s5 [10] (by first | (simp; omega) | omega) w
            have eS : ∀ w, (Op.stringOp .add (str Z) (str s6)).run Tryd.prog w = .ok (.string (str (Z ++ s6))) w := fun w => sadd Z s6 (by omega) w
            have HE := Lib.hid (show s6 = fuT num f by rw [hs6, hs5, hs4, hs3, hs2, hs1, hnP, hnO, hnA]; rfl)
            clear hs1 hs2 hs3 hs4 hs5 hs6 hnP hnO hnA
            go_wp2_with fail
            go_quiet ((go_at_call 39; first | refine qt_of (q0 _ (by first | exact Qt.refl _ | exact ⟨_, rfl⟩)) | refine qt_of (q1 _ (by first | exact Qt.refl _ | exact ⟨_, rfl⟩)) | refine qt_of (q2 _ (by first | exact Qt.refl _ | exact ⟨_, rfl⟩))))
            have hq7 : Qt w5 (w5.drewN nq) := ⟨nq, rfl⟩
            generalize w5.drewN nq = w7 at hq7 ⊢
            clear k0 m0 q0 k1 m1 q1 k2 m2 q2
            go_wp2_with fail
            go_roundw
            case rel =>
              refine ⟨k + 1, by omega, by go_num, ?_, bnx hB45 (hq7.below _)⟩
              rw [List.take_succ_eq_append_getElem hlt, List.flatMap_append, ← HF.out, HE.out, HZ.out]
              simp [List.append_assoc]
            case measure => simp [intOf]; omega
          · obtain rfl : k = l.length := by omega
            rw [List.take_length]
            obtain ⟨Z, hZ⟩ : ∃ Z, Z = S ++ l.flatMap (fuT num) := ⟨_, rfl⟩
            have hZl : Z.length ≤ 2000 := by
              have := flat_le (fuT num) (fuT_len hnum) l
              rw [hZ, List.length_append]
              omega
            rw [← hZ]
            have eZ : ∀ w, (Op.stringOp .add (str Z) (⟨#[101, 100, 103, 101, 100, 10]⟩ : ByteArray)).run Tryd.prog w = .ok (.string (str (Z ++ [101, 100, 103, 101, 100, 10]))) w := fun w => sadd Z [101, 100, 103, 101, 100, 10] (by simp; omega) w
            have HZ := Lib.hid hZ
            clear hZ
            go_wp2_with fail
            go_ret2
            rw [HR.out, HCK.out]
            refine ⟨?_, hBuw⟩
            rw [HZ.out, HSS.out, E4.out]
            rfl
  · have hb : (bothX x l != 0) = true := by simpa using hck
    rw [if_neg hck] at hR
    have HR := Lib.hid hR
    clear hR
    go_wp2_with fail
    go_ret2
    rw [HR.out]
    exact ⟨rfl, hB2w⟩

end Go.Proofs.YtgljiabmfcobiaaDoor
