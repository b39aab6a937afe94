/- The reference writes commons; conditions: numbers are written as said. -/
import Derived.Test.YtmlikgjfpmjdcaaGreatDoorRt0
import Derived.Test.YtmlikgjfpmjdcaaGreatDoorLwr
namespace Go.Proofs.YtmlikgjfpmjdcaaGreatDoor
open Go.RowKit

/-- A list of numbers, each with a space ahead. -/
def rwT (num : Int → List UInt8) (l : List Int) : List UInt8 := l.flatMap fun n => [32] ++ num n
theorem rwT_len {num : Int → List UInt8} (hn : ∀ i, (num i).length ≤ 20) (l : List Int) : (rwT num l).length ≤ 21 * l.length := flat_le 21 (fun n => [32] ++ num n) l fun a _ => by have := hn a; simp; omega

set_option maxRecDepth 100000 in
theorem row_r {A : Nat → Prop} {w : World} {v : Value} {l : List Int} {num : Int → List UInt8} {Pn : Int → Prop} (hl : Ints A w v l) (hl8 : l.length ≤ 50)
    (hI : ∀ i, Pn i → Calls Tryz.prog 30 #[.int .i64 i] w fun e u => e = .returned (.string (str (num i))) ∧ u = w) (hnum : ∀ i, (num i).length ≤ 20) (hP : ∀ i ∈ l, Pn i) :
    Calls Tryz.prog 33 #[v] w fun e w' => e = .returned (.string (str (rwT num l))) ∧ w' = w := by
  obtain ⟨a, cp, rfl, _, _⟩ := hl.shape
  go_enter Tryz.func33, Tryz.ntmps33
  go_wp2_with fail
  go_loopw [3, 4] (fun vs vi wr => ∃ k : Nat, k ≤ l.length ∧ vi = .int .i64 k ∧ vs = .string (str (rwT num (l.take k))) ∧ wr = w) (fun _ vi _ => l.length - (intOf vi).toNat)
  case atStart => exact ⟨0, Nat.zero_le _, rfl, rfl, rfl⟩
  case round =>
    obtain ⟨k, hk, rfl, rfl, rfl⟩ := hrel
    obtain ⟨S, hS⟩ : ∃ S, S = rwT num (l.take k) := ⟨_, rfl⟩
    have hSl : S.length ≤ 1050 := by
      have := rwT_len hnum (l.take k)
      have h5 := List.length_take_le k l
      rw [hS]
      omega
    rw [← hS]
    have HS := Lib.hid hS
    clear hS
    by_cases hlt : k < l.length
    · obtain ⟨g, off, rfl, -, -⟩ := hl.addr (by omega)
      have d0 := hl.cell k hlt
      obtain ⟨n, hn⟩ : ∃ n, n = l[k] := ⟨_, rfl⟩
      have hPn := hP n (by rw [hn]; exact List.getElem_mem _)
      rw [← hn] at d0
      have HN := Lib.hid hn
      clear hn
      have hIn := hI n hPn
      obtain ⟨s, hs⟩ : ∃ s, s = num n := ⟨_, rfl⟩
      have hsl : s.length ≤ 20 := by rw [hs]; exact hnum n
      rw [← hs] at hIn
      have HIN := Lib.hid hIn
      have HSN := Lib.hid hs
      clear hs hIn
      obtain ⟨s1, hs1⟩ : ∃ z, z = S ++ [32] := ⟨_, rfl⟩
      have Ls1 : s1.length ≤ 1051 := by rw [hs1, List.length_append]; first | (simp; omega) | omega
      have es1 : ∀ w, (Op.stringOp .add (str S) (⟨#[32]⟩ : ByteArray)).run Tryz.prog w = .ok (.string (str s1)) w := fun w => by rw [hs1]; exact sadd S [32] (by first | (simp; omega) | omega) w
      obtain ⟨s2, hs2⟩ : ∃ z, z = s1 ++ s := ⟨_, rfl⟩
      have Ls2 : s2.length ≤ 1071 := by rw [hs2, List.length_append]; first | (simp; omega) | omega
      have es2 : ∀ w, (Op.stringOp .add (str s1) (str s)).run Tryz.prog w = .ok (.string (str s2)) w := fun w => by rw [hs2]; exact sadd s1 s (by first | (simp; omega) | omega) w
      have HS2 := Lib.hid (show s2 = (S ++ [32]) ++ s by rw [hs2, hs1])
      clear hs1 hs2
      go_wp2_with fail
      refine HIN.out.mono ?_
      rintro e u ⟨rfl, hu⟩
      subst hu
      go_wp2_with fail
      go_roundw
      case rel =>
        refine ⟨k + 1, by omega, by go_num, ?_, by first | rfl | trivial⟩
        congr 2
        rw [HS2.out, HS.out, HSN.out, HN.out]
        unfold rwT
        rw [List.take_succ_eq_append_getElem hlt, List.flatMap_append]
        simp
      case measure => simp [intOf]; omega
    · obtain rfl : k = l.length := by omega
      have h9 := HS.out
      rw [List.take_length] at h9
      have H9 := Lib.hid h9
      clear h9
      go_wp2_with fail
      go_ret
      refine ⟨?_, rfl⟩
      rw [H9.out]
      rfl

set_option maxRecDepth 100000 in
set_option maxHeartbeats 4000000 in
theorem rwrite_r {A : Nat → Prop} {w : World} {vm vv : Value} {c : Com} {num : Int → List UInt8} {Pn : Int → Prop} (h : Cm A w vm vv c)
    (hI : ∀ i, Pn i → ∀ w', Below w.heap.size w w' → Calls Tryz.prog 30 #[.int .i64 i] w' fun e u => e = .returned (.string (str (num i))) ∧ u = w') (hnum : ∀ i, (num i).length ≤ 20)
    (hPc : checkE c = 0 → (∀ i ∈ c.mountains, Pn i) ∧ ∀ v ∈ c.villages, Pn v.hearths ∧ Pn v.herd ∧ ∀ i ∈ v.likes, Pn i) :
    Calls Tryz.prog 10 #[.agg #[vm, vv]] w fun e w' => e = .returned (.tuple #[.string (if checkE c = 0 then str (cmT num c) else ⟨#[]⟩), .int .i64 (checkE c)]) ∧ Below w.heap.size w w' := by
  obtain ⟨R, hR⟩ : ∃ R, R = (if checkE c = 0 then str (cmT num c) else ⟨#[]⟩) := ⟨_, rfl⟩
  rw [← hR]
  obtain ⟨am, cm, rfl, _, _⟩ := h.1.shape
  obtain ⟨av, cv, rfl, _, _⟩ := h.2.shape
  obtain ⟨w1, hw1⟩ : ∃ w1, w1 = w.alloc (.cells #[.slice am c.mountains.length cm, .slice av c.villages.length cv] 25) := ⟨_, rfl⟩
  obtain ⟨b0, hb0⟩ : ∃ b, b = w.heap.size := ⟨_, rfl⟩
  have hX1 : Blk b0 #[.slice am c.mountains.length cm, .slice av c.villages.length cv] 25 w1 := by rw [hw1, hb0]; exact Blk.new _ _ _
  have hB1 : Below w.heap.size w w1 := by rw [hw1]; exact (Below.refl _ w).alloc (Nat.le_refl _) _
  have h1 := h.call hB1
  go_enter Tryz.func10, Tryz.ntmps10
  go_upto_region 1 with fail
  rw [← hw1, ← hb0]
  clear hw1 hb0
  have c0 := hX1.cell 0
  have c1 := hX1.cell 1
  go_wp2_with fail
  clear c0 c1
  refine (rcheck_c h1).mono ?_
  rintro e w2 ⟨rfl, hB2⟩
  have hX2 := hX1.call hB2
  have h2 := h1.call hB2
  have hBw2 := bnw hB1 hB2
  clear hX1 h1 hB1 hB2
  by_cases hck : checkE c = 0
  · have hb : (checkE c != 0) = false := by rw [hck]; rfl
    rw [if_pos hck] at hR
    obtain ⟨hP1, hP2⟩ := hPc hck
    have hok := (checkE_zero c).1 hck
    have hml : c.mountains.length ≤ 4 := hok.n2
    have hvl : c.villages.length ≤ 4 := by rw [hok.vl]; exact hok.n2
    have hll : ∀ v ∈ c.villages, v.likes.length ≤ 4 := fun v hv => by have h7 := (hok.vil v hv).2.2.2.2.length_eq; have h8 : (iota c.mountains.length).length = c.mountains.length := (by simp [iota]); omega
    have HR := Lib.hid hR
    have HCK := Lib.hid hck
    clear hR hck hPc hok
    have hI2 : ∀ i, Pn i → ∀ w', Below w2.heap.size w2 w' → Calls Tryz.prog 30 #[.int .i64 i] w' fun e u => e = .returned (.string (str (num i))) ∧ u = w' := fun i hi w' hB' => hI i hi w' (bnw hBw2 hB')
    have hrow := row_r h2.1 (by omega) (fun i hi => hI2 i hi w2 (Below.refl _ _)) hnum hP1
    obtain ⟨r0, hr0⟩ : ∃ r, r = rwT num c.mountains := ⟨_, rfl⟩
    have lr0 : r0.length ≤ 84 := by have := rwT_len hnum c.mountains; rw [hr0]; omega
    rw [← hr0] at hrow
    have HROW := Lib.hid hrow
    clear hrow
    obtain ⟨s1, hs1⟩ : ∃ z, z = [109, 111, 117, 110, 116, 97, 105, 110, 115] ++ r0 := ⟨_, rfl⟩
    have Ls1 : s1.length ≤ 93 := by rw [hs1, List.length_append]; first | (simp; omega) | omega
    have es1 : ∀ w, (Op.stringOp .add (⟨#[109, 111, 117, 110, 116, 97, 105, 110, 115]⟩ : ByteArray) (str r0)).run Tryz.prog w = .ok (.string (str s1)) w := fun w => by rw [hs1]; exact sadd [109, 111, 117, 110, 116, 97, 105, 110, 115] r0 (by first | (simp; omega) | omega) w
    obtain ⟨s2, hs2⟩ : ∃ z, z = s1 ++ [10] := ⟨_, rfl⟩
    have Ls2 : s2.length ≤ 94 := by rw [hs2, List.length_append]; first | (simp; omega) | omega
    have es2 : ∀ w, (Op.stringOp .add (str s1) (⟨#[10]⟩ : ByteArray)).run Tryz.prog w = .ok (.string (str s2)) w := fun w => by rw [hs2]; exact sadd s1 [10] (by first | (simp; omega) | omega) w
    have HT0 := Lib.hid (show s2 = [109, 111, 117, 110, 116, 97, 105, 110, 115] ++ lsT num c.mountains by rw [hs2, hs1, hr0, List.append_assoc]; rfl)
    clear hs1 hs2 hr0
    have c0 := hX2.cell 0
    have c1 := hX2.cell 1
    go_wp2_with fail
    refine HROW.out.mono ?_
    rintro e u ⟨rfl, hu⟩
    subst hu
    go_wp2_with fail
    clear c0 c1 es1 es2
    go_loopw [5, 6] (fun vs vi wr => ∃ k : Nat, k ≤ c.villages.length ∧ vi = .int .i64 k ∧ vs = .string (str (s2 ++ (c.villages.take k).flatMap (vlT num))) ∧ Below u.heap.size u wr) (fun _ vi _ => c.villages.length - (intOf vi).toNat)
    case atStart => exact ⟨0, Nat.zero_le _, rfl, by simp, Below.refl _ _⟩
    case round =>
      obtain ⟨k, hk, rfl, rfl, hB⟩ := hrel
      have hvr := h2.2.call hB
      have hXr := hX2.call hB
      obtain ⟨S, hS⟩ : ∃ S, S = s2 ++ (c.villages.take k).flatMap (vlT num) := ⟨_, rfl⟩
      have hSl : S.length ≤ 2000 := by
        have := flat_le 300 (vlT num) (c.villages.take k) fun v hv => by
          have h1 := hnum v.hearths
          have h2 := hnum v.herd
          have h3 := lsT_len hnum v.likes
          have h4 := hll v (List.mem_of_mem_take hv)
          unfold vlT
          simp only [List.length_append, List.length_cons, List.length_nil]
          omega
        have h5 := List.length_take_le k c.villages
        rw [hS, List.length_append]
        omega
      rw [← hS]
      have HS := Lib.hid hS
      clear hS
      have c0 := hXr.cell 0
      have c1 := hXr.cell 1
      by_cases hlt : k < c.villages.length
      · obtain ⟨g, off, rfl, -, -⟩ := hvr.addr (by omega)
        obtain ⟨al, cl, d0, d1, d2, hlk⟩ := hvr.at k hlt
        obtain ⟨v, hv⟩ : ∃ v, v = c.villages[k] := ⟨_, rfl⟩
        have hvm : v ∈ c.villages := by rw [hv]; exact List.getElem_mem _
        obtain ⟨hp1, hp2, hp3⟩ := hP2 v hvm
        have hl4 := hll v hvm
        rw [← hv] at d0 d1 d2 hlk
        have HV := Lib.hid hv
        clear hv
        go_upto_region 9 with fail
        obtain ⟨w6, hw6⟩ : ∃ w6, w6 = wr.alloc (.cells #[.int .i64 v.hearths, .int .i64 v.herd, .slice al v.likes.length cl] 43) := ⟨_, rfl⟩
        obtain ⟨b6, hb6⟩ : ∃ b, b = wr.heap.size := ⟨_, rfl⟩
        have hV6 : Blk b6 #[.int .i64 v.hearths, .int .i64 v.herd, .slice al v.likes.length cl] 43 w6 := by rw [hw6, hb6]; exact Blk.new _ _ _
        have hA6 : Below wr.heap.size wr w6 := by rw [hw6]; exact (Below.refl _ wr).alloc (Nat.le_refl _) _
        rw [← hw6, ← hb6]
        clear hw6 hb6 d0 d1 d2 c0 c1
        have hlk6 := hlk.call hA6
        have hB6 := bnw hB hA6
        obtain ⟨n1, hn1⟩ : ∃ n, n = num v.hearths := ⟨_, rfl⟩
        obtain ⟨n2, hn2⟩ : ∃ n, n = num v.herd := ⟨_, rfl⟩
        obtain ⟨n3, hn3⟩ : ∃ n, n = rwT num v.likes := ⟨_, rfl⟩
        have l1 : n1.length ≤ 20 := by rw [hn1]; exact hnum _
        have l2 : n2.length ≤ 20 := by rw [hn2]; exact hnum _
        have l3 : n3.length ≤ 84 := by have := rwT_len hnum v.likes; rw [hn3]; omega
        have q1 : ∀ x, Qt w6 x → Calls Tryz.prog 30 #[.int .i64 v.hearths] x fun e u' => e = .returned (.string (str n1)) ∧ Qt x u' := fun x hx => by rw [hn1]; exact (hI2 _ hp1 x (bnw hB6 (hx.below _))).mono fun e u' hh => ⟨hh.1, by rw [hh.2]; exact Qt.refl _⟩
        have q2 : ∀ x, Qt w6 x → Calls Tryz.prog 30 #[.int .i64 v.herd] x fun e u' => e = .returned (.string (str n2)) ∧ Qt x u' := fun x hx => by rw [hn2]; exact (hI2 _ hp2 x (bnw hB6 (hx.below _))).mono fun e u' hh => ⟨hh.1, by rw [hh.2]; exact Qt.refl _⟩
        have q3 : ∀ x, Qt w6 x → Calls Tryz.prog 33 #[.slice al v.likes.length cl] x fun e u' => e = .returned (.string (str n3)) ∧ Qt x u' := fun x hx => by rw [hn3]; exact (row_r (hlk6.qt hx) (by omega) (fun i hi => hI2 i hi x (bnw hB6 (hx.below _))) hnum hp3).mono fun e u' hh => ⟨hh.1, by rw [hh.2]; exact Qt.refl _⟩
        have k0 := hV6.cell 0
        have k1 := hV6.cell 1
        have k2 := hV6.cell 2
        have hV6d : Blk b6 #[.int .i64 v.hearths, .int .i64 v.herd, .slice al v.likes.length cl] 43 (w6.drewN 1) := hV6.keep rfl
        have m0 := hV6d.cell 0
        have m1 := hV6d.cell 1
        have m2 := hV6d.cell 2
        obtain ⟨s3, hs3⟩ : ∃ z, z = S ++ [118, 105, 108, 108, 97, 103, 101, 32] := ⟨_, rfl⟩
        have Ls3 : s3.length ≤ 2008 := by rw [hs3, List.length_append]; first | (simp; omega) | omega
        have es3 : ∀ w, (Op.stringOp .add (str S) (⟨#[118, 105, 108, 108, 97, 103, 101, 32]⟩ : ByteArray)).run Tryz.prog w = .ok (.string (str s3)) w := fun w => by rw [hs3]; exact sadd S [118, 105, 108, 108, 97, 103, 101, 32] (by first | (simp; omega) | omega) w
        obtain ⟨s4, hs4⟩ : ∃ z, z = s3 ++ n1 := ⟨_, rfl⟩
        have Ls4 : s4.length ≤ 2028 := by rw [hs4, List.length_append]; first | (simp; omega) | omega
        have es4 : ∀ w, (Op.stringOp .add (str s3) (str n1)).run Tryz.prog w = .ok (.string (str s4)) w := fun w => by rw [hs4]; exact sadd s3 n1 (by first | (simp; omega) | omega) w
        obtain ⟨s5, hs5⟩ : ∃ z, z = s4 ++ [32, 104, 101, 97, 114, 116, 104, 115, 32] := ⟨_, rfl⟩
        have Ls5 : s5.length ≤ 2037 := by rw [hs5, List.length_append]; first | (simp; omega) | omega
        have es5 : ∀ w, (Op.stringOp .add (str s4) (⟨#[32, 104, 101, 97, 114, 116, 104, 115, 32]⟩ : ByteArray)).run Tryz.prog w = .ok (.string (str s5)) w := fun w => by rw [hs5]; exact sadd s4 [32, 104, 101, 97, 114, 116, 104, 115, 32] (by first | (simp; omega) | omega) w
        obtain ⟨s6, hs6⟩ : ∃ z, z = s5 ++ n2 := ⟨_, rfl⟩
        have Ls6 : s6.length ≤ 2057 := by rw [hs6, List.length_append]; first | (simp; omega) | omega
        have es6 : ∀ w, (Op.stringOp .add (str s5) (str n2)).run Tryz.prog w = .ok (.string (str s6)) w := fun w => by rw [hs6]; exact sadd s5 n2 (by first | (simp; omega) | omega) w
        obtain ⟨s7, hs7⟩ : ∃ z, z = s6 ++ [32, 104, 101, 97, 100, 115, 32, 108, 105, 107, 101, 115] := ⟨_, rfl⟩
        have Ls7 : s7.length ≤ 2069 := by rw [hs7, List.length_append]; first | (simp; omega) | omega
        have es7 : ∀ w, (Op.stringOp .add (str s6) (⟨#[32, 104, 101, 97, 100, 115, 32, 108, 105, 107, 101, 115]⟩ : ByteArray)).run Tryz.prog w = .ok (.string (str s7)) w := fun w => by rw [hs7]; exact sadd s6 [32, 104, 101, 97, 100, 115, 32, 108, 105, 107, 101, 115] (by first | (simp; omega) | omega) w
        obtain ⟨s8, hs8⟩ : ∃ z, z = s7 ++ n3 := ⟨_, rfl⟩
        have Ls8 : s8.length ≤ 2153 := by rw [hs8, List.length_append]; first | (simp; omega) | omega
        have es8 : ∀ w, (Op.stringOp .add (str s7) (str n3)).run Tryz.prog w = .ok (.string (str s8)) w := fun w => by rw [hs8]; exact sadd s7 n3 (by first | (simp; omega) | omega) w
        obtain ⟨s9, hs9⟩ : ∃ z, z = s8 ++ [10] := ⟨_, rfl⟩
        have Ls9 : s9.length ≤ 2154 := by rw [hs9, List.length_append]; first | (simp; omega) | omega
        have es9 : ∀ w, (Op.stringOp .add (str s8) (⟨#[10]⟩ : ByteArray)).run Tryz.prog w = .ok (.string (str s9)) w := fun w => by rw [hs9]; exact sadd s8 [10] (by first | (simp; omega) | omega) w
        have HE := Lib.hid (show s9 = S ++ vlT num v by rw [hs9, hs8, hs7, hs6, hs5, hs4, hs3, hn1, hn2, hn3]; simp [vlT, lsT, rwT])
        clear hs3 hs4 hs5 hs6 hs7 hs8 hs9 hn1 hn2 hn3
        go_wp2_with fail
        go_quiet ((first | (go_at_call 30; first | refine qt_of (q1 _ (by first | exact Qt.refl _ | exact ⟨_, rfl⟩)) | refine qt_of (q2 _ (by first | exact Qt.refl _ | exact ⟨_, rfl⟩))) | (go_at_call 33; refine qt_of (q3 _ (by first | exact Qt.refl _ | exact ⟨_, rfl⟩)))))
        have hq7 : Qt w6 (w6.drewN nq) := ⟨nq, rfl⟩
        generalize w6.drewN nq = w7 at hq7 ⊢
        clear k0 k1 k2 m0 m1 m2 q1 q2 q3 es3 es4 es5 es6 es7 es8 es9
        go_wp2_with fail
        go_roundw
        case rel =>
          refine ⟨k + 1, by omega, by go_num, ?_, bnw hB6 (hq7.below _)⟩
          congr 2
          rw [List.take_succ_eq_append_getElem hlt, List.flatMap_append, ← HV.out, HE.out, HS.out]
          simp [List.append_assoc]
        case measure => simp [intOf]; omega
      · obtain rfl : k = c.villages.length := by omega
        have h9 := HS.out
        rw [List.take_length] at h9
        have H9 := Lib.hid h9
        clear h9
        have e9 : ∀ w, (Op.stringOp .add (str S) (⟨#[115, 104, 97, 114, 101, 100, 10]⟩ : ByteArray)).run Tryz.prog w = .ok (.string (str (S ++ [115, 104, 97, 114, 101, 100, 10]))) w := fun w => sadd S [115, 104, 97, 114, 101, 100, 10] (by simp; omega) w
        go_wp2_with fail
        go_ret2
        rw [HR.out, HCK.out]
        refine ⟨?_, bnw hBw2 hB⟩
        rw [H9.out, HT0.out]
        rfl
  · have hb : (checkE c != 0) = true := by simpa using hck
    rw [if_neg hck] at hR
    have HR := Lib.hid hR
    clear hR
    go_wp2_with fail
    go_ret2
    rw [HR.out]
    exact ⟨rfl, hBw2⟩

end Go.Proofs.YtmlikgjfpmjdcaaGreatDoor
