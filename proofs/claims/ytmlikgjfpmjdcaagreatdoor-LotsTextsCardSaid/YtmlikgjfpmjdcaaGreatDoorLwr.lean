/- The text of commons; conditions: numbers are written as said. -/
import Derived.Test.YtmlikgjfpmjdcaaGreatDoorA9
import Derived.Test.YtmlikgjfpmjdcaaGreatDoorBld
namespace Go.Proofs.YtmlikgjfpmjdcaaGreatDoor
open Go.RowKit

/-- A list of numbers as the end of a line. -/
def lsT (num : Int → List UInt8) (l : List Int) : List UInt8 := (l.flatMap fun n => [32] ++ num n) ++ [10]
/-- A village's line. -/
def vlT (num : Int → List UInt8) (v : Vil) : List UInt8 := (((([118, 105, 108, 108, 97, 103, 101, 32] ++ num v.hearths) ++ [32, 104, 101, 97, 114, 116, 104, 115, 32]) ++ num v.herd) ++ [32, 104, 101, 97, 100, 115, 32, 108, 105, 107, 101, 115]) ++ lsT num v.likes
/-- The text of commons. -/
def cmT (num : Int → List UInt8) (c : Com) : List UInt8 := ([109, 111, 117, 110, 116, 97, 105, 110, 115] ++ lsT num c.mountains) ++ (c.villages.flatMap (vlT num)) ++ [115, 104, 97, 114, 101, 100, 10]
theorem flat_le (B : Nat) {α : Type} (f : α → List UInt8) (l : List α) (h : ∀ a ∈ l, (f a).length ≤ B) : (l.flatMap f).length ≤ B * l.length := by
  induction l with
  | nil => simp
  | cons a l ih =>
    have h1 := h a (by simp)
    have h2 := ih fun b hb => h b (by simp [hb])
    simp only [List.flatMap_cons, List.length_append, List.length_cons, Nat.mul_add]
    omega
theorem lsT_len {num : Int → List UInt8} (hn : ∀ i, (num i).length ≤ 20) (l : List Int) : (lsT num l).length ≤ 21 * l.length + 1 := by
  have := flat_le 21 (fun n => [32] ++ num n) l fun a _ => by have := hn a; simp; omega
  unfold lsT
  simp only [List.length_append, List.length_singleton]
  omega

set_option maxRecDepth 100000 in
set_option maxHeartbeats 2000000 in
theorem list_c {A : Nat → Prop} {B b : Nat} {w : World} {v : Value} {l : List Int} {t : List UInt8} {num : Int → List UInt8} {Pn : Int → Prop} (hl : Ints A w v l) (hA : ∀ k, A k → k < w.heap.size → k < B) (hb : BS B b t w) (hBw : B ≤ w.heap.size) (hl8 : l.length ≤ 50) (ht : t.length ≤ 50000)
    (hI : ∀ i, Pn i → ∀ w', Below B w w' → Calls Tryz.prog 30 #[.int .i64 i] w' fun e u => e = .returned (.string (str (num i))) ∧ u = w') (hnum : ∀ i, (num i).length ≤ 20) (hP : ∀ i ∈ l, Pn i) :
    Calls Tryz.prog 28 #[v, .pointer (some ⟨b, 0, none⟩)] w fun e w' => e = .returned (.tuple #[]) ∧ BS B b (t ++ lsT num l) w' ∧ Below B w w' := by
  obtain ⟨a, cp, rfl, _, _⟩ := hl.shape
  go_enter Tryz.func28, Tryz.ntmps28
  go_wp2_with fail
  go_loopw [7] (fun vi wr => ∃ k : Nat, k ≤ l.length ∧ vi = .int .i64 k ∧ BS B b (t ++ (l.take k).flatMap fun n => [32] ++ num n) wr ∧ Below B w wr) (fun vi _ => l.length - (intOf vi).toNat)
  case atStart => exact ⟨0, Nat.zero_le _, rfl, by simpa using hb, Below.refl _ _⟩
  case round =>
    obtain ⟨k, hk, rfl, hbk, hB⟩ := hrel
    have hlr := hl.below hB hA
    have hBr : B ≤ wr.heap.size := Nat.le_trans hBw hB.size
    obtain ⟨t1, ht1⟩ : ∃ t1, t1 = t ++ (l.take k).flatMap fun n => [32] ++ num n := ⟨_, rfl⟩
    have ht1l : t1.length ≤ 60000 := by
      have := flat_le 21 (fun n => [32] ++ num n) (l.take k) fun a _ => by have := hnum a; simp; omega
      have h5 := List.length_take_le k l
      rw [ht1, List.length_append]
      omega
    rw [← ht1] at hbk
    have HT := Lib.hid ht1
    clear ht1
    by_cases hlt : k < l.length
    · obtain ⟨g, off, rfl, -, -⟩ := hlr.addr (by omega)
      have d0 := hlr.cell k hlt
      obtain ⟨n, hn⟩ : ∃ n, n = l[k] := ⟨_, rfl⟩
      have hPn := hP n (by rw [hn]; exact List.getElem_mem _)
      rw [← hn] at d0
      have HN := Lib.hid hn
      clear hn
      obtain ⟨s, hs⟩ : ∃ s, s = num n := ⟨_, rfl⟩
      have hsl : s.length ≤ 20 := by rw [hs]; exact hnum n
      have hq := hI n hPn wr hB
      rw [← hs] at hq
      obtain ⟨s1, hs1⟩ : ∃ s1, s1 = [32] ++ s := ⟨_, rfl⟩
      have hs1l : s1.length ≤ 21 := by rw [hs1]; simp; omega
      have e1 : ∀ w, (Op.stringOp .add (⟨#[32]⟩ : ByteArray) (str s)).run Tryz.prog w = .ok (.string (str s1)) w := fun w => by rw [hs1]; exact sadd [32] s (by simp; omega) w
      have HS := Lib.hid (show s1 = [32] ++ num n by rw [hs1, hs])
      clear hs hs1
      go_wp2_with fail
      refine hq.mono ?_
      rintro e w2 ⟨rfl, rfl⟩
      clear hq d0
      go_wp2_with fail
      refine (bws_c hbk s1 (by omega) hBr).mono ?_
      rintro e w3 ⟨⟨m, rfl⟩, hb3, hB3, -⟩
      go_wp2_with fail
      go_roundw
      case rel =>
        refine ⟨k + 1, by omega, by go_num, ?_, hB.trans hB3⟩
        rw [List.take_succ_eq_append_getElem hlt, List.flatMap_append, ← HN.out, ← List.append_assoc, ← HT.out]
        simpa [HS.out] using hb3
      case measure => simp [intOf]; omega
    · obtain rfl : k = l.length := by omega
      have e10 : (⟨#[10]⟩ : ByteArray) = str [10] := rfl
      go_wp2_with fail
      have HW := bws_c hbk [10] (by simp; omega) hBr
      refine HW.mono ?_
      rintro e w3 ⟨⟨m, rfl⟩, hb3, hB3, -⟩
      go_wp2_with fail
      go_end0
      refine ⟨rfl, ?_, hB.trans hB3⟩
      have h9 := HT.out
      rw [List.take_length] at h9
      unfold lsT
      rw [← List.append_assoc, ← h9]
      exact hb3

set_option maxRecDepth 100000 in
set_option maxHeartbeats 4000000 in
theorem cwrite_c {A : Nat → Prop} {w : World} {vm vv : Value} {c : Com} {num : Int → List UInt8} {Pn : Int → Prop} (h : Cm A w vm vv c)
    (hI : ∀ i, Pn i → ∀ w', Below w.heap.size w w' → Calls Tryz.prog 30 #[.int .i64 i] w' fun e u => e = .returned (.string (str (num i))) ∧ u = w') (hnum : ∀ i, (num i).length ≤ 20)
    (hPc : checkE c = 0 → (∀ i ∈ c.mountains, Pn i) ∧ ∀ v ∈ c.villages, Pn v.hearths ∧ Pn v.herd ∧ ∀ i ∈ v.likes, Pn i) :
    Calls Tryz.prog 9 #[.agg #[vm, vv]] w fun e w' => e = .returned (.tuple #[.string (if checkE c = 0 then str (cmT num c) else ⟨#[]⟩), .int .i64 (checkE c)]) ∧ Below w.heap.size w w' := by
  obtain ⟨R, hR⟩ : ∃ R, R = (if checkE c = 0 then str (cmT num c) else ⟨#[]⟩) := ⟨_, rfl⟩
  rw [← hR]
  obtain ⟨am, cm, rfl, _, _⟩ := h.1.shape
  obtain ⟨av, cv, rfl, _, _⟩ := h.2.shape
  obtain ⟨w1, hw1⟩ : ∃ w1, w1 = w.alloc (.cells #[.slice am c.mountains.length cm, .slice av c.villages.length cv] 25) := ⟨_, rfl⟩
  obtain ⟨b0, hb0⟩ : ∃ b, b = w.heap.size := ⟨_, rfl⟩
  have hX1 : Blk b0 #[.slice am c.mountains.length cm, .slice av c.villages.length cv] 25 w1 := by rw [hw1, hb0]; exact Blk.new _ _ _
  have hB1 : Below w.heap.size w w1 := by rw [hw1]; exact (Below.refl _ w).alloc (Nat.le_refl _) _
  have h1 := h.call hB1
  go_enter Tryz.func9, Tryz.ntmps9
  go_upto_region 1 with fail
  rw [← hw1, ← hb0]
  clear hw1 hb0
  have c0 := hX1.cell 0
  have c1 := hX1.cell 1
  go_wp2_with fail
  clear c0 c1
  refine (check_c h1).mono ?_
  rintro e w2 ⟨rfl, hB2⟩
  have hX2 := hX1.call hB2
  have h2 := h1.call hB2
  have hBw2 := bnw hB1 hB2
  clear hX1 h1 hB1 hB2
  by_cases hck : checkE c = 0
  · have hb : (checkE c != 0) = false := by rw [hck]; rfl
    rw [if_pos hck] at hR
    obtain ⟨hP1, hP2⟩ := hPc hck
    have hok := (checkE_zero c).1 hck
    have hml : c.mountains.length ≤ 4 := hok.n2
    have hvl : c.villages.length ≤ 4 := by rw [hok.vl]; exact hok.n2
    have hll : ∀ v ∈ c.villages, v.likes.length ≤ 4 := fun v hv => by have h7 := (hok.vil v hv).2.2.2.2.length_eq; have h8 : (iota c.mountains.length).length = c.mountains.length := (by simp [iota]); omega
    have HR := Lib.hid hR
    have HCK := Lib.hid hck
    clear hR hck hPc hok
    obtain ⟨B, hBs⟩ : ∃ B, B = w2.heap.size := ⟨_, rfl⟩
    obtain ⟨w3, hw3⟩ : ∃ w3, w3 = w2.alloc (.cells #[.pointer none, .slice none 0 0] 66) := ⟨_, rfl⟩
    have hbs : BS B B [] w3 := by rw [hw3, hBs]; exact BS.new w2
    have hB23 : Below B w2 w3 := by rw [hw3, hBs]; exact (Below.refl _ w2).alloc (Nat.le_refl _) _
    have hX3 : Blk b0 #[.slice am c.mountains.length cm, .slice av c.villages.length cv] 25 w3 := by rw [hw3]; exact hX2.alloc _
    have hbB : b0 < B := by rw [hBs]; exact hX2.lt
    have hw2B : w2.heap.size ≤ B := Nat.le_of_eq hBs.symm
    have hB3 : B ≤ w3.heap.size := by have := hB23.size; omega
    have h3 : Cm (fun k => k < B) w3 (.slice am c.mountains.length cm) (.slice av c.villages.length cv) c := (h2.wide (A' := fun k => k < B) (fun k _ hl => by omega)).below hB23 (fun k hk _ => hk)
    have hwB : w.heap.size ≤ B := by have := hBw2.size; omega
    have hBw3 : Below w.heap.size w w3 := hBw2.trans (hB23.mono hwB)
    have hI3 : ∀ i, Pn i → ∀ w', Below B w3 w' → Calls Tryz.prog 30 #[.int .i64 i] w' fun e u => e = .returned (.string (str (num i))) ∧ u = w' := fun i hi w' hB' => hI i hi w' (hBw3.trans (hB'.mono hwB))
    go_upto_region 5 with fail
    rw [← hw3, ← hBs]
    clear hw3 hBs hX2 h2
    go_upto_region 6 with fail
    go_wp2_with fail
    refine (bws_c hbs [109, 111, 117, 110, 116, 97, 105, 110, 115] (by simp) hB3).mono ?_
    rintro e w4 ⟨⟨m4, rfl⟩, hb4, hB34, -⟩
    have hX4 := hX3.below hB34 hbB
    have h4 := h3.below hB34 (fun k hk _ => hk)
    have hB4 : B ≤ w4.heap.size := Nat.le_trans hB3 hB34.size
    rw [List.nil_append] at hb4
    have c0 := hX4.cell 0
    have c1 := hX4.cell 1
    go_wp2_with fail
    clear c0 c1
    refine (list_c h4.1 (fun k hk _ => hk) hb4 hB4 (by omega) (by simp) (fun i hi w' hB' => hI3 i hi w' (hB34.trans hB')) hnum hP1).mono ?_
    rintro e w5 ⟨rfl, hb5, hB45⟩
    have hB35 := hB34.trans hB45
    have hX5 := hX3.below hB35 hbB
    have h5 := h3.below hB35 (fun k hk _ => hk)
    have hB5 : B ≤ w5.heap.size := Nat.le_trans hB3 hB35.size
    obtain ⟨t0, ht0⟩ : ∃ t0, t0 = [109, 111, 117, 110, 116, 97, 105, 110, 115] ++ lsT num c.mountains := ⟨_, rfl⟩
    have ht0l : t0.length ≤ 200 := by have := lsT_len hnum c.mountains; rw [ht0, List.length_append]; simp; omega
    rw [← ht0] at hb5
    have HT0 := Lib.hid ht0
    clear ht0 hb4 hB34 hB45 hX4 h4
    have c0 := hX5.cell 0
    have c1 := hX5.cell 1
    go_wp2_with fail
    clear c0 c1
    go_loopw [23] (fun vi wr => ∃ k : Nat, k ≤ c.villages.length ∧ vi = .int .i64 k ∧ BS B B (t0 ++ (c.villages.take k).flatMap (vlT num)) wr ∧ Below B w3 wr) (fun vi _ => c.villages.length - (intOf vi).toNat)
    case atStart => exact ⟨0, Nat.zero_le _, rfl, by simpa using hb5, hB35⟩
    case round =>
      obtain ⟨k, hk, rfl, hbk, hBk⟩ := hrel
      have hvr := h3.2.below hBk (fun k hk _ => hk)
      have hBr : B ≤ wr.heap.size := Nat.le_trans hB3 hBk.size
      obtain ⟨t1, ht1⟩ : ∃ t1, t1 = t0 ++ (c.villages.take k).flatMap (vlT num) := ⟨_, rfl⟩
      have ht1l : t1.length ≤ 2000 := by
        have := flat_le 300 (vlT num) (c.villages.take k) fun v hv => by
          have h1 := hnum v.hearths
          have h2 := hnum v.herd
          have h3 := lsT_len hnum v.likes
          have h4 := hll v (List.mem_of_mem_take hv)
          unfold vlT
          simp only [List.length_append, List.length_cons, List.length_nil]
          omega
        have h5 := List.length_take_le k c.villages
        rw [ht1, List.length_append]
        omega
      rw [← ht1] at hbk
      have HT := Lib.hid ht1
      clear ht1
      by_cases hlt : k < c.villages.length
      · obtain ⟨g, off, rfl, hgA, hgl⟩ := hvr.addr (by omega)
        obtain ⟨al, cl, d0, d1, d2, hlk⟩ := hvr.at k hlt
        obtain ⟨v, hv⟩ : ∃ v, v = c.villages[k] := ⟨_, rfl⟩
        have hvm : v ∈ c.villages := by rw [hv]; exact List.getElem_mem _
        obtain ⟨hp1, hp2, hp3⟩ := hP2 v hvm
        have hl4 := hll v hvm
        rw [← hv] at d0 d1 d2 hlk
        have HV := Lib.hid hv
        clear hv
        go_upto_region 11 with fail
        obtain ⟨w6, hw6⟩ : ∃ w6, w6 = wr.alloc (.cells #[.int .i64 v.hearths, .int .i64 v.herd, .slice al v.likes.length cl] 43) := ⟨_, rfl⟩
        obtain ⟨b6, hb6⟩ : ∃ b, b = wr.heap.size := ⟨_, rfl⟩
        have hV6 : Blk b6 #[.int .i64 v.hearths, .int .i64 v.herd, .slice al v.likes.length cl] 43 w6 := by rw [hw6, hb6]; exact Blk.new _ _ _
        have hA6 : Below wr.heap.size wr w6 := by rw [hw6]; exact (Below.refl _ wr).alloc (Nat.le_refl _) _
        rw [← hw6, ← hb6]
        have hb6l : B ≤ b6 := by rw [hb6]; exact hBr
        clear hw6 hb6 d0 d1 d2
        have hbs6 := hbk.call hA6
        have hlk6 := hlk.call hA6
        have hB36 := hBk.trans (hA6.mono hBr)
        have hne : b6 ≠ B := fun e => by
          have := hbk.elim (fun h => h.lt) (fun h => h.lt)
          have h8 := hV6
          rw [e] at h8
          exact absurd h8 (by
            have h7 : w6.shape? B = some (66, 2) := hbs6.elim (fun h => h.shape) (fun h => h.shape)
            intro h9
            have h9 : w6.heap[B]? = some (.cells #[.int .i64 v.hearths, .int .i64 v.herd, .slice al v.likes.length cl] 43 (0, 0)) := h9
            simp [World.shape?, h9] at h7)
        obtain ⟨n1, hn1⟩ : ∃ n, n = num v.hearths := ⟨_, rfl⟩
        obtain ⟨n2, hn2⟩ : ∃ n, n = num v.herd := ⟨_, rfl⟩
        have l1 : n1.length ≤ 20 := by rw [hn1]; exact hnum _
        have l2 : n2.length ≤ 20 := by rw [hn2]; exact hnum _
        have q1 : ∀ u, Qt w6 u → Calls Tryz.prog 30 #[.int .i64 v.hearths] u fun e u' => e = .returned (.string (str n1)) ∧ u' = u := fun u hu => by rw [hn1]; exact hI3 _ hp1 u (hB36.trans (hu.below _))
        have q2 : ∀ u, Qt w6 u → Calls Tryz.prog 30 #[.int .i64 v.herd] u fun e u' => e = .returned (.string (str n2)) ∧ u' = u := fun u hu => by rw [hn2]; exact hI3 _ hp2 u (hB36.trans (hu.below _))
        obtain ⟨s1, hs1⟩ : ∃ s, s = [118, 105, 108, 108, 97, 103, 101, 32] ++ n1 := ⟨_, rfl⟩
        have L1 : s1.length ≤ 28 := by rw [hs1]; first | (simp; omega) | omega
        have e1 : ∀ w, (Op.stringOp .add (⟨#[118, 105, 108, 108, 97, 103, 101, 32]⟩ : ByteArray) (str n1)).run Tryz.prog w = .ok (.string (str s1)) w := fun w => by rw [hs1]; exact sadd [118, 105, 108, 108, 97, 103, 101, 32] n1 (by first | (simp; omega) | omega) w
        obtain ⟨s2, hs2⟩ : ∃ s, s = s1 ++ [32, 104, 101, 97, 114, 116, 104, 115, 32] := ⟨_, rfl⟩
        have L2 : s2.length ≤ 37 := by rw [hs2]; first | (simp; omega) | omega
        have e2 : ∀ w, (Op.stringOp .add (str s1) (⟨#[32, 104, 101, 97, 114, 116, 104, 115, 32]⟩ : ByteArray)).run Tryz.prog w = .ok (.string (str s2)) w := fun w => by rw [hs2]; exact sadd s1 [32, 104, 101, 97, 114, 116, 104, 115, 32] (by first | (simp; omega) | omega) w
        obtain ⟨s3, hs3⟩ : ∃ s, s = s2 ++ n2 := ⟨_, rfl⟩
        have L3 : s3.length ≤ 57 := by rw [hs3]; first | (simp; omega) | omega
        have e3 : ∀ w, (Op.stringOp .add (str s2) (str n2)).run Tryz.prog w = .ok (.string (str s3)) w := fun w => by rw [hs3]; exact sadd s2 n2 (by first | (simp; omega) | omega) w
        obtain ⟨s4, hs4⟩ : ∃ s, s = s3 ++ [32, 104, 101, 97, 100, 115, 32, 108, 105, 107, 101, 115] := ⟨_, rfl⟩
        have L4 : s4.length ≤ 69 := by rw [hs4]; first | (simp; omega) | omega
        have e4 : ∀ w, (Op.stringOp .add (str s3) (⟨#[32, 104, 101, 97, 100, 115, 32, 108, 105, 107, 101, 115]⟩ : ByteArray)).run Tryz.prog w = .ok (.string (str s4)) w := fun w => by rw [hs4]; exact sadd s3 [32, 104, 101, 97, 100, 115, 32, 108, 105, 107, 101, 115] (by first | (simp; omega) | omega) w
        have HE := Lib.hid (show s4 ++ lsT num v.likes = vlT num v by rw [hs4, hs3, hs2, hs1, hn1, hn2]; rfl)
        clear hs1 hs2 hs3 hs4 hn1 hn2
        refine wp_region_mix2 (.pur 0 (.one 1 (.pur 5 (.one 6 (.act 2 (.pur 3 (.pur 4 (.act 7 (.pur 8 (.pur 9 (.act 10 .fin))))))))))) 10 (fun w' => Blk b6 #[.int .i64 v.hearths, .int .i64 v.herd, .slice al v.likes.length cl] 43 w') (fun w' => Blk b6 #[.int .i64 v.hearths, .int .i64 v.herd, .slice al v.likes.length cl] 43 w') (by kernel_rfl) (by kernel_rfl) rfl (by kernel_rfl) (show Blk b6 _ 43 _ from hV6.keep rfl) (fun wd hqd hRd => ?_)
        refine mix_pur2 rfl (fun K hK => ?_)
        go_simp
        first | refine ⟨_, fun _ => rfl, hK _ ?_⟩ | refine hK _ ?_
        clear hK K
        refine mix_load2 rfl rfl rfl (.int .i64 v.hearths) (fun w' h => by have h : (fun w' => Blk b6 #[.int .i64 v.hearths, .int .i64 v.herd, .slice al v.likes.length cl] 43 w') w' := h; have h0 := h.cell 0; go_simp) rfl ?_
        refine mix_pur2 rfl (fun K hK => ?_)
        go_simp
        first | refine ⟨_, fun _ => rfl, hK _ ?_⟩ | refine hK _ ?_
        clear hK K
        refine mix_load2 rfl rfl rfl (.int .i64 v.herd) (fun w' h => by have h : (fun w' => Blk b6 #[.int .i64 v.hearths, .int .i64 v.herd, .slice al v.likes.length cl] 43 w') w' := h; have h1 := h.cell 1; go_simp) rfl ?_
        refine mix_eff2 rfl false rfl (fun K hK => ?_)
        go_simp
        refine (q1 _ hqd).mono ?_
        rintro e u2 ⟨rfl, hu2⟩
        subst hu2
        refine hK _ _ hRd ?_
        clear hK K
        refine mix_pur2 rfl (fun K hK => ?_)
        go_simp
        first | refine ⟨_, fun _ => rfl, hK _ ?_⟩ | refine hK _ ?_
        clear hK K
        refine mix_pur2 rfl (fun K hK => ?_)
        go_simp
        first | refine ⟨_, fun _ => rfl, hK _ ?_⟩ | refine hK _ ?_
        clear hK K
        refine mix_eff2 rfl false rfl (fun K hK => ?_)
        go_simp
        refine (q2 _ hqd).mono ?_
        rintro e u7 ⟨rfl, hu7⟩
        subst hu7
        refine hK _ _ hRd ?_
        clear hK K
        refine mix_pur2 rfl (fun K hK => ?_)
        go_simp
        first | refine ⟨_, fun _ => rfl, hK _ ?_⟩ | refine hK _ ?_
        clear hK K
        refine mix_pur2 rfl (fun K hK => ?_)
        go_simp
        first | refine ⟨_, fun _ => rfl, hK _ ?_⟩ | refine hK _ ?_
        clear hK K
        refine mix_eff2 rfl true rfl (fun K hK => ?_)
        go_simp
        refine (bws_c (hbs6.call (hqd.below _)) s4 (by omega) (by rw [hqd.size]; have := hV6.lt; omega)).mono ?_
        rintro e w7 ⟨⟨m7, rfl⟩, hb7, hB67, hk7⟩
        have hV7 : Blk b6 #[.int .i64 v.hearths, .int .i64 v.herd, .slice al v.likes.length cl] 43 w7 := hk7 _ _ _ (by decide) hne hRd
        have hB37 := hB36.trans ((hqd.below _).trans hB67)
        have hlk7 := (hlk6.qt hqd).below hB67 (fun k hk _ => hk)
        have hB7 : B ≤ w7.heap.size := Nat.le_trans hB3 hB37.size
        refine hK _ _ hV7 ?_
        clear hK K
        refine mix_done2 ?_
        have c2 := hV7.cell 2
        go_wp2_with fail
        clear c2
        refine (list_c hlk7 (fun k hk _ => hk) hb7 hB7 (by omega) (by simp; omega) (fun i hi w' hB' => hI3 i hi w' (hB37.trans hB')) hnum hp3).mono ?_
        rintro e w8 ⟨rfl, hb8, hB78⟩
        go_wp2_with fail
        go_roundw
        case rel =>
          refine ⟨k + 1, by omega, by go_num, ?_, hB37.trans hB78⟩
          rw [List.take_succ_eq_append_getElem hlt, List.flatMap_append, ← HV.out, ← List.append_assoc, ← HT.out]
          simp only [List.flatMap_cons, List.flatMap_nil, List.append_nil, ← HE.out, ← List.append_assoc]
          exact hb8
        case measure => simp [intOf]; omega
      · obtain rfl : k = c.villages.length := by omega
        have h9 := HT.out
        rw [List.take_length] at h9
        have H9 := Lib.hid h9
        clear h9
        go_wp2_with fail
        refine (bws_c hbk [115, 104, 97, 114, 101, 100, 10] (by simp; omega) hBr).mono ?_
        rintro e w7 ⟨⟨m7, rfl⟩, hb7, hB7, -⟩
        go_wp2_with fail
        refine (bst_c hb7 (Nat.le_trans hBr hB7.size)).mono ?_
        rintro e w8 ⟨rfl, hB8⟩
        go_wp2_with fail
        go_ret2
        rw [HR.out, HCK.out]
        refine ⟨?_, hBw3.trans (((hBk.trans hB7).trans hB8).mono hwB)⟩
        rw [H9.out, HT0.out]
        rfl
  · have hb : (checkE c != 0) = true := by simpa using hck
    rw [if_neg hck] at hR
    have HR := Lib.hid hR
    clear hR
    go_wp2_with fail
    go_ret2
    rw [HR.out]
    exact ⟨rfl, hBw2⟩

end Go.Proofs.YtmlikgjfpmjdcaaGreatDoor
