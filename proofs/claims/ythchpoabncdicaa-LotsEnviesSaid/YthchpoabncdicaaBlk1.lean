/- The contract of blocked (mestalaw08): whether a group could do better by itself; conditions: valid commons of at most four mountains, two divisions. -/
import Derived.Test.YthchpoabncdicaaPick
import Derived.Test.YthchpoabncdicaaLPareto
namespace Go.Proofs.Ythchpoabncdicaa
open Go.RowKit

/-- Whom the m-th of a group is, and whose mountain it would get. -/
def gAt (S : List Int) (m : Nat) : Nat := (S.getD m 0).toNat
def gTo (S p : List Int) (m : Nat) : Nat := (S.getD (p.getD m 0).toNat 0).toNat
def betB (vs : List Vil) (fst d S p : List Int) (j : Nat) : Bool := (List.range j).any fun m => decide (rk vs (gAt S m) (fst.getD (gTo S p m) 0) < rk vs (gAt S m) (d.getD (gAt S m) 0))
def worB (vs : List Vil) (fst d S p : List Int) (j : Nat) : Bool := (List.range j).any fun m => decide (rk vs (gAt S m) (fst.getD (gTo S p m) 0) > rk vs (gAt S m) (d.getD (gAt S m) 0))
theorem betB_succ (vs : List Vil) (fst d S p : List Int) (j : Nat) : betB vs fst d S p (j + 1) = (betB vs fst d S p j || decide (rk vs (gAt S j) (fst.getD (gTo S p j) 0) < rk vs (gAt S j) (d.getD (gAt S j) 0))) := by simp [betB, List.range_succ]
theorem worB_succ (vs : List Vil) (fst d S p : List Int) (j : Nat) : worB vs fst d S p (j + 1) = (worB vs fst d S p j || decide (rk vs (gAt S j) (fst.getD (gTo S p j) 0) > rk vs (gAt S j) (d.getD (gAt S j) 0))) := by simp [worB, List.range_succ]
def blkB (vs : List Vil) (fst d S p : List Int) (m : Nat) : Bool := betB vs fst d S p m && !worB vs fst d S p m
def Blocks (vs : List Vil) (fst d : List Int) (n : Nat) : Prop := ∃ m, 1 ≤ m ∧ m ≤ n ∧ ∃ S ∈ picksL n m 0, ∃ p ∈ ordersL m, blkB vs fst d S p m = true

/-- What a round over a group reads. -/
def BlS (b : Nat) (vm vv : Value) (b1 o1 : Nat) (r1 : Value) (b2 o2 : Nat) (r2 : Value) (b3 o3 : Nat) (x3 : Int) (b4 o4 : Nat) (x4 : Int) (b5 o5 : Nat) (x5 : Int) (b6 o6 : Nat) (x6 : Int) (w : World) : Prop :=
  Blk b #[vm, vv] 25 w ∧ w.cell? ⟨b1, o1, none⟩ = some r1 ∧ w.cell? ⟨b2, o2, none⟩ = some r2 ∧ w.cell? ⟨b3, o3, none⟩ = some (.int .i64 x3) ∧ w.cell? ⟨b4, o4, none⟩ = some (.int .i64 x4) ∧ w.cell? ⟨b5, o5, none⟩ = some (.int .i64 x5) ∧ w.cell? ⟨b6, o6, none⟩ = some (.int .i64 x6)
theorem BlS.drew {b : Nat} {vm vv : Value} {b1 o1 : Nat} {r1 : Value} {b2 o2 : Nat} {r2 : Value} {b3 o3 : Nat} {x3 : Int} {b4 o4 : Nat} {x4 : Int} {b5 o5 : Nat} {x5 : Int} {b6 o6 : Nat} {x6 : Int} {w : World} (h : BlS b vm vv b1 o1 r1 b2 o2 r2 b3 o3 x3 b4 o4 x4 b5 o5 x5 b6 o6 x6 w) : BlS b vm vv b1 o1 r1 b2 o2 r2 b3 o3 x3 b4 o4 x4 b5 o5 x5 b6 o6 x6 w.drew := h

def ascB : List Int → Bool
  | [] => true
  | [_] => true
  | x :: y :: t => decide (x < y) && ascB (y :: t)
theorem ascB_pw : ∀ l, ascB l = true → l.Pairwise (· < ·)
  | [], _ => by simp
  | [_], _ => by simp
  | x :: y :: t, h => by
    simp only [ascB, Bool.and_eq_true, decide_eq_true_eq] at h
    have ih := ascB_pw (y :: t) h.2
    refine List.pairwise_cons.2 ⟨fun z hz => ?_, ih⟩
    rcases List.mem_cons.1 hz with rfl | hz
    · exact h.1
    · have := (List.pairwise_cons.1 ih).1 z hz
      omega
theorem picksL_ok {n : Nat} (hn : n ≤ 4) {m : Nat} (hm : m ≤ 4) : ∀ S ∈ picksL n m 0, S.length = m ∧ S.Nodup ∧ ∀ x ∈ S, 0 ≤ x ∧ x < n := by
  have h : ∀ n < 5, ∀ m < 5, ∀ S ∈ picksL n m 0, S.length = m ∧ ascB S = true ∧ S.all (fun x => decide (0 ≤ x) && decide (x < (n : Int))) = true := by decide +kernel
  intro S hS
  obtain ⟨h1, h2, h3⟩ := h n (by omega) m (by omega) S hS
  refine ⟨h1, (ascB_pw S h2).imp (fun h => by omega), fun x hx => ?_⟩
  have := List.all_eq_true.1 h3 x hx
  simpa using this
theorem orders_len {n : Nat} (hn : n ≤ 4) : (ordersL n).length ≤ 24 := by
  have h : ∀ n < 5, (ordersL n).length ≤ 24 := by decide +kernel
  exact h n (by omega)

set_option maxRecDepth 100000 in
set_option maxHeartbeats 4000000 in
theorem blocked_c {A A1 A2 : Nat → Prop} {w : World} {vm vv v1 v2 : Value} {c : Com} {fst d : List Int} (h : Cm A w vm vv c) (hok : c.Ok 4) (hf : Ints A1 w v1 fst) (hd : Ints A2 w v2 d) (hpf : fst.length = c.villages.length) (hpd : d.length = c.villages.length) :
    Calls Try.prog 45 #[.agg #[vm, vv], v1, v2] w fun e w' => ∃ b : Bool, e = .returned (.bool b) ∧ (b = true ↔ Blocks c.villages fst d c.villages.length) ∧ Below w.heap.size w w' := by
  obtain ⟨am, cpm, rfl, _, _⟩ := h.1.shape
  obtain ⟨av, cpv, rfl, _, _⟩ := h.2.shape
  have hvl4 : c.villages.length ≤ 4 := by have := hok.vl; have := hok.n2; omega
  have hvl1 : 0 < c.villages.length := by have := hok.vl; have := hok.n1; omega
  have hsf := hf.shape
  rw [hpf] at hsf
  obtain ⟨af, cf, rfl, _, _⟩ := hsf
  have hsd := hd.shape
  rw [hpd] at hsd
  obtain ⟨ad, cd, rfl, _, _⟩ := hsd
  obtain ⟨fb, fo, rfl, -, hfb, -⟩ := hf.addr (by omega)
  obtain ⟨db, dO, rfl, -, hdb, -⟩ := hd.addr (by omega)
  have hB0 : Below w.heap.size w (w.alloc (.cells #[.slice am c.mountains.length cpm, .slice av c.villages.length cpv] 25)) := (Below.refl _ w).alloc (Nat.le_refl _) _
  have hbx : Blk w.heap.size #[.slice am c.mountains.length cpm, .slice av c.villages.length cpv] 25 (w.alloc (.cells #[.slice am c.mountains.length cpm, .slice av c.villages.length cpv] 25)) := Blk.new w _ _
  have h0 := h.call hB0
  have hf0 := hf.call hB0
  have hd0 := hd.call hB0
  have HPF := Lib.hid hpf
  have HPD := Lib.hid hpd
  clear hpf hpd
  go_enter Try.func45, Try.ntmps45
  go_wp2_with fail
  generalize w.alloc (.cells #[.slice am c.mountains.length cpm, .slice av c.villages.length cpv] 25) = w0 at *
  go_loopw [8] (fun s8 wr => ∃ m : Nat, 1 ≤ m ∧ m ≤ c.villages.length + 1 ∧ s8 = .int .i64 m ∧ (∀ m', 1 ≤ m' → m' < m → ∀ S ∈ picksL c.villages.length m' 0, ∀ p ∈ ordersL m', blkB c.villages fst d S p m' = false) ∧ Below w0.heap.size w0 wr) (fun s8 _ => c.villages.length + 1 - (intOf s8).toNat)
  case atStart => exact ⟨1, Nat.le_refl _, by omega, rfl, fun m' h1 h2 => by omega, Below.refl _ _⟩
  case round =>
    obtain ⟨m, hm1, hm2, rfl, hno, hB⟩ := hrel
    have hsr := hB.size
    by_cases hmn : m ≤ c.villages.length
    · have hpk := picks_c (n := c.villages.length) hvl4 m (by omega) 0 (by omega) wr
      have hpa := picksL_ok (n := c.villages.length) hvl4 (m := m) (by omega)
      have hpl := (picksL_len (n := c.villages.length) hvl4 m (by omega) 0 (by omega)).1
      have hol := orders_len (n := m) (by omega)
      have hoa := orders_perm (n := m) (by omega)
      obtain ⟨P, hP⟩ : ∃ P, P = picksL c.villages.length m 0 := ⟨_, rfl⟩
      obtain ⟨O, hO⟩ : ∃ O, O = ordersL m := ⟨_, rfl⟩
      rw [← hP] at hpk hpa hpl
      rw [← hO] at hol hoa
      rw [show ((0 : Nat) : Int) = 0 from rfl] at hpk
      have HNO := Lib.hid hno
      have HP := Lib.hid hP
      have HO := Lib.hid hO
      have HPK := Lib.hid hpk
      have HPA := Lib.hid hpa
      have HOA := Lib.hid hoa
      clear hno hP hO hpk hpa hoa
      go_wp2_with fail
      refine HPK.out.mono ?_
      rintro e w1 ⟨vp, rfl, hG, hB1⟩
      clear HPK
      go_wp2_with fail
      refine (orders_c (n := m) (by omega) w1).mono ?_
      rintro e w2 ⟨vo, rfl, hOg, hB2⟩
      rw [← HO.out] at hOg
      have hBr := (hB.trans (hB1.mono hsr)).trans (hB2.mono (by have := hB1.size; omega))
      have hG2 := hG.call hB2
      have hC2 := h0.call hBr
      have hbx2 := hbx.call hBr
      have hf2 := hf0.call hBr
      have hd2 := hd0.call hBr
      have hs2 := hBr.size
      clear hG hB1 hB2 hB
      obtain ⟨ap, cp, rfl, _, _⟩ := hG2.shape
      obtain ⟨ao, co, rfl, _, _⟩ := hOg.shape
      have hsz0 := hB0.size
      have hfb2 : fb < w2.heap.size := by omega
      have hdb2 : db < w2.heap.size := by omega
      go_wp2_with fail
      go_loopw [11] (fun s11 wa => ∃ i : Nat, i ≤ P.length ∧ s11 = .int .i64 i ∧ (∀ i' (a : i' < P.length), i' < i → ∀ p ∈ O, blkB c.villages fst d P[i'] p m = false) ∧ Below w2.heap.size w2 wa) (fun s11 _ => P.length - (intOf s11).toNat)
      case atStart => exact ⟨0, Nat.zero_le _, rfl, fun i' _ h => by omega, Below.refl _ _⟩
      case round =>
        obtain ⟨i, hi, rfl, hni, hBa⟩ := hrel
        have HNI := Lib.hid hni
        clear hni
        by_cases hil : i < P.length
        · obtain ⟨pb, po, rfl, -, hpb⟩ := hG2.addr (by omega)
          obtain ⟨sa, sc, r1, hS⟩ := hG2.row i hil
          obtain ⟨s1, s2, s3⟩ := HPA.out _ (List.getElem_mem hil)
          obtain ⟨S, hSe⟩ : ∃ S, S = P[i] := ⟨_, rfl⟩
          rw [← hSe] at r1 hS s1 s2 s3
          rw [s1] at r1 hS
          obtain ⟨sb, so, rfl, -, hsb, hsc⟩ := hS.addr (by omega)
          have HSE := Lib.hid hSe
          have HS1 := Lib.hid s1
          have HS3 := Lib.hid s3
          have HSC := Lib.hid hsc
          clear hSe s1 s2 s3 hsc
          go_wp2_with fail
          go_loopw [12] (fun s12 wb => ∃ j : Nat, j ≤ O.length ∧ s12 = .int .i64 j ∧ (∀ j' (a : j' < O.length), j' < j → blkB c.villages fst d S O[j'] m = false) ∧ Below w2.heap.size w2 wb) (fun s12 _ => O.length - (intOf s12).toNat)
          case atStart => exact ⟨0, Nat.zero_le _, rfl, fun j' _ h => by omega, hBa⟩
          case round =>
            rename World => wb
            obtain ⟨j, hj, rfl, hnj, hBb⟩ := hrel
            have HNJ := Lib.hid hnj
            clear hnj
            by_cases hjl : j < O.length
            · obtain ⟨ob, oo, rfl, -, hob⟩ := hOg.addr (by omega)
              obtain ⟨ra, rc, q1, hR⟩ := hOg.row j hjl
              have hpp := HOA.out _ (List.getElem_mem hjl)
              have hppl := hpp.len
              obtain ⟨p, hpe⟩ : ∃ p, p = O[j] := ⟨_, rfl⟩
              rw [← hpe] at q1 hR hpp hppl
              rw [hppl] at q1 hR
              obtain ⟨rb, ro, rfl, -, hrb, hrc⟩ := hR.addr (by omega)
              have HPE := Lib.hid hpe
              have HPP := Lib.hid hpp
              have HPL := Lib.hid hppl
              have HRC := Lib.hid hrc
              clear hpe hpp hppl hrc
              go_wp2_with fail
              go_loopw [13, 14, 15] (fun s13 s14 s15 wx => ∃ q : Nat, q ≤ m ∧ s15 = .int .i64 q ∧ s13 = .bool (betB c.villages fst d S p q) ∧ s14 = .bool (worB c.villages fst d S p q) ∧ Below w2.heap.size w2 wx) (fun _ _ s15 _ => m - (intOf s15).toNat)
              case atStart => exact ⟨0, Nat.zero_le _, rfl, rfl, rfl, hBb⟩
              case round =>
                rename World => wx
                obtain ⟨q, hq, rfl, rfl, rfl, hBx⟩ := hrel
                by_cases hql : q < m
                · have hbs := betB_succ c.villages fst d S p q
                  have hws := worB_succ c.villages fst d S p q
                  have kS : q < S.length := by have := HS1.out; omega
                  have kp : q < p.length := by have := HPL.out; omega
                  obtain ⟨t1, t2⟩ := HS3.out _ (List.getElem_mem kS)
                  obtain ⟨t3, t4⟩ := (HPP.out.mem _).1 (List.getElem_mem kp)
                  obtain ⟨who, hwho⟩ : ∃ who : Nat, S[q] = (who : Int) := ⟨S[q].toNat, by omega⟩
                  obtain ⟨pi, hpi⟩ : ∃ pi : Nat, p[q] = (pi : Int) := ⟨p[q].toNat, by omega⟩
                  have hwn : who < c.villages.length := by omega
                  have hpm : pi < m := by omega
                  have kS2 : pi < S.length := by have := HS1.out; omega
                  obtain ⟨t5, t6⟩ := HS3.out _ (List.getElem_mem kS2)
                  obtain ⟨sv, hsv⟩ : ∃ sv : Nat, S[pi] = (sv : Int) := ⟨S[pi].toNat, by omega⟩
                  have hsn : sv < c.villages.length := by omega
                  have e1 : gAt S q = who := by simp [gAt, kS, hwho]
                  have e2 : gTo S p q = sv := by simp [gTo, kp, hpi, kS2, hsv]
                  have kf : sv < fst.length := by have := HPF.out; omega
                  have kd : who < d.length := by have := HPD.out; omega
                  have e3 : fst.getD sv 0 = fst[sv] := by simp [kf]
                  have e4 : d.getD who 0 = d[who] := by simp [kd]
                  rw [e1, e2, e3, e4] at hbs hws
                  have c1 := HSC.out q kS
                  have c2 := HRC.out q kp
                  have c3 := HSC.out pi kS2
                  have c4 := hf2.cell sv kf
                  have c5 := hd2.cell who kd
                  rw [hwho] at c1
                  rw [hpi] at c2
                  rw [hsv] at c3
                  obtain ⟨x, hx⟩ : ∃ x, x = fst[sv] := ⟨_, rfl⟩
                  obtain ⟨y, hy⟩ : ∃ y, y = d[who] := ⟨_, rfl⟩
                  rw [← hx] at hbs hws c4
                  rw [← hy] at hbs hws c5
                  have hE : ∀ w', Below w2.heap.size w2 w' → (BlS w.heap.size (.slice am c.mountains.length cpm) (.slice av c.villages.length cpv) pb (po + i) (.slice (some ⟨sb, so, none⟩) m sc) ob (oo + j) (.slice (some ⟨rb, ro, none⟩) m rc) rb (ro + q) pi sb (so + pi) sv fb (fo + sv) x db (dO + who) y) w' := fun w' h => ⟨hbx2.call h, (World.cell?_of_block (h.block pb hpb)).trans r1, (World.cell?_of_block (h.block ob hob)).trans q1, (World.cell?_of_block (h.block rb hrb)).trans c2, (World.cell?_of_block (h.block sb hsb)).trans c3, (World.cell?_of_block (h.block fb hfb2)).trans c4, (World.cell?_of_block (h.block db hdb2)).trans c5⟩
                  have g0 := (World.cell?_of_block (a := ⟨sb, so + q, none⟩) (hBx.block sb hsb)).trans c1
                  have g1 := (World.cell?_of_block (a := ⟨pb, po + i, none⟩) (hBx.block pb hpb)).trans r1
                  obtain ⟨bt, hbt⟩ : ∃ bt, bt = betB c.villages fst d S p q := ⟨_, rfl⟩
                  obtain ⟨wt, hwt⟩ : ∃ wt, wt = worB c.villages fst d S p q := ⟨_, rfl⟩
                  rw [← hbt] at hbs ⊢
                  rw [← hwt] at hws ⊢
                  have HBS := Lib.hid hbs
                  have HWS := Lib.hid hws
                  clear hbs hws e1 e2 e3 e4 c1 c2 c3 c4 c5 hx hy hbt hwt hwho hpi hsv t1 t2 t3 t4 t5 t6
                  go_wp2_with fail
                  refine wp_region_mix2 (.one 0 (.pur 1 (.pur 2 (.pur 3 (.pur 4 (.pur 5 (.one 6 (.pur 7 (.pur 8 (.pur 9 (.one 10 (.pur 11 (.pur 12 (.one 13 (.pur 14 (.one 15 (.pur 16 (.one 17 (.one 19 (.pur 20 (.pur 21 (.pur 22 (.pur 23 (.one 24 (.act 18 (.act 25 (.pur 26 (.pur 27 .fin)))))))))))))))))))))))))))) 99 (BlS w.heap.size (.slice am c.mountains.length cpm) (.slice av c.villages.length cpv) pb (po + i) (.slice (some ⟨sb, so, none⟩) m sc) ob (oo + j) (.slice (some ⟨rb, ro, none⟩) m rc) rb (ro + q) pi sb (so + pi) sv fb (fo + sv) x db (dO + who) y) (fun _ => True) (by kernel_rfl) (by kernel_rfl) rfl (by kernel_rfl) (hE _ hBx).drew (fun wd hqd _ => ?_)
                  have hBd : Below w2.heap.size w2 wd := hBx.trans (hqd.below _)
                  refine mix_load2 rfl rfl rfl (.agg #[.slice am c.mountains.length cpm, .slice av c.villages.length cpv]) (fun w' h => by have h : (BlS w.heap.size (.slice am c.mountains.length cpm) (.slice av c.villages.length cpv) pb (po + i) (.slice (some ⟨sb, so, none⟩) m sc) ob (oo + j) (.slice (some ⟨rb, ro, none⟩) m rc) rb (ro + q) pi sb (so + pi) sv fb (fo + sv) x db (dO + who) y) w' := h; have h0 := h.1.cell 0; have h1 := h.1.cell 1; go_simp) rfl ?_
                  refine mix_pur2 rfl (fun K hK => ?_)
                  go_simp
                  first | refine ⟨_, fun _ => rfl, hK _ ?_⟩ | refine hK _ ?_
                  clear hK K
                  refine mix_pur2 rfl (fun K hK => ?_)
                  go_simp
                  first | refine ⟨_, fun _ => rfl, hK _ ?_⟩ | refine hK _ ?_
                  clear hK K
                  refine mix_pur2 rfl (fun K hK => ?_)
                  go_simp
                  first | refine ⟨_, fun _ => rfl, hK _ ?_⟩ | refine hK _ ?_
                  clear hK K
                  refine mix_pur2 rfl (fun K hK => ?_)
                  go_simp
                  first | refine ⟨_, fun _ => rfl, hK _ ?_⟩ | refine hK _ ?_
                  clear hK K
                  refine mix_pur2 rfl (fun K hK => ?_)
                  go_simp
                  first | refine ⟨_, fun _ => rfl, hK _ ?_⟩ | refine hK _ ?_
                  clear hK K
                  refine mix_load2 rfl rfl rfl (.slice (some ⟨sb, so, none⟩) m sc) (fun w' h => by have h : (BlS w.heap.size (.slice am c.mountains.length cpm) (.slice av c.villages.length cpv) pb (po + i) (.slice (some ⟨sb, so, none⟩) m sc) ob (oo + j) (.slice (some ⟨rb, ro, none⟩) m rc) rb (ro + q) pi sb (so + pi) sv fb (fo + sv) x db (dO + who) y) w' := h; have h0 := h.2.1; go_simp) rfl ?_
                  refine mix_pur2 rfl (fun K hK => ?_)
                  go_simp
                  first | refine ⟨_, fun _ => rfl, hK _ ?_⟩ | refine hK _ ?_
                  clear hK K
                  refine mix_pur2 rfl (fun K hK => ?_)
                  go_simp
                  first | refine ⟨_, fun _ => rfl, hK _ ?_⟩ | refine hK _ ?_
                  clear hK K
                  refine mix_pur2 rfl (fun K hK => ?_)
                  go_simp
                  first | refine ⟨_, fun _ => rfl, hK _ ?_⟩ | refine hK _ ?_
                  clear hK K
                  refine mix_load2 rfl rfl rfl (.slice (some ⟨rb, ro, none⟩) m rc) (fun w' h => by have h : (BlS w.heap.size (.slice am c.mountains.length cpm) (.slice av c.villages.length cpv) pb (po + i) (.slice (some ⟨sb, so, none⟩) m sc) ob (oo + j) (.slice (some ⟨rb, ro, none⟩) m rc) rb (ro + q) pi sb (so + pi) sv fb (fo + sv) x db (dO + who) y) w' := h; have h0 := h.2.2.1; go_simp) rfl ?_
                  refine mix_pur2 rfl (fun K hK => ?_)
                  go_simp
                  first | refine ⟨_, fun _ => rfl, hK _ ?_⟩ | refine hK _ ?_
                  clear hK K
                  refine mix_pur2 rfl (fun K hK => ?_)
                  go_simp
                  first | refine ⟨_, fun _ => rfl, hK _ ?_⟩ | refine hK _ ?_
                  clear hK K
                  refine mix_load2 rfl rfl rfl (.int .i64 (pi : Nat)) (fun w' h => by have h : (BlS w.heap.size (.slice am c.mountains.length cpm) (.slice av c.villages.length cpv) pb (po + i) (.slice (some ⟨sb, so, none⟩) m sc) ob (oo + j) (.slice (some ⟨rb, ro, none⟩) m rc) rb (ro + q) pi sb (so + pi) sv fb (fo + sv) x db (dO + who) y) w' := h; have h0 := h.2.2.2.1; go_simp) rfl ?_
                  refine mix_pur2 rfl (fun K hK => ?_)
                  go_simp
                  first | refine ⟨_, fun _ => rfl, hK _ ?_⟩ | refine hK _ ?_
                  clear hK K
                  refine mix_load2 rfl rfl rfl (.int .i64 (sv : Nat)) (fun w' h => by have h : (BlS w.heap.size (.slice am c.mountains.length cpm) (.slice av c.villages.length cpv) pb (po + i) (.slice (some ⟨sb, so, none⟩) m sc) ob (oo + j) (.slice (some ⟨rb, ro, none⟩) m rc) rb (ro + q) pi sb (so + pi) sv fb (fo + sv) x db (dO + who) y) w' := h; have h0 := h.2.2.2.2.1; go_simp) rfl ?_
                  refine mix_pur2 rfl (fun K hK => ?_)
                  go_simp
                  first | refine ⟨_, fun _ => rfl, hK _ ?_⟩ | refine hK _ ?_
                  clear hK K
                  refine mix_load2 rfl rfl rfl (.int .i64 x) (fun w' h => by have h : (BlS w.heap.size (.slice am c.mountains.length cpm) (.slice av c.villages.length cpv) pb (po + i) (.slice (some ⟨sb, so, none⟩) m sc) ob (oo + j) (.slice (some ⟨rb, ro, none⟩) m rc) rb (ro + q) pi sb (so + pi) sv fb (fo + sv) x db (dO + who) y) w' := h; have h0 := h.2.2.2.2.2.1; go_simp) rfl ?_
                  refine mix_load2 rfl rfl rfl (.agg #[.slice am c.mountains.length cpm, .slice av c.villages.length cpv]) (fun w' h => by have h : (BlS w.heap.size (.slice am c.mountains.length cpm) (.slice av c.villages.length cpv) pb (po + i) (.slice (some ⟨sb, so, none⟩) m sc) ob (oo + j) (.slice (some ⟨rb, ro, none⟩) m rc) rb (ro + q) pi sb (so + pi) sv fb (fo + sv) x db (dO + who) y) w' := h; have h0 := h.1.cell 0; have h1 := h.1.cell 1; go_simp) rfl ?_
                  refine mix_pur2 rfl (fun K hK => ?_)
                  go_simp
                  first | refine ⟨_, fun _ => rfl, hK _ ?_⟩ | refine hK _ ?_
                  clear hK K
                  refine mix_pur2 rfl (fun K hK => ?_)
                  go_simp
                  first | refine ⟨_, fun _ => rfl, hK _ ?_⟩ | refine hK _ ?_
                  clear hK K
                  refine mix_pur2 rfl (fun K hK => ?_)
                  go_simp
                  first | refine ⟨_, fun _ => rfl, hK _ ?_⟩ | refine hK _ ?_
                  clear hK K
                  refine mix_pur2 rfl (fun K hK => ?_)
                  go_simp
                  first | refine ⟨_, fun _ => rfl, hK _ ?_⟩ | refine hK _ ?_
                  clear hK K
                  refine mix_load2 rfl rfl rfl (.int .i64 y) (fun w' h => by have h : (BlS w.heap.size (.slice am c.mountains.length cpm) (.slice av c.villages.length cpv) pb (po + i) (.slice (some ⟨sb, so, none⟩) m sc) ob (oo + j) (.slice (some ⟨rb, ro, none⟩) m rc) rb (ro + q) pi sb (so + pi) sv fb (fo + sv) x db (dO + who) y) w' := h; have h0 := h.2.2.2.2.2.2; go_simp) rfl ?_
                  refine mix_eff2 rfl false rfl (fun K hK => ?_)
                  go_simp
                  refine (plc_c (hC2.call hBd) who hwn x).mono ?_
                  rintro e w8 ⟨rfl, hC8⟩
                  have hB8 := hBd.trans (hC8.mono hBd.size)
                  refine hK _ _ (hE w8 hB8) ?_
                  clear hK K
                  refine mix_eff2 rfl false rfl (fun K hK => ?_)
                  go_simp
                  refine (plc_c (hC2.call hB8) who hwn y).mono ?_
                  rintro e w9 ⟨rfl, hC9⟩
                  have hB9 := hB8.trans (hC9.mono hB8.size)
                  refine hK _ _ (hE w9 hB9) ?_
                  clear hK K
                  refine mix_pur2 rfl (fun K hK => ?_)
                  go_simp
                  first | refine ⟨_, fun _ => rfl, hK _ ?_⟩ | refine hK _ ?_
                  clear hK K
                  refine mix_pur2 rfl (fun K hK => ?_)
                  go_simp
                  first | refine ⟨_, fun _ => rfl, hK _ ?_⟩ | refine hK _ ?_
                  clear hK K
                  refine mix_done2 ?_
                  clear hC8 hC9 hqd g0 g1
                  have e1 := HBS.out
                  have e2 := HWS.out
                  obtain ⟨a, ha⟩ : ∃ a, a = rk c.villages who x := ⟨_, rfl⟩
                  obtain ⟨b, hb⟩ : ∃ b, b = rk c.villages who y := ⟨_, rfl⟩
                  rw [← ha, ← hb] at e1 e2 ⊢
                  clear ha hb
                  have E1 := Lib.hid e1
                  have E2 := Lib.hid e2
                  clear e1 e2
                  by_cases hab : a < b <;> by_cases hba : b < a <;> cases bt <;> cases wt
                  all_goals
                    first
                    | omega
                    | (go_wp2_with fail
                       go_roundw
                       case rel => exact ⟨q + 1, by omega, by go_num, by rw [E1.out]; first | (simp; omega) | simp, by rw [E2.out]; first | (simp; omega) | simp, hB9⟩
                       case measure => simp [intOf]; omega)
                · obtain rfl : q = m := by omega
                  cases hbn : betB c.villages fst d S p q with
                  | true =>
                    have HBN := Lib.hid hbn
                    clear hbn
                    cases hwn : worB c.villages fst d S p q with
                    | true =>
                      have HWN := Lib.hid hwn
                      clear hwn
                      go_wp2_with fail
                      go_roundw
                      case rel =>
                        refine ⟨j + 1, by omega, by go_num, fun j' a h => ?_, hBx⟩
                        by_cases e : j' = j
                        · subst e; rw [← HPE.out, blkB, HBN.out, HWN.out]; rfl
                        · exact HNJ.out j' a (by omega)
                      case measure => simp [intOf]; omega
                    | false =>
                      have HWN := Lib.hid hwn
                      clear hwn
                      go_wp2_with fail
                      go_ret
                      refine ⟨_, rfl, ⟨fun _ => ⟨q, hm1, hmn, S, by rw [← HP.out, HSE.out]; exact List.getElem_mem _, p, by rw [← HO.out, HPE.out]; exact List.getElem_mem _, by rw [blkB, HBN.out, HWN.out]; rfl⟩, fun _ => rfl⟩, bnx hB0 (hBr.trans (hBx.mono hs2))⟩
                  | false =>
                    have HBN := Lib.hid hbn
                    clear hbn
                    go_wp2_with fail
                    go_roundw
                    case rel =>
                      refine ⟨j + 1, by omega, by go_num, fun j' a h => ?_, hBx⟩
                      by_cases e : j' = j
                      · subst e; rw [← HPE.out, blkB, HBN.out]; rfl
                      · exact HNJ.out j' a (by omega)
                    case measure => simp [intOf]; omega
            · obtain rfl : j = O.length := by omega
              go_wp2_with fail
              go_roundw
              case rel =>
                refine ⟨i + 1, by omega, by go_num, fun i' a h p hp => ?_, hBb⟩
                by_cases e : i' = i
                · subst e
                  obtain ⟨j', hj', rfl⟩ := List.getElem_of_mem hp
                  rw [← HSE.out]
                  exact HNJ.out j' hj' hj'
                · exact HNI.out i' a (by omega) p hp
              case measure => simp [intOf]; omega
        · obtain rfl : i = P.length := by omega
          go_wp2_with fail
          go_roundw
          case rel =>
            refine ⟨m + 1, by omega, by omega, by go_num, fun m' h1 h2 S hS p hp => ?_, hBr.trans (hBa.mono hs2)⟩
            by_cases e : m' = m
            · subst e
              rw [← HP.out] at hS
              rw [← HO.out] at hp
              obtain ⟨i', hi', rfl⟩ := List.getElem_of_mem hS
              exact HNI.out i' hi' hi' p hp
            · exact HNO.out m' h1 (by omega) S hS p hp
          case measure => simp [intOf]; omega
    · have hme : m = c.villages.length + 1 := by omega
      have b2 : decide ((m : Int) ≤ (c.villages.length : Int)) = false := decide_eq_false (by omega)
      have HNO := Lib.hid hno
      clear hno
      go_wp2
      go_ret
      exact ⟨_, rfl, ⟨fun h => by simp at h, fun ⟨m', h1, h2, S, hS, p, hp, hb⟩ => by rw [HNO.out m' h1 (by omega) S hS p hp] at hb; simp at hb⟩, bnx hB0 hB⟩

end Go.Proofs.Ythchpoabncdicaa
