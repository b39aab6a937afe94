/- Whether a group can hand its mountains round (law's better, Better of mestaref08); conditions: valid commons, a division, a group of at most four. -/
import Derived.Test.YthchpoabncdicaaBlk1
import Derived.Test.YthchpoabncdicaaRF1
namespace Go.Proofs.Ythchpoabncdicaa
open Go.RowKit

/-- The first j of a group like what they would get more. -/
def fineB (vs : List Vil) (d S p : List Int) (j : Nat) : Bool := (List.range j).all fun m => decide (rk vs (gAt S m) (d.getD (gTo S p m) 0) < rk vs (gAt S m) (d.getD (gAt S m) 0))
theorem fineB_succ (vs : List Vil) (d S p : List Int) (j : Nat) : fineB vs d S p (j + 1) = (fineB vs d S p j && decide (rk vs (gAt S j) (d.getD (gTo S p j) 0) < rk vs (gAt S j) (d.getD (gAt S j) 0))) := by simp [fineB, List.range_succ]
def betterB (vs : List Vil) (d S : List Int) : Bool := (ordersL S.length).any fun p => fineB vs d S p S.length
/-- What a round reads. -/
def GrS (b : Nat) (cs : Array Value) (b1 o1 : Nat) (v1 : Value) (b2 o2 : Nat) (x2 : Int) (b3 o3 : Nat) (x3 : Int) (b4 o4 : Nat) (x4 : Int) (b5 o5 : Nat) (x5 : Int) (b6 o6 : Nat) (x6 : Int) (w : World) : Prop :=
  Blk b cs 25 w ∧ w.cell? ⟨b1, o1, none⟩ = some v1 ∧ w.cell? ⟨b2, o2, none⟩ = some (.int .i64 x2) ∧ w.cell? ⟨b3, o3, none⟩ = some (.int .i64 x3) ∧ w.cell? ⟨b4, o4, none⟩ = some (.int .i64 x4) ∧ w.cell? ⟨b5, o5, none⟩ = some (.int .i64 x5) ∧ w.cell? ⟨b6, o6, none⟩ = some (.int .i64 x6)
theorem GrS.drew {b : Nat} {cs : Array Value} {b1 o1 : Nat} {v1 : Value} {b2 o2 : Nat} {x2 : Int} {b3 o3 : Nat} {x3 : Int} {b4 o4 : Nat} {x4 : Int} {b5 o5 : Nat} {x5 : Int} {b6 o6 : Nat} {x6 : Int} {w : World} (h : GrS b cs b1 o1 v1 b2 o2 x2 b3 o3 x3 b4 o4 x4 b5 o5 x5 b6 o6 x6 w) : GrS b cs b1 o1 v1 b2 o2 x2 b3 o3 x3 b4 o4 x4 b5 o5 x5 b6 o6 x6 w.drew := h
set_option maxRecDepth 100000 in
theorem ordersL_exts : ∀ n < 5, ordersL n = exts n n [] := by decide +kernel

set_option maxRecDepth 100000 in
set_option maxHeartbeats 4000000 in
theorem lbetter_c {A A1 A2 : Nat → Prop} {w : World} {vm vv v1 v2 : Value} {c : Com} {d S : List Int} (h : Cm A w vm vv c) (hok : c.Ok 4) (hd : Ints A1 w v1 d) (hpd : PermOf c.villages.length d) (hS : Ints A2 w v2 S) (hm1 : 1 ≤ S.length) (hm4 : S.length ≤ 4) (hSn : ∀ x ∈ S, 0 ≤ x ∧ x < (c.villages.length : Int)) :
    Calls Try.prog 70 #[.agg #[vm, vv], v1, v2] w fun e w' => e = .returned (.bool (betterB c.villages d S)) ∧ Below w.heap.size w w' := by
  obtain ⟨am, cpm, rfl, _, _⟩ := h.1.shape
  obtain ⟨av, cpv, rfl, _, _⟩ := h.2.shape
  have hvl4 : c.villages.length ≤ 4 := by have := hok.vl; have := hok.n2; omega
  have hvl1 : 0 < c.villages.length := by have := hok.vl; have := hok.n1; omega
  have hdl := hpd.len
  have hsd := hd.shape
  obtain ⟨ad, cd, rfl, _, _⟩ := hsd
  obtain ⟨asl, csl, rfl, _, _⟩ := hS.shape
  obtain ⟨db, dO, rfl, -, hdb, hdc⟩ := hd.addr (by omega)
  obtain ⟨sb, so, rfl, -, hsb, hsc⟩ := hS.addr hm1
  have hB0 : Below w.heap.size w (w.alloc (.cells #[.slice am c.mountains.length cpm, .slice av c.villages.length cpv] 25)) := (Below.refl _ w).alloc (Nat.le_refl _) _
  have hbx : Blk w.heap.size #[.slice am c.mountains.length cpm, .slice av c.villages.length cpv] 25 (w.alloc (.cells #[.slice am c.mountains.length cpm, .slice av c.villages.length cpv] 25)) := Blk.new w _ _
  have hC := h.call hB0
  have hdc := fun j (hj : j < d.length) => (World.cell?_of_block (hB0.block db hdb)).trans (hdc j hj)
  have hsc := fun j (hj : j < S.length) => (World.cell?_of_block (hB0.block sb hsb)).trans (hsc j hj)
  have hsz : (w.alloc (.cells #[.slice am c.mountains.length cpm, .slice av c.villages.length cpv] 25)).heap.size = w.heap.size + 1 := by simp
  have hoa := orders_perm (n := S.length) hm4
  have hol := orders_len (n := S.length) hm4
  have hbe : betterB c.villages d S = (ordersL S.length).any (fun p => fineB c.villages d S p S.length) := rfl
  have hoc := fun w' => orders_c (n := S.length) hm4 w'
  rw [hbe]
  obtain ⟨O, hO⟩ : ∃ O, O = ordersL S.length := ⟨_, rfl⟩
  rw [← hO] at hoa hol ⊢
  simp only [← hO] at hoc
  have HDL := Lib.hid hdl
  have HDC := Lib.hid hdc
  have HSC := Lib.hid hsc
  have HSN := Lib.hid hSn
  have HOA := Lib.hid hoa
  have HOC := Lib.hid hoc
  have HPD := Lib.hid hpd
  clear hdl hdc hsc hSn hoa hoc hpd hO hbe
  go_enter Try.func70, Try.ntmps70
  go_wp2_with fail
  generalize w.alloc (.cells #[.slice am c.mountains.length cpm, .slice av c.villages.length cpv] 25) = w0 at *
  refine (HOC.out w0).mono ?_
  rintro e w2 ⟨vo, rfl, hOg, hB2⟩
  have hT := bnx hB0 hB2
  have hC := hC.call hB2
  have hbx := hbx.call hB2
  have hs0 := hB2.size
  have hdc2 := fun j (hj : j < d.length) => (World.cell?_of_block (hB2.block db (by omega))).trans (HDC.out j hj)
  have hsc2 := fun j (hj : j < S.length) => (World.cell?_of_block (hB2.block sb (by omega))).trans (HSC.out j hj)
  have HDC2 := Lib.hid hdc2
  have HSC2 := Lib.hid hsc2
  have hdb2 : db < w2.heap.size := by omega
  have hsb2 : sb < w2.heap.size := by omega
  obtain ⟨ao, co, rfl, _, _⟩ := hOg.shape
  clear hdc2 hsc2 HDC HSC hB2
  go_wp2_with fail
  go_loopw [8] (fun s8 wb => ∃ i : Nat, i ≤ O.length ∧ s8 = .int .i64 i ∧ (O.take i).any (fun p => fineB c.villages d S p S.length) = false ∧ Below w2.heap.size w2 wb) (fun s8 _ => O.length - (intOf s8).toNat)
  case atStart => exact ⟨0, Nat.zero_le _, rfl, by simp, Below.refl _ _⟩
  case round =>
    obtain ⟨i, hi, rfl, hno, hBb⟩ := hrel
    by_cases hil : i < O.length
    · have hnx : (O.take (i + 1)).any (fun p => fineB c.villages d S p S.length) = ((O.take i).any (fun p => fineB c.villages d S p S.length) || fineB c.villages d S O[i] S.length) := by rw [List.take_succ_eq_append_getElem hil, List.any_append, List.any_cons, List.any_nil, Bool.or_false]
      have hyes : fineB c.villages d S O[i] S.length = true → O.any (fun p => fineB c.villages d S p S.length) = true := fun hf => List.any_eq_true.2 ⟨_, List.getElem_mem hil, hf⟩
      rw [hno, Bool.false_or] at hnx
      obtain ⟨ob, oo, rfl, -, hob⟩ := hOg.addr (by omega)
      obtain ⟨ra, rc, q1, hR⟩ := hOg.row i hil
      have hpp := HOA.out _ (List.getElem_mem hil)
      have hppl := hpp.len
      obtain ⟨p, hpe⟩ : ∃ p, p = O[i] := ⟨_, rfl⟩
      rw [← hpe] at q1 hR hpp hppl hnx hyes
      rw [hppl] at q1 hR
      obtain ⟨rb, ro, rfl, -, hrb, hrc⟩ := hR.addr (by omega)
      have HPE := Lib.hid hpe
      have HPP := Lib.hid hpp
      have HPL := Lib.hid hppl
      have HRC := Lib.hid hrc
      have HNX := Lib.hid hnx
      have HYES := Lib.hid hyes
      clear hpe hpp hppl hrc hnx hyes hno
      go_wp2_with fail
      go_loopw [9, 10] (fun s9 s10 wx => ∃ q : Nat, q ≤ S.length ∧ s10 = .int .i64 q ∧ s9 = .bool (fineB c.villages d S p q) ∧ Below w2.heap.size w2 wx) (fun _ s10 _ => S.length - (intOf s10).toNat)
      case atStart => exact ⟨0, Nat.zero_le _, rfl, rfl, hBb⟩
      case round =>
        rename World => wx
        obtain ⟨q, hq, rfl, rfl, hBx⟩ := hrel
        by_cases hql : q < S.length
        · have hfs := fineB_succ c.villages d S p q
          have kp : q < p.length := by have := HPL.out; omega
          obtain ⟨t1, t2⟩ := HSN.out _ (List.getElem_mem hql)
          obtain ⟨t3, t4⟩ := (HPP.out.mem _).1 (List.getElem_mem kp)
          obtain ⟨who, hwho⟩ : ∃ who : Nat, S[q] = (who : Int) := ⟨S[q].toNat, by omega⟩
          obtain ⟨pi, hpi⟩ : ∃ pi : Nat, p[q] = (pi : Int) := ⟨p[q].toNat, by omega⟩
          have hwn : who < c.villages.length := by omega
          have hpm : pi < S.length := by omega
          obtain ⟨t5, t6⟩ := HSN.out _ (List.getElem_mem hpm)
          obtain ⟨sv, hsv⟩ : ∃ sv : Nat, S[pi] = (sv : Int) := ⟨S[pi].toNat, by omega⟩
          have hsn : sv < c.villages.length := by omega
          have e1 : gAt S q = who := by simp [gAt, hql, hwho]
          have e2 : gTo S p q = sv := by simp [gTo, kp, hpi, hpm, hsv]
          have kf : sv < d.length := by have := HDL.out; omega
          have kd : who < d.length := by have := HDL.out; omega
          have e3 : d.getD sv 0 = d[sv] := by simp [kf]
          have e4 : d.getD who 0 = d[who] := by simp [kd]
          rw [e1, e2, e3, e4] at hfs
          have g1 := HSC2.out q hql
          have g2 := HSC2.out pi hpm
          have g3 := HRC.out q kp
          have g4 := HDC2.out sv kf
          have g5 := HDC2.out who kd
          rw [hwho] at g1
          rw [hsv] at g2
          rw [hpi] at g3
          have hmx := (HPD.out.mem _).1 (List.getElem_mem kf)
          have hmy := (HPD.out.mem _).1 (List.getElem_mem kd)
          have hlk := (hok.vil _ (List.getElem_mem hwn)).2.2.2.2
          have hxm : d[sv] ∈ c.villages[who].likes := (hlk.mem _).2 (by have := hok.vl; omega)
          have hym : d[who] ∈ c.villages[who].likes := (hlk.mem _).2 (by have := hok.vl; omega)
          obtain ⟨x, hx⟩ : ∃ x, x = d[sv] := ⟨_, rfl⟩
          obtain ⟨y, hy⟩ : ∃ y, y = d[who] := ⟨_, rfl⟩
          rw [← hx] at hfs g4 hxm
          rw [← hy] at hfs g5 hym
          have HFS := Lib.hid hfs
          have hE : ∀ w', Below w2.heap.size w2 w' → (GrS w.heap.size #[.slice am c.mountains.length cpm, .slice av c.villages.length cpv] ob (oo + i) (.slice (some ⟨rb, ro, none⟩) S.length rc) rb (ro + q) pi sb (so + q) who sb (so + pi) sv db (dO + sv) x db (dO + who) y) w' := fun w' h => ⟨hbx.call h, (World.cell?_of_block (h.block ob hob)).trans q1, (World.cell?_of_block (h.block rb hrb)).trans g3, (World.cell?_of_block (h.block sb hsb2)).trans g1, (World.cell?_of_block (h.block sb hsb2)).trans g2, (World.cell?_of_block (h.block db hdb2)).trans g4, (World.cell?_of_block (h.block db hdb2)).trans g5⟩
          clear hfs e1 e2 e3 e4 hx hy g1 g2 g3 g4 g5 hwho hpi hsv t1 t2 t3 t4 t5 t6 hmx hmy hlk
          cases hft : fineB c.villages d S p q with
          | true =>
            rw [hft, Bool.true_and] at HFS
            have HFT := Lib.hid hft
            clear hft
            go_wp2_with fail
            refine wp_region_mix2 (.pur 0 (.pur 1 (.one 2 (.pur 3 (.pur 4 (.pur 5 (.one 6 (.pur 7 (.pur 8 (.pur 9 (.pur 10 (.pur 11 (.one 12 (.pur 13 (.pur 14 (.one 15 (.pur 16 (.one 17 (.pur 18 (.one 19 (.one 21 (.pur 22 (.pur 23 (.pur 24 (.one 25 (.pur 26 (.pur 27 (.pur 28 (.pur 29 (.one 30 (.pur 31 (.one 32 (.act 20 (.act 33 (.pur 34 (.pur 35 (.pur 36 .fin))))))))))))))))))))))))))))))))))))) 99 (GrS w.heap.size #[.slice am c.mountains.length cpm, .slice av c.villages.length cpv] ob (oo + i) (.slice (some ⟨rb, ro, none⟩) S.length rc) rb (ro + q) pi sb (so + q) who sb (so + pi) sv db (dO + sv) x db (dO + who) y) (fun _ => True) (by kernel_rfl) (by kernel_rfl) rfl (by kernel_rfl) (hE _ hBx).drew (fun wd hqd _ => ?_)
            have hBd := bnx hBx (hqd.below _)
            refine mix_pur2 rfl (fun K hK => ?_)
            go_simp
            first | refine ⟨_, fun _ => rfl, hK _ ?_⟩ | refine hK _ ?_
            clear hK K
            refine mix_pur2 rfl (fun K hK => ?_)
            go_simp
            first | refine ⟨_, fun _ => rfl, hK _ ?_⟩ | refine hK _ ?_
            clear hK K
            refine mix_loadg2 rfl rfl (.agg #[.slice am c.mountains.length cpm, .slice av c.villages.length cpv]) (by go_simp) (fun w' h => by have h : (GrS w.heap.size #[.slice am c.mountains.length cpm, .slice av c.villages.length cpv] ob (oo + i) (.slice (some ⟨rb, ro, none⟩) S.length rc) rb (ro + q) pi sb (so + q) who sb (so + pi) sv db (dO + sv) x db (dO + who) y) w' := h; have h0 := h.1.cell 0; have h1 := h.1.cell 1; go_simp) rfl ?_
            refine mix_pur2 rfl (fun K hK => ?_)
            go_simp
            first | refine ⟨_, fun _ => rfl, hK _ ?_⟩ | refine hK _ ?_
            clear hK K
            refine mix_pur2 rfl (fun K hK => ?_)
            go_simp
            first | refine ⟨_, fun _ => rfl, hK _ ?_⟩ | refine hK _ ?_
            clear hK K
            refine mix_pur2 rfl (fun K hK => ?_)
            go_simp
            first | refine ⟨_, fun _ => rfl, hK _ ?_⟩ | refine hK _ ?_
            clear hK K
            refine mix_loadg2 rfl rfl (.int .i64 (who : Nat)) (by go_simp) (fun w' h => by have h : (GrS w.heap.size #[.slice am c.mountains.length cpm, .slice av c.villages.length cpv] ob (oo + i) (.slice (some ⟨rb, ro, none⟩) S.length rc) rb (ro + q) pi sb (so + q) who sb (so + pi) sv db (dO + sv) x db (dO + who) y) w' := h; have h0 := h.2.2.2.1; go_simp) rfl ?_
            refine mix_pur2 rfl (fun K hK => ?_)
            go_simp
            first | refine ⟨_, fun _ => rfl, hK _ ?_⟩ | refine hK _ ?_
            clear hK K
            refine mix_pur2 rfl (fun K hK => ?_)
            go_simp
            first | refine ⟨_, fun _ => rfl, hK _ ?_⟩ | refine hK _ ?_
            clear hK K
            refine mix_pur2 rfl (fun K hK => ?_)
            go_simp
            first | refine ⟨_, fun _ => rfl, hK _ ?_⟩ | refine hK _ ?_
            clear hK K
            refine mix_pur2 rfl (fun K hK => ?_)
            go_simp
            first | refine ⟨_, fun _ => rfl, hK _ ?_⟩ | refine hK _ ?_
            clear hK K
            refine mix_pur2 rfl (fun K hK => ?_)
            go_simp
            first | refine ⟨_, fun _ => rfl, hK _ ?_⟩ | refine hK _ ?_
            clear hK K
            refine mix_loadg2 rfl rfl (.slice (some ⟨rb, ro, none⟩) S.length rc) (by go_simp) (fun w' h => by have h : (GrS w.heap.size #[.slice am c.mountains.length cpm, .slice av c.villages.length cpv] ob (oo + i) (.slice (some ⟨rb, ro, none⟩) S.length rc) rb (ro + q) pi sb (so + q) who sb (so + pi) sv db (dO + sv) x db (dO + who) y) w' := h; have h0 := h.2.1; go_simp) rfl ?_
            refine mix_pur2 rfl (fun K hK => ?_)
            go_simp
            first | refine ⟨_, fun _ => rfl, hK _ ?_⟩ | refine hK _ ?_
            clear hK K
            refine mix_pur2 rfl (fun K hK => ?_)
            go_simp
            first | refine ⟨_, fun _ => rfl, hK _ ?_⟩ | refine hK _ ?_
            clear hK K
            refine mix_loadg2 rfl rfl (.int .i64 (pi : Nat)) (by go_simp) (fun w' h => by have h : (GrS w.heap.size #[.slice am c.mountains.length cpm, .slice av c.villages.length cpv] ob (oo + i) (.slice (some ⟨rb, ro, none⟩) S.length rc) rb (ro + q) pi sb (so + q) who sb (so + pi) sv db (dO + sv) x db (dO + who) y) w' := h; have h0 := h.2.2.1; go_simp) rfl ?_
            refine mix_pur2 rfl (fun K hK => ?_)
            go_simp
            first | refine ⟨_, fun _ => rfl, hK _ ?_⟩ | refine hK _ ?_
            clear hK K
            refine mix_loadg2 rfl rfl (.int .i64 (sv : Nat)) (by go_simp) (fun w' h => by have h : (GrS w.heap.size #[.slice am c.mountains.length cpm, .slice av c.villages.length cpv] ob (oo + i) (.slice (some ⟨rb, ro, none⟩) S.length rc) rb (ro + q) pi sb (so + q) who sb (so + pi) sv db (dO + sv) x db (dO + who) y) w' := h; have h0 := h.2.2.2.2.1; go_simp) rfl ?_
            refine mix_pur2 rfl (fun K hK => ?_)
            go_simp
            first | refine ⟨_, fun _ => rfl, hK _ ?_⟩ | refine hK _ ?_
            clear hK K
            refine mix_loadg2 rfl rfl (.int .i64 x) (by go_simp) (fun w' h => by have h : (GrS w.heap.size #[.slice am c.mountains.length cpm, .slice av c.villages.length cpv] ob (oo + i) (.slice (some ⟨rb, ro, none⟩) S.length rc) rb (ro + q) pi sb (so + q) who sb (so + pi) sv db (dO + sv) x db (dO + who) y) w' := h; have h0 := h.2.2.2.2.2.1; go_simp) rfl ?_
            refine mix_loadg2 rfl rfl (.agg #[.slice am c.mountains.length cpm, .slice av c.villages.length cpv]) (by go_simp) (fun w' h => by have h : (GrS w.heap.size #[.slice am c.mountains.length cpm, .slice av c.villages.length cpv] ob (oo + i) (.slice (some ⟨rb, ro, none⟩) S.length rc) rb (ro + q) pi sb (so + q) who sb (so + pi) sv db (dO + sv) x db (dO + who) y) w' := h; have h0 := h.1.cell 0; have h1 := h.1.cell 1; go_simp) rfl ?_
            refine mix_pur2 rfl (fun K hK => ?_)
            go_simp
            first | refine ⟨_, fun _ => rfl, hK _ ?_⟩ | refine hK _ ?_
            clear hK K
            refine mix_pur2 rfl (fun K hK => ?_)
            go_simp
            first | refine ⟨_, fun _ => rfl, hK _ ?_⟩ | refine hK _ ?_
            clear hK K
            refine mix_pur2 rfl (fun K hK => ?_)
            go_simp
            first | refine ⟨_, fun _ => rfl, hK _ ?_⟩ | refine hK _ ?_
            clear hK K
            refine mix_loadg2 rfl rfl (.int .i64 (who : Nat)) (by go_simp) (fun w' h => by have h : (GrS w.heap.size #[.slice am c.mountains.length cpm, .slice av c.villages.length cpv] ob (oo + i) (.slice (some ⟨rb, ro, none⟩) S.length rc) rb (ro + q) pi sb (so + q) who sb (so + pi) sv db (dO + sv) x db (dO + who) y) w' := h; have h0 := h.2.2.2.1; go_simp) rfl ?_
            refine mix_pur2 rfl (fun K hK => ?_)
            go_simp
            first | refine ⟨_, fun _ => rfl, hK _ ?_⟩ | refine hK _ ?_
            clear hK K
            refine mix_pur2 rfl (fun K hK => ?_)
            go_simp
            first | refine ⟨_, fun _ => rfl, hK _ ?_⟩ | refine hK _ ?_
            clear hK K
            refine mix_pur2 rfl (fun K hK => ?_)
            go_simp
            first | refine ⟨_, fun _ => rfl, hK _ ?_⟩ | refine hK _ ?_
            clear hK K
            refine mix_pur2 rfl (fun K hK => ?_)
            go_simp
            first | refine ⟨_, fun _ => rfl, hK _ ?_⟩ | refine hK _ ?_
            clear hK K
            refine mix_loadg2 rfl rfl (.int .i64 (who : Nat)) (by go_simp) (fun w' h => by have h : (GrS w.heap.size #[.slice am c.mountains.length cpm, .slice av c.villages.length cpv] ob (oo + i) (.slice (some ⟨rb, ro, none⟩) S.length rc) rb (ro + q) pi sb (so + q) who sb (so + pi) sv db (dO + sv) x db (dO + who) y) w' := h; have h0 := h.2.2.2.1; go_simp) rfl ?_
            refine mix_pur2 rfl (fun K hK => ?_)
            go_simp
            first | refine ⟨_, fun _ => rfl, hK _ ?_⟩ | refine hK _ ?_
            clear hK K
            refine mix_loadg2 rfl rfl (.int .i64 y) (by go_simp) (fun w' h => by have h : (GrS w.heap.size #[.slice am c.mountains.length cpm, .slice av c.villages.length cpv] ob (oo + i) (.slice (some ⟨rb, ro, none⟩) S.length rc) rb (ro + q) pi sb (so + q) who sb (so + pi) sv db (dO + sv) x db (dO + who) y) w' := h; have h0 := h.2.2.2.2.2.2; go_simp) rfl ?_
            refine mix_eff2 rfl false rfl (fun K hK => ?_)
            go_simp
            refine (plc_c (hC.call hBd) who hwn x).mono ?_
            rintro e w8 ⟨rfl, hC8⟩
            have hB8 := bnx hBd hC8
            refine hK _ _ (hE w8 hB8) ?_
            clear hK K
            refine mix_eff2 rfl false rfl (fun K hK => ?_)
            go_simp
            refine (plc_c (hC.call hB8) who hwn y).mono ?_
            rintro e w9 ⟨rfl, hC9⟩
            have hB9 := bnx hB8 hC9
            refine hK _ _ (hE w9 hB9) ?_
            clear hK K
            refine mix_pur2 rfl (fun K hK => ?_)
            go_simp
            first | refine ⟨_, fun _ => rfl, hK _ ?_⟩ | refine hK _ ?_
            clear hK K
            refine mix_pur2 rfl (fun K hK => ?_)
            go_simp
            first | refine ⟨_, fun _ => rfl, hK _ ?_⟩ | refine hK _ ?_
            clear hK K
            refine mix_pur2 rfl (fun K hK => ?_)
            go_simp
            first | refine ⟨_, fun _ => rfl, hK _ ?_⟩ | refine hK _ ?_
            clear hK K
            refine mix_done2 ?_
            obtain ⟨u, hu⟩ : ∃ u, u = decide (rk c.villages who x < rk c.villages who y) := ⟨_, rfl⟩
            rw [← hu] at HFS ⊢
            clear hC8 hC9 hqd hu
            cases u with
            | true =>
              go_wp2_with fail
              go_roundw
              case rel => exact ⟨q + 1, by omega, by go_num, by rw [HFS.out], hB9⟩
              case measure => simp [intOf]; omega
            | false =>
              go_wp2_with fail
              go_roundw
              case rel => exact ⟨q + 1, by omega, by go_num, by rw [HFS.out], hB9⟩
              case measure => simp [intOf]; omega
          | false =>
            rw [hft, Bool.false_and] at HFS
            have HFT := Lib.hid hft
            clear hft
            go_wp2_with fail
            refine wp_region_mix2 (.pur 0 (.pur 1 (.pur 2 (.pur 3 (.pur 4 (.pur 5 (.pur 6 (.pur 7 (.pur 8 (.pur 9 (.pur 10 (.pur 11 (.pur 12 (.pur 13 (.pur 14 (.pur 15 (.pur 16 (.pur 17 (.pur 18 (.pur 19 (.pur 21 (.pur 22 (.pur 23 (.pur 24 (.pur 25 (.pur 26 (.pur 27 (.pur 28 (.pur 29 (.pur 30 (.pur 31 (.pur 32 (.act 20 (.act 33 (.pur 34 (.pur 35 (.pur 36 .fin))))))))))))))))))))))))))))))))))))) 99 (GrS w.heap.size #[.slice am c.mountains.length cpm, .slice av c.villages.length cpv] ob (oo + i) (.slice (some ⟨rb, ro, none⟩) S.length rc) rb (ro + q) pi sb (so + q) who sb (so + pi) sv db (dO + sv) x db (dO + who) y) (fun _ => True) (by kernel_rfl) (by kernel_rfl) rfl (by kernel_rfl) (hE _ hBx).drew (fun wd hqd _ => ?_)
            have hBd := bnx hBx (hqd.below _)
            refine mix_pur2 rfl (fun K hK => ?_)
            go_simp
            first | refine ⟨_, fun _ => rfl, hK _ ?_⟩ | refine hK _ ?_
            clear hK K
            refine mix_pur2 rfl (fun K hK => ?_)
            go_simp
            first | refine ⟨_, fun _ => rfl, hK _ ?_⟩ | refine hK _ ?_
            clear hK K
            refine mix_pur2 rfl (fun K hK => ?_)
            go_simp
            first | refine ⟨_, fun _ => rfl, hK _ ?_⟩ | refine hK _ ?_
            clear hK K
            refine mix_pur2 rfl (fun K hK => ?_)
            go_simp
            first | refine ⟨_, fun _ => rfl, hK _ ?_⟩ | refine hK _ ?_
            clear hK K
            refine mix_pur2 rfl (fun K hK => ?_)
            go_simp
            first | refine ⟨_, fun _ => rfl, hK _ ?_⟩ | refine hK _ ?_
            clear hK K
            refine mix_pur2 rfl (fun K hK => ?_)
            go_simp
            first | refine ⟨_, fun _ => rfl, hK _ ?_⟩ | refine hK _ ?_
            clear hK K
            refine mix_pur2 rfl (fun K hK => ?_)
            go_simp
            first | refine ⟨_, fun _ => rfl, hK _ ?_⟩ | refine hK _ ?_
            clear hK K
            refine mix_pur2 rfl (fun K hK => ?_)
            go_simp
            first | refine ⟨_, fun _ => rfl, hK _ ?_⟩ | refine hK _ ?_
            clear hK K
            refine mix_pur2 rfl (fun K hK => ?_)
            go_simp
            first | refine ⟨_, fun _ => rfl, hK _ ?_⟩ | refine hK _ ?_
            clear hK K
            refine mix_pur2 rfl (fun K hK => ?_)
            go_simp
            first | refine ⟨_, fun _ => rfl, hK _ ?_⟩ | refine hK _ ?_
            clear hK K
            refine mix_pur2 rfl (fun K hK => ?_)
            go_simp
            first | refine ⟨_, fun _ => rfl, hK _ ?_⟩ | refine hK _ ?_
            clear hK K
            refine mix_pur2 rfl (fun K hK => ?_)
            go_simp
            first | refine ⟨_, fun _ => rfl, hK _ ?_⟩ | refine hK _ ?_
            clear hK K
            refine mix_pur2 rfl (fun K hK => ?_)
            go_simp
            first | refine ⟨_, fun _ => rfl, hK _ ?_⟩ | refine hK _ ?_
            clear hK K
            refine mix_pur2 rfl (fun K hK => ?_)
            go_simp
            first | refine ⟨_, fun _ => rfl, hK _ ?_⟩ | refine hK _ ?_
            clear hK K
            refine mix_pur2 rfl (fun K hK => ?_)
            go_simp
            first | refine ⟨_, fun _ => rfl, hK _ ?_⟩ | refine hK _ ?_
            clear hK K
            refine mix_pur2 rfl (fun K hK => ?_)
            go_simp
            first | refine ⟨_, fun _ => rfl, hK _ ?_⟩ | refine hK _ ?_
            clear hK K
            refine mix_pur2 rfl (fun K hK => ?_)
            go_simp
            first | refine ⟨_, fun _ => rfl, hK _ ?_⟩ | refine hK _ ?_
            clear hK K
            refine mix_pur2 rfl (fun K hK => ?_)
            go_simp
            first | refine ⟨_, fun _ => rfl, hK _ ?_⟩ | refine hK _ ?_
            clear hK K
            refine mix_pur2 rfl (fun K hK => ?_)
            go_simp
            first | refine ⟨_, fun _ => rfl, hK _ ?_⟩ | refine hK _ ?_
            clear hK K
            refine mix_pur2 rfl (fun K hK => ?_)
            go_simp
            first | refine ⟨_, fun _ => rfl, hK _ ?_⟩ | refine hK _ ?_
            clear hK K
            refine mix_pur2 rfl (fun K hK => ?_)
            go_simp
            first | refine ⟨_, fun _ => rfl, hK _ ?_⟩ | refine hK _ ?_
            clear hK K
            refine mix_pur2 rfl (fun K hK => ?_)
            go_simp
            first | refine ⟨_, fun _ => rfl, hK _ ?_⟩ | refine hK _ ?_
            clear hK K
            refine mix_pur2 rfl (fun K hK => ?_)
            go_simp
            first | refine ⟨_, fun _ => rfl, hK _ ?_⟩ | refine hK _ ?_
            clear hK K
            refine mix_pur2 rfl (fun K hK => ?_)
            go_simp
            first | refine ⟨_, fun _ => rfl, hK _ ?_⟩ | refine hK _ ?_
            clear hK K
            refine mix_pur2 rfl (fun K hK => ?_)
            go_simp
            first | refine ⟨_, fun _ => rfl, hK _ ?_⟩ | refine hK _ ?_
            clear hK K
            refine mix_pur2 rfl (fun K hK => ?_)
            go_simp
            first | refine ⟨_, fun _ => rfl, hK _ ?_⟩ | refine hK _ ?_
            clear hK K
            refine mix_pur2 rfl (fun K hK => ?_)
            go_simp
            first | refine ⟨_, fun _ => rfl, hK _ ?_⟩ | refine hK _ ?_
            clear hK K
            refine mix_pur2 rfl (fun K hK => ?_)
            go_simp
            first | refine ⟨_, fun _ => rfl, hK _ ?_⟩ | refine hK _ ?_
            clear hK K
            refine mix_pur2 rfl (fun K hK => ?_)
            go_simp
            first | refine ⟨_, fun _ => rfl, hK _ ?_⟩ | refine hK _ ?_
            clear hK K
            refine mix_pur2 rfl (fun K hK => ?_)
            go_simp
            first | refine ⟨_, fun _ => rfl, hK _ ?_⟩ | refine hK _ ?_
            clear hK K
            refine mix_pur2 rfl (fun K hK => ?_)
            go_simp
            first | refine ⟨_, fun _ => rfl, hK _ ?_⟩ | refine hK _ ?_
            clear hK K
            refine mix_pur2 rfl (fun K hK => ?_)
            go_simp
            first | refine ⟨_, fun _ => rfl, hK _ ?_⟩ | refine hK _ ?_
            clear hK K
            refine mix_eff2 rfl false rfl (fun K hK => ?_)
            go_simp
            refine hK _ _ (hE _ hBd) ?_
            clear hK K
            refine mix_eff2 rfl false rfl (fun K hK => ?_)
            go_simp
            refine hK _ _ (hE _ hBd) ?_
            clear hK K
            refine mix_pur2 rfl (fun K hK => ?_)
            go_simp
            first | refine ⟨_, fun _ => rfl, hK _ ?_⟩ | refine hK _ ?_
            clear hK K
            refine mix_pur2 rfl (fun K hK => ?_)
            go_simp
            first | refine ⟨_, fun _ => rfl, hK _ ?_⟩ | refine hK _ ?_
            clear hK K
            refine mix_pur2 rfl (fun K hK => ?_)
            go_simp
            first | refine ⟨_, fun _ => rfl, hK _ ?_⟩ | refine hK _ ?_
            clear hK K
            refine mix_done2 ?_
            clear hqd
            go_wp2_with fail
            go_roundw
            case rel => exact ⟨q + 1, by omega, by go_num, by rw [HFS.out], hBd⟩
            case measure => simp [intOf]; omega
        · obtain rfl : q = S.length := by omega
          cases hft : fineB c.villages d S p S.length with
          | true =>
            have HY := Lib.hid (HYES.out hft)
            clear hft
            go_wp2_with fail
            go_ret
            exact ⟨by rw [HY.out]; rfl, bnx hT hBx⟩
          | false =>
            rw [hft] at HNX
            have HFT := Lib.hid hft
            clear hft
            go_wp2_with fail
            go_roundw
            case rel => exact ⟨i + 1, by omega, by go_num, HNX.out, hBx⟩
            case measure => simp [intOf]; omega
    · obtain rfl : i = O.length := by omega
      rw [List.take_length] at hno
      have HNO := Lib.hid hno
      clear hno
      go_wp2_with fail
      go_ret
      exact ⟨by rw [HNO.out]; rfl, bnx hT hBb⟩

set_option maxRecDepth 100000 in
set_option maxHeartbeats 4000000 in
theorem rbetter_c {A A1 A2 : Nat → Prop} {w : World} {vm vv v1 v2 : Value} {c : Com} {d S : List Int} (h : Cm A w vm vv c) (hok : c.Ok 4) (hd : Ints A1 w v1 d) (hpd : PermOf c.villages.length d) (hS : Ints A2 w v2 S) (hm1 : 1 ≤ S.length) (hm4 : S.length ≤ 4) (hSn : ∀ x ∈ S, 0 ≤ x ∧ x < (c.villages.length : Int)) :
    Calls Try.prog 122 #[.agg #[vm, vv], v1, v2] w fun e w' => e = .returned (.bool (betterB c.villages d S)) ∧ Below w.heap.size w w' := by
  obtain ⟨am, cpm, rfl, _, _⟩ := h.1.shape
  obtain ⟨av, cpv, rfl, _, _⟩ := h.2.shape
  have hvl4 : c.villages.length ≤ 4 := by have := hok.vl; have := hok.n2; omega
  have hvl1 : 0 < c.villages.length := by have := hok.vl; have := hok.n1; omega
  have hdl := hpd.len
  have hsd := hd.shape
  obtain ⟨ad, cd, rfl, _, _⟩ := hsd
  obtain ⟨asl, csl, rfl, _, _⟩ := hS.shape
  obtain ⟨db, dO, rfl, -, hdb, hdc⟩ := hd.addr (by omega)
  obtain ⟨sb, so, rfl, -, hsb, hsc⟩ := hS.addr hm1
  have hB0 : Below w.heap.size w (w.alloc (.cells #[.slice am c.mountains.length cpm, .slice av c.villages.length cpv] 25)) := (Below.refl _ w).alloc (Nat.le_refl _) _
  have hbx : Blk w.heap.size #[.slice am c.mountains.length cpm, .slice av c.villages.length cpv] 25 (w.alloc (.cells #[.slice am c.mountains.length cpm, .slice av c.villages.length cpv] 25)) := Blk.new w _ _
  have hC := h.call hB0
  have hdc := fun j (hj : j < d.length) => (World.cell?_of_block (hB0.block db hdb)).trans (hdc j hj)
  have hsc := fun j (hj : j < S.length) => (World.cell?_of_block (hB0.block sb hsb)).trans (hsc j hj)
  have hsz : (w.alloc (.cells #[.slice am c.mountains.length cpm, .slice av c.villages.length cpv] 25)).heap.size = w.heap.size + 1 := by simp
  have hoa := orders_perm (n := S.length) hm4
  have hol := orders_len (n := S.length) hm4
  have hbe : betterB c.villages d S = (ordersL S.length).any (fun p => fineB c.villages d S p S.length) := rfl
  have hoc : ∀ w' : World, Calls Try.prog 123 #[.int .i64 S.length, .slice none 0 0] w' fun e w'' => ∃ v', e = .returned v' ∧ Grid (fun b => w'.heap.size ≤ b) w'' v' (ordersL S.length) ∧ Below w'.heap.size w' w'' := fun w' => by
    have := rdivs_c hm4 S.length [] w' (.slice none 0 0) (fun _ => False) (ints_nil _ _) (by simp)
    rw [← ordersL_exts S.length (by omega)] at this
    exact this.mono fun e w'' ⟨v', h1, h2, h3⟩ => ⟨v', h1, h2.wide fun b hb _ => hb.elim (fun h => h.elim) id, h3⟩
  rw [hbe]
  obtain ⟨O, hO⟩ : ∃ O, O = ordersL S.length := ⟨_, rfl⟩
  rw [← hO] at hoa hol ⊢
  simp only [← hO] at hoc
  have HDL := Lib.hid hdl
  have HDC := Lib.hid hdc
  have HSC := Lib.hid hsc
  have HSN := Lib.hid hSn
  have HOA := Lib.hid hoa
  have HOC := Lib.hid hoc
  have HPD := Lib.hid hpd
  clear hdl hdc hsc hSn hoa hoc hpd hO hbe
  go_enter Try.func122, Try.ntmps122
  go_wp2_with fail
  generalize w.alloc (.cells #[.slice am c.mountains.length cpm, .slice av c.villages.length cpv] 25) = w0 at *
  refine (HOC.out w0).mono ?_
  rintro e w2 ⟨vo, rfl, hOg, hB2⟩
  have hT := bnx hB0 hB2
  have hC := hC.call hB2
  have hbx := hbx.call hB2
  have hs0 := hB2.size
  have hdc2 := fun j (hj : j < d.length) => (World.cell?_of_block (hB2.block db (by omega))).trans (HDC.out j hj)
  have hsc2 := fun j (hj : j < S.length) => (World.cell?_of_block (hB2.block sb (by omega))).trans (HSC.out j hj)
  have HDC2 := Lib.hid hdc2
  have HSC2 := Lib.hid hsc2
  have hdb2 : db < w2.heap.size := by omega
  have hsb2 : sb < w2.heap.size := by omega
  obtain ⟨ao, co, rfl, _, _⟩ := hOg.shape
  clear hdc2 hsc2 HDC HSC hB2
  go_wp2_with fail
  go_loopw [8] (fun s8 wb => ∃ i : Nat, i ≤ O.length ∧ s8 = .int .i64 i ∧ (O.take i).any (fun p => fineB c.villages d S p S.length) = false ∧ Below w2.heap.size w2 wb) (fun s8 _ => O.length - (intOf s8).toNat)
  case atStart => exact ⟨0, Nat.zero_le _, rfl, by simp, Below.refl _ _⟩
  case round =>
    obtain ⟨i, hi, rfl, hno, hBb⟩ := hrel
    by_cases hil : i < O.length
    · have hnx : (O.take (i + 1)).any (fun p => fineB c.villages d S p S.length) = ((O.take i).any (fun p => fineB c.villages d S p S.length) || fineB c.villages d S O[i] S.length) := by rw [List.take_succ_eq_append_getElem hil, List.any_append, List.any_cons, List.any_nil, Bool.or_false]
      have hyes : fineB c.villages d S O[i] S.length = true → O.any (fun p => fineB c.villages d S p S.length) = true := fun hf => List.any_eq_true.2 ⟨_, List.getElem_mem hil, hf⟩
      rw [hno, Bool.false_or] at hnx
      obtain ⟨ob, oo, rfl, -, hob⟩ := hOg.addr (by omega)
      obtain ⟨ra, rc, q1, hR⟩ := hOg.row i hil
      have hpp := HOA.out _ (List.getElem_mem hil)
      have hppl := hpp.len
      obtain ⟨p, hpe⟩ : ∃ p, p = O[i] := ⟨_, rfl⟩
      rw [← hpe] at q1 hR hpp hppl hnx hyes
      rw [hppl] at q1 hR
      obtain ⟨rb, ro, rfl, -, hrb, hrc⟩ := hR.addr (by omega)
      have HPE := Lib.hid hpe
      have HPP := Lib.hid hpp
      have HPL := Lib.hid hppl
      have HRC := Lib.hid hrc
      have HNX := Lib.hid hnx
      have HYES := Lib.hid hyes
      clear hpe hpp hppl hrc hnx hyes hno
      go_wp2_with fail
      go_loopw [9, 10] (fun s9 s10 wx => ∃ q : Nat, q ≤ S.length ∧ s10 = .int .i64 q ∧ s9 = .bool (fineB c.villages d S p q) ∧ Below w2.heap.size w2 wx) (fun _ s10 _ => S.length - (intOf s10).toNat)
      case atStart => exact ⟨0, Nat.zero_le _, rfl, rfl, hBb⟩
      case round =>
        rename World => wx
        obtain ⟨q, hq, rfl, rfl, hBx⟩ := hrel
        by_cases hql : q < S.length
        · have hfs := fineB_succ c.villages d S p q
          have kp : q < p.length := by have := HPL.out; omega
          obtain ⟨t1, t2⟩ := HSN.out _ (List.getElem_mem hql)
          obtain ⟨t3, t4⟩ := (HPP.out.mem _).1 (List.getElem_mem kp)
          obtain ⟨who, hwho⟩ : ∃ who : Nat, S[q] = (who : Int) := ⟨S[q].toNat, by omega⟩
          obtain ⟨pi, hpi⟩ : ∃ pi : Nat, p[q] = (pi : Int) := ⟨p[q].toNat, by omega⟩
          have hwn : who < c.villages.length := by omega
          have hpm : pi < S.length := by omega
          obtain ⟨t5, t6⟩ := HSN.out _ (List.getElem_mem hpm)
          obtain ⟨sv, hsv⟩ : ∃ sv : Nat, S[pi] = (sv : Int) := ⟨S[pi].toNat, by omega⟩
          have hsn : sv < c.villages.length := by omega
          have e1 : gAt S q = who := by simp [gAt, hql, hwho]
          have e2 : gTo S p q = sv := by simp [gTo, kp, hpi, hpm, hsv]
          have kf : sv < d.length := by have := HDL.out; omega
          have kd : who < d.length := by have := HDL.out; omega
          have e3 : d.getD sv 0 = d[sv] := by simp [kf]
          have e4 : d.getD who 0 = d[who] := by simp [kd]
          rw [e1, e2, e3, e4] at hfs
          have g1 := HSC2.out q hql
          have g2 := HSC2.out pi hpm
          have g3 := HRC.out q kp
          have g4 := HDC2.out sv kf
          have g5 := HDC2.out who kd
          rw [hwho] at g1
          rw [hsv] at g2
          rw [hpi] at g3
          have hmx := (HPD.out.mem _).1 (List.getElem_mem kf)
          have hmy := (HPD.out.mem _).1 (List.getElem_mem kd)
          have hlk := (hok.vil _ (List.getElem_mem hwn)).2.2.2.2
          have hxm : d[sv] ∈ c.villages[who].likes := (hlk.mem _).2 (by have := hok.vl; omega)
          have hym : d[who] ∈ c.villages[who].likes := (hlk.mem _).2 (by have := hok.vl; omega)
          obtain ⟨x, hx⟩ : ∃ x, x = d[sv] := ⟨_, rfl⟩
          obtain ⟨y, hy⟩ : ∃ y, y = d[who] := ⟨_, rfl⟩
          rw [← hx] at hfs g4 hxm
          rw [← hy] at hfs g5 hym
          have HFS := Lib.hid hfs
          have hE : ∀ w', Below w2.heap.size w2 w' → (GrS w.heap.size #[.slice am c.mountains.length cpm, .slice av c.villages.length cpv] ob (oo + i) (.slice (some ⟨rb, ro, none⟩) S.length rc) rb (ro + q) pi sb (so + q) who sb (so + pi) sv db (dO + sv) x db (dO + who) y) w' := fun w' h => ⟨hbx.call h, (World.cell?_of_block (h.block ob hob)).trans q1, (World.cell?_of_block (h.block rb hrb)).trans g3, (World.cell?_of_block (h.block sb hsb2)).trans g1, (World.cell?_of_block (h.block sb hsb2)).trans g2, (World.cell?_of_block (h.block db hdb2)).trans g4, (World.cell?_of_block (h.block db hdb2)).trans g5⟩
          clear hfs e1 e2 e3 e4 hx hy g1 g2 g3 g4 g5 hwho hpi hsv t1 t2 t3 t4 t5 t6 hmx hmy hlk
          have z1 := (hE _ hBx).2.1
          have z2 := (hE _ hBx).2.2.1
          have z3 := (hE _ hBx).2.2.2.2.1
          cases hft : fineB c.villages d S p q with
          | true =>
            rw [hft, Bool.true_and] at HFS
            have HFT := Lib.hid hft
            clear hft
            go_wp2_with fail
            refine wp_region_mix2 (.pur 0 (.pur 1 (.one 2 (.pur 3 (.pur 4 (.pur 5 (.one 6 (.pur 7 (.pur 8 (.pur 9 (.one 10 (.one 12 (.pur 13 (.pur 14 (.pur 15 (.one 16 (.pur 17 (.pur 18 (.pur 19 (.pur 20 (.one 21 (.pur 22 (.one 23 (.act 11 (.act 24 (.pur 25 (.pur 26 (.pur 27 .fin)))))))))))))))))))))))))))) 99 (GrS w.heap.size #[.slice am c.mountains.length cpm, .slice av c.villages.length cpv] ob (oo + i) (.slice (some ⟨rb, ro, none⟩) S.length rc) rb (ro + q) pi sb (so + q) who sb (so + pi) sv db (dO + sv) x db (dO + who) y) (fun _ => True) (by kernel_rfl) (by kernel_rfl) rfl (by kernel_rfl) (hE _ hBx).drew (fun wd hqd _ => ?_)
            have hBd := bnx hBx (hqd.below _)
            refine mix_pur2 rfl (fun K hK => ?_)
            go_simp
            first | refine ⟨_, fun _ => rfl, hK _ ?_⟩ | refine hK _ ?_
            clear hK K
            refine mix_pur2 rfl (fun K hK => ?_)
            go_simp
            first | refine ⟨_, fun _ => rfl, hK _ ?_⟩ | refine hK _ ?_
            clear hK K
            refine mix_loadg2 rfl rfl (.agg #[.slice am c.mountains.length cpm, .slice av c.villages.length cpv]) (by go_simp) (fun w' h => by have h : (GrS w.heap.size #[.slice am c.mountains.length cpm, .slice av c.villages.length cpv] ob (oo + i) (.slice (some ⟨rb, ro, none⟩) S.length rc) rb (ro + q) pi sb (so + q) who sb (so + pi) sv db (dO + sv) x db (dO + who) y) w' := h; have h0 := h.1.cell 0; have h1 := h.1.cell 1; go_simp) rfl ?_
            refine mix_pur2 rfl (fun K hK => ?_)
            go_simp
            first | refine ⟨_, fun _ => rfl, hK _ ?_⟩ | refine hK _ ?_
            clear hK K
            refine mix_pur2 rfl (fun K hK => ?_)
            go_simp
            first | refine ⟨_, fun _ => rfl, hK _ ?_⟩ | refine hK _ ?_
            clear hK K
            refine mix_pur2 rfl (fun K hK => ?_)
            go_simp
            first | refine ⟨_, fun _ => rfl, hK _ ?_⟩ | refine hK _ ?_
            clear hK K
            refine mix_loadg2 rfl rfl (.int .i64 (who : Nat)) (by go_simp) (fun w' h => by have h : (GrS w.heap.size #[.slice am c.mountains.length cpm, .slice av c.villages.length cpv] ob (oo + i) (.slice (some ⟨rb, ro, none⟩) S.length rc) rb (ro + q) pi sb (so + q) who sb (so + pi) sv db (dO + sv) x db (dO + who) y) w' := h; have h0 := h.2.2.2.1; go_simp) rfl ?_
            refine mix_pur2 rfl (fun K hK => ?_)
            go_simp
            first | refine ⟨_, fun _ => rfl, hK _ ?_⟩ | refine hK _ ?_
            clear hK K
            refine mix_pur2 rfl (fun K hK => ?_)
            go_simp
            first | refine ⟨_, fun _ => rfl, hK _ ?_⟩ | refine hK _ ?_
            clear hK K
            refine mix_pur2 rfl (fun K hK => ?_)
            go_simp
            first | refine ⟨_, fun _ => rfl, hK _ ?_⟩ | refine hK _ ?_
            clear hK K
            refine mix_loadg2 rfl rfl (.int .i64 x) (by go_simp) (fun w' h => by have h : (GrS w.heap.size #[.slice am c.mountains.length cpm, .slice av c.villages.length cpv] ob (oo + i) (.slice (some ⟨rb, ro, none⟩) S.length rc) rb (ro + q) pi sb (so + q) who sb (so + pi) sv db (dO + sv) x db (dO + who) y) w' := h; have h0 := h.2.2.2.2.2.1; go_simp) rfl ?_
            refine mix_loadg2 rfl rfl (.agg #[.slice am c.mountains.length cpm, .slice av c.villages.length cpv]) (by go_simp) (fun w' h => by have h : (GrS w.heap.size #[.slice am c.mountains.length cpm, .slice av c.villages.length cpv] ob (oo + i) (.slice (some ⟨rb, ro, none⟩) S.length rc) rb (ro + q) pi sb (so + q) who sb (so + pi) sv db (dO + sv) x db (dO + who) y) w' := h; have h0 := h.1.cell 0; have h1 := h.1.cell 1; go_simp) rfl ?_
            refine mix_pur2 rfl (fun K hK => ?_)
            go_simp
            first | refine ⟨_, fun _ => rfl, hK _ ?_⟩ | refine hK _ ?_
            clear hK K
            refine mix_pur2 rfl (fun K hK => ?_)
            go_simp
            first | refine ⟨_, fun _ => rfl, hK _ ?_⟩ | refine hK _ ?_
            clear hK K
            refine mix_pur2 rfl (fun K hK => ?_)
            go_simp
            first | refine ⟨_, fun _ => rfl, hK _ ?_⟩ | refine hK _ ?_
            clear hK K
            refine mix_loadg2 rfl rfl (.int .i64 (who : Nat)) (by go_simp) (fun w' h => by have h : (GrS w.heap.size #[.slice am c.mountains.length cpm, .slice av c.villages.length cpv] ob (oo + i) (.slice (some ⟨rb, ro, none⟩) S.length rc) rb (ro + q) pi sb (so + q) who sb (so + pi) sv db (dO + sv) x db (dO + who) y) w' := h; have h0 := h.2.2.2.1; go_simp) rfl ?_
            refine mix_pur2 rfl (fun K hK => ?_)
            go_simp
            first | refine ⟨_, fun _ => rfl, hK _ ?_⟩ | refine hK _ ?_
            clear hK K
            refine mix_pur2 rfl (fun K hK => ?_)
            go_simp
            first | refine ⟨_, fun _ => rfl, hK _ ?_⟩ | refine hK _ ?_
            clear hK K
            refine mix_pur2 rfl (fun K hK => ?_)
            go_simp
            first | refine ⟨_, fun _ => rfl, hK _ ?_⟩ | refine hK _ ?_
            clear hK K
            refine mix_pur2 rfl (fun K hK => ?_)
            go_simp
            first | refine ⟨_, fun _ => rfl, hK _ ?_⟩ | refine hK _ ?_
            clear hK K
            refine mix_loadg2 rfl rfl (.int .i64 (who : Nat)) (by go_simp) (fun w' h => by have h : (GrS w.heap.size #[.slice am c.mountains.length cpm, .slice av c.villages.length cpv] ob (oo + i) (.slice (some ⟨rb, ro, none⟩) S.length rc) rb (ro + q) pi sb (so + q) who sb (so + pi) sv db (dO + sv) x db (dO + who) y) w' := h; have h0 := h.2.2.2.1; go_simp) rfl ?_
            refine mix_pur2 rfl (fun K hK => ?_)
            go_simp
            first | refine ⟨_, fun _ => rfl, hK _ ?_⟩ | refine hK _ ?_
            clear hK K
            refine mix_loadg2 rfl rfl (.int .i64 y) (by go_simp) (fun w' h => by have h : (GrS w.heap.size #[.slice am c.mountains.length cpm, .slice av c.villages.length cpv] ob (oo + i) (.slice (some ⟨rb, ro, none⟩) S.length rc) rb (ro + q) pi sb (so + q) who sb (so + pi) sv db (dO + sv) x db (dO + who) y) w' := h; have h0 := h.2.2.2.2.2.2; go_simp) rfl ?_
            refine mix_eff2 rfl false rfl (fun K hK => ?_)
            go_simp
            refine (rrank_c (hC.call hBd) who hwn x hxm).mono ?_
            rintro e w8 ⟨rfl, hC8⟩
            have hB8 := bnx hBd hC8
            refine hK _ _ (hE w8 hB8) ?_
            clear hK K
            refine mix_eff2 rfl false rfl (fun K hK => ?_)
            go_simp
            refine (rrank_c (hC.call hB8) who hwn y hym).mono ?_
            rintro e w9 ⟨rfl, hC9⟩
            have hB9 := bnx hB8 hC9
            refine hK _ _ (hE w9 hB9) ?_
            clear hK K
            refine mix_pur2 rfl (fun K hK => ?_)
            go_simp
            first | refine ⟨_, fun _ => rfl, hK _ ?_⟩ | refine hK _ ?_
            clear hK K
            refine mix_pur2 rfl (fun K hK => ?_)
            go_simp
            first | refine ⟨_, fun _ => rfl, hK _ ?_⟩ | refine hK _ ?_
            clear hK K
            refine mix_pur2 rfl (fun K hK => ?_)
            go_simp
            first | refine ⟨_, fun _ => rfl, hK _ ?_⟩ | refine hK _ ?_
            clear hK K
            refine mix_done2 ?_
            obtain ⟨u, hu⟩ : ∃ u, u = decide (rk c.villages who x < rk c.villages who y) := ⟨_, rfl⟩
            rw [← hu] at HFS ⊢
            clear hC8 hC9 hqd hu
            cases u with
            | true =>
              go_wp2_with fail
              go_roundw
              case rel => exact ⟨q + 1, by omega, by go_num, by rw [HFS.out], hB9⟩
              case measure => simp [intOf]; omega
            | false =>
              go_wp2_with fail
              go_roundw
              case rel => exact ⟨q + 1, by omega, by go_num, by rw [HFS.out], hB9⟩
              case measure => simp [intOf]; omega
          | false =>
            rw [hft, Bool.false_and] at HFS
            have HFT := Lib.hid hft
            clear hft
            go_wp2_with fail
            refine wp_region_mix2 (.pur 0 (.pur 1 (.pur 2 (.pur 3 (.pur 4 (.pur 5 (.pur 6 (.pur 7 (.pur 8 (.pur 9 (.pur 10 (.pur 12 (.pur 13 (.pur 14 (.pur 15 (.pur 16 (.pur 17 (.pur 18 (.pur 19 (.pur 20 (.pur 21 (.pur 22 (.pur 23 (.act 11 (.act 24 (.pur 25 (.pur 26 (.pur 27 .fin)))))))))))))))))))))))))))) 99 (GrS w.heap.size #[.slice am c.mountains.length cpm, .slice av c.villages.length cpv] ob (oo + i) (.slice (some ⟨rb, ro, none⟩) S.length rc) rb (ro + q) pi sb (so + q) who sb (so + pi) sv db (dO + sv) x db (dO + who) y) (fun _ => True) (by kernel_rfl) (by kernel_rfl) rfl (by kernel_rfl) (hE _ hBx).drew (fun wd hqd _ => ?_)
            have hBd := bnx hBx (hqd.below _)
            refine mix_pur2 rfl (fun K hK => ?_)
            go_simp
            first | refine ⟨_, fun _ => rfl, hK _ ?_⟩ | refine hK _ ?_
            clear hK K
            refine mix_pur2 rfl (fun K hK => ?_)
            go_simp
            first | refine ⟨_, fun _ => rfl, hK _ ?_⟩ | refine hK _ ?_
            clear hK K
            refine mix_pur2 rfl (fun K hK => ?_)
            go_simp
            first | refine ⟨_, fun _ => rfl, hK _ ?_⟩ | refine hK _ ?_
            clear hK K
            refine mix_pur2 rfl (fun K hK => ?_)
            go_simp
            first | refine ⟨_, fun _ => rfl, hK _ ?_⟩ | refine hK _ ?_
            clear hK K
            refine mix_pur2 rfl (fun K hK => ?_)
            go_simp
            first | refine ⟨_, fun _ => rfl, hK _ ?_⟩ | refine hK _ ?_
            clear hK K
            refine mix_pur2 rfl (fun K hK => ?_)
            go_simp
            first | refine ⟨_, fun _ => rfl, hK _ ?_⟩ | refine hK _ ?_
            clear hK K
            refine mix_pur2 rfl (fun K hK => ?_)
            go_simp
            first | refine ⟨_, fun _ => rfl, hK _ ?_⟩ | refine hK _ ?_
            clear hK K
            refine mix_pur2 rfl (fun K hK => ?_)
            go_simp
            first | refine ⟨_, fun _ => rfl, hK _ ?_⟩ | refine hK _ ?_
            clear hK K
            refine mix_pur2 rfl (fun K hK => ?_)
            go_simp
            first | refine ⟨_, fun _ => rfl, hK _ ?_⟩ | refine hK _ ?_
            clear hK K
            refine mix_pur2 rfl (fun K hK => ?_)
            go_simp
            first | refine ⟨_, fun _ => rfl, hK _ ?_⟩ | refine hK _ ?_
            clear hK K
            refine mix_pur2 rfl (fun K hK => ?_)
            go_simp
            first | refine ⟨_, fun _ => rfl, hK _ ?_⟩ | refine hK _ ?_
            clear hK K
            refine mix_pur2 rfl (fun K hK => ?_)
            go_simp
            first | refine ⟨_, fun _ => rfl, hK _ ?_⟩ | refine hK _ ?_
            clear hK K
            refine mix_pur2 rfl (fun K hK => ?_)
            go_simp
            first | refine ⟨_, fun _ => rfl, hK _ ?_⟩ | refine hK _ ?_
            clear hK K
            refine mix_pur2 rfl (fun K hK => ?_)
            go_simp
            first | refine ⟨_, fun _ => rfl, hK _ ?_⟩ | refine hK _ ?_
            clear hK K
            refine mix_pur2 rfl (fun K hK => ?_)
            go_simp
            first | refine ⟨_, fun _ => rfl, hK _ ?_⟩ | refine hK _ ?_
            clear hK K
            refine mix_pur2 rfl (fun K hK => ?_)
            go_simp
            first | refine ⟨_, fun _ => rfl, hK _ ?_⟩ | refine hK _ ?_
            clear hK K
            refine mix_pur2 rfl (fun K hK => ?_)
            go_simp
            first | refine ⟨_, fun _ => rfl, hK _ ?_⟩ | refine hK _ ?_
            clear hK K
            refine mix_pur2 rfl (fun K hK => ?_)
            go_simp
            first | refine ⟨_, fun _ => rfl, hK _ ?_⟩ | refine hK _ ?_
            clear hK K
            refine mix_pur2 rfl (fun K hK => ?_)
            go_simp
            first | refine ⟨_, fun _ => rfl, hK _ ?_⟩ | refine hK _ ?_
            clear hK K
            refine mix_pur2 rfl (fun K hK => ?_)
            go_simp
            first | refine ⟨_, fun _ => rfl, hK _ ?_⟩ | refine hK _ ?_
            clear hK K
            refine mix_pur2 rfl (fun K hK => ?_)
            go_simp
            first | refine ⟨_, fun _ => rfl, hK _ ?_⟩ | refine hK _ ?_
            clear hK K
            refine mix_pur2 rfl (fun K hK => ?_)
            go_simp
            first | refine ⟨_, fun _ => rfl, hK _ ?_⟩ | refine hK _ ?_
            clear hK K
            refine mix_pur2 rfl (fun K hK => ?_)
            go_simp
            first | refine ⟨_, fun _ => rfl, hK _ ?_⟩ | refine hK _ ?_
            clear hK K
            refine mix_eff2 rfl false rfl (fun K hK => ?_)
            go_simp
            refine hK _ _ (hE _ hBd) ?_
            clear hK K
            refine mix_eff2 rfl false rfl (fun K hK => ?_)
            go_simp
            refine hK _ _ (hE _ hBd) ?_
            clear hK K
            refine mix_pur2 rfl (fun K hK => ?_)
            go_simp
            first | refine ⟨_, fun _ => rfl, hK _ ?_⟩ | refine hK _ ?_
            clear hK K
            refine mix_pur2 rfl (fun K hK => ?_)
            go_simp
            first | refine ⟨_, fun _ => rfl, hK _ ?_⟩ | refine hK _ ?_
            clear hK K
            refine mix_pur2 rfl (fun K hK => ?_)
            go_simp
            first | refine ⟨_, fun _ => rfl, hK _ ?_⟩ | refine hK _ ?_
            clear hK K
            refine mix_done2 ?_
            clear hqd
            go_wp2_with fail
            go_roundw
            case rel => exact ⟨q + 1, by omega, by go_num, by rw [HFS.out], hBd⟩
            case measure => simp [intOf]; omega
        · obtain rfl : q = S.length := by omega
          cases hft : fineB c.villages d S p S.length with
          | true =>
            have HY := Lib.hid (HYES.out hft)
            clear hft
            go_wp2_with fail
            go_ret
            exact ⟨by rw [HY.out]; rfl, bnx hT hBx⟩
          | false =>
            rw [hft] at HNX
            have HFT := Lib.hid hft
            clear hft
            go_wp2_with fail
            go_roundw
            case rel => exact ⟨i + 1, by omega, by go_num, HNX.out, hBx⟩
            case measure => simp [intOf]; omega
    · obtain rfl : i = O.length := by omega
      rw [List.take_length] at hno
      have HNO := Lib.hid hno
      clear hno
      go_wp2_with fail
      go_ret
      exact ⟨by rw [HNO.out]; rfl, bnx hT hBb⟩

end Go.Proofs.Ythchpoabncdicaa
