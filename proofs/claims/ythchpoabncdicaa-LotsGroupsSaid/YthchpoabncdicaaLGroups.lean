/- The walk of LotsGroups: it hands back true, whatever the numbers; conditions: the argument reads as numbers. -/
import Derived.Test.YthchpoabncdicaaGrpT
import Derived.Test.YthchpoabncdicaaGrp5
namespace Go.Proofs.Ythchpoabncdicaa
open Go.RowKit

def grE : Option (List Int) → Int
  | some _ => 0
  | none => 11
theorem groupD_c {A A' : Nat → Prop} {w : World} {vm vv vd : Value} {c : Com} {l : List Int} (h : Cm A w vm vv c) (hok : c.Ok 4) (hd : Ints A' w vd l) (hp : PermOf c.villages.length l) :
    Calls Try.prog 68 #[.agg #[vm, vv], vd] w fun e w' => ∃ v', e = .returned (.tuple #[v', .int .i64 (grE (grpF (betterB c.villages l) c.villages.length))]) ∧ Ints (fun b => w.heap.size ≤ b) w' v' ((grpF (betterB c.villages l) c.villages.length).getD []) ∧ Below w.heap.size w w' := by
  have he : divE c l = 0 := divE_zero hok (by rw [← hok.vl]; exact hp)
  have := groupA_c h hd
  have e : groupE c l = grE (grpF (betterB c.villages l) c.villages.length) := by
    rw [groupE, if_pos he]
    cases grpF (betterB c.villages l) c.villages.length <;> rfl
  rw [e, groupR, if_pos he] at this
  exact this

set_option maxRecDepth 100000 in
set_option maxHeartbeats 4000000 in
theorem lotsGroups_c {A : Nat → Prop} {w : World} {v : Value} {nums : List Int} (hn : Ints A w v nums) :
    Calls Try.prog 17 #[v] w fun e w' => e = .returned (.bool true) ∧ Below w.heap.size w w' := by
  go_enter Try.func17, Try.ntmps17
  go_wp2_with fail
  refine (newHand_c hn).mono ?_
  rintro e w1 ⟨rfl, hH, hB1⟩
  have hs1 := hH.lt
  go_wp2_with fail
  refine (commonsOf_c hH (by omega) 4 (by omega) (by omega)).mono ?_
  rintro e w2 ⟨vm, vv, rfl, ⟨c, hC, hok⟩, ⟨k2, hk2, hH⟩, hG⟩
  have hB2 : Below w.heap.size w w2 := hB1.grown hG (by omega) (fun k e => by injection e with e; omega)
  have hs2 := hG.size
  clear hG hB1
  obtain ⟨am, cpm, rfl, _, _⟩ := hC.1.shape
  obtain ⟨av, cpv, rfl, _, _⟩ := hC.2.shape
  have hH := hH.call ((Below.refl w2.heap.size w2).alloc (Nat.le_refl _) (.cells #[.slice am c.mountains.length cpm, .slice av c.villages.length cpv] 25))
  obtain ⟨bx, hbxe⟩ : ∃ b, b = w2.heap.size := ⟨_, rfl⟩
  have hbx : Blk bx #[.slice am c.mountains.length cpm, .slice av c.villages.length cpv] 25 (w2.alloc (.cells #[.slice am c.mountains.length cpm, .slice av c.villages.length cpv] 25)) := by rw [hbxe]; exact Blk.new w2 _ _
  have hC := hC.alloc (.cells #[.slice am c.mountains.length cpm, .slice av c.villages.length cpv] 25)
  have hT := bal (o := .cells #[.slice am c.mountains.length cpm, .slice av c.villages.length cpv] 25) hB2
  have hvl4 : c.villages.length ≤ 4 := by have := hok.vl; have := hok.n2; omega
  have hvl1 : 0 < c.villages.length := by have := hok.vl; have := hok.n1; omega
  have c1 := hbx.cell 1
  go_upto_region 3 with fail
  rw [← hbxe]
  have hbxl : w.heap.size < bx := by omega
  clear hbxe
  generalize w2.alloc (.cells #[.slice am c.mountains.length cpm, .slice av c.villages.length cpv] 25) = w3 at *
  go_wp2_with fail
  clear c1
  refine (row_c hH c.villages.length (by omega) (by omega)).mono ?_
  rintro e w4 ⟨⟨vf, rfl, fst, hf4, hpf⟩, -, hG4⟩
  have hC4 := hC.hand hG4 hs1
  have hbx4 := hbx.hand hG4 (by omega)
  have hT4 := bhand hT hG4 (by omega)
  clear hC hbx hT hH hG4 hbxl
  have hfl := hpf.len
  have hvl := hok.vl
  have hpf' : PermOf c.mountains.length fst := by rw [← hvl]; exact hpf
  have hlk : ∀ v ∈ c.villages, PermOf c.villages.length v.likes := fun v hv => by rw [hvl]; exact (hok.vil v hv).2.2.2.2
  have htr := tradeF_c hC4 hf4 (divE_zero hok hpf')
  have htp : PermOf c.villages.length (tradeF c.villages fst) := by
    have := trade_perm (vs := c.villages) (order := fst) (by omega) (by rw [hfl]) (by rw [hfl]; exact hpf) (by rw [hfl]; exact hlk)
    rwa [hfl] at this
  have htn : grpF (betterB c.villages (tradeF c.villages fst)) c.villages.length = none := by
    have := trade_none (vs := c.villages) (fst := fst) (by omega) (by rw [hfl]) (by rw [hfl]; exact hpf) (by rw [hfl]; exact hlk)
    rwa [hfl] at this
  have HPF := Lib.hid hpf
  have HTR := Lib.hid htr
  have HTP := Lib.hid htp
  have HTN := Lib.hid htn
  have HFL := Lib.hid hfl
  clear hpf hpf' hlk hvl htr htp htn
  have hsf := hf4.shape
  rw [hfl] at hsf
  obtain ⟨af, cf, rfl, _, _⟩ := hsf
  clear hfl
  have c0 := hbx4.cell 0
  have c1 := hbx4.cell 1
  go_wp2_with fail
  clear c0 c1
  refine HTR.out.mono ?_
  rintro e w5 ⟨vt, rfl, hg5, hB5⟩
  have hC5 := hC4.call hB5
  have hbx5 := hbx4.call hB5
  have hT5 := bnx hT4 hB5
  have hf5 := hf4.call hB5
  clear hC4 hbx4 hT4 HTR hf4 hB5
  obtain ⟨tr, htr⟩ : ∃ t, t = tradeF c.villages fst := ⟨_, rfl⟩
  rw [← htr] at hg5 HTP HTN
  clear htr
  obtain ⟨at5, ct5, rfl, _, _⟩ := hg5.shape
  have hq := groupD_c hC5 hok hg5 HTP.out
  rw [HTN.out, show grE none = 11 from rfl] at hq
  have HQ := Lib.hid hq
  have c0 := hbx5.cell 0
  have c1 := hbx5.cell 1
  clear hq
  go_wp2_with fail
  clear c0 c1
  refine HQ.out.mono ?_
  rintro e w6 ⟨vq, rfl, -, hB6⟩
  have hC6 := hC5.call hB6
  have hbx6 := hbx5.call hB6
  have hT6 := bnx hT5 hB6
  have hf6 := hf5.call hB6
  clear HQ hC5 hbx5 hT5 hf5 hB6 hg5
  have hq := groupD_c hC6 hok hf6 HPF.out
  have HQ := Lib.hid hq
  have c0 := hbx6.cell 0
  have c1 := hbx6.cell 1
  clear hq
  go_wp2_with fail
  clear c0 c1
  refine HQ.out.mono ?_
  rintro e w7 ⟨vl, rfl, hgl, hB7⟩
  have hC7 := hC6.call hB7
  have hbx7 := hbx6.call hB7
  have hT7 := bnx hT6 hB7
  have hf7 := hf6.call hB7
  clear HQ hC6 hbx6 hT6 hf6 hB7
  obtain ⟨og, hog⟩ : ∃ o, o = grpF (betterB c.villages fst) c.villages.length := ⟨_, rfl⟩
  rw [← hog] at hgl ⊢
  have HOG := Lib.hid hog
  clear hog
  obtain ⟨al7, cl7, rfl, _, _⟩ := hgl.shape
  obtain ⟨E, hEe⟩ : ∃ E : Int, E = grE og := ⟨_, rfl⟩
  rw [← hEe]
  have HEE := Lib.hid hEe
  clear hEe
  go_wp2_with fail
  go_loopw [12] (fun s7 wr => ∃ m : Nat, m ≤ c.villages.length ∧ s7 = .int .i64 ((m + 1 : Nat) : Int) ∧ (∀ m', m' < m → ∀ x ∈ picksL c.villages.length (m' + 1) 0, betterB c.villages fst x = false) ∧ Below w7.heap.size w7 wr) (fun s7 _ => 5 - (intOf s7).toNat)
  case atStart => exact ⟨0, Nat.zero_le _, rfl, fun m' h => by omega, Below.refl _ _⟩
  case round =>
    obtain ⟨m, hm, rfl, hno, hB⟩ := hrel
    have HNO := Lib.hid hno
    clear hno
    by_cases hml : m < c.villages.length
    · have bm : decide (((m + 1 : Nat) : Int) ≤ (c.villages.length : Int)) = true := decide_eq_true (by omega)
      have hgc := picks_c (n := c.villages.length) hvl4 (m + 1) (by omega) 0 (by omega) wr
      have hpa := picksL_ok (n := c.villages.length) hvl4 (m := m + 1) (by omega)
      have hpl := (picksL_len (n := c.villages.length) hvl4 (m + 1) (by omega) 0 (by omega)).1
      rw [show ((0 : Nat) : Int) = 0 from rfl] at hgc
      obtain ⟨P, hP⟩ : ∃ P, P = picksL c.villages.length (m + 1) 0 := ⟨_, rfl⟩
      rw [← hP] at hgc hpa hpl
      have HGC := Lib.hid hgc
      have HPA := Lib.hid hpa
      have HP := Lib.hid hP
      clear hgc hpa hP
      obtain ⟨M, hM⟩ : ∃ M, M = ((m + 1 : Nat) : Int) := ⟨_, rfl⟩
      rw [← hM] at bm HGC ⊢
      have HM := Lib.hid hM
      have hM1 : 1 ≤ M := by omega
      have hM4 : M ≤ 4 := by omega
      clear hM
      go_wp2_with fail
      refine HGC.out.mono ?_
      rintro e w3 ⟨vg, rfl, hG, hBg⟩
      have hB3 := bnx hB hBg
      have hC3 := hC7.call hB3
      have hf3 := hf7.call hB3
      have hbx3 := hbx7.call hB3
      have hgl3 := hgl.call hB3
      have hsr3 := hB3.size
      obtain ⟨ag, cg, rfl, _, _⟩ := hG.shape
      clear HGC hBg
      go_wp2_with fail
      go_loopw [14] (fun s9 wx => ∃ i : Nat, i ≤ P.length ∧ s9 = .int .i64 i ∧ (∀ x ∈ P.take i, betterB c.villages fst x = false) ∧ Below w3.heap.size w3 wx) (fun s9 _ => P.length - (intOf s9).toNat)
      case atStart => exact ⟨0, Nat.zero_le _, rfl, fun x hx => by simp at hx, Below.refl _ _⟩
      case round =>
        rename World => wx
        obtain ⟨i, hi, rfl, hni, hBx⟩ := hrel
        have HNI := Lib.hid hni
        clear hni
        by_cases hil : i < P.length
        · obtain ⟨gb, go, rfl, -, hgb⟩ := hG.addr (by omega)
          obtain ⟨ga, gc, r1, hGS⟩ := hG.row i hil
          obtain ⟨s1, s2, s3⟩ := HPA.out _ (List.getElem_mem hil)
          have hts : P.take (i + 1) = P.take i ++ [P[i]] := List.take_succ_eq_append_getElem hil
          have hsp : P = P.take i ++ P[i] :: P.drop (i + 1) := (List.take_append_drop i P).symm.trans (by rw [List.drop_eq_getElem_cons hil])
          obtain ⟨S, hS⟩ : ∃ S, S = P[i] := ⟨_, rfl⟩
          rw [← hS] at r1 hGS s1 s2 s3 hts
          have hsp2 : P = P.take i ++ S :: P.drop (i + 1) := by rw [hS]; exact hsp
          have HSP := Lib.hid hsp2
          have HTS := Lib.hid hts
          have hS1 : 1 ≤ S.length := by omega
          have hS4 : S.length ≤ 4 := by omega
          have HSN := Lib.hid s3
          have hE : ∀ w', Below w3.heap.size w3 w' → (CkS bx (.slice am c.mountains.length cpm) (.slice av c.villages.length cpv) gb (go + i) (.slice ga S.length gc)) w' := fun w' h' => ⟨hbx3.call h', (World.cell?_of_block (h'.block gb hgb)).trans r1⟩
          have r2 := fun w' h' => (hE w' h').2
          clear hsp hsp2 hts hS s1 s2 s3 r1
          go_wp2_with fail
          refine wp_region_mix2 (.one 0 (.pur 1 (.pur 2 (.pur 3 (.pur 4 (.one 5 (.act 6 .fin))))))) 99 (CkS bx (.slice am c.mountains.length cpm) (.slice av c.villages.length cpv) gb (go + i) (.slice ga S.length gc)) (fun _ => True) (by kernel_rfl) (by kernel_rfl) rfl (by kernel_rfl) (hE _ hBx).drew (fun wd hqd _ => ?_)
          refine mix_load2 rfl rfl rfl (.agg #[.slice am c.mountains.length cpm, .slice av c.villages.length cpv]) (fun w' h => by have h : (CkS bx (.slice am c.mountains.length cpm) (.slice av c.villages.length cpv) gb (go + i) (.slice ga S.length gc)) w' := h; have h0 := h.1.cell 0; have h1 := h.1.cell 1; go_simp) rfl ?_
          refine mix_pur2 rfl (fun K hK => ?_)
          go_simp
          first | refine ⟨_, fun _ => rfl, hK _ ?_⟩ | refine hK _ ?_
          clear hK K
          refine mix_pur2 rfl (fun K hK => ?_)
          go_simp
          first | refine ⟨_, fun _ => rfl, hK _ ?_⟩ | refine hK _ ?_
          clear hK K
          refine mix_pur2 rfl (fun K hK => ?_)
          go_simp
          first | refine ⟨_, fun _ => rfl, hK _ ?_⟩ | refine hK _ ?_
          clear hK K
          refine mix_pur2 rfl (fun K hK => ?_)
          go_simp
          first | refine ⟨_, fun _ => rfl, hK _ ?_⟩ | refine hK _ ?_
          clear hK K
          refine mix_load2 rfl rfl rfl (.slice ga S.length gc) (fun w' h => by have h : (CkS bx (.slice am c.mountains.length cpm) (.slice av c.villages.length cpv) gb (go + i) (.slice ga S.length gc)) w' := h; have h0 := h.2; go_simp) rfl ?_
          refine mix_eff2 rfl false rfl (fun K hK => ?_)
          go_simp
          refine (lbetter_c (hC3.call (bnx hBx (hqd.below _))) hok (hf3.call (bnx hBx (hqd.below _))) HPF.out (hGS.call (bnx hBx (hqd.below _))) hS1 hS4 HSN.out).mono ?_
          rintro e w8 ⟨rfl, hB8⟩
          have hB9 := bnx (bnx hBx (hqd.below _)) hB8
          refine hK _ _ (hE _ hB9) ?_
          clear hK K
          refine mix_done2 ?_
          have r3 := r2 _ hB9
          have hGS9 := hGS.call hB9
          have hgl9 := hgl3.call hB9
          obtain ⟨u, hu⟩ : ∃ u, u = betterB c.villages fst S := ⟨_, rfl⟩
          rw [← hu]
          have HU := Lib.hid hu
          clear hu hqd hB8 hE r2
          cases u with
          | true =>
            have hf : grpF (betterB c.villages fst) c.villages.length = some S := find_flat (m := m) hml (by rw [← HP.out]; exact HSP.out) HNO.out HNI.out HU.out.symm
            have hos : og = some S := by rw [HOG.out, hf]
            subst hos
            obtain rfl : E = 0 := HEE.out
            have hsm := sameInts_t hgl9 hGS9
            have HSM := Lib.hid hsm
            clear hf hsm
            go_wp2_with fail
            refine HSM.out.mono ?_
            rintro e y1 ⟨rfl, hy1⟩
            go_wp2_with (go_at_call 21; refine (drawn_c _).mono ?_; rintro e wz ⟨rfl, hBz⟩)
            go_ret
            exact ⟨rfl, bnx (bnx (bnx (bnx hT7 hB3) hB9) hy1) hBz⟩
          | false =>
            go_wp2_with fail
            go_roundw
            case rel =>
              refine ⟨i + 1, by omega, by go_num, fun x hx => ?_, hB9⟩
              rw [HTS.out] at hx
              rcases List.mem_append.1 hx with h | h
              · exact HNI.out x h
              · rw [List.mem_singleton] at h; rw [h]; exact HU.out.symm
            case measure => simp [intOf]; omega
        · obtain rfl : i = P.length := by omega
          go_wp2_with fail
          go_roundw
          case rel =>
            refine ⟨m + 1, by omega, by have := HM.out; go_num, fun m' hm' x hx => ?_, bnx hB3 hBx⟩
            by_cases e : m' = m
            · subst e
              exact HNI.out x (by rw [List.take_length, HP.out]; exact hx)
            · exact HNO.out m' (by omega) x hx
          case measure => have := HM.out; simp [intOf]; omega
    · obtain rfl : m = c.villages.length := by omega
      have bm : decide (((c.villages.length + 1 : Nat) : Int) ≤ (c.villages.length : Int)) = false := decide_eq_false (by omega)
      have hon : og = none := by rw [HOG.out]; exact find_none HNO.out
      subst hon
      obtain rfl : E = 11 := HEE.out
      go_wp2_with (go_at_call 21; refine (drawn_c _).mono ?_; rintro e wz ⟨rfl, hBz⟩)
      go_ret
      exact ⟨rfl, bnx (bnx hT7 hB) hBz⟩

end Go.Proofs.Ythchpoabncdicaa
