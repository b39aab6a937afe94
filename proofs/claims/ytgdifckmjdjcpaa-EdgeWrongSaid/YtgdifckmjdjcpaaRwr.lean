/- Contracts of the reference's Wrong, Clash, Idle (edge); conditions: the claims read as a list. -/
import Derived.Test.YtgdifckmjdjcpaaRgr
import Derived.Test.YtgdifckmjdjcpaaGro
namespace Go.Proofs.Ytgdifckmjdjcpaa
open Go.RowKit

theorem grp_picks (n : Nat) : ∀ m f : Nat, picksL n m f = (groupsF n m f).map castN
  | 0, f => rfl
  | m + 1, f => by
    show (List.range (n - f)).flatMap _ = _
    unfold groupsF
    rw [List.map_flatMap]
    congr 1
    funext d
    rw [grp_picks n m (f + d + 1), List.map_map, List.map_map]
    rfl
theorem mem_castR {l : List Nat} {i : Nat} : (i : Int) ∈ castN l ↔ i ∈ l := by
  unfold castN
  rw [List.mem_map]
  constructor
  · rintro ⟨j, h1, h2⟩
    have : j = i := by omega
    exact this ▸ h1
  · intro h
    exact ⟨i, h, rfl⟩
theorem mem_maskR {g i : Nat} (hi : i < 16) : i ∈ maskL g ↔ g.testBit i = true := by
  unfold maskL
  rw [List.mem_filter, List.mem_range]
  exact ⟨fun h => h.2, fun h => ⟨hi, h⟩⟩
def fewT2 (x : Edg) (g : Nat) : Bool := hasT (partF x fun i => !g.testBit i)
def claT2 (x : Edg) (g : Nat) : Bool := !hasT (partF x fun i => g.testBit i)
theorem part_msk {x : Edg} (hx : x.Ok) {m : Nat} {l : List Nat} (hm : m ≤ x.claims.length) (hl : l ∈ groupsF x.claims.length m 0) (but : Bool) : partF x (keepS (castN l) but) = partF x fun i => (maskOf l).testBit i != but := by
  have hm7 := hx.m
  unfold partF
  rw [keepL_congr fun i hi => ?_]
  rw [Nat.zero_add]
  unfold keepS
  have e := maskL_maskOf hm7 hm hl
  have h1 := mem_maskR (g := maskOf l) (show i < 16 by omega)
  rw [e] at h1
  have : decide ((i : Int) ∈ castN l) = (maskOf l).testBit i := by
    cases hb : (maskOf l).testBit i with
    | true => exact decide_eq_true (mem_castR.2 (h1.2 hb))
    | false => exact decide_eq_false fun h => by rw [h1.1 (mem_castR.1 h)] at hb; cases hb
  rw [this]
theorem few_at2 {x : Edg} (hx : x.Ok) {m : Nat} {l : List Nat} (hm : m ≤ x.claims.length) (hl : l ∈ groupsF x.claims.length m 0) : hasT (partF x (keepS (castN l) true)) = fewT2 x (maskOf l) := by
  rw [part_msk hx hm hl true]
  unfold fewT2
  congr 2
  funext i
  cases (maskOf l).testBit i <;> rfl
theorem cla_at2 {x : Edg} (hx : x.Ok) {m : Nat} {l : List Nat} (hm : m ≤ x.claims.length) (hl : l ∈ groupsF x.claims.length m 0) : (!hasT (partF x (keepS (castN l) false))) = claT2 x (maskOf l) := by
  rw [part_msk hx hm hl false]
  unfold claT2
  congr 3
  funext i
  cases (maskOf l).testBit i <;> rfl
theorem len_has {x : Edg} : (truthsF x).length = 0 ↔ hasT x = false := by unfold hasT; cases truthsF x <;> simp
theorem keep_oneR (x : Edg) (k : Nat) : partF x (keepS [(k : Int)] true) = partF x fun j => decide (j ≠ k) := by
  unfold partF
  rw [keepL_congr fun i hi => ?_]
  unfold keepS
  by_cases h : i = k
  · simp [h]
  · simp [h]; omega

set_option maxRecDepth 100000 in
set_option maxHeartbeats 4000000 in
theorem rwrong_c {A : Nat → Prop} {w : World} {x : Edg} {v : Value} (h : ClsM A w v x.claims) :
    Calls Try.prog 63 #[.agg #[.int .i64 x.points, .int .i64 x.bend, v]] w fun e w' => ∃ v', e = .returned (.tuple #[v', .int .i64 (wrongX x).2]) ∧ Ints (fun k => w.heap.size ≤ k) w' v' (castN (wrongX x).1) ∧ Below w.heap.size w w' := by
  obtain ⟨a1, c1, rfl, hc1, hm1⟩ := h.shape
  obtain ⟨w1, hw1⟩ : ∃ w1, w1 = w.alloc (.cells #[.int .i64 x.points, .int .i64 x.bend, .slice a1 x.claims.length c1] 24) := ⟨_, rfl⟩
  obtain ⟨b1, hb1⟩ : ∃ b, b = w.heap.size := ⟨_, rfl⟩
  have hX : Blk b1 #[.int .i64 x.points, .int .i64 x.bend, .slice a1 x.claims.length c1] 24 w1 := by rw [hw1, hb1]; exact blk_at rfl _ _
  have hB : Below w.heap.size w w1 := by rw [hw1]; exact (Below.refl _ w).alloc (Nat.le_refl _) _
  have h1 := h.call (hB)
  go_enter Try.func63, Try.ntmps63
  go_upto_region 1 with fail
  rw [← hw1, ← hb1]
  clear hw1 hb1
  have c0 := hX.cell 0
  have c1' := hX.cell 1
  have c2 := hX.cell 2
  go_wp2_with fail
  refine (rcheck_c h1).mono ?_
  rintro e w2 ⟨rfl, hB2⟩
  have hX2 := hX.call hB2
  have h2 := h1.call hB2
  have hBw2 := bnx hB hB2
  clear c0 c1' c2 hX h1 hB hB2
  have c0 := hX2.cell 0
  have c1' := hX2.cell 1
  have c2 := hX2.cell 2
  by_cases hck : checkX x = 0
  · have hx := checkX_zero.1 hck
    have hb : (checkX x != 0) = false := by rw [hck]; rfl
    have hm7 := hx.m
    have hz2 := hBw2.size
    clear hck
    go_wp2_with fail
    clear c0 c1' c2
    go_loopw [5] (fun vm wr => ∃ m : Nat, m ≤ x.claims.length + 1 ∧ vm = .int .i64 m ∧ Hid (∀ m' < m, ∀ y ∈ groupsF x.claims.length m' 0, fewT2 x (maskOf y) = false) ∧ Below w2.heap.size w2 wr) (fun vm _ => x.claims.length + 2 - (intOf vm).toNat)
    case atStart => exact ⟨0, Nat.zero_le _, rfl, Lib.hid (fun m' hm' => by omega), Below.refl _ _⟩
    case round =>
      obtain ⟨m, hm, rfl, HM, hB⟩ := hrel
      have hXr := hX2.call hB
      have c2 := hXr.cell 2
      by_cases hmn : m ≤ x.claims.length
      · have hpk := groups_c (n := x.claims.length) (by omega) m (by omega) 0 (by omega) wr
        rw [show ((0 : Nat) : Int) = 0 from rfl, grp_picks] at hpk
        obtain ⟨G, hG⟩ : ∃ G, G = groupsF x.claims.length m 0 := ⟨_, rfl⟩
        rw [← hG] at hpk
        have hgl : ∀ y ∈ G, y ∈ groupsF x.claims.length m 0 := fun y hy => by rw [← hG]; exact hy
        have HGG := Lib.hid hG
        have HGL := Lib.hid hgl
        have HPK := Lib.hid hpk
        clear hpk hG hgl
        go_wp2_with fail
        refine HPK.out.mono ?_
        rintro e w5 ⟨v5, rfl, hG5, hS5⟩
        obtain ⟨a5, c5, rfl, _, _⟩ := hG5.shape
        have hgm : (G.map castN).length = G.length := List.length_map _
        have hgs := hG5.len
        have hB5 := bnx hB hS5
        have hz5 : w.heap.size ≤ wr.heap.size := Nat.le_trans hz2 hB.size
        rw [hgm] at hG5 hgs ⊢
        clear hgm c2 hS5 hXr
        go_wp2_with fail
        go_loopw [7] (fun vj wj => ∃ j : Nat, j ≤ G.length ∧ vj = .int .i64 j ∧ Hid (∀ y ∈ G.take j, fewT2 x (maskOf y) = false) ∧ Below w5.heap.size w5 wj) (fun vj _ => G.length - (intOf vj).toNat)
        case atStart => exact ⟨0, Nat.zero_le _, rfl, Lib.hid (by simp), Below.refl _ _⟩
        case round =>
          rename World => wj
          obtain ⟨j, hj, rfl, HJ, hBj⟩ := hrel
          have hB5j := hB5.trans (hBj.mono hB5.size)
          have hXr := hX2.call hB5j
          have hCr := h2.call hB5j
          by_cases hltj : j < G.length
          · have hGj := hG5.call hBj
            have hjm : j < (G.map castN).length := by rw [List.length_map]; exact hltj
            obtain ⟨gb, gof, rfl, _, hgb⟩ := hGj.addr (by omega)
            obtain ⟨aw, cw, hcell, hrow⟩ := hGj.row j hjm
            rw [List.getElem_map] at hcell hrow
            have hmem : G[j] ∈ groupsF x.claims.length m 0 := HGL.out _ (List.getElem_mem _)
            have hts := few_at2 hx hmn hmem
            have HTS := Lib.hid hts
            clear hts hmem
            go_wp2_with fail
            refine wp_region_mix2 (.one 0 (.pur 1 (.pur 2 (.pur 3 (.one 4 (.act 5 (.act 6 (.pur 7 (.pur 8 .fin))))))))) 5 (fun w => Blk b1 #[.int .i64 x.points, .int .i64 x.bend, .slice a1 x.claims.length c1] 24 w ∧ w.cell? ⟨gb, gof + j, none⟩ = some (.slice aw (castN G[j]).length cw)) (fun _ => True) (by kernel_rfl) (by kernel_rfl) rfl (by kernel_rfl) ⟨hXr.qt ((Qt.refl _).drewN 1), hcell⟩ (fun wd hqd _ => ?_)
            refine mix_load2 rfl rfl rfl (.agg #[.int .i64 x.points, .int .i64 x.bend, .slice a1 x.claims.length c1]) (fun w' h => by have h : (fun w => Blk b1 #[.int .i64 x.points, .int .i64 x.bend, .slice a1 x.claims.length c1] 24 w ∧ w.cell? ⟨gb, gof + j, none⟩ = some (.slice aw (castN G[j]).length cw)) w' := h; have h0 := h.1.cell 0; have h1 := h.1.cell 1; have h2 := h.1.cell 2; go_simp) rfl ?_
            refine mix_pur2 rfl (fun K hK => ?_)
            go_simp
            first | refine ⟨_, fun _ => rfl, hK _ ?_⟩ | refine hK _ ?_
            clear hK K
            refine mix_pur2 rfl (fun K hK => ?_)
            go_simp
            first | refine ⟨_, fun _ => rfl, hK _ ?_⟩ | refine hK _ ?_
            clear hK K
            refine mix_pur2 rfl (fun K hK => ?_)
            go_simp
            first | refine ⟨_, fun _ => rfl, hK _ ?_⟩ | refine hK _ ?_
            clear hK K
            refine mix_load2 rfl rfl rfl (.slice aw (castN G[j]).length cw) (fun w' h => by have h : (fun w => Blk b1 #[.int .i64 x.points, .int .i64 x.bend, .slice a1 x.claims.length c1] 24 w ∧ w.cell? ⟨gb, gof + j, none⟩ = some (.slice aw (castN G[j]).length cw)) w' := h; have h0 := h.2; go_simp) rfl ?_
            refine mix_eff2 rfl true rfl (fun K hK => ?_)
            go_simp
            refine (rpart_c (hCr.qt hqd) (hrow.qt hqd) (by omega) true).mono ?_
            rintro e w6 ⟨v6, rfl, hP6, hS6⟩
            have hbd := bnx (hqd.below _) hS6
            refine hK _ _ trivial ?_
            clear hK K
            refine mix_eff2 rfl true rfl (fun K hK => ?_)
            go_simp
            refine (rtruths_c (x := partF x (keepS (castN G[j]) true)) hP6 (partF_ok hx _)).mono ?_
            rintro e w7 ⟨v7, rfl, hG7, hS7⟩
            obtain ⟨a7, c7, rfl, _, _⟩ := hG7.shape
            have hB7 := bnx hbd hS7
            refine hK _ _ trivial ?_
            clear hK K
            refine mix_pur2 rfl (fun K hK => ?_)
            go_simp
            first | refine ⟨_, fun _ => rfl, hK _ ?_⟩ | refine hK _ ?_
            clear hK K
            refine mix_pur2 rfl (fun K hK => ?_)
            go_simp
            first | refine ⟨_, fun _ => rfl, hK _ ?_⟩ | refine hK _ ?_
            clear hK K
            refine mix_done2 ?_
            have hBz := bnx hBj hB7
            obtain ⟨nl, hnl⟩ : ∃ nl : Nat, nl = (truthsF (partF x (keepS (castN G[j]) true))).length := ⟨_, rfl⟩
            rw [← hnl]
            have HNL := Lib.hid hnl
            clear hnl
            cases ht : (hasT (partF x (keepS (castN G[j]) true))) with
            | false =>
              have hd : decide (0 < nl) = false := decide_eq_false (by rw [HNL.out, len_has.2 ht]; decide)
              rw [hd]
              go_wp2_with fail
              go_roundw
              case rel =>
                refine ⟨j + 1, by omega, by go_num, Lib.hid fun y hy => ?_, hBz⟩
                rw [List.take_succ_eq_append_getElem hltj] at hy
                rcases List.mem_append.1 hy with hy | hy
                · exact HJ.out y hy
                · rw [List.mem_singleton] at hy
                  rw [hy, ← HTS.out]; exact ht
              case measure => simp [intOf]; omega
            | true =>
              have hd : decide (0 < nl) = true := decide_eq_true (by rw [HNL.out]; exact List.length_pos_iff.2 (hasT_iff.1 ht))
              rw [hd]
              have hgg : wrongF x = some (maskOf G[j]) := by
                have hsp : groupsF x.claims.length m 0 = G.take j ++ G[j] :: G.drop (j + 1) := by rw [← HGG.out, ← List.drop_eq_getElem_cons hltj, List.take_append_drop]
                exact few_groups hx.m hmn hsp (fun m' hm' y hy => HM.out m' hm' y hy) (fun y hy => HJ.out y hy) (by show fewT2 x (maskOf G[j]) = true; rw [← HTS.out]; exact ht)
              have hml : maskL (maskOf G[j]) = G[j] := maskL_maskOf hx.m hmn (HGL.out _ (List.getElem_mem _))
              have hE : wrongX x = (G[j], 0) := by
                unfold wrongX
                rw [if_neg (not_not_intro (checkX_zero.2 hx)), hgg]
                show (maskL (maskOf G[j]), (0 : Int)) = _
                rw [hml]
              have hrow7 := hrow.call hB7
              have hcell7 : w7.cell? ⟨gb, gof + j, none⟩ = some (.slice aw (castN G[j]).length cw) := (cell_same (hB7.block gb hgb)).trans hcell
              have HE := Lib.hid hE
              clear hE hgg hml hcell
              go_wp2_with fail
              go_ret2
              rw [HE.out]
              exact ⟨_, rfl, hrow7.wide fun q hq _ => Nat.le_trans hz5 hq, bnx hBw2 (bnx hB5j hB7)⟩
          · obtain rfl : j = G.length := by omega
            go_wp2_with fail
            go_roundw
            case rel =>
              refine ⟨m + 1, by omega, by go_num, Lib.hid fun m' hm' y hy => ?_, hB5j⟩
              by_cases e : m' = m
              · subst e
                exact HJ.out y (by rw [List.take_length, HGG.out]; exact hy)
              · exact HM.out m' (by omega) y hy
            case measure => simp [intOf]; omega
      · exfalso
        have hnone := few_none (n := x.claims.length) (test := fewT2 x) fun m' hm' y hy => HM.out m' (by omega) y hy
        obtain ⟨g, hsome⟩ := wrong_some hx
        unfold wrongF at hsome
        have : fewF x.claims.length (fewT2 x) = some g := hsome
        rw [hnone] at this
        cases this
  · have hb : (checkX x != 0) = true := by simpa using hck
    have he : wrongX x = ([], checkX x) := by unfold wrongX; rw [if_pos hck]
    have HE := Lib.hid he
    clear he hck
    go_wp2_with fail
    go_ret2
    rw [HE.out]
    exact ⟨_, rfl, ints_nil _ _, hBw2⟩

set_option maxRecDepth 100000 in
set_option maxHeartbeats 4000000 in
theorem rclash_c {A : Nat → Prop} {w : World} {x : Edg} {v : Value} (h : ClsM A w v x.claims) :
    Calls Try.prog 64 #[.agg #[.int .i64 x.points, .int .i64 x.bend, v]] w fun e w' => ∃ v', e = .returned (.tuple #[v', .int .i64 (clashX x).2]) ∧ Ints (fun k => w.heap.size ≤ k) w' v' (castN (clashX x).1) ∧ Below w.heap.size w w' := by
  obtain ⟨a1, c1, rfl, hc1, hm1⟩ := h.shape
  obtain ⟨w1, hw1⟩ : ∃ w1, w1 = w.alloc (.cells #[.int .i64 x.points, .int .i64 x.bend, .slice a1 x.claims.length c1] 24) := ⟨_, rfl⟩
  obtain ⟨b1, hb1⟩ : ∃ b, b = w.heap.size := ⟨_, rfl⟩
  have hX : Blk b1 #[.int .i64 x.points, .int .i64 x.bend, .slice a1 x.claims.length c1] 24 w1 := by rw [hw1, hb1]; exact blk_at rfl _ _
  have hB : Below w.heap.size w w1 := by rw [hw1]; exact (Below.refl _ w).alloc (Nat.le_refl _) _
  have h1 := h.call (hB)
  go_enter Try.func64, Try.ntmps64
  go_upto_region 1 with fail
  rw [← hw1, ← hb1]
  clear hw1 hb1
  have c0 := hX.cell 0
  have c1' := hX.cell 1
  have c2 := hX.cell 2
  go_wp2_with fail
  refine (rcheck_c h1).mono ?_
  rintro e w2 ⟨rfl, hB2⟩
  have hX2 := hX.call hB2
  have h2 := h1.call hB2
  have hBw2 := bnx hB hB2
  clear c0 c1' c2 hX h1 hB hB2
  have c0 := hX2.cell 0
  have c1' := hX2.cell 1
  have c2 := hX2.cell 2
  by_cases hck : checkX x = 0
  · have hx := checkX_zero.1 hck
    have hb : (checkX x != 0) = false := by rw [hck]; rfl
    have hm7 := hx.m
    have hz2 := hBw2.size
    clear hck
    go_wp2_with fail
    clear c0 c1' c2
    go_loopw [5] (fun vm wr => ∃ m : Nat, m ≤ x.claims.length + 1 ∧ vm = .int .i64 m ∧ Hid (∀ m' < m, ∀ y ∈ groupsF x.claims.length m' 0, claT2 x (maskOf y) = false) ∧ Below w2.heap.size w2 wr) (fun vm _ => x.claims.length + 1 - (intOf vm).toNat)
    case atStart => exact ⟨0, Nat.zero_le _, rfl, Lib.hid (fun m' hm' => by omega), Below.refl _ _⟩
    case round =>
      obtain ⟨m, hm, rfl, HM, hB⟩ := hrel
      have hXr := hX2.call hB
      have c2 := hXr.cell 2
      by_cases hmn : m ≤ x.claims.length
      · have hpk := groups_c (n := x.claims.length) (by omega) m (by omega) 0 (by omega) wr
        rw [show ((0 : Nat) : Int) = 0 from rfl, grp_picks] at hpk
        obtain ⟨G, hG⟩ : ∃ G, G = groupsF x.claims.length m 0 := ⟨_, rfl⟩
        rw [← hG] at hpk
        have hgl : ∀ y ∈ G, y ∈ groupsF x.claims.length m 0 := fun y hy => by rw [← hG]; exact hy
        have HGG := Lib.hid hG
        have HGL := Lib.hid hgl
        have HPK := Lib.hid hpk
        clear hpk hG hgl
        go_wp2_with fail
        refine HPK.out.mono ?_
        rintro e w5 ⟨v5, rfl, hG5, hS5⟩
        obtain ⟨a5, c5, rfl, _, _⟩ := hG5.shape
        have hgm : (G.map castN).length = G.length := List.length_map _
        have hgs := hG5.len
        have hB5 := bnx hB hS5
        have hz5 : w.heap.size ≤ wr.heap.size := Nat.le_trans hz2 hB.size
        rw [hgm] at hG5 hgs ⊢
        clear hgm c2 hS5 hXr
        go_wp2_with fail
        go_loopw [7] (fun vj wj => ∃ j : Nat, j ≤ G.length ∧ vj = .int .i64 j ∧ Hid (∀ y ∈ G.take j, claT2 x (maskOf y) = false) ∧ Below w5.heap.size w5 wj) (fun vj _ => G.length - (intOf vj).toNat)
        case atStart => exact ⟨0, Nat.zero_le _, rfl, Lib.hid (by simp), Below.refl _ _⟩
        case round =>
          rename World => wj
          obtain ⟨j, hj, rfl, HJ, hBj⟩ := hrel
          have hB5j := hB5.trans (hBj.mono hB5.size)
          have hXr := hX2.call hB5j
          have hCr := h2.call hB5j
          by_cases hltj : j < G.length
          · have hGj := hG5.call hBj
            have hjm : j < (G.map castN).length := by rw [List.length_map]; exact hltj
            obtain ⟨gb, gof, rfl, _, hgb⟩ := hGj.addr (by omega)
            obtain ⟨aw, cw, hcell, hrow⟩ := hGj.row j hjm
            rw [List.getElem_map] at hcell hrow
            have hmem : G[j] ∈ groupsF x.claims.length m 0 := HGL.out _ (List.getElem_mem _)
            have hts := cla_at2 hx hmn hmem
            have HTS := Lib.hid hts
            clear hts hmem
            go_wp2_with fail
            refine wp_region_mix2 (.one 0 (.pur 1 (.pur 2 (.pur 3 (.one 4 (.act 5 (.act 6 (.pur 7 (.pur 8 .fin))))))))) 5 (fun w => Blk b1 #[.int .i64 x.points, .int .i64 x.bend, .slice a1 x.claims.length c1] 24 w ∧ w.cell? ⟨gb, gof + j, none⟩ = some (.slice aw (castN G[j]).length cw)) (fun _ => True) (by kernel_rfl) (by kernel_rfl) rfl (by kernel_rfl) ⟨hXr.qt ((Qt.refl _).drewN 1), hcell⟩ (fun wd hqd _ => ?_)
            refine mix_load2 rfl rfl rfl (.agg #[.int .i64 x.points, .int .i64 x.bend, .slice a1 x.claims.length c1]) (fun w' h => by have h : (fun w => Blk b1 #[.int .i64 x.points, .int .i64 x.bend, .slice a1 x.claims.length c1] 24 w ∧ w.cell? ⟨gb, gof + j, none⟩ = some (.slice aw (castN G[j]).length cw)) w' := h; have h0 := h.1.cell 0; have h1 := h.1.cell 1; have h2 := h.1.cell 2; go_simp) rfl ?_
            refine mix_pur2 rfl (fun K hK => ?_)
            go_simp
            first | refine ⟨_, fun _ => rfl, hK _ ?_⟩ | refine hK _ ?_
            clear hK K
            refine mix_pur2 rfl (fun K hK => ?_)
            go_simp
            first | refine ⟨_, fun _ => rfl, hK _ ?_⟩ | refine hK _ ?_
            clear hK K
            refine mix_pur2 rfl (fun K hK => ?_)
            go_simp
            first | refine ⟨_, fun _ => rfl, hK _ ?_⟩ | refine hK _ ?_
            clear hK K
            refine mix_load2 rfl rfl rfl (.slice aw (castN G[j]).length cw) (fun w' h => by have h : (fun w => Blk b1 #[.int .i64 x.points, .int .i64 x.bend, .slice a1 x.claims.length c1] 24 w ∧ w.cell? ⟨gb, gof + j, none⟩ = some (.slice aw (castN G[j]).length cw)) w' := h; have h0 := h.2; go_simp) rfl ?_
            refine mix_eff2 rfl true rfl (fun K hK => ?_)
            go_simp
            refine (rpart_c (hCr.qt hqd) (hrow.qt hqd) (by omega) false).mono ?_
            rintro e w6 ⟨v6, rfl, hP6, hS6⟩
            have hbd := bnx (hqd.below _) hS6
            refine hK _ _ trivial ?_
            clear hK K
            refine mix_eff2 rfl true rfl (fun K hK => ?_)
            go_simp
            refine (rtruths_c (x := partF x (keepS (castN G[j]) false)) hP6 (partF_ok hx _)).mono ?_
            rintro e w7 ⟨v7, rfl, hG7, hS7⟩
            obtain ⟨a7, c7, rfl, _, _⟩ := hG7.shape
            have hB7 := bnx hbd hS7
            refine hK _ _ trivial ?_
            clear hK K
            refine mix_pur2 rfl (fun K hK => ?_)
            go_simp
            first | refine ⟨_, fun _ => rfl, hK _ ?_⟩ | refine hK _ ?_
            clear hK K
            refine mix_pur2 rfl (fun K hK => ?_)
            go_simp
            first | refine ⟨_, fun _ => rfl, hK _ ?_⟩ | refine hK _ ?_
            clear hK K
            refine mix_done2 ?_
            have hBz := bnx hBj hB7
            obtain ⟨nl, hnl⟩ : ∃ nl : Nat, nl = (truthsF (partF x (keepS (castN G[j]) false))).length := ⟨_, rfl⟩
            rw [← hnl]
            have HNL := Lib.hid hnl
            clear hnl
            cases ht : (!hasT (partF x (keepS (castN G[j]) false))) with
            | false =>
              have hn0 : 0 < nl := by rw [HNL.out]; exact List.length_pos_iff.2 (hasT_iff.1 (show hasT (partF x (keepS (castN G[j]) false)) = true by simpa using ht))
              have hd : ((nl : Int) == 0) = false := by rw [beq_eq_false_iff_ne]; omega
              have hd2 : (nl == 0) = false := by rw [beq_eq_false_iff_ne]; omega
              first | rw [hd] | rw [hd2] | simp only [hd, hd2]
              go_wp2_with fail
              go_roundw
              case rel =>
                refine ⟨j + 1, by omega, by go_num, Lib.hid fun y hy => ?_, hBz⟩
                rw [List.take_succ_eq_append_getElem hltj] at hy
                rcases List.mem_append.1 hy with hy | hy
                · exact HJ.out y hy
                · rw [List.mem_singleton] at hy
                  rw [hy, ← HTS.out]; exact ht
              case measure => simp [intOf]; omega
            | true =>
              have hn0 : nl = 0 := by rw [HNL.out, len_has.2 (by simpa using ht)]
              have hd : ((nl : Int) == 0) = true := by rw [beq_iff_eq]; omega
              have hd2 : (nl == 0) = true := by rw [beq_iff_eq]; omega
              clear hn0
              first | rw [hd] | rw [hd2] | simp only [hd, hd2]
              have hgg : clashF x = some (maskOf G[j]) := by
                have hsp : groupsF x.claims.length m 0 = G.take j ++ G[j] :: G.drop (j + 1) := by rw [← HGG.out, ← List.drop_eq_getElem_cons hltj, List.take_append_drop]
                exact few_groups hx.m hmn hsp (fun m' hm' y hy => HM.out m' hm' y hy) (fun y hy => HJ.out y hy) (by show claT2 x (maskOf G[j]) = true; rw [← HTS.out]; exact ht)
              have hml : maskL (maskOf G[j]) = G[j] := maskL_maskOf hx.m hmn (HGL.out _ (List.getElem_mem _))
              have hE : clashX x = (G[j], 0) := by
                unfold clashX
                rw [if_neg (not_not_intro (checkX_zero.2 hx)), hgg]
                show (maskL (maskOf G[j]), (0 : Int)) = _
                rw [hml]
              have hrow7 := hrow.call hB7
              have hcell7 : w7.cell? ⟨gb, gof + j, none⟩ = some (.slice aw (castN G[j]).length cw) := (cell_same (hB7.block gb hgb)).trans hcell
              have HE := Lib.hid hE
              clear hE hgg hml hcell
              go_wp2_with fail
              go_ret2
              rw [HE.out]
              exact ⟨_, rfl, hrow7.wide fun q hq _ => Nat.le_trans hz5 hq, bnx hBw2 (bnx hB5j hB7)⟩
          · obtain rfl : j = G.length := by omega
            go_wp2_with fail
            go_roundw
            case rel =>
              refine ⟨m + 1, by omega, by go_num, Lib.hid fun m' hm' y hy => ?_, hB5j⟩
              by_cases e : m' = m
              · subst e
                exact HJ.out y (by rw [List.take_length, HGG.out]; exact hy)
              · exact HM.out m' (by omega) y hy
            case measure => simp [intOf]; omega
      · have hnone := few_none (n := x.claims.length) (test := claT2 x) fun m' hm' y hy => HM.out m' (by omega) y hy
        have hE : clashX x = ([], 11) := by
          unfold clashX
          rw [if_neg (not_not_intro (checkX_zero.2 hx)), show clashF x = none from hnone]
        have HE := Lib.hid hE
        have hme : m = x.claims.length + 1 := by omega
        have hle : decide ((m : Int) ≤ (x.claims.length : Int)) = false := decide_eq_false (by omega)
        clear hE hnone hme
        go_wp2_with fail
        go_ret2
        rw [HE.out]
        exact ⟨_, rfl, ints_nil _ _, bnx hBw2 hB⟩
  · have hb : (checkX x != 0) = true := by simpa using hck
    have he : clashX x = ([], checkX x) := by unfold clashX; rw [if_pos hck]
    have HE := Lib.hid he
    clear he hck
    go_wp2_with fail
    go_ret2
    rw [HE.out]
    exact ⟨_, rfl, ints_nil _ _, hBw2⟩

set_option maxRecDepth 100000 in
set_option maxHeartbeats 2000000 in
theorem ridle_c {A : Nat → Prop} {w : World} {x : Edg} {v : Value} (h : ClsM A w v x.claims) :
    Calls Try.prog 65 #[.agg #[.int .i64 x.points, .int .i64 x.bend, v]] w fun e w' => ∃ v', e = .returned (.tuple #[v', .int .i64 (idleX x).2]) ∧ Ints (fun k => w.heap.size ≤ k) w' v' (castN (idleX x).1) ∧ Below w.heap.size w w' := by
  obtain ⟨a1, c1, rfl, hc1, hm1⟩ := h.shape
  obtain ⟨w1, hw1⟩ : ∃ w1, w1 = w.alloc (.cells #[.int .i64 x.points, .int .i64 x.bend, .slice a1 x.claims.length c1] 24) := ⟨_, rfl⟩
  obtain ⟨b1, hb1⟩ : ∃ b, b = w.heap.size := ⟨_, rfl⟩
  have hX : Blk b1 #[.int .i64 x.points, .int .i64 x.bend, .slice a1 x.claims.length c1] 24 w1 := by rw [hw1, hb1]; exact blk_at rfl _ _
  have hB : Below w.heap.size w w1 := by rw [hw1]; exact (Below.refl _ w).alloc (Nat.le_refl _) _
  have h1 := h.call (hB)
  go_enter Try.func65, Try.ntmps65
  go_upto_region 1 with fail
  rw [← hw1, ← hb1]
  clear hw1 hb1
  have c0 := hX.cell 0
  have c1' := hX.cell 1
  have c2 := hX.cell 2
  go_wp2_with fail
  refine (rcheck_c h1).mono ?_
  rintro e w2 ⟨rfl, hB2⟩
  have hX2 := hX.call hB2
  have h2 := h1.call hB2
  have hBw2 := bnx hB hB2
  clear c0 c1' c2 hX h1 hB hB2
  have c0 := hX2.cell 0
  have c1' := hX2.cell 1
  have c2 := hX2.cell 2
  by_cases hck : checkX x = 0
  · have hx := checkX_zero.1 hck
    have hb : (checkX x != 0) = false := by rw [hck]; rfl
    have he : idleX x = (idleF x, 0) := by unfold idleX; rw [if_neg (not_not_intro hck)]
    have HE := Lib.hid he
    have hm := hx.m
    clear he hck
    go_wp2_with fail
    refine (rtruths_c h2 hx).mono ?_
    rintro e w3 ⟨v3, rfl, hG3, hB3⟩
    obtain ⟨ag, cg, rfl, _, _⟩ := hG3.shape
    have hX3 := hX2.call hB3
    have h3 := h2.call hB3
    have hBw3 := bnx hBw2 hB3
    obtain ⟨n0, hn0⟩ : ∃ n0 : Nat, n0 = (truthsF x).length := ⟨_, rfl⟩
    rw [← hn0]
    have HN0 := Lib.hid hn0
    clear hn0 c0 c1' c2 hX2 h2 hBw2 hB3 hG3
    obtain ⟨N0, hN0'⟩ : ∃ N0, N0 = w3.heap.size := ⟨_, rfl⟩
    have hz0 : N0 ≤ w3.heap.size := Nat.le_of_eq hN0'
    have hz1 : w3.heap.size ≤ N0 := Nat.le_of_eq hN0'.symm
    have hX3l := Blk.lt hX3
    clear hN0'
    go_wp2_with fail
    go_loopw [6, 7] (fun vo vi wr => ∃ k : Nat, k ≤ x.claims.length ∧ vi = .int .i64 k ∧ Own N0 wr 3 1 vo (idleK x k).length (I64 (castN (idleK x k))) ∧ Below N0 w3 wr ∧ N0 ≤ wr.heap.size) (fun _ vi _ => x.claims.length - (intOf vi).toNat)
    case atStart => exact ⟨0, Nat.zero_le _, rfl, Own.nil, Below.refl _ _, hz0⟩
    case round =>
      obtain ⟨k, hk, rfl, hO, hBr, hzr⟩ := hrel
      have hXr := Blk.below hX3 hBr (by omega)
      have hr := Elems.below (h3.wide (A' := fun q => q < w3.heap.size) fun q _ hq => hq) hBr fun q hq _ => by omega
      have d0 := Blk.cell hXr 0
      have d1 := Blk.cell hXr 1
      have d2 := Blk.cell hXr 2
      by_cases hlt : k < x.claims.length
      · have hil := idleK_len x k
        obtain ⟨L, hL⟩ : ∃ L, L = idleK x k := ⟨_, rfl⟩
        rw [← hL] at hO hil
        have HL := Lib.hid hL
        obtain ⟨av, cv, rfl⟩ := own_slice hO
        obtain ⟨w4, hw4⟩ : ∃ w4, w4 = wr.alloc (.cells #[.int .i64 (k : Int)] 3) := ⟨_, rfl⟩
        obtain ⟨b4, hb4⟩ : ∃ b, b = wr.heap.size := ⟨_, rfl⟩
        have hB4 : Below wr.heap.size wr w4 := by rw [hw4]; exact (Below.refl _ _).alloc (Nat.le_refl _) _
        have hS4 : Ints (fun q => wr.heap.size ≤ q) w4 (.slice (some ⟨b4, 0, none⟩) 1 1) [(k : Int)] := by rw [hw4, hb4]; exact arr_one wr 3 (.int .i64 (k : Int))
        have hpt := rpart_c (hr.call hB4) hS4 (by omega) true
        rw [keep_oneR] at hpt
        have HPT := Lib.hid hpt
        clear hL hpt
        go_wp2_with fail
        rw [← hw4, ← hb4]
        clear hw4 hb4 hS4
        refine HPT.out.mono ?_
        rintro e w5 ⟨v5, rfl, h5, hB5⟩
        have hcm := rtruths_c (x := partF x fun j => decide (j ≠ k)) h5 (partF_ok hx _)
        have HCM := Lib.hid hcm
        clear hcm
        go_wp2_with fail
        refine HCM.out.mono ?_
        rintro e w6 ⟨v6, rfl, hG6, hB6⟩
        obtain ⟨ag, cg, rfl, _, _⟩ := hG6.shape
        obtain ⟨n1, hn1⟩ : ∃ n1 : Nat, n1 = (truthsF (partF x fun j => decide (j ≠ k))).length := ⟨_, rfl⟩
        rw [← hn1]
        have HN1 := Lib.hid hn1
        clear hn1
        have hO6 := ((hO.call hB4).call hB5).call hB6
        have hz4 := hB4.size
        have hz5 := hB5.size
        have hz6' := hB6.size
        have hB36 : Below N0 w3 w6 := ((hBr.trans (hB4.mono hzr)).trans (hB5.mono (by omega))).trans (hB6.mono (by omega))
        have hz6 : N0 ≤ w6.heap.size := by omega
        cases hib : idleB x k with
        | true =>
          have hq : (n1 == n0) = true := by
            rw [beq_iff_eq, HN1.out, HN0.out]; unfold idleB at hib; rw [beq_iff_eq] at hib; omega
          have hq2 : ((n1 : Int) == (n0 : Int)) = true := by rw [beq_iff_eq] at hq ⊢; omega
          have ho8 := hO6.alloc (.cells #[.int .i64 k] 3)
          go_wp2_with (at_builtin; refine wpList_append_arr rfl _ _ 27 rfl 3 (.int .i64 0) 1 8 Try.underlying27 Try.info3 rfl (by decide) (by decide) (by simp; omega) ho8 rfl (arr_one w6 3 (.int .i64 k)) rfl rfl (one_int _) (by omega) ?_; intro v9 w9 hown hT9)
          have hB9 := hT9.below2 (B' := N0) ho8 (hB36.alloc hz6 _) (by simp; omega) (Nat.le_refl _)
          have hz9 := hT9.size
          go_roundw
          case rel =>
            refine ⟨k + 1, by omega, by go_num, ?_, hB9, by simp at hz9; omega⟩
            rw [idleK_succ, if_pos hib, ← HL.out, castN_snoc, I64_append, List.length_append]
            exact hown
          case measure => simp [intOf]; omega
        | false =>
          have hq : (n1 == n0) = false := by
            rw [beq_eq_false_iff_ne, HN1.out, HN0.out]; unfold idleB at hib; rw [beq_eq_false_iff_ne] at hib; omega
          have hq2 : ((n1 : Int) == (n0 : Int)) = false := by rw [beq_eq_false_iff_ne] at hq ⊢; omega
          go_wp2_with fail
          go_roundw
          case rel =>
            refine ⟨k + 1, by omega, by go_num, ?_, hB36, hz6⟩
            rw [idleK_succ, hib, ← HL.out]
            simpa using hO6
          case measure => simp [intOf]; omega
      · obtain rfl : k = x.claims.length := by omega
        have hBe := hBw3.trans (hBr.mono (by have := hBw3.size; omega))
        have hi : Ints (fun q => N0 ≤ q) wr u6 (castN (idleK x x.claims.length)) := by
          have := Own.arr hO
          show Arr _ _ _ (castN _).length _
          rw [castN_len]
          exact this
        go_wp2_with fail
        go_ret2
        rw [HE.out]
        exact ⟨_, rfl, hi.wide fun q hq _ => by have := hBw3.size; omega, hBe⟩
  · have hb : (checkX x != 0) = true := by simpa using hck
    have he : idleX x = ([], checkX x) := by unfold idleX; rw [if_pos hck]
    have HE := Lib.hid he
    clear he hck
    go_wp2_with fail
    go_ret2
    rw [HE.out]
    exact ⟨_, rfl, ints_nil _ _, hBw2⟩

end Go.Proofs.Ytgdifckmjdjcpaa
