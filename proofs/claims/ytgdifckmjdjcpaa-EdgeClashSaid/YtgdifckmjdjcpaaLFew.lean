/- EdgeFewest: what its walk hands back; conditions: the argument reads as a list of numbers. -/
import Derived.Test.YtgdifckmjdjcpaaLMet
import Derived.Test.YtgdifckmjdjcpaaPrt
import Derived.Test.YtgdifckmjdjcpaaPick
namespace Go.Proofs.Ytgdifckmjdjcpaa
open Go.RowKit

theorem picks_groups (n : Nat) : ∀ m f : Nat, picksL n m f = (groupsF n m f).map castN
  | 0, f => rfl
  | m + 1, f => by
    show (List.range (n - f)).flatMap _ = _
    unfold groupsF
    rw [List.map_flatMap]
    congr 1
    funext d
    rw [picks_groups n m (f + d + 1), List.map_map, List.map_map]
    rfl
/-- Is there a truth without these claims? -/
def fewT (x : Edg) (g : Nat) : Bool := hasT (partF x fun i => !g.testBit i)
theorem part_mask {x : Edg} (hx : x.Ok) {m : Nat} {l : List Nat} (hm : m ≤ x.claims.length) (hl : l ∈ groupsF x.claims.length m 0) (but : Bool) : partF x (keepS (castN l) but) = partF x fun i => (maskOf l).testBit i != but := by
  have hm7 := hx.m
  unfold partF
  rw [keepL_congr fun i hi => ?_]
  rw [Nat.zero_add]
  unfold keepS
  have e := maskL_maskOf hm7 hm hl
  have h1 := mem_maskL (g := maskOf l) (show i < 16 by omega)
  rw [e] at h1
  have : decide ((i : Int) ∈ castN l) = (maskOf l).testBit i := by
    cases hb : (maskOf l).testBit i with
    | true => exact decide_eq_true (mem_castN.2 (h1.2 hb))
    | false => exact decide_eq_false fun h => by rw [h1.1 (mem_castN.1 h)] at hb; cases hb
  rw [this]
theorem few_test_at {x : Edg} (hx : x.Ok) {m : Nat} {l : List Nat} (hm : m ≤ x.claims.length) (hl : l ∈ groupsF x.claims.length m 0) : hasT (partF x (keepS (castN l) true)) = fewT x (maskOf l) := by
  rw [part_mask hx hm hl true]
  unfold fewT
  congr 2
  funext i
  cases (maskOf l).testBit i <;> rfl

set_option maxRecDepth 100000 in
set_option maxHeartbeats 4000000 in
theorem edgeFewest_c {A : Nat → Prop} {w : World} {v : Value} {l : List Int} (h : Ints A w v l) : Calls Try.prog 9 #[v] w fun e w' => e = .returned (.bool true) ∧ Below w.heap.size w w' := by
  obtain ⟨a0, c0, rfl, _, _⟩ := h.shape
  go_enter Try.func9, Try.ntmps9
  go_wp2_with fail
  refine (newHand_c h).mono ?_
  rintro e w1 ⟨rfl, hH1, hB1⟩
  go_wp2_with fail
  refine (edgeOf_c hH1 (by omega) (pts := 3) (cl := 6) (by omega) (by omega)).mono ?_
  rintro e w2 ⟨⟨x, vx, rfl, hx, hx4, hx7, hO2⟩, -, hG2⟩
  have hB2 := bhand hB1 hG2 (Nat.le_refl _)
  obtain ⟨ax, cx, rfl⟩ := own_slice hO2
  obtain ⟨w3, hw3⟩ : ∃ w3, w3 = w2.alloc (.cells #[.int .i64 x.points, .int .i64 x.bend, .slice ax x.claims.length cx] 24) := ⟨_, rfl⟩
  obtain ⟨bx, hbx⟩ : ∃ b, b = w2.heap.size := ⟨_, rfl⟩
  have hX3 : Blk bx #[.int .i64 x.points, .int .i64 x.bend, .slice ax x.claims.length cx] 24 w3 := by rw [hw3, hbx]; exact Blk.new _ _ _
  have hB3 : Below w.heap.size w w3 := by rw [hw3]; exact bal2 hB2
  have h3 : ClsM (fun q => w1.heap.size ≤ q) w3 (.slice ax x.claims.length cx) x.claims := by rw [hw3]; exact (hO2.cls).call ((Below.refl _ _).alloc (Nat.le_refl _) _)
  go_upto_region 2 with fail
  rw [← hw3, ← hbx]
  clear hw3 hbx hO2 hG2 hH1 hB1 hB2
  have c0 := hX3.cell 0
  have c1 := hX3.cell 1
  have c2 := hX3.cell 2
  obtain ⟨g, hg⟩ := wrong_some hx
  have hw := wrong_c h3
  rw [show wrongX x = (maskL g, 0) by unfold wrongX; rw [if_neg (not_not_intro (checkX_zero.2 hx)), hg]; rfl] at hw
  have HW := Lib.hid hw
  have HG := Lib.hid hg
  clear hw hg
  go_wp2_with fail
  refine HW.out.mono ?_
  rintro e w4 ⟨vl, rfl, hL4, hB4⟩
  have hX4 := hX3.call hB4
  have h4 := h3.call hB4
  have hBw4 := bnx hB3 hB4
  obtain ⟨al, cl, rfl, _, _⟩ := hL4.shape
  have hm6 : x.claims.length ≤ 6 := by omega
  obtain ⟨nc, hnc⟩ : ∃ n, n = x.claims.length := ⟨_, rfl⟩
  clear c0 c1 c2 HW hX3 h3 hB4 hB3
  have HNC := Lib.hid hnc
  clear hnc
  go_wp2_with fail
  go_loopw [6] (fun vm wr => ∃ m : Nat, m ≤ x.claims.length + 1 ∧ vm = .int .i64 m ∧ Hid (∀ m' < m, ∀ y ∈ groupsF x.claims.length m' 0, fewT x (maskOf y) = false) ∧ Below w4.heap.size w4 wr) (fun vm _ => x.claims.length + 1 - (intOf vm).toNat)
  case atStart => exact ⟨0, Nat.zero_le _, rfl, Lib.hid (fun m' hm' => by omega), Below.refl _ _⟩
  case round =>
    obtain ⟨m, hm, rfl, HM, hB⟩ := hrel
    have hXr := hX4.call hB
    have hCr := h4.call hB
    have hLr := hL4.call hB
    have c2 := hXr.cell 2
    by_cases hmn : m ≤ x.claims.length
    · have hpk := picks_c (n := x.claims.length) (by omega) m (by omega) 0 (by omega) wr
      rw [show ((0 : Nat) : Int) = 0 from rfl, picks_groups] at hpk
      obtain ⟨G, hG⟩ : ∃ G, G = groupsF x.claims.length m 0 := ⟨_, rfl⟩
      rw [← hG] at hpk
      have hgl : ∀ y ∈ G, y ∈ groupsF x.claims.length m 0 := fun y hy => by rw [← hG]; exact hy
      have HGG := Lib.hid hG
      have HGL := Lib.hid hgl
      have HPK := Lib.hid hpk
      clear hpk hG hgl
      go_wp2_with fail
      refine HPK.out.mono ?_
      rintro e w5 ⟨v5, rfl, hG5, hS5⟩
      obtain ⟨a5, c5, rfl, _, _⟩ := hG5.shape
      have hgm : (G.map castN).length = G.length := List.length_map _
      have hgs := hG5.len
      have hB5 := bnx hB hS5
      rw [hgm] at hG5 hgs ⊢
      clear hgm c2 hS5 hXr hCr hLr
      go_wp2_with fail
      go_loopw [8] (fun vj wj => ∃ j : Nat, j ≤ G.length ∧ vj = .int .i64 j ∧ Hid (∀ y ∈ G.take j, fewT x (maskOf y) = false) ∧ Below w5.heap.size w5 wj) (fun vj _ => G.length - (intOf vj).toNat)
      case atStart => exact ⟨0, Nat.zero_le _, rfl, Lib.hid (by simp), Below.refl _ _⟩
      case round =>
        rename World => wj
        obtain ⟨j, hj, rfl, HJ, hBj⟩ := hrel
        have hB5j := hB5.trans (hBj.mono hB5.size)
        have hXr := hX4.call hB5j
        have hCr := h4.call hB5j
        have hLr := hL4.call hB5j
        by_cases hltj : j < G.length
        · have hGj := hG5.call hBj
          have hjm : j < (G.map castN).length := by rw [List.length_map]; exact hltj
          obtain ⟨gb, gof, rfl, _, hgb⟩ := hGj.addr (by omega)
          obtain ⟨aw, cw, hcell, hrow⟩ := hGj.row j hjm
          rw [List.getElem_map] at hcell hrow
          have hmem : G[j] ∈ groupsF x.claims.length m 0 := HGL.out _ (List.getElem_mem _)
          have hts := few_test_at hx hmn hmem
          have HTS := Lib.hid hts
          clear hts hmem
          go_wp2_with fail
          refine wp_region_mix2 (.one 0 (.pur 1 (.pur 2 (.pur 3 (.one 4 (.act 5 (.act 6 (.pur 7 (.pur 8 (.pur 9 (.pur 10 (.pur 11 .fin)))))))))))) 5 (fun w => Blk bx #[.int .i64 x.points, .int .i64 x.bend, .slice ax x.claims.length cx] 24 w ∧ w.cell? ⟨gb, gof + j, none⟩ = some (.slice aw (castN G[j]).length cw)) (fun _ => True) (by kernel_rfl) (by kernel_rfl) rfl (by kernel_rfl) ⟨hXr.qt ((Qt.refl _).drewN 1), hcell⟩ (fun wd hqd _ => ?_)
          refine mix_load2 rfl rfl rfl (.agg #[.int .i64 x.points, .int .i64 x.bend, .slice ax x.claims.length cx]) (fun w' h => by have h : (fun w => Blk bx #[.int .i64 x.points, .int .i64 x.bend, .slice ax x.claims.length cx] 24 w ∧ w.cell? ⟨gb, gof + j, none⟩ = some (.slice aw (castN G[j]).length cw)) w' := h; have h0 := h.1.cell 0; have h1 := h.1.cell 1; have h2 := h.1.cell 2; go_simp) rfl ?_
          refine mix_pur2 rfl (fun K hK => ?_)
          go_simp
          first | refine ⟨_, fun _ => rfl, hK _ ?_⟩ | refine hK _ ?_
          clear hK K
          refine mix_pur2 rfl (fun K hK => ?_)
          go_simp
          first | refine ⟨_, fun _ => rfl, hK _ ?_⟩ | refine hK _ ?_
          clear hK K
          refine mix_pur2 rfl (fun K hK => ?_)
          go_simp
          first | refine ⟨_, fun _ => rfl, hK _ ?_⟩ | refine hK _ ?_
          clear hK K
          refine mix_load2 rfl rfl rfl (.slice aw (castN G[j]).length cw) (fun w' h => by have h : (fun w => Blk bx #[.int .i64 x.points, .int .i64 x.bend, .slice ax x.claims.length cx] 24 w ∧ w.cell? ⟨gb, gof + j, none⟩ = some (.slice aw (castN G[j]).length cw)) w' := h; have h0 := h.2; go_simp) rfl ?_
          refine mix_eff2 rfl true rfl (fun K hK => ?_)
          go_simp
          refine (part_c (hCr.qt hqd) (hrow.qt hqd) (by omega) true).mono ?_
          rintro e w6 ⟨v6, rfl, hP6, hS6⟩
          have hbd := bnx (hqd.below _) hS6
          refine hK _ _ trivial ?_
          clear hK K
          refine mix_eff2 rfl true rfl (fun K hK => ?_)
          go_simp
          refine (holds_c (x := partF x (keepS (castN G[j]) true)) hP6 (partF_ok hx _)).mono ?_
          rintro e w7 ⟨rfl, hS7⟩
          have hB7 := bnx hbd hS7
          refine hK _ _ trivial ?_
          clear hK K
          refine mix_pur2 rfl (fun K hK => ?_)
          go_simp
          first | refine ⟨_, fun _ => rfl, hK _ ?_⟩ | refine hK _ ?_
          clear hK K
          refine mix_pur2 rfl (fun K hK => ?_)
          go_simp
          first | refine ⟨_, fun _ => rfl, hK _ ?_⟩ | refine hK _ ?_
          clear hK K
          refine mix_pur2 rfl (fun K hK => ?_)
          go_simp
          first | refine ⟨_, fun _ => rfl, hK _ ?_⟩ | refine hK _ ?_
          clear hK K
          refine mix_pur2 rfl (fun K hK => ?_)
          go_simp
          first | refine ⟨_, fun _ => rfl, hK _ ?_⟩ | refine hK _ ?_
          clear hK K
          refine mix_pur2 rfl (fun K hK => ?_)
          go_simp
          first | refine ⟨_, fun _ => rfl, hK _ ?_⟩ | refine hK _ ?_
          clear hK K
          refine mix_done2 ?_
          have hBz := bnx hBj hB7
          cases ht : hasT (partF x (keepS (castN G[j]) true)) with
          | false =>
            go_wp2_with fail
            go_roundw
            case rel =>
              refine ⟨j + 1, by omega, by go_num, Lib.hid fun y hy => ?_, hBz⟩
              rw [List.take_succ_eq_append_getElem hltj] at hy
              rcases List.mem_append.1 hy with hy | hy
              · exact HJ.out y hy
              · rw [List.mem_singleton] at hy
                rw [hy, ← HTS.out]; exact ht
            case measure => simp [intOf]; omega
          | true =>
            have hgg : wrongF x = some (maskOf G[j]) := by
              have hsp : groupsF x.claims.length m 0 = G.take j ++ G[j] :: G.drop (j + 1) := by rw [← HGG.out, ← List.drop_eq_getElem_cons hltj, List.take_append_drop]
              exact few_groups hx.m hmn hsp (fun m' hm' y hy => HM.out m' hm' y hy) (fun y hy => HJ.out y hy) (by show fewT x (maskOf G[j]) = true; rw [← HTS.out]; exact ht)
            have hge : g = maskOf G[j] := by have := HG.out.symm.trans hgg; injection this
            have hml : maskL g = G[j] := by rw [hge]; exact maskL_maskOf hx.m hmn (HGL.out _ (List.getElem_mem _))
            have hrow7 := hrow.call hB7
            have hcell7 : w7.cell? ⟨gb, gof + j, none⟩ = some (.slice aw (castN G[j]).length cw) := (cell_same (hB7.block gb hgb)).trans hcell
            have hsm := sameInts_q (hLr.call hB7) hrow7
            rw [hml, beq_self_eq_true] at hsm
            have HSM := Lib.hid hsm
            clear hsm hgg hge
            go_wp2_with fail
            refine HSM.out.mono ?_
            rintro e w8 ⟨rfl, hq8⟩
            go_wp2_with fail
            refine (surveyed_c _).mono ?_
            rintro e w9 ⟨rfl, hS9⟩
            go_wp2_with fail
            go_ret
            exact ⟨rfl, bnx (bnx (bnx (bnx hBw4 hB5j) hB7) (hq8.below _)) hS9⟩
        · obtain rfl : j = G.length := by omega
          go_wp2_with fail
          go_roundw
          case rel =>
            refine ⟨m + 1, by omega, by go_num, Lib.hid fun m' hm' y hy => ?_, hB5j⟩
            by_cases e : m' = m
            · subst e
              exact HJ.out y (by rw [List.take_length, HGG.out]; exact hy)
            · exact HM.out m' (by omega) y hy
          case measure => simp [intOf]; omega
    · exfalso
      have hnone := few_none (n := x.claims.length) (test := fewT x) fun m' hm' y hy => HM.out m' (by omega) y hy
      have hsome := HG.out
      unfold wrongF at hsome
      have : fewF x.claims.length (fewT x) = some g := hsome
      rw [hnone] at this
      cases this

end Go.Proofs.Ytgdifckmjdjcpaa
