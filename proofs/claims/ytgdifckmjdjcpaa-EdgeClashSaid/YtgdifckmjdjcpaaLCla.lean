/- EdgeClash: what its walk hands back; conditions: the argument reads as a list of numbers. -/
import Derived.Test.YtgdifckmjdjcpaaLFew
namespace Go.Proofs.Ytgdifckmjdjcpaa
open Go.RowKit

def claT (x : Edg) (g : Nat) : Bool := !hasT (partF x fun i => g.testBit i)
theorem cla_test_at {x : Edg} (hx : x.Ok) {m : Nat} {l : List Nat} (hm : m ≤ x.claims.length) (hl : l ∈ groupsF x.claims.length m 0) : hasT (partF x (keepS (castN l) false)) = !claT x (maskOf l) := by
  rw [part_mask hx hm hl false]
  unfold claT
  rw [Bool.not_not]
  congr 2
  funext i
  cases (maskOf l).testBit i <;> rfl
theorem cut_mem {M : List Nat} (hn : M.Nodup) {k : Nat} (hk : k < M.length) (i : Nat) : i ∈ M.take k ++ M.drop (k + 1) ↔ i ∈ M ∧ i ≠ M[k] := by
  have e : M = M.take k ++ M[k] :: M.drop (k + 1) := by rw [← List.drop_eq_getElem_cons hk, List.take_append_drop]
  generalize M[k] = x at e ⊢
  generalize M.take k = a at e ⊢
  generalize M.drop (k + 1) = b at e ⊢
  subst e
  rw [List.nodup_append] at hn
  obtain ⟨_, h2, h3⟩ := hn
  rw [List.nodup_cons] at h2
  simp only [List.mem_append, List.mem_cons]
  constructor
  · rintro (h | h)
    · exact ⟨.inl h, h3 i h x (by simp)⟩
    · exact ⟨.inr (.inr h), fun e => h2.1 (e ▸ h)⟩
  · rintro ⟨h | rfl | h, h4⟩
    · exact .inl h
    · exact absurd rfl h4
    · exact .inr h
theorem cut_holds {x : Edg} (hx : x.Ok) {m : Nat} {l : List Nat} (hm : m ≤ x.claims.length) (hl : l ∈ groupsF x.claims.length m 0) (hg : clashF x = some (maskOf l)) {k : Nat} (hk : k < l.length) :
    hasT (partF x (keepS ((castN l).take k ++ (castN l).drop (k + 1)) false)) = true := by
  have hm7 := hx.m
  have e := maskL_maskOf hm7 hm hl
  have hnd : l.Nodup := by
    rw [← e]
    exact List.nodup_range.filter _
  have hmem : l[k] ∈ maskL (maskOf l) := by rw [e]; exact List.getElem_mem hk
  have hbit : (maskOf l).testBit l[k] = true := by
    unfold maskL at hmem
    exact (List.mem_filter.1 hmem).2
  have h1 := clash_less hx hg hbit
  rw [← h1]
  congr 1
  unfold partF
  rw [keepL_congr fun i hi => ?_]
  rw [Nat.zero_add]
  unfold keepS
  have hc : (castN l).take k ++ (castN l).drop (k + 1) = castN (l.take k ++ l.drop (k + 1)) := by unfold castN; rw [List.map_append, List.map_take, List.map_drop]
  rw [hc]
  have h2 : decide ((i : Int) ∈ castN (l.take k ++ l.drop (k + 1))) = ((maskOf l).testBit i && decide (i ≠ l[k])) := by
    rw [Bool.eq_iff_iff, decide_eq_true_iff, mem_castN, cut_mem hnd hk, Bool.and_eq_true, decide_eq_true_iff]
    have h3 := mem_maskL (g := maskOf l) (show i < 16 by omega)
    rw [e] at h3
    rw [h3]
  rw [h2]
  simp
theorem ints_cut {A : Nat → Prop} {w : World} {b off cap : Nat} {l : List Int} (h : Ints A w (.slice (some ⟨b, off, none⟩) l.length cap) l) {k : Nat} (hk : k < l.length) :
    Ints A w (.slice (some ⟨b, off, none⟩) k cap) (l.take k) ∧ Ints A w (.slice (some ⟨b, off + (k + 1), none⟩) (l.length - (k + 1)) (cap - (k + 1))) (l.drop (k + 1)) := by
  obtain ⟨ao, cp, hv, h1, ⟨h2, h3⟩, h4⟩ := h
  injection hv with e1 e2 e3
  subst e1
  subst e3
  rcases h4 with h4 | ⟨b', off', he, hA, hl, hc⟩
  · have := I64_len l
    rw [h4] at this
    simp at this
    omega
  · injection he with he
    injection he with e4 e5
    subst e4; subst e5
    have hc' : ∀ j (hj : j < l.length), w.cell? ⟨b, off + j, none⟩ = some (.int .i64 l[j]) := fun j hj => hc j _ (I64_at l j hj)
    refine ⟨⟨_, _, by rw [List.length_take, Nat.min_eq_left (by omega)], by rw [List.length_take]; omega, ⟨h2, fun h => by cases h⟩, .inr ⟨b, off, rfl, hA, hl, fun j u hj => ?_⟩⟩, ⟨_, _, by rw [List.length_drop], by rw [List.length_drop]; omega, ⟨by omega, fun h => by cases h⟩, .inr ⟨b, off + (k + 1), rfl, hA, hl, fun j u hj => ?_⟩⟩⟩
    · have hjl : j < (l.take k).length := by have := (List.getElem?_eq_some_iff.1 hj).1; rwa [I64_len] at this
      rw [I64_at _ j hjl] at hj
      injection hj with hj
      rw [← hj, List.getElem_take]
      exact hc' j (by rw [List.length_take] at hjl; omega)
    · have hjl : j < (l.drop (k + 1)).length := by have := (List.getElem?_eq_some_iff.1 hj).1; rwa [I64_len] at this
      rw [I64_at _ j hjl] at hj
      injection hj with hj
      rw [← hj, List.getElem_drop]
      have := hc' (k + 1 + j) (by rw [List.length_drop] at hjl; omega)
      rw [show off + (k + 1) + j = off + (k + 1 + j) by omega]
      exact this
theorem copyInts_own {A : Nat → Prop} {w : World} {v : Value} {l : List Int} (h : Ints A w v l) (hl : l.length ≤ 1000000) :
    Calls Try.prog 46 #[v] w fun e w' => ∃ v', e = .returned v' ∧ Own w.heap.size w' 3 1 v' l.length (I64 l) ∧ Below w.heap.size w w' := by
  have n1 := h.len
  have hh := h.call ((Below.refl w.heap.size w).alloc (Nat.le_refl _) (.cells #[] 3))
  have ho := own_lit w 3 1 #[] 0 rfl (by omega)
  obtain ⟨a1, c1, rfl, hc1, hm1⟩ := h.shape
  go_enter Try.func46, Try.ntmps46
  go_wp2_with (at_builtin; refine wpList_append_arr rfl _ _ 27 rfl 3 (.int .i64 0) 1 8 Try.underlying27 Try.info3 rfl (by decide) (by decide) (by simp) ho rfl hh rfl (by rw [I64_len, Nat.mul_one]) (ints_one l) (by omega) ?_; intro v' w' hown hT)
  go_ret
  rw [Nat.zero_add, List.nil_append] at hown
  exact ⟨_, rfl, hown, hT.below ho ((Below.refl w.heap.size w).alloc (Nat.le_refl _) _) (by simp)⟩

set_option maxRecDepth 100000 in
set_option maxHeartbeats 4000000 in
theorem edgeClash_c {A : Nat → Prop} {w : World} {v : Value} {l : List Int} (h : Ints A w v l) : Calls Try.prog 6 #[v] w fun e w' => e = .returned (.bool true) ∧ Below w.heap.size w w' := by
  obtain ⟨a0, c0, rfl, _, _⟩ := h.shape
  go_enter Try.func6, Try.ntmps6
  go_wp2_with fail
  refine (newHand_c h).mono ?_
  rintro e w1 ⟨rfl, hH1, hB1⟩
  go_wp2_with fail
  refine (edgeOf_c hH1 (by omega) (pts := 3) (cl := 6) (by omega) (by omega)).mono ?_
  rintro e w2 ⟨⟨x, vx, rfl, hx, hx4, hx7, hO2⟩, -, hG2⟩
  have hB2 := bhand hB1 hG2 (Nat.le_refl _)
  obtain ⟨ax, cx, rfl⟩ := own_slice hO2
  obtain ⟨w3, hw3⟩ : ∃ w3, w3 = w2.alloc (.cells #[.int .i64 x.points, .int .i64 x.bend, .slice ax x.claims.length cx] 24) := ⟨_, rfl⟩
  obtain ⟨bx, hbx⟩ : ∃ b, b = w2.heap.size := ⟨_, rfl⟩
  have hX3 : Blk bx #[.int .i64 x.points, .int .i64 x.bend, .slice ax x.claims.length cx] 24 w3 := by rw [hw3, hbx]; exact Blk.new _ _ _
  have hB3 : Below w.heap.size w w3 := by rw [hw3]; exact bal2 hB2
  have h3 : ClsM (fun q => w1.heap.size ≤ q) w3 (.slice ax x.claims.length cx) x.claims := by rw [hw3]; exact (hO2.cls).call ((Below.refl _ _).alloc (Nat.le_refl _) _)
  go_upto_region 2 with fail
  rw [← hw3, ← hbx]
  clear hw3 hbx hO2 hG2 hH1 hB1 hB2
  have c0 := hX3.cell 0
  have c1 := hX3.cell 1
  have c2 := hX3.cell 2
  have hw := clash_c h3
  obtain ⟨E, hE⟩ : ∃ E, E = (clashX x).2 := ⟨_, rfl⟩
  obtain ⟨C, hC⟩ : ∃ C, C = (clashX x).1 := ⟨_, rfl⟩
  rw [← hE, ← hC] at hw
  have HW := Lib.hid hw
  have HE := Lib.hid (show clashX x = (C, E) by rw [hE, hC])
  clear hw hE hC
  go_wp2_with fail
  refine HW.out.mono ?_
  rintro e w4 ⟨vl, rfl, hL4, hB4⟩
  have hX4 := hX3.call hB4
  have h4 := h3.call hB4
  have hBw4 := bnx hB3 hB4
  obtain ⟨al, cl, rfl, _, _⟩ := hL4.shape
  have hm6 : x.claims.length ≤ 6 := by omega
  clear c0 c1 c2 HW hX3 h3 hB4 hB3
  go_wp2_with fail
  go_loopw [6] (fun vm wr => ∃ m : Nat, m ≤ x.claims.length + 1 ∧ vm = .int .i64 m ∧ Hid (∀ m' < m, ∀ y ∈ groupsF x.claims.length m' 0, claT x (maskOf y) = false) ∧ Below w4.heap.size w4 wr) (fun vm _ => x.claims.length + 1 - (intOf vm).toNat)
  case atStart => exact ⟨0, Nat.zero_le _, rfl, Lib.hid (fun m' hm' => by omega), Below.refl _ _⟩
  case round =>
    obtain ⟨m, hm, rfl, HM, hB⟩ := hrel
    have hXr := hX4.call hB
    have hCr := h4.call hB
    have hLr := hL4.call hB
    have c2 := hXr.cell 2
    by_cases hmn : m ≤ x.claims.length
    · have hpk := picks_c (n := x.claims.length) (by omega) m (by omega) 0 (by omega) wr
      rw [show ((0 : Nat) : Int) = 0 from rfl, picks_groups] at hpk
      obtain ⟨G, hG⟩ : ∃ G, G = groupsF x.claims.length m 0 := ⟨_, rfl⟩
      rw [← hG] at hpk
      have hgl : ∀ y ∈ G, y ∈ groupsF x.claims.length m 0 := fun y hy => by rw [← hG]; exact hy
      have hglen : ∀ y ∈ G, (castN y).length = m := fun y hy => by
        have := (picksL_len (n := x.claims.length) (by omega) m (by omega) 0 (by omega)).2 (castN y)
        rw [picks_groups, ← hG] at this
        exact this (List.mem_map_of_mem hy)
      have HGG := Lib.hid hG
      have HGL := Lib.hid hgl
      have HGN := Lib.hid hglen
      have HPK := Lib.hid hpk
      clear hpk hG hgl hglen
      go_wp2_with fail
      refine HPK.out.mono ?_
      rintro e w5 ⟨v5, rfl, hG5, hS5⟩
      obtain ⟨a5, c5, rfl, _, _⟩ := hG5.shape
      have hgm : (G.map castN).length = G.length := List.length_map _
      have hgs := hG5.len
      have hB5 := bnx hB hS5
      rw [hgm] at hG5 hgs ⊢
      clear hgm c2 hS5 hXr hCr hLr
      go_wp2_with fail
      go_loopw [8] (fun vj wj => ∃ j : Nat, j ≤ G.length ∧ vj = .int .i64 j ∧ Hid (∀ y ∈ G.take j, claT x (maskOf y) = false) ∧ Below w5.heap.size w5 wj) (fun vj _ => G.length - (intOf vj).toNat)
      case atStart => exact ⟨0, Nat.zero_le _, rfl, Lib.hid (by simp), Below.refl _ _⟩
      case round =>
        rename World => wj
        obtain ⟨j, hj, rfl, HJ, hBj⟩ := hrel
        have hB5j := hB5.trans (hBj.mono hB5.size)
        have hXr := hX4.call hB5j
        have hCr := h4.call hB5j
        have hLr := hL4.call hB5j
        by_cases hltj : j < G.length
        · have hGj := hG5.call hBj
          have hjm : j < (G.map castN).length := by rw [List.length_map]; exact hltj
          obtain ⟨gb, gof, rfl, _, hgb⟩ := hGj.addr (by omega)
          obtain ⟨aw, cw, hcell, hrow⟩ := hGj.row j hjm
          rw [List.getElem_map] at hcell hrow
          have hmem : G[j] ∈ groupsF x.claims.length m 0 := HGL.out _ (List.getElem_mem _)
          have hts := cla_test_at hx hmn hmem
          have HTS := Lib.hid hts
          clear hts hmem
          go_wp2_with fail
          refine wp_region_mix2 (.one 0 (.pur 1 (.pur 2 (.pur 3 (.one 4 (.act 5 (.act 6 (.pur 7 (.pur 8 (.pur 9 (.pur 10 (.pur 11 .fin)))))))))))) 5 (fun w => Blk bx #[.int .i64 x.points, .int .i64 x.bend, .slice ax x.claims.length cx] 24 w ∧ w.cell? ⟨gb, gof + j, none⟩ = some (.slice aw (castN G[j]).length cw)) (fun _ => True) (by kernel_rfl) (by kernel_rfl) rfl (by kernel_rfl) ⟨hXr.qt ((Qt.refl _).drewN 1), hcell⟩ (fun wd hqd _ => ?_)
          refine mix_load2 rfl rfl rfl (.agg #[.int .i64 x.points, .int .i64 x.bend, .slice ax x.claims.length cx]) (fun w' h => by have h : (fun w => Blk bx #[.int .i64 x.points, .int .i64 x.bend, .slice ax x.claims.length cx] 24 w ∧ w.cell? ⟨gb, gof + j, none⟩ = some (.slice aw (castN G[j]).length cw)) w' := h; have h0 := h.1.cell 0; have h1 := h.1.cell 1; have h2 := h.1.cell 2; go_simp) rfl ?_
          refine mix_pur2 rfl (fun K hK => ?_)
          go_simp
          first | refine ⟨_, fun _ => rfl, hK _ ?_⟩ | refine hK _ ?_
          clear hK K
          refine mix_pur2 rfl (fun K hK => ?_)
          go_simp
          first | refine ⟨_, fun _ => rfl, hK _ ?_⟩ | refine hK _ ?_
          clear hK K
          refine mix_pur2 rfl (fun K hK => ?_)
          go_simp
          first | refine ⟨_, fun _ => rfl, hK _ ?_⟩ | refine hK _ ?_
          clear hK K
          refine mix_load2 rfl rfl rfl (.slice aw (castN G[j]).length cw) (fun w' h => by have h : (fun w => Blk bx #[.int .i64 x.points, .int .i64 x.bend, .slice ax x.claims.length cx] 24 w ∧ w.cell? ⟨gb, gof + j, none⟩ = some (.slice aw (castN G[j]).length cw)) w' := h; have h0 := h.2; go_simp) rfl ?_
          refine mix_eff2 rfl true rfl (fun K hK => ?_)
          go_simp
          refine (part_c (hCr.qt hqd) (hrow.qt hqd) (by omega) false).mono ?_
          rintro e w6 ⟨v6, rfl, hP6, hS6⟩
          have hbd := bnx (hqd.below _) hS6
          refine hK _ _ trivial ?_
          clear hK K
          refine mix_eff2 rfl true rfl (fun K hK => ?_)
          go_simp
          refine (holds_c (x := partF x (keepS (castN G[j]) false)) hP6 (partF_ok hx _)).mono ?_
          rintro e w7 ⟨rfl, hS7⟩
          have hB7 := bnx hbd hS7
          refine hK _ _ trivial ?_
          clear hK K
          refine mix_pur2 rfl (fun K hK => ?_)
          go_simp
          first | refine ⟨_, fun _ => rfl, hK _ ?_⟩ | refine hK _ ?_
          clear hK K
          refine mix_pur2 rfl (fun K hK => ?_)
          go_simp
          first | refine ⟨_, fun _ => rfl, hK _ ?_⟩ | refine hK _ ?_
          clear hK K
          refine mix_pur2 rfl (fun K hK => ?_)
          go_simp
          first | refine ⟨_, fun _ => rfl, hK _ ?_⟩ | refine hK _ ?_
          clear hK K
          refine mix_pur2 rfl (fun K hK => ?_)
          go_simp
          first | refine ⟨_, fun _ => rfl, hK _ ?_⟩ | refine hK _ ?_
          clear hK K
          refine mix_pur2 rfl (fun K hK => ?_)
          go_simp
          first | refine ⟨_, fun _ => rfl, hK _ ?_⟩ | refine hK _ ?_
          clear hK K
          refine mix_done2 ?_
          have hBz := bnx hBj hB7
          cases ht : hasT (partF x (keepS (castN G[j]) false)) with
          | true =>
            go_wp2_with fail
            go_roundw
            case rel =>
              refine ⟨j + 1, by omega, by go_num, Lib.hid fun y hy => ?_, hBz⟩
              rw [List.take_succ_eq_append_getElem hltj] at hy
              rcases List.mem_append.1 hy with hy | hy
              · exact HJ.out y hy
              · rw [List.mem_singleton] at hy
                have := HTS.out
                rw [ht] at this
                rw [hy]; simpa using this.symm
            case measure => simp [intOf]; omega
          | false =>
            have hgg : clashF x = some (maskOf G[j]) := by
              have hsp : groupsF x.claims.length m 0 = G.take j ++ G[j] :: G.drop (j + 1) := by rw [← HGG.out, ← List.drop_eq_getElem_cons hltj, List.take_append_drop]
              exact few_groups hx.m hmn hsp (fun m' hm' y hy => HM.out m' hm' y hy) (fun y hy => HJ.out y hy) (by show claT x (maskOf G[j]) = true; have := HTS.out; rw [ht] at this; simpa using this.symm)
            have hml : maskL (maskOf G[j]) = G[j] := maskL_maskOf hx.m hmn (HGL.out _ (List.getElem_mem _))
            have hce := HE.out
            rw [show clashX x = (G[j], 0) by unfold clashX; rw [if_neg (not_not_intro (checkX_zero.2 hx)), hgg]; exact congrArg (fun z => (z, (0 : Int))) hml] at hce
            injection hce with hce1 hce2
            have HCUT := Lib.hid (show ∀ k (hk : k < G[j].length), hasT (partF x (keepS ((castN G[j]).take k ++ (castN G[j]).drop (k + 1)) false)) = true from fun k hk => cut_holds hx hmn (HGL.out _ (List.getElem_mem _)) hgg hk)
            have hlm := HGN.out G[j] (List.getElem_mem _)
            have hrow7 := hrow.call hB7
            have hcell7 : w7.cell? ⟨gb, gof + j, none⟩ = some (.slice aw (castN G[j]).length cw) := (cell_same (hB7.block gb hgb)).trans hcell
            have hB57 := hB5j.trans (hB7.mono hB5j.size)
            subst hce2
            subst hce1
            have hlm1 : (castN G[j]).length ≤ m := Nat.le_of_eq hlm
            have hlm2 : m ≤ (castN G[j]).length := Nat.le_of_eq hlm.symm
            have hrl := hrow7.len
            clear hlm hgg hml
            go_wp2_with fail
            go_loopw [11] (fun vk wk => ∃ k : Nat, k ≤ m ∧ vk = .int .i64 k ∧ Below w7.heap.size w7 wk) (fun vk _ => m - (intOf vk).toNat)
            case atStart => exact ⟨0, Nat.zero_le _, rfl, Below.refl _ _⟩
            case round =>
              rename World => wk
              obtain ⟨k, hk, rfl, hBk⟩ := hrel
              have hB4k := hB57.trans (hBk.mono hB57.size)
              have hXk := hX4.call hB4k
              have hCk := h4.call hB4k
              have hrk := hrow7.call hBk
              have hgb7 : gb < w7.heap.size := by have := hB7.size; omega
              have hcellk : wk.cell? ⟨gb, gof + j, none⟩ = some (.slice aw (castN G[j]).length cw) := (cell_same (hBk.block gb hgb7)).trans hcell7
              by_cases hltk : k < m
              · obtain ⟨rb, ro, rfl, _, _, _⟩ := hrk.addr (by omega)
                obtain ⟨hc1, hc2⟩ := ints_cut hrk (k := k) (by omega)
                have hlc : (castN G[j]).length ≤ cw := by obtain ⟨_, _, hv, h1, _⟩ := hrk.shape; injection hv with _ _ e; omega
                have hkc : k ≤ cw := by omega
                have hk1 : k + 1 ≤ (castN G[j]).length := by omega
                have hkI2 : (k : Int) ≤ (k : Int) + 1 := by omega
                have hgbk : gb < wk.heap.size := by have := hBk.size; omega
                have hkI : 0 ≤ (k : Int) + 1 ∧ (k : Int) + 1 ≤ ((castN G[j]).length : Int) := by omega
                have hcut := HCUT.out k (by have : (castN G[j]).length = G[j].length := List.length_map _; omega)
                have HCT := Lib.hid hcut
                have bk1 : IntKind.i64.wrap ((k : Int) + 1) = (k : Int) + 1 := IntWalk.i64_in _ (by omega)
                clear hcut
                by_cases hce : cw = k + 1
                · subst hce
                  have hc2 : Ints (fun _ => True) wk (.slice (some ⟨rb, ro, none⟩) 0 0) ((castN G[j]).drop (k + 1)) := by rw [List.drop_of_length_le (by omega)]; exact ⟨_, _, rfl, Nat.le_refl _, ⟨by unfold maxLen; omega, fun h => by cases h⟩, .inl rfl⟩
                  go_wp2_with fail
                  refine wp_region_mix2 (.one 0 (.pur 1 (.pur 2 (.pur 3 (.one 4 (.pur 5 (.pur 6 (.pur 8 (.pur 9 (.pur 10 (.one 11 (.pur 12 (.pur 13 (.pur 14 (.act 7 (.act 15 (.act 16 (.act 17 (.pur 18 (.pur 19 (.pur 20 (.pur 21 (.pur 22 .fin))))))))))))))))))))))) 16 (fun w => Blk bx #[.int .i64 x.points, .int .i64 x.bend, .slice ax x.claims.length cx] 24 w ∧ w.cell? ⟨gb, gof + j, none⟩ = some (.slice (some ⟨rb, ro, none⟩) (castN G[j]).length (k + 1))) (fun _ => True) (by kernel_rfl) (by kernel_rfl) rfl (by kernel_rfl) ⟨hXk.qt ((Qt.refl _).drewN 1), hcellk⟩ (fun we hqe _ => ?_)
                  refine mix_load2 rfl rfl rfl (.agg #[.int .i64 x.points, .int .i64 x.bend, .slice ax x.claims.length cx]) (fun w' h => by have h : (fun w => Blk bx #[.int .i64 x.points, .int .i64 x.bend, .slice ax x.claims.length cx] 24 w ∧ w.cell? ⟨gb, gof + j, none⟩ = some (.slice (some ⟨rb, ro, none⟩) (castN G[j]).length (k + 1))) w' := h; have h0 := h.1.cell 0; have h1 := h.1.cell 1; have h2 := h.1.cell 2; go_simp) rfl ?_
                  refine mix_pur2 rfl (fun K hK => ?_)
                  go_simp
                  first | refine ⟨_, fun _ => rfl, hK _ ?_⟩ | refine hK _ ?_
                  clear hK K
                  refine mix_pur2 rfl (fun K hK => ?_)
                  go_simp
                  first | refine ⟨_, fun _ => rfl, hK _ ?_⟩ | refine hK _ ?_
                  clear hK K
                  refine mix_pur2 rfl (fun K hK => ?_)
                  go_simp
                  first | refine ⟨_, fun _ => rfl, hK _ ?_⟩ | refine hK _ ?_
                  clear hK K
                  refine mix_load2 rfl rfl rfl (.slice (some ⟨rb, ro, none⟩) (castN G[j]).length (k + 1)) (fun w' h => by have h : (fun w => Blk bx #[.int .i64 x.points, .int .i64 x.bend, .slice ax x.claims.length cx] 24 w ∧ w.cell? ⟨gb, gof + j, none⟩ = some (.slice (some ⟨rb, ro, none⟩) (castN G[j]).length (k + 1))) w' := h; have h0 := h.2; go_simp) rfl ?_
                  refine mix_pur2 rfl (fun K hK => ?_)
                  go_simp
                  first | refine ⟨_, fun _ => rfl, hK _ ?_⟩ | refine hK _ ?_
                  clear hK K
                  refine mix_pur2 rfl (fun K hK => ?_)
                  go_simp
                  first | refine ⟨_, fun _ => rfl, hK _ ?_⟩ | refine hK _ ?_
                  clear hK K
                  refine mix_pur2 rfl (fun K hK => ?_)
                  go_simp
                  first | refine ⟨_, fun _ => rfl, hK _ ?_⟩ | refine hK _ ?_
                  clear hK K
                  refine mix_pur2 rfl (fun K hK => ?_)
                  go_simp
                  first | refine ⟨_, fun _ => rfl, hK _ ?_⟩ | refine hK _ ?_
                  clear hK K
                  refine mix_pur2 rfl (fun K hK => ?_)
                  go_simp
                  first | refine ⟨_, fun _ => rfl, hK _ ?_⟩ | refine hK _ ?_
                  clear hK K
                  refine mix_load2 rfl rfl rfl (.slice (some ⟨rb, ro, none⟩) (castN G[j]).length (k + 1)) (fun w' h => by have h : (fun w => Blk bx #[.int .i64 x.points, .int .i64 x.bend, .slice ax x.claims.length cx] 24 w ∧ w.cell? ⟨gb, gof + j, none⟩ = some (.slice (some ⟨rb, ro, none⟩) (castN G[j]).length (k + 1))) w' := h; have h0 := h.2; go_simp) rfl ?_
                  refine mix_pur2 rfl (fun K hK => ?_)
                  go_simp
                  first | refine ⟨_, fun _ => rfl, hK _ ?_⟩ | refine hK _ ?_
                  clear hK K
                  refine mix_pur2 rfl (fun K hK => ?_)
                  go_simp
                  first | refine ⟨_, fun _ => rfl, hK _ ?_⟩ | refine hK _ ?_
                  clear hK K
                  refine mix_pur2 rfl (fun K hK => ?_)
                  go_simp
                  first | refine ⟨_, fun _ => rfl, hK _ ?_⟩ | refine hK _ ?_
                  clear hK K
                  refine mix_eff2 rfl false rfl (fun K hK => ?_)
                  go_simp
                  refine (copyInts_own (hc1.qt hqe) (by rw [List.length_take]; omega)).mono ?_
                  rintro e w8 ⟨v8, rfl, hO8, hS8⟩
                  have hb8 := bnx (hqe.below _) hS8
                  have hc28 := hc2.call hb8
                  rw [show ((castN G[j]).take k).length = k by rw [List.length_take]; omega] at hO8
                  obtain ⟨a8, c8, rfl⟩ := own_slice hO8
                  refine hK _ _ ⟨hXk.call hb8, (cell_same (hb8.block gb hgbk)).trans hcellk⟩ ?_
                  clear hK K
                  refine mix_eff2 rfl false rfl (fun K hK => ?_)
                  refine step_append_arr rfl _ _ 27 rfl 3 (.int .i64 0) 1 8 Try.underlying27 Try.info3 rfl (by decide) (by decide) hS8.size hO8 rfl hc28 rfl (by rw [I64_len, Nat.mul_one]) (ints_one _) (by rw [List.length_drop]; omega) ?_
                  intro v9 w9 hown9 hT9
                  obtain ⟨n9, hn9⟩ : ∃ n9, n9 = k + ((castN G[j]).drop (k + 1)).length := ⟨_, rfl⟩
                  rw [← hn9] at hown9
                  clear hn9
                  have hI9 : Ints (fun q => we.heap.size ≤ q) w9 v9 ((castN G[j]).take k ++ (castN G[j]).drop (k + 1)) := Own.ints (n := n9) (by rw [I64_append]; exact hown9)
                  have hb9 := bnx (hqe.below _) (hT9.below hO8 hS8 hS8.size)
                  obtain ⟨a9, c9, rfl⟩ := own_slice hown9
                  refine hK _ _ ⟨hXk.call hb9, (cell_same (hb9.block gb hgbk)).trans hcellk⟩ ?_
                  clear hK K
                  refine mix_eff2 rfl true rfl (fun K hK => ?_)
                  go_simp
                  refine (part_c (hCk.call hb9) hI9 (by omega) false).mono ?_
                  rintro e w10 ⟨v10, rfl, hP10, hS10⟩
                  have hb10 := bnx hb9 hS10
                  refine hK _ _ trivial ?_
                  clear hK K
                  refine mix_eff2 rfl true rfl (fun K hK => ?_)
                  go_simp
                  refine (holds_c (x := partF x (keepS ((castN G[j]).take k ++ (castN G[j]).drop (k + 1)) false)) hP10 (partF_ok hx _)).mono ?_
                  rintro e w11 ⟨rfl, hS11⟩
                  rw [HCT.out]
                  have hB11 := bnx hb10 hS11
                  refine hK _ _ trivial ?_
                  clear hK K
                  refine mix_pur2 rfl (fun K hK => ?_)
                  go_simp
                  first | refine ⟨_, fun _ => rfl, hK _ ?_⟩ | refine hK _ ?_
                  clear hK K
                  refine mix_pur2 rfl (fun K hK => ?_)
                  go_simp
                  first | refine ⟨_, fun _ => rfl, hK _ ?_⟩ | refine hK _ ?_
                  clear hK K
                  refine mix_pur2 rfl (fun K hK => ?_)
                  go_simp
                  first | refine ⟨_, fun _ => rfl, hK _ ?_⟩ | refine hK _ ?_
                  clear hK K
                  refine mix_pur2 rfl (fun K hK => ?_)
                  go_simp
                  first | refine ⟨_, fun _ => rfl, hK _ ?_⟩ | refine hK _ ?_
                  clear hK K
                  refine mix_pur2 rfl (fun K hK => ?_)
                  go_simp
                  first | refine ⟨_, fun _ => rfl, hK _ ?_⟩ | refine hK _ ?_
                  clear hK K
                  refine mix_done2 ?_
                  go_wp2_with fail
                  go_roundw
                  case rel => exact ⟨k + 1, by omega, by go_num, bnx hBk hB11⟩
                  case measure => simp [intOf]; omega
                · go_wp2_with fail
                  refine wp_region_mix2 (.one 0 (.pur 1 (.pur 2 (.pur 3 (.one 4 (.pur 5 (.pur 6 (.pur 8 (.pur 9 (.pur 10 (.one 11 (.pur 12 (.pur 13 (.pur 14 (.act 7 (.act 15 (.act 16 (.act 17 (.pur 18 (.pur 19 (.pur 20 (.pur 21 (.pur 22 .fin))))))))))))))))))))))) 16 (fun w => Blk bx #[.int .i64 x.points, .int .i64 x.bend, .slice ax x.claims.length cx] 24 w ∧ w.cell? ⟨gb, gof + j, none⟩ = some (.slice (some ⟨rb, ro, none⟩) (castN G[j]).length cw)) (fun _ => True) (by kernel_rfl) (by kernel_rfl) rfl (by kernel_rfl) ⟨hXk.qt ((Qt.refl _).drewN 1), hcellk⟩ (fun we hqe _ => ?_)
                  refine mix_load2 rfl rfl rfl (.agg #[.int .i64 x.points, .int .i64 x.bend, .slice ax x.claims.length cx]) (fun w' h => by have h : (fun w => Blk bx #[.int .i64 x.points, .int .i64 x.bend, .slice ax x.claims.length cx] 24 w ∧ w.cell? ⟨gb, gof + j, none⟩ = some (.slice (some ⟨rb, ro, none⟩) (castN G[j]).length cw)) w' := h; have h0 := h.1.cell 0; have h1 := h.1.cell 1; have h2 := h.1.cell 2; go_simp) rfl ?_
                  refine mix_pur2 rfl (fun K hK => ?_)
                  go_simp
                  first | refine ⟨_, fun _ => rfl, hK _ ?_⟩ | refine hK _ ?_
                  clear hK K
                  refine mix_pur2 rfl (fun K hK => ?_)
                  go_simp
                  first | refine ⟨_, fun _ => rfl, hK _ ?_⟩ | refine hK _ ?_
                  clear hK K
                  refine mix_pur2 rfl (fun K hK => ?_)
                  go_simp
                  first | refine ⟨_, fun _ => rfl, hK _ ?_⟩ | refine hK _ ?_
                  clear hK K
                  refine mix_load2 rfl rfl rfl (.slice (some ⟨rb, ro, none⟩) (castN G[j]).length cw) (fun w' h => by have h : (fun w => Blk bx #[.int .i64 x.points, .int .i64 x.bend, .slice ax x.claims.length cx] 24 w ∧ w.cell? ⟨gb, gof + j, none⟩ = some (.slice (some ⟨rb, ro, none⟩) (castN G[j]).length cw)) w' := h; have h0 := h.2; go_simp) rfl ?_
                  refine mix_pur2 rfl (fun K hK => ?_)
                  go_simp
                  first | refine ⟨_, fun _ => rfl, hK _ ?_⟩ | refine hK _ ?_
                  clear hK K
                  refine mix_pur2 rfl (fun K hK => ?_)
                  go_simp
                  first | refine ⟨_, fun _ => rfl, hK _ ?_⟩ | refine hK _ ?_
                  clear hK K
                  refine mix_pur2 rfl (fun K hK => ?_)
                  go_simp
                  first | refine ⟨_, fun _ => rfl, hK _ ?_⟩ | refine hK _ ?_
                  clear hK K
                  refine mix_pur2 rfl (fun K hK => ?_)
                  go_simp
                  first | refine ⟨_, fun _ => rfl, hK _ ?_⟩ | refine hK _ ?_
                  clear hK K
                  refine mix_pur2 rfl (fun K hK => ?_)
                  go_simp
                  first | refine ⟨_, fun _ => rfl, hK _ ?_⟩ | refine hK _ ?_
                  clear hK K
                  refine mix_load2 rfl rfl rfl (.slice (some ⟨rb, ro, none⟩) (castN G[j]).length cw) (fun w' h => by have h : (fun w => Blk bx #[.int .i64 x.points, .int .i64 x.bend, .slice ax x.claims.length cx] 24 w ∧ w.cell? ⟨gb, gof + j, none⟩ = some (.slice (some ⟨rb, ro, none⟩) (castN G[j]).length cw)) w' := h; have h0 := h.2; go_simp) rfl ?_
                  refine mix_pur2 rfl (fun K hK => ?_)
                  go_simp
                  first | refine ⟨_, fun _ => rfl, hK _ ?_⟩ | refine hK _ ?_
                  clear hK K
                  refine mix_pur2 rfl (fun K hK => ?_)
                  go_simp
                  first | refine ⟨_, fun _ => rfl, hK _ ?_⟩ | refine hK _ ?_
                  clear hK K
                  refine mix_pur2 rfl (fun K hK => ?_)
                  go_simp
                  first | refine ⟨_, fun _ => rfl, hK _ ?_⟩ | refine hK _ ?_
                  clear hK K
                  refine mix_eff2 rfl false rfl (fun K hK => ?_)
                  go_simp
                  refine (copyInts_own (hc1.qt hqe) (by rw [List.length_take]; omega)).mono ?_
                  rintro e w8 ⟨v8, rfl, hO8, hS8⟩
                  have hb8 := bnx (hqe.below _) hS8
                  have hc28 := hc2.call hb8
                  rw [show ((castN G[j]).take k).length = k by rw [List.length_take]; omega] at hO8
                  obtain ⟨a8, c8, rfl⟩ := own_slice hO8
                  refine hK _ _ ⟨hXk.call hb8, (cell_same (hb8.block gb hgbk)).trans hcellk⟩ ?_
                  clear hK K
                  refine mix_eff2 rfl false rfl (fun K hK => ?_)
                  refine step_append_arr rfl _ _ 27 rfl 3 (.int .i64 0) 1 8 Try.underlying27 Try.info3 rfl (by decide) (by decide) hS8.size hO8 rfl hc28 rfl (by rw [I64_len, Nat.mul_one]) (ints_one _) (by rw [List.length_drop]; omega) ?_
                  intro v9 w9 hown9 hT9
                  obtain ⟨n9, hn9⟩ : ∃ n9, n9 = k + ((castN G[j]).drop (k + 1)).length := ⟨_, rfl⟩
                  rw [← hn9] at hown9
                  clear hn9
                  have hI9 : Ints (fun q => we.heap.size ≤ q) w9 v9 ((castN G[j]).take k ++ (castN G[j]).drop (k + 1)) := Own.ints (n := n9) (by rw [I64_append]; exact hown9)
                  have hb9 := bnx (hqe.below _) (hT9.below hO8 hS8 hS8.size)
                  obtain ⟨a9, c9, rfl⟩ := own_slice hown9
                  refine hK _ _ ⟨hXk.call hb9, (cell_same (hb9.block gb hgbk)).trans hcellk⟩ ?_
                  clear hK K
                  refine mix_eff2 rfl true rfl (fun K hK => ?_)
                  go_simp
                  refine (part_c (hCk.call hb9) hI9 (by omega) false).mono ?_
                  rintro e w10 ⟨v10, rfl, hP10, hS10⟩
                  have hb10 := bnx hb9 hS10
                  refine hK _ _ trivial ?_
                  clear hK K
                  refine mix_eff2 rfl true rfl (fun K hK => ?_)
                  go_simp
                  refine (holds_c (x := partF x (keepS ((castN G[j]).take k ++ (castN G[j]).drop (k + 1)) false)) hP10 (partF_ok hx _)).mono ?_
                  rintro e w11 ⟨rfl, hS11⟩
                  rw [HCT.out]
                  have hB11 := bnx hb10 hS11
                  refine hK _ _ trivial ?_
                  clear hK K
                  refine mix_pur2 rfl (fun K hK => ?_)
                  go_simp
                  first | refine ⟨_, fun _ => rfl, hK _ ?_⟩ | refine hK _ ?_
                  clear hK K
                  refine mix_pur2 rfl (fun K hK => ?_)
                  go_simp
                  first | refine ⟨_, fun _ => rfl, hK _ ?_⟩ | refine hK _ ?_
                  clear hK K
                  refine mix_pur2 rfl (fun K hK => ?_)
                  go_simp
                  first | refine ⟨_, fun _ => rfl, hK _ ?_⟩ | refine hK _ ?_
                  clear hK K
                  refine mix_pur2 rfl (fun K hK => ?_)
                  go_simp
                  first | refine ⟨_, fun _ => rfl, hK _ ?_⟩ | refine hK _ ?_
                  clear hK K
                  refine mix_pur2 rfl (fun K hK => ?_)
                  go_simp
                  first | refine ⟨_, fun _ => rfl, hK _ ?_⟩ | refine hK _ ?_
                  clear hK K
                  refine mix_done2 ?_
                  go_wp2_with fail
                  go_roundw
                  case rel => exact ⟨k + 1, by omega, by go_num, bnx hBk hB11⟩
                  case measure => simp [intOf]; omega
              · obtain rfl : m = k := by omega
                have hsm := sameInts_q (hL4.call hB4k) hrk
                rw [beq_self_eq_true] at hsm
                have HSM := Lib.hid hsm
                clear hsm
                go_wp2_with fail
                refine HSM.out.mono ?_
                rintro e w8 ⟨rfl, hq8⟩
                go_wp2_with fail
                refine (surveyed_c _).mono ?_
                rintro e w9 ⟨rfl, hS9⟩
                go_wp2_with fail
                go_ret
                exact ⟨rfl, bnx (bnx (bnx hBw4 hB4k) (hq8.below _)) hS9⟩
        · obtain rfl : j = G.length := by omega
          go_wp2_with fail
          go_roundw
          case rel =>
            refine ⟨m + 1, by omega, by go_num, Lib.hid fun m' hm' y hy => ?_, hB5j⟩
            by_cases e : m' = m
            · subst e
              exact HJ.out y (by rw [List.take_length, HGG.out]; exact hy)
            · exact HM.out m' (by omega) y hy
          case measure => simp [intOf]; omega
    · have hnone := few_none (n := x.claims.length) (test := claT x) fun m' hm' y hy => HM.out m' (by omega) y hy
      have hcn : clashF x = none := hnone
      have hce := HE.out
      rw [show clashX x = ([], 11) by unfold clashX; rw [if_neg (not_not_intro (checkX_zero.2 hx)), hcn]] at hce
      injection hce with hce1 hce2
      subst hce1
      subst hce2
      have hlk : (castN ([] : List Nat)).length = 0 := rfl
      have hgt : decide ((m : Int) ≤ (x.claims.length : Int)) = false := decide_eq_false (by omega)
      clear hnone hcn
      go_wp2_with fail
      refine (surveyed_c _).mono ?_
      rintro e w9 ⟨rfl, hS9⟩
      go_wp2_with fail
      go_ret
      exact ⟨rfl, bnx (bnx hBw4 hB) hS9⟩

end Go.Proofs.Ytgdifckmjdjcpaa
