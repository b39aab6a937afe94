/- Contracts of the reference's Groups, has, Part (edge); conditions: as said. -/
import Derived.Test.YtgdifckmjdjcpaaPick
import Derived.Test.YtgdifckmjdjcpaaPrt
namespace Go.Proofs.Ytgdifckmjdjcpaa
open Go.RowKit

set_option maxRecDepth 100000 in
set_option maxHeartbeats 2000000 in
theorem groups_c {n : Nat} (hn : n ≤ 7) : ∀ (m : Nat), m ≤ 7 → ∀ f : Nat, f ≤ 8 → ∀ w : World,
    Calls Try.prog 97 #[.int .i64 f, .int .i64 n, .int .i64 m] w fun e w' => ∃ v', e = .returned v' ∧ Grid (fun b => w.heap.size ≤ b) w' v' (picksL n m f) ∧ Below w.heap.size w w'
  | 0, _, f, _, w => by
    go_enter Try.func97, Try.ntmps97
    go_wp2
    go_ret
    refine ⟨_, rfl, ⟨[.slice none 0 0], rfl, arr_one w 27 _, fun i a b => ?_⟩, (Below.refl _ w).alloc (Nat.le_refl _) _⟩
    have : i = 0 := by simpa using a
    subst this
    exact ints_nil _ _
  | m + 1, hm, f, hf, w => by
    have ih := groups_c hn m (by omega)
    have hPl := picksL_len hn m (by omega)
    have hTl := picksTo_len hn m (by omega) f
    have hTs := picksTo_succ n m f
    have hR : picksL n (m + 1) f = picksTo n m f (n - f) := rfl
    rw [hR]
    have hT0 : picksTo n m f 0 = [] := rfl
    generalize picksTo n m f = T at hTl hTs hT0 ⊢
    clear hR
    obtain ⟨M, hM⟩ : ∃ M, M = ((m + 1 : Nat) : Int) := ⟨_, rfl⟩
    rw [← hM]
    have b1 : (M == 0) = false := by simp; omega
    have b0 : ¬ M = 0 := by omega
    have e1 : M - 1 = (m : Int) := by omega
    have m1 : 1 ≤ M := by omega
    have m2 : M ≤ 7 := by omega
    clear hM
    have IH := Lib.hid ih
    have HPL := Lib.hid hPl
    have HTL := Lib.hid hTl
    have HTS := Lib.hid hTs
    have HT0 := Lib.hid hT0
    clear ih hPl hTl hTs hT0
    go_enter Try.func97, Try.ntmps97
    go_wp2_with fail
    go_loopw [7, 8] (fun s5 i wr => ∃ d : Nat, (d ≤ n - f) ∧ i = .int .i64 ((f + d : Nat) : Int) ∧ GO (fun b => w.heap.size ≤ b) w.heap.size wr s5 (T d) ∧ Below w.heap.size w wr) (fun _ i _ => n - (intOf i).toNat)
    case atStart => exact ⟨0, Nat.zero_le _, rfl, by rw [HT0.out]; exact GO.nil _ _ _, Below.refl _ _⟩
    case round =>
      obtain ⟨d, hd, rfl, hGo, hB⟩ := hrel
      have hsr := hB.size
      by_cases hlt : f + d < n
      · have b2 : decide (((f + d : Nat) : Int) < (n : Int)) = true := decide_eq_true (by omega)
        obtain ⟨q, hq⟩ : ∃ q, q = f + d := ⟨_, rfl⟩
        rw [← hq] at b2 ⊢
        have hqn : q < n := by omega
        have hc := IH.out (q + 1) (by omega) wr
        rw [show ((q + 1 : Nat) : Int) = (q : Int) + 1 from by simp] at hc
        obtain ⟨hRl, hRa⟩ := HPL.out (q + 1) (by omega)
        have hts := HTS.out d
        rw [← hq] at hts
        have htl := HTL.out (by omega) d (by omega)
        generalize picksL n m (q + 1) = R at hc hRl hRa hts
        obtain ⟨out, hout⟩ : ∃ out, out = T d := ⟨_, rfl⟩
        rw [← hout] at hGo hts htl
        have HC := Lib.hid hc
        have HRA := Lib.hid hRa
        have HTQ := Lib.hid hts
        have HQ := Lib.hid hq
        clear hc hRa hts hq hout
        go_wp2_with fail
        refine HC.out.mono ?_
        rintro e w1 ⟨vr, rfl, hG, hB1⟩
        obtain ⟨ar, cr, rfl, _, _⟩ := hG.shape
        have hs1 := hB1.size
        have hGo1 := hGo.call hB1
        have hlt1 : ∀ k, u7.ownBlock = some k → k < wr.heap.size := fun k hk => hGo.lt k hk
        have hG1 : Grid (fun k => k < w1.heap.size ∧ u7.ownBlock ≠ some k) w1 (.slice ar R.length cr) R := hG.wide fun k hk hl => ⟨hl, fun e => by have := hlt1 k e; omega⟩
        have hBw := hB.trans (hB1.mono hsr)
        clear HC
        go_wp2_with fail
        go_loopw [7, 10] (fun s5 i2 wx => ∃ (k : Nat) (o2 : List (List Int)), k ≤ R.length ∧ i2 = .int .i64 k ∧ o2 = out ++ (R.take k).map (fun t => (q : Int) :: t) ∧ GO (fun b => w.heap.size ≤ b) w.heap.size wx s5 o2 ∧ Grid (fun k => k < w1.heap.size ∧ s5.ownBlock ≠ some k) wx (.slice ar R.length cr) R ∧ Below w.heap.size w wx ∧ w1.heap.size ≤ wx.heap.size) (fun _ i2 _ => R.length - (intOf i2).toNat)
        case atStart => exact ⟨0, out, Nat.zero_le _, rfl, by simp, hGo1, hG1, hBw, Nat.le_refl _⟩
        case round =>
          rename World => wx
          obtain ⟨k, o2, hk, rfl, ho2, hGx, hGr, hBx, hsx1⟩ := hrel
          have ho2l : o2.length ≤ 400 := by rw [ho2]; simp; omega
          have HO2 := Lib.hid ho2
          clear ho2
          by_cases hkl : k < R.length
          · obtain ⟨br, or, rfl, -, hbr⟩ := hGr.addr (by omega)
            obtain ⟨aw, cw, g1, hrow⟩ := hGr.row k hkl
            have hll := HRA.out (R[k]) (List.getElem_mem hkl)
            have hsx := hBx.size
            have hBa := (Below.refl wx.heap.size wx).alloc (Nat.le_refl _) (.cells #[.int .i64 q] 3)
            have hL := own_lit wx 3 1 #[.int .i64 q] 1 rfl (by omega)
            have g2 := hrow.call hBa
            obtain ⟨l, hle⟩ : ∃ l, l = R[k] := ⟨_, rfl⟩
            rw [← hle] at g1 g2 hrow hll
            have HLE := Lib.hid hle
            clear hle
            have hl3 : l.length ≤ 7 := by omega
            clear hll
            have hbl : 1 + l.length ≤ 1000 := by omega
            have hbr2 : br < wx.heap.size := by omega
            have g1 := (World.cell?_of_block (Below.heap_alloc wx (.cells #[.int .i64 q] 3) br hbr2)).trans g1
            go_wp2_with (at_builtin; first | (refine wpList_append_arr rfl _ _ 27 rfl 3 (.int .i64 0) 1 8 Try.underlying27 Try.info3 rfl (by decide) (by decide) (by simp) hL rfl g2 rfl (by rw [I64_len, Nat.mul_one]) (ints_one l) (by omega) ?_; intro v1 w2 hown hT1; have hB2 : Below wx.heap.size wx w2 := hT1.below hL hBa (by simp); have hs2 := hB2.size; have hown : Own wx.heap.size w2 3 1 v1 (1 + l.length) (I64 ((q : Int) :: l)) := hown; have hrw : Ints (fun k => wx.heap.size ≤ k) w2 v1 ((q : Int) :: l) := Own.ints hown; obtain ⟨a1, k1, rfl⟩ := own_slice hown; obtain ⟨vs, hv1, ho, hrows⟩ := hGx.call hB2; have hvl : ∀ q, u7.ownBlock = some q → q < wx.heap.size := fun q hq => (GO.lt hGx q hq); have hrr := hrw.wide (A' := fun q => w.heap.size ≤ q ∧ u7.ownBlock ≠ some q) fun q hq _ => ⟨by omega, fun e => by have := hvl q e; omega⟩; have hGr2 := hGr.call hB2; obtain ⟨ax, cx, rfl⟩ := own_slice ho; have hoa := ho.alloc (.cells #[.slice a1 (1 + l.length) k1] 27); have ha := arr_one w2 27 (.slice a1 (1 + l.length) k1); clear hown hrw hL g2 hrow hT1) | (refine wpList_append_arr rfl _ _ 61 rfl 27 (.slice none 0 0) 1 24 Try.under61 Try.info27 rfl (by decide) (by decide) (by simp; omega) hoa rfl ha rfl rfl (one_slice _ _ _) (by omega) ?_; intro v2 w3 hown2 hT2))
            have hGn := gput hv1 hrows hrr hown2 hT2
            have hB3 : Below w.heap.size w w3 := hT2.below hoa ((hBx.trans (hB2.mono hsx)).alloc (by have := hB2.size; omega) _) (by have := hB2.size; simp; omega)
            have hGr3 := hGr2.turn (by omega) hT2
            have hs3 := hT2.size
            have hs4 : (w2.alloc (.cells #[.slice a1 (1 + l.length) k1] 27)).heap.size = w2.heap.size + 1 := by simp
            go_roundw
            case rel =>
              refine ⟨k + 1, _, by omega, by go_num, ?_, hGn, hGr3, hB3, by omega⟩
              rw [HO2.out, HLE.out, List.take_succ_eq_append_getElem hkl, List.map_append, List.append_assoc]
              rfl
            case measure => simp [intOf]; omega
          · obtain rfl : k = R.length := by omega
            go_wp2
            go_roundw
            case rel =>
              refine ⟨d + 1, by omega, ?_, ?_, hBx⟩
              · have := HQ.out
                go_num
              · rw [HTQ.out, ← List.take_length (l := R), ← HO2.out]
                simpa using hGx
            case measure => have := HQ.out; simp [intOf]; omega
      · have hdn : d = n - f := by omega
        subst hdn
        have b2 : decide (((f + (n - f) : Nat) : Int) < (n : Int)) = false := decide_eq_false (by omega)
        go_wp2
        go_ret
        exact ⟨_, rfl, hGo.grid (fun k hk => hk) (fun k hk => hk), hB⟩


theorem rhas_c {A : Nat → Prop} {w : World} {v : Value} {S : List Int} (h : Ints A w v S) (n : Int) :
    Calls Try.prog 118 #[v, .int .i64 n] w fun e w' => e = .returned (.bool (decide (n ∈ S))) ∧ Qt w w' := by
  obtain ⟨a1, c1, rfl, hc1, hm1⟩ := h.shape
  have n1 := h.len
  go_enter Try.func118, Try.ntmps118
  go_wp2_with fail
  go_loopw [5] (fun vi wr => ∃ j : Nat, j ≤ S.length ∧ vi = .int .i64 j ∧ Hid (∀ u ∈ S.take j, u ≠ n) ∧ Qt w wr) (fun vi _ => S.length - (intOf vi).toNat)
  case atStart => exact ⟨0, Nat.zero_le _, rfl, Lib.hid (by simp), Qt.refl _⟩
  case round =>
    obtain ⟨j, hj, rfl, HP, hQ⟩ := hrel
    by_cases hlt : j < S.length
    · have hr := h.qt hQ
      obtain ⟨g, o, rfl, -, -, -⟩ := hr.addr (by omega)
      have hc := hr.cell j hlt
      have hsn := List.take_succ_eq_append_getElem hlt
      have hmem := List.getElem_mem hlt
      obtain ⟨u, hu⟩ : ∃ u, u = S[j] := ⟨_, rfl⟩
      rw [← hu] at hc hsn hmem
      have HSN := Lib.hid hsn
      have HM := Lib.hid hmem
      clear hsn hmem hu
      by_cases he : u = n
      · have hq : (u == n) = true := by rw [beq_iff_eq]; exact he
        have HE := Lib.hid he
        clear he
        go_wp2_with fail
        go_ret
        exact ⟨ret_bool (by symm; rw [decide_eq_true_eq, ← HE.out]; exact HM.out), hQ⟩
      · have hq : (u == n) = false := by rw [beq_eq_false_iff_ne]; exact he
        have HE := Lib.hid he
        clear he
        go_wp2_with fail
        go_roundw
        case rel =>
          refine ⟨j + 1, by omega, by go_num, Lib.hid fun z hz => ?_, hQ⟩
          rw [HSN.out, List.mem_append, List.mem_singleton] at hz
          rcases hz with hz | hz
          · exact HP.out z hz
          · rw [hz]; exact HE.out
        case measure => simp [intOf]; omega
    · obtain rfl : j = S.length := by omega
      go_wp2_with fail
      go_ret
      refine ⟨ret_bool ?_, hQ⟩
      symm
      rw [decide_eq_false_iff_not]
      intro hm
      exact HP.out n (by rw [List.take_length]; exact hm) rfl
/-- What the region that takes a claim reads. -/
def RpS (b0 : Nat) (P B : Int) (vl vx : Value) (A : Nat → Prop) (l : List Cl) (w : World) : Prop := Blk b0 #[.int .i64 P, .int .i64 B, vl] 24 w ∧ ClsM A w vx l

set_option maxRecDepth 100000 in
set_option maxHeartbeats 2000000 in
theorem rpart_c {A A' : Nat → Prop} {w : World} {x : Edg} {v vs : Value} {S : List Int} (h : ClsM A w v x.claims) (hS : Ints A' w vs S) (hm : x.claims.length ≤ 100) (but : Bool) :
    Calls Try.prog 98 #[.agg #[.int .i64 x.points, .int .i64 x.bend, v], vs, .bool but] w fun e w' => ∃ v', e = .returned (.agg #[.int .i64 x.points, .int .i64 x.bend, v']) ∧ ClsM (fun k => w.heap.size ≤ k) w' v' (partF x (keepS S but)).claims ∧ Below w.heap.size w w' := by
  obtain ⟨a1, c1, rfl, hc1, hm1⟩ := h.shape
  obtain ⟨aS, cS, rfl, _, _⟩ := hS.shape
  have n1 := h.len
  obtain ⟨w1, hw1⟩ : ∃ w1, w1 = (w.alloc (.cells #[.int .i64 x.points, .int .i64 x.bend, .slice a1 x.claims.length c1] 24)).alloc (.cells #[.int .i64 0, .int .i64 0, .slice none 0 0] 24) := ⟨_, rfl⟩
  obtain ⟨b0, hb0⟩ : ∃ b, b = w.heap.size := ⟨_, rfl⟩
  have hX1 : Blk b0 #[.int .i64 x.points, .int .i64 x.bend, .slice a1 x.claims.length c1] 24 w1 := by rw [hw1, hb0]; exact (Blk.new w _ _).alloc _
  have hR1 : Blk (b0 + 1) #[.int .i64 0, .int .i64 0, .slice none 0 0] 24 w1 := by rw [hw1, hb0]; exact blk_at (by simp) _ _
  have hB1 : Below w.heap.size w w1 := by rw [hw1]; exact bal2 ((Below.refl _ w).alloc (Nat.le_refl _) _)
  have hz1' : b0 + 2 ≤ w1.heap.size := by rw [hw1, hb0]; simp
  go_enter Try.func98, Try.ntmps98
  go_upto_region 1 with fail
  rw [← hw1, ← hb0]
  have hbw : w.heap.size ≤ b0 := Nat.le_of_eq hb0.symm
  have hbw2 : b0 ≤ w.heap.size := Nat.le_of_eq hb0
  clear hw1 hb0
  have c2 := hX1.cell 2
  have f2 := hX1.free 2
  go_upto_region 3 with fail
  have hE3 : Blk b0 #[.int .i64 x.points, .int .i64 x.bend, .slice none 0 0] 24 (w1.setCell ⟨b0, 2, none⟩ (.slice none 0 0)) := by simpa using hX1.set 2 (.slice none 0 0)
  have hR3 := hR1.other (a := ⟨b0, 2, none⟩) (by show b0 + 1 ≠ b0; omega) (.slice none 0 0)
  have hB3 := hB1.setCell (p := ⟨b0, 2, none⟩) hbw (.slice none 0 0)
  clear c2 f2 hX1 hR1 hB1
  have hz3 : b0 + 2 ≤ (w1.setCell ⟨b0, 2, none⟩ (.slice none 0 0)).heap.size := by simpa [World.setCell] using hz1'
  generalize w1.setCell ⟨b0, 2, none⟩ (.slice none 0 0) = w3 at hR3 hE3 hB3 hz3 ⊢
  have hC3 : ClsM (fun k => k < w.heap.size) w3 (.slice a1 x.claims.length c1) x.claims := (h.wide fun k _ hk => hk).below hB3 fun k hk _ => hk
  have hS3 : Ints (fun k => k < w.heap.size) w3 (.slice aS S.length cS) S := (hS.wide fun k _ hk => hk).below hB3 fun k hk _ => hk
  go_wp2_with fail
  go_loopw [8] (fun i wr => ∃ (k : Nat) (vl : Value), k ≤ x.claims.length ∧ i = .int .i64 k ∧ EM (b0 + 2) b0 x.points x.bend (keepL (keepS S but) (x.claims.take k) 0) vl wr ∧ Blk (b0 + 1) #[.int .i64 0, .int .i64 0, .slice none 0 0] 24 wr ∧ Below w.heap.size w3 wr ∧ b0 + 2 ≤ wr.heap.size) (fun i _ => x.claims.length - (intOf i).toNat)
  case atStart => exact ⟨0, _, Nat.zero_le _, rfl, ⟨hE3, Own.nil, by omega⟩, hR3, Below.refl _ _, hz3⟩
  case round =>
    obtain ⟨k, vl, hk, rfl, hE, hRr, hB, hzr⟩ := hrel
    clear hR3 hE3
    have hCr : ClsM (fun k => k < w.heap.size) wr (.slice a1 x.claims.length c1) x.claims := hC3.below hB fun k hk _ => hk
    have hSr : Ints (fun k => k < w.heap.size) wr (.slice aS S.length cS) S := hS3.below hB fun k hk _ => hk
    have hbl := hE.blk.lt
    by_cases hlt : k < x.claims.length
    · have HT := Lib.hid (keepL_take (keep := keepS S but) hlt)
      have hhs := rhas_c hSr (k : Int)
      have HHS := Lib.hid hhs
      have hkl := keepL_len (keep := keepS S but) (x.claims.take k) 0
      rw [List.length_take] at hkl
      obtain ⟨av, cv, rfl⟩ := own_slice hE.own
      obtain ⟨L, hL⟩ : ∃ L, L = keepL (keepS S but) (x.claims.take k) 0 := ⟨_, rfl⟩
      rw [← hL] at hE hkl
      have HL := Lib.hid hL
      clear hL hhs
      have hks : keepS S but k = (decide ((k : Int) ∈ S) != but) := rfl
      obtain ⟨m, hmm⟩ : ∃ m, m = decide ((k : Int) ∈ S) := ⟨_, rfl⟩
      rw [← hmm] at hks HHS
      have HKS := Lib.hid hks
      clear hks hmm
      go_wp2_with fail
      refine HHS.out.mono ?_
      rintro e w5 ⟨rfl, hq5⟩
      have hE5 := hE.blk.qt hq5
      have hO5 := hE.own.qt hq5
      have hC5 := hCr.qt hq5
      have hR5 := hRr.qt hq5
      have hB5 := hB.trans (hq5.below _)
      have hz5 : b0 + 2 ≤ w5.heap.size := by rw [hq5.size]; exact hzr
      have hwz : w.heap.size ≤ w5.heap.size := by omega
      cases hkb : (m == but) with
      | true =>
        have HKB := Lib.hid (show keepS S but k = false by rw [HKS.out]; unfold bne; rw [hkb]; rfl)
        go_wp2_with fail
        go_roundw
        case rel => exact ⟨k + 1, _, by omega, by go_num, ⟨hE5, by rw [HT.out, HKB.out]; simpa [HL.out] using hO5, hE.low⟩, hR5, hB5, hz5⟩
        case measure => simp [intOf]; omega
      | false =>
        have HKB := Lib.hid (show keepS S but k = true by rw [HKS.out]; unfold bne; rw [hkb]; rfl)
        obtain ⟨gc, o, rfl, -, -⟩ := cls_addr hC5 (by omega)
        go_wp2_with fail
        refine wp_region_mix2 (.pur 0 (.one 1 (.pur 2 (.pur 3 (.pur 4 (.one 5 (.act 6 (.act 7 (.pur 8 (.act 9 .fin)))))))))) 7 (RpS b0 x.points x.bend (.slice av L.length cv) (.slice (some ⟨gc, o, none⟩) x.claims.length c1) (fun q => q < w.heap.size) x.claims) (fun _ => True) (by kernel_rfl) (by kernel_rfl) rfl (by kernel_rfl) ⟨hE5.qt ((Qt.refl _).drewN 1), hC5.qt ((Qt.refl _).drewN 1)⟩ (fun wd hqd _ => ?_)
        have hSd : (RpS b0 x.points x.bend (.slice av L.length cv) (.slice (some ⟨gc, o, none⟩) x.claims.length c1) (fun q => q < w.heap.size) x.claims) wd := ⟨hE5.qt hqd, hC5.qt hqd⟩
        have hOd := hO5.qt hqd
        have hRd := hR5.qt hqd
        have hBd := hB5.trans (hqd.below _)
        refine mix_pur2 rfl (fun K hK => ?_)
        go_simp
        first | refine ⟨_, fun _ => rfl, hK _ ?_⟩ | refine hK _ ?_
        clear hK K
        refine mix_load2 rfl rfl rfl (.slice av L.length cv) (fun w' h => by have h : (RpS b0 x.points x.bend (.slice av L.length cv) (.slice (some ⟨gc, o, none⟩) x.claims.length c1) (fun q => q < w.heap.size) x.claims) w' := h; have h0 := h.1.cell 2; go_simp) rfl ?_
        refine mix_pur2 rfl (fun K hK => ?_)
        go_simp
        first | refine ⟨_, fun _ => rfl, hK _ ?_⟩ | refine hK _ ?_
        clear hK K
        refine mix_pur2 rfl (fun K hK => ?_)
        go_simp
        first | refine ⟨_, fun _ => rfl, hK _ ?_⟩ | refine hK _ ?_
        clear hK K
        refine mix_pur2 rfl (fun K hK => ?_)
        go_simp
        first | refine ⟨_, fun _ => rfl, hK _ ?_⟩ | refine hK _ ?_
        clear hK K
        refine mix_load2 rfl rfl rfl (.agg #[.int .i64 x.claims[k].kind, .int .i64 x.claims[k].point, .int .i64 x.claims[k].other, .int .i64 x.claims[k].off, .int .i64 x.claims[k].err]) (fun w' h => by have h : (RpS b0 x.points x.bend (.slice av L.length cv) (.slice (some ⟨gc, o, none⟩) x.claims.length c1) (fun q => q < w.heap.size) x.claims) w' := h; obtain ⟨d0, d1, d2, d3, d4⟩ := cls_at h.2 k hlt; go_simp) rfl ?_
        refine mix_eff2 rfl false rfl (fun K hK => ?_)
        go_simp
        refine hK _ _ ⟨hSd.1.alloc _, hSd.2.call ((Below.refl _ _).alloc (Nat.le_refl _) _)⟩ ?_
        clear hK K
        refine mix_eff2 rfl true rfl (fun K hK => ?_)
        have hblt := hSd.1.lt
        have hrlt := hRd.lt
        refine step_append_arr rfl _ _ 22 rfl 26 _ 5 40 Try.underlying22 Try.info26 rfl (by decide) (by decide) (by simp; omega) (hOd.alloc _) rfl (Own.arr (own_lit wd 26 5 #[.int .i64 x.claims[k].kind, .int .i64 x.claims[k].point, .int .i64 x.claims[k].other, .int .i64 x.claims[k].off, .int .i64 x.claims[k].err] 1 rfl (by omega))) rfl rfl (ccells_one _) (by omega) ?_
        intro v' w4 hown hT
        obtain ⟨a4, c4, rfl⟩ := own_slice hown
        have howl := fun q e => (World.ownsRow.lt (hOd.alloc (.cells #[.int .i64 x.claims[k].kind, .int .i64 x.claims[k].point, .int .i64 x.claims[k].other, .int .i64 x.claims[k].off, .int .i64 x.claims[k].err] 26)) q e).1
        have hb4 := (hSd.1.alloc (.cells #[.int .i64 x.claims[k].kind, .int .i64 x.claims[k].point, .int .i64 x.claims[k].other, .int .i64 x.claims[k].off, .int .i64 x.claims[k].err] 26)).keep (hT.block _ (by simp; omega) (fun e => by have := howl _ e; omega))
        have hr4 := (hRd.alloc (.cells #[.int .i64 x.claims[k].kind, .int .i64 x.claims[k].point, .int .i64 x.claims[k].other, .int .i64 x.claims[k].off, .int .i64 x.claims[k].err] 26)).keep (hT.block _ (by simp; omega) (fun e => by have := howl _ e; omega))
        have hB4 := hT.below2 (B' := w.heap.size) (hOd.alloc (.cells #[.int .i64 x.claims[k].kind, .int .i64 x.claims[k].point, .int .i64 x.claims[k].other, .int .i64 x.claims[k].off, .int .i64 x.claims[k].err] 26)) (hBd.alloc (by omega) _) (by simp; omega) (by omega)
        have e4 := hb4.cell 2
        have f4 := hb4.free 2
        refine hK _ _ trivial ?_
        clear hK K
        refine mix_pur2 rfl (fun K hK => ?_)
        go_simp
        first | refine ⟨_, fun _ => rfl, hK _ ?_⟩ | refine hK _ ?_
        clear hK K
        refine mix_eff2 rfl true rfl (fun K hK => ?_)
        go_simp
        refine hK _ _ trivial ?_
        clear hK K
        refine mix_done2 ?_
        have hE6 : EM (b0 + 2) b0 x.points x.bend (L ++ [x.claims[k]]) (.slice a4 (L.length + 1) c4) (w4.setCell ⟨b0, 2, none⟩ (.slice a4 (L.length + 1) c4)) :=
          ⟨hb4.set 2 _, (show Own (b0 + 2) w4 26 5 (.slice a4 (L.length + 1) c4) (L ++ [x.claims[k]]).length ((L ++ [x.claims[k]]).flatMap ccells) by rw [List.length_append, List.length_singleton, cls_snoc]; exact hown).step fun q hq _ _ => Below.heap_setCell _ _ _ _ (show q ≠ b0 by omega), by omega⟩
        have hR6 := hr4.other (a := ⟨b0, 2, none⟩) (by show b0 + 1 ≠ b0; omega) (.slice a4 (L.length + 1) c4)
        have hB6 := hB4.setCell (p := ⟨b0, 2, none⟩) hbw (.slice a4 (L.length + 1) c4)
        have hz6 : b0 + 2 ≤ (w4.setCell ⟨b0, 2, none⟩ (.slice a4 (L.length + 1) c4)).heap.size := by have := hR6.lt; omega
        clear hb4 hr4 hB4 hown hT e4 f4
        generalize w4.setCell ⟨b0, 2, none⟩ (.slice a4 (L.length + 1) c4) = w6 at hE6 hR6 hB6 hz6 ⊢
        go_wp2_with fail
        go_roundw
        case rel => exact ⟨k + 1, _, by omega, by go_num, by rw [HT.out, HKB.out, if_pos rfl, ← HL.out]; exact hE6, hR6, hB6, hz6⟩
        case measure => simp [intOf]; omega
    · obtain rfl : k = x.claims.length := by omega
      rw [List.take_length] at hE
      obtain ⟨L, hL⟩ : ∃ L, L = keepL (keepS S but) x.claims 0 := ⟨_, rfl⟩
      rw [← hL] at hE
      have HL := Lib.hid hL
      clear hL
      obtain ⟨av, cv, rfl⟩ := own_slice hE.own
      have c0 := hE.blk.cell 0
      have c1' := hE.blk.cell 1
      have c2 := hE.blk.cell 2
      have d0 := hRr.cell 0
      have d1 := hRr.cell 1
      have d2 := hRr.cell 2
      have f0 := hRr.free 0
      have f1 := hRr.free 1
      have f2 := hRr.free 2
      go_wp2_with fail
      have hR4 := hRr.set3 (x' := .int .i64 x.points) (y' := .int .i64 x.bend) (z' := .slice av L.length cv)
      have hBw : Below w.heap.size w wr := hB3.trans hB
      have hB4 := ((hBw.setCell (p := ⟨b0 + 1, 0, none⟩) (by show w.heap.size ≤ b0 + 1; omega) (.int .i64 x.points)).setCell (p := ⟨b0 + 1, 1, none⟩) (by show w.heap.size ≤ b0 + 1; omega) (.int .i64 x.bend)).setCell (p := ⟨b0 + 1, 2, none⟩) (by show w.heap.size ≤ b0 + 1; omega) (.slice av L.length cv)
      have hO4 : ClsM (fun q => b0 + 2 ≤ q) (((wr.setCell ⟨b0 + 1, 0, none⟩ (.int .i64 x.points)).setCell ⟨b0 + 1, 1, none⟩ (.int .i64 x.bend)).setCell ⟨b0 + 1, 2, none⟩ (.slice av L.length cv)) (.slice av L.length cv) L :=
        hE.own.cls.step (by simp [World.setCell]) fun q hq _ => (Below.heap_setCell _ _ _ _ (show q ≠ b0 + 1 by omega)).trans ((Below.heap_setCell _ _ _ _ (show q ≠ b0 + 1 by omega)).trans (Below.heap_setCell _ _ _ _ (show q ≠ b0 + 1 by omega)))
      generalize ((wr.setCell ⟨b0 + 1, 0, none⟩ (.int .i64 x.points)).setCell ⟨b0 + 1, 1, none⟩ (.int .i64 x.bend)).setCell ⟨b0 + 1, 2, none⟩ (.slice av L.length cv) = wf at hR4 hB4 hO4 ⊢
      have x0 := hR4.cell 0
      have x1 := hR4.cell 1
      have x2 := hR4.cell 2
      exact bodyPost_ret (v := .agg #[.int .i64 x.points, .int .i64 x.bend, .slice av L.length cv]) (by simp [results, Try.results98, go_sem, x0, x1, x2]) rfl ⟨_, rfl, by show ClsM _ _ _ (keepL _ _ _); rw [← HL.out]; exact hO4.wide fun q hq _ => by omega, hB4⟩

end Go.Proofs.Ytgdifckmjdjcpaa
