/- The walk of LotsCalm: it hands back true, whatever the numbers; conditions: the argument reads as numbers. -/
import Derived.Test.YthchpoabncdicaaLst2
import Derived.Test.YthchpoabncdicaaO1
import Derived.Test.YthchpoabncdicaaOrd
import Derived.Test.YthchpoabncdicaaLNext
namespace Go.Proofs.Ythchpoabncdicaa
open Go.RowKit

set_option maxRecDepth 100000 in
theorem total_c {A : Nat → Prop} {w : World} {v : Value} {l : List Int} (h : Ints A w v l) (hl : l.length ≤ 1000) (hb : ∀ x ∈ l, 0 ≤ x ∧ x ≤ 1000) :
    Calls Try.prog 55 #[v] w fun e w' => e = .returned (.int .i64 (sumL l)) ∧ w' = w := by
  obtain ⟨av, cv, rfl, _, _⟩ := h.shape
  have hbd := sumL_le l 1000 hb
  have HBD := Lib.hid hbd
  clear hbd hb
  go_enter Try.func55, Try.ntmps55
  go_wp2_with fail
  go_loop [3, 4] (fun s i => ∃ k : Nat, k ≤ l.length ∧ i = .int .i64 k ∧ s = .int .i64 (sumL (l.take k))) (fun _ i => l.length - (intOf i).toNat)
  case atStart => exact ⟨0, Nat.zero_le _, rfl, rfl⟩
  case round =>
    obtain ⟨k, hk, rfl, rfl⟩ := hrel
    by_cases hlt : k < l.length
    · obtain ⟨bd, od, rfl, -, -, hc⟩ := h.addr (by omega)
      have g := hc k hlt
      have h1 := HBD.out k (by omega)
      have h2 := HBD.out (k + 1) (by omega)
      have h3 : sumL (l.take (k + 1)) = sumL (l.take k) + l[k] := by rw [List.take_succ_eq_append_getElem hlt, sumL_snoc]
      obtain ⟨x, hx⟩ : ∃ x, x = l[k] := ⟨_, rfl⟩
      rw [← hx] at g h3
      have H3 := Lib.hid h3
      have b1 : 0 ≤ sumL (l.take k) ∧ sumL (l.take k) ≤ 1000000 := by omega
      have b2 : 0 ≤ sumL (l.take k) + x ∧ sumL (l.take k) + x ≤ 1001000 := by omega
      obtain ⟨b1, b1'⟩ := b1
      obtain ⟨b2, b2'⟩ := b2
      clear h1 h2 h3 hx hc
      go_wp2
      go_round
      case rel => exact ⟨k + 1, by omega, by go_num, by rw [H3.out]⟩
      case measure => simp [intOf]; omega
    · obtain rfl : k = l.length := by omega
      go_wp2
      go_ret
      exact ⟨by first | rfl | (rw [List.take_length]; rfl), by first | rfl | trivial⟩

theorem envyD_c {A A' : Nat → Prop} {w : World} {vm vv vd : Value} {c : Com} {l : List Int} (h : Cm A w vm vv c) (hok : c.Ok 4) (hd : Ints A' w vd l) (hp : PermOf c.villages.length l) :
    Calls Try.prog 72 #[.agg #[vm, vv], vd] w fun e w' => ∃ v', e = .returned (.tuple #[v', .int .i64 0]) ∧ Ints (fun b => w.heap.size ≤ b) w' v' (envyL c.villages l) ∧ Below w.heap.size w w' := by
  have he : divE c l = 0 := divE_zero hok (by rw [← hok.vl]; exact hp)
  have := envyR_c h hd
  rw [envyR, if_pos he, he] at this
  exact this
theorem overD_c {A A' : Nat → Prop} {w : World} {vm vv vd : Value} {c : Com} {l : List Int} (h : Cm A w vm vv c) (hok : c.Ok 4) (hd : Ints A' w vd l) (hp : PermOf c.villages.length l) :
    Calls Try.prog 53 #[.agg #[vm, vv], vd] w fun e w' => ∃ v', e = .returned (.tuple #[v', .int .i64 0]) ∧ Ints (fun b => w.heap.size ≤ b) w' v' (overL c l) ∧ Below w.heap.size w w' := by
  have he : divE c l = 0 := divE_zero hok (by rw [← hok.vl]; exact hp)
  have := overR_c h hd
  rw [overR, if_pos he, he] at this
  exact this
set_option maxRecDepth 100000 in
theorem ordersL_divs : ∀ n < 5, ordersL n = divs n := by decide +kernel

/-- What a round reads, and what a round of a round reads. -/
def CalS (b : Nat) (cs : Array Value) (b1 o1 : Nat) (v1 : Value) (w : World) : Prop := Blk b cs 25 w ∧ w.cell? ⟨b1, o1, none⟩ = some v1
theorem CalS.drew {b : Nat} {cs : Array Value} {b1 o1 : Nat} {v1 : Value} {w : World} (h : CalS b cs b1 o1 v1 w) : CalS b cs b1 o1 v1 w.drew := h
def CalX (b : Nat) (cs : Array Value) (b1 o1 : Nat) (v1 : Value) (b2 o2 m : Nat) (b3 o3 : Nat) (x3 : Int) (b4 o4 : Nat) (x4 : Int) (b5 o5 : Nat) (x5 : Int) (b6 o6 : Nat) (x6 : Int) (w : World) : Prop :=
  Blk b cs 25 w ∧ w.cell? ⟨b1, o1, none⟩ = some v1 ∧ w.cell? ⟨b2, o2, none⟩ = some (.int .i64 m) ∧ w.cell? ⟨b3, o3, none⟩ = some (.int .i64 x3) ∧ w.cell? ⟨b4, o4, none⟩ = some (.int .i64 x4) ∧ w.cell? ⟨b5, o5, none⟩ = some (.int .i64 x5) ∧ w.cell? ⟨b6, o6, none⟩ = some (.int .i64 x6)
theorem CalX.drew {b : Nat} {cs : Array Value} {b1 o1 : Nat} {v1 : Value} {b2 o2 m : Nat} {b3 o3 : Nat} {x3 : Int} {b4 o4 : Nat} {x4 : Int} {b5 o5 : Nat} {x5 : Int} {b6 o6 : Nat} {x6 : Int} {w : World} (h : CalX b cs b1 o1 v1 b2 o2 m b3 o3 x3 b4 o4 x4 b5 o5 x5 b6 o6 x6 w) : CalX b cs b1 o1 v1 b2 o2 m b3 o3 x3 b4 o4 x4 b5 o5 x5 b6 o6 x6 w.drew := h
/-- The first with the least, by its place. -/
def LsAt (f : List Int → Int) (D : List (List Int)) (k : Nat) (s12 s14 : Value) : Prop := ∃ ci, ∃ h : ci < D.length, s12 = .int .i64 ci ∧ s14 = .int .i64 (f D[ci]) ∧ lsK f (D.take k) = some (D[ci], [f D[ci]])
theorem ls_first (f : List Int → Int) {D : List (List Int)} (h : 0 < D.length) : lsK f (D.take 1) = some (D[0], [f D[0]]) := by
  match D, h with
  | a :: t, _ => simp [lsK, lsStep]
theorem ls_new (f : List Int → Int) {D : List (List Int)} {k : Nat} (hk : k < D.length) {b : List Int} (h : lsK f (D.take k) = some (b, [f b])) (hl : f D[k] < f b) : lsK f (D.take (k + 1)) = some (D[k], [f D[k]]) := by
  rw [List.take_succ_eq_append_getElem hk, lsK_snoc, h]
  have : cmpL [f D[k]] [f b] < 0 := by simp [cmpL, cmpI, hl]; try omega
  simp only [lsStep, if_pos this]
theorem ls_old (f : List Int → Int) {D : List (List Int)} {k : Nat} (hk : k < D.length) {b : List Int} (h : lsK f (D.take k) = some (b, [f b])) (hl : ¬ f D[k] < f b) : lsK f (D.take (k + 1)) = some (b, [f b]) := by
  rw [List.take_succ_eq_append_getElem hk, lsK_snoc, h]
  have : ¬ cmpL [f D[k]] [f b] < 0 := by simp [cmpL, cmpI, hl]; try (split <;> omega)
  simp only [lsStep, if_neg this]

set_option maxRecDepth 100000 in
set_option maxHeartbeats 4000000 in
theorem lotsCalm_c {A : Nat → Prop} {w : World} {v : Value} {nums : List Int} (hn : Ints A w v nums) :
    Calls Try.prog 18 #[v] w fun e w' => e = .returned (.bool true) ∧ Below w.heap.size w w' := by
  go_enter Try.func18, Try.ntmps18
  go_wp2_with fail
  refine (newHand_c hn).mono ?_
  rintro e w1 ⟨rfl, hH, hB1⟩
  have hs1 := hH.lt
  go_wp2_with fail
  refine (commonsOf_c hH (by omega) 4 (by omega) (by omega)).mono ?_
  rintro e w2 ⟨vm, vv, rfl, ⟨c, hC, hok⟩, -, hG⟩
  have hB2 : Below w.heap.size w w2 := hB1.grown hG (by omega) (fun k e => by injection e with e; omega)
  have hs2 := hG.size
  clear hG hB1
  obtain ⟨am, cpm, rfl, _, _⟩ := hC.1.shape
  obtain ⟨av, cpv, rfl, _, _⟩ := hC.2.shape
  obtain ⟨bx, hbxe⟩ : ∃ b, b = w2.heap.size := ⟨_, rfl⟩
  have hbx : Blk bx #[.slice am c.mountains.length cpm, .slice av c.villages.length cpv] 25 (w2.alloc (.cells #[.slice am c.mountains.length cpm, .slice av c.villages.length cpv] 25)) := by rw [hbxe]; exact Blk.new w2 _ _
  have hC := hC.alloc (.cells #[.slice am c.mountains.length cpm, .slice av c.villages.length cpv] 25)
  have hT := bal (o := .cells #[.slice am c.mountains.length cpm, .slice av c.villages.length cpv] 25) hB2
  have hvl4 : c.villages.length ≤ 4 := by have := hok.vl; have := hok.n2; omega
  have hvl1 : 0 < c.villages.length := by have := hok.vl; have := hok.n1; omega
  have hce := (checkE_zero c).2 hok
  have b0 : ((0 : Int) != 0) = false := rfl
  have hca := calm_c hC
  have hra := fun w' (hB : Below (w2.alloc (.cells #[.slice am c.mountains.length cpm, .slice av c.villages.length cpv] 25)).heap.size (w2.alloc (.cells #[.slice am c.mountains.length cpm, .slice av c.villages.length cpv] 25)) w') => room_c (hC.call hB)
  rw [hce] at hca
  simp only [hce] at hra
  have hD : ordersL c.villages.length = divs c.villages.length := ordersL_divs _ (by omega)
  have hoc := orders_c (n := c.villages.length) (by omega)
  have hpr : ∀ d ∈ divs c.villages.length, PermOf c.villages.length d := fun d hd => divs_perm (by omega) hd
  have hrk : ∀ d ∈ divs c.villages.length, ∀ u (h : u < c.villages.length), (envyAt c.villages d u : Int) = rk c.villages u (d.getD u 0) := fun d hd u hu => by
    have hl := divs_row hd
    exact envy_rk hu (by rw [hl, hok.vl]; exact (hok.vil _ (List.getElem_mem hu)).2.2.2.2) (by rw [hl]; exact divs_perm (by omega) hd) (by rw [hl]; exact hu)
  have hdp := divs_pos c.villages.length (by omega)
  have hdl := divs_len c.villages.length (by omega)
  have hb1 : ∀ d ∈ divs c.villages.length, 0 ≤ envySum c.villages d ∧ envySum c.villages d ≤ 1000 := fun d hd => envyB_bd hok hd
  have hb2 : ∀ d ∈ divs c.villages.length, 0 ≤ overSum c d ∧ overSum c d ≤ 1000 := fun d hd => overB_bd hok hd
  have hl1 : ∀ b, lsK (envySum c.villages) (divs c.villages.length) = some (b, [envySum c.villages b]) → leastB (envySum c.villages) c = b ∧ leastN (envySum c.villages) c = envySum c.villages b := fun b hb => by
    have e : leastB (envySum c.villages) c = b := by rw [leastB, if_pos hce, hb]
    exact ⟨e, by rw [leastN, if_pos hce, e]⟩
  have hl2 : ∀ b, lsK (overSum c) (divs c.villages.length) = some (b, [overSum c b]) → leastB (overSum c) c = b ∧ leastN (overSum c) c = overSum c b := fun b hb => by
    have e : leastB (overSum c) c = b := by rw [leastB, if_pos hce, hb]
    exact ⟨e, by rw [leastN, if_pos hce, e]⟩
  rw [hD] at hoc
  obtain ⟨f1, hf1⟩ : ∃ f : List Int → Int, f = envySum c.villages := ⟨_, rfl⟩
  obtain ⟨f2, hf2⟩ : ∃ f : List Int → Int, f = overSum c := ⟨_, rfl⟩
  have hf1s : ∀ d, sumL (envyL c.villages d) = f1 d := fun d => by rw [hf1]; rfl
  have hf2s : ∀ d, sumL (overL c d) = f2 d := fun d => by rw [hf2]; rfl
  rw [← hf1] at hca hl1
  rw [← hf2] at hl2
  simp only [← hf2] at hra
  simp only [← hf1] at hb1
  simp only [← hf2] at hb2
  generalize divs c.villages.length = D at hoc hpr hrk hdp hdl hb1 hb2 hl1 hl2
  have HCA := Lib.hid hca
  have HRA := Lib.hid hra
  have HOC := Lib.hid hoc
  have HPR := Lib.hid hpr
  have HRK := Lib.hid hrk
  have HB1 := Lib.hid hb1
  have HB2 := Lib.hid hb2
  have HL1 := Lib.hid hl1
  have HL2 := Lib.hid hl2
  have HF1 := Lib.hid hf1s
  have HF2 := Lib.hid hf2s
  have HBX := Lib.hid hbxe
  clear hca hra hoc hpr hrk hb1 hb2 hl1 hl2 hf1 hf2 hf1s hf2s hce hD
  have c0 := hbx.cell 0
  have c1 := hbx.cell 1
  go_upto_region 3 with fail
  rw [← hbxe]
  clear hbxe
  generalize w2.alloc (.cells #[.slice am c.mountains.length cpm, .slice av c.villages.length cpv] 25) = w3 at *
  go_wp2_with fail
  clear c0 c1
  refine HCA.out.mono ?_
  rintro e w4 ⟨v5, rfl, h5, hB4⟩
  have hbx := hbx.call hB4
  have c0 := hbx.cell 0
  have c1 := hbx.cell 1
  clear HCA
  go_wp2_with fail
  clear c0 c1
  refine (HRA.out w4 hB4).mono ?_
  rintro e w5 ⟨v8, rfl, h8, hB5⟩
  have hC := hC.call (bnx hB4 hB5)
  have hbx := hbx.call hB5
  have hT := bnx hT (bnx hB4 hB5)
  have h5 := h5.call hB5
  clear HRA hB4 hB5
  go_wp2_with fail
  refine (HOC.out w5).mono ?_
  rintro e w6 ⟨v11, rfl, hO, hB6⟩
  have hC := hC.call hB6
  have hbx := hbx.call hB6
  have hT := bnx hT hB6
  have h5 := h5.call hB6
  have h8 := h8.call hB6
  clear HOC hB6
  obtain ⟨a11, co, rfl, _, _⟩ := hO.shape
  obtain ⟨ob, oo, rfl, -, hob⟩ := hO.addr hdp
  obtain ⟨a5, c5, rfl, _, _⟩ := h5.shape
  obtain ⟨a8, c8, rfl, _, _⟩ := h8.shape
  go_wp2_with fail
  go_loopw [12, 13, 14, 15, 16] (fun s12 s13 s14 s15 i wr => ∃ k : Nat, k ≤ D.length ∧ i = .int .i64 k ∧ Below w6.heap.size w6 wr ∧ (k = 0 ∨ (LsAt f1 D k s12 s14 ∧ LsAt f2 D k s13 s15))) (fun _ _ _ _ i _ => D.length - (intOf i).toNat)
  case atStart => exact ⟨0, Nat.zero_le _, rfl, Below.refl _ _, .inl rfl⟩
  case round =>
    obtain ⟨i, hi, rfl, hB, hst⟩ := hrel
    have HST := Lib.hid hst
    clear hst
    by_cases hil : i < D.length
    · obtain ⟨ar, cr, r1, hR⟩ := hO.row i hil
      have hdm := List.getElem_mem hil
      have hpd := HPR.out _ hdm
      have hrkd := HRK.out _ hdm
      have q1 := HB1.out _ hdm
      have q2 := HB2.out _ hdm
      obtain ⟨d, hd⟩ : ∃ d, d = D[i] := ⟨_, rfl⟩
      rw [← hd] at r1 hR hpd hrkd q1 q2
      have hdl2 := hpd.len
      have hR0 := hR
      rw [hdl2] at r1 hR
      obtain ⟨rb, ro, rfl, -, hrb, hrc⟩ := hR.addr (by omega)
      have hRL := hpd.mem
      have HPD := Lib.hid hpd
      have HRKD := Lib.hid hrkd
      have HD := Lib.hid hd
      have HDL := Lib.hid hdl2
      have HRL := Lib.hid hRL
      have hCr := hC.call hB
      have hE : ∀ w', Below w6.heap.size w6 w' → (CalS bx #[.slice am c.mountains.length cpm, .slice av c.villages.length cpv] ob (oo + i) (.slice (some ⟨rb, ro, none⟩) c.villages.length cr)) w' := fun w' h' => ⟨hbx.call h', (World.cell?_of_block (h'.block ob hob)).trans r1⟩
      clear hd hpd hrkd hdl2 hRL r1 hdm hR0
      go_wp2_with fail
      refine wp_region_mix2 (.one 0 (.pur 1 (.pur 2 (.pur 3 (.one 4 (.act 5 (.pur 6 (.pur 7 (.pur 8 (.pur 9 (.pur 10 .fin))))))))))) 99 (CalS bx #[.slice am c.mountains.length cpm, .slice av c.villages.length cpv] ob (oo + i) (.slice (some ⟨rb, ro, none⟩) c.villages.length cr)) (fun _ => True) (by kernel_rfl) (by kernel_rfl) rfl (by kernel_rfl) (hE _ hB).drew (fun wd hqd _ => ?_)
      refine mix_load2 rfl rfl rfl (.agg #[.slice am c.mountains.length cpm, .slice av c.villages.length cpv]) (fun w' h => by have h : (CalS bx #[.slice am c.mountains.length cpm, .slice av c.villages.length cpv] ob (oo + i) (.slice (some ⟨rb, ro, none⟩) c.villages.length cr)) w' := h; have h0 := h.1.cell 0; have h1 := h.1.cell 1; go_simp) rfl ?_
      refine mix_pur2 rfl (fun K hK => ?_)
      go_simp
      first | refine ⟨_, fun _ => rfl, hK _ ?_⟩ | refine hK _ ?_
      clear hK K
      refine mix_pur2 rfl (fun K hK => ?_)
      go_simp
      first | refine ⟨_, fun _ => rfl, hK _ ?_⟩ | refine hK _ ?_
      clear hK K
      refine mix_pur2 rfl (fun K hK => ?_)
      go_simp
      first | refine ⟨_, fun _ => rfl, hK _ ?_⟩ | refine hK _ ?_
      clear hK K
      refine mix_load2 rfl rfl rfl (.slice (some ⟨rb, ro, none⟩) c.villages.length cr) (fun w' h => by have h : (CalS bx #[.slice am c.mountains.length cpm, .slice av c.villages.length cpv] ob (oo + i) (.slice (some ⟨rb, ro, none⟩) c.villages.length cr)) w' := h; have h0 := h.2; go_simp) rfl ?_
      refine mix_eff2 rfl false rfl (fun K hK => ?_)
      go_simp
      refine (envyD_c (hCr.call (hqd.below _)) hok (hR.call (bnx hB (hqd.below _))) HPD.out).mono ?_
      rintro e wa ⟨va, rfl, hva, hBa⟩
      have hBa := bnx (bnx hB (hqd.below _)) hBa
      refine hK _ _ (hE _ hBa) ?_
      clear hK K
      refine mix_pur2 rfl (fun K hK => ?_)
      go_simp
      first | refine ⟨_, fun _ => rfl, hK _ ?_⟩ | refine hK _ ?_
      clear hK K
      refine mix_pur2 rfl (fun K hK => ?_)
      go_simp
      first | refine ⟨_, fun _ => rfl, hK _ ?_⟩ | refine hK _ ?_
      clear hK K
      refine mix_pur2 rfl (fun K hK => ?_)
      go_simp
      first | refine ⟨_, fun _ => rfl, hK _ ?_⟩ | refine hK _ ?_
      clear hK K
      refine mix_pur2 rfl (fun K hK => ?_)
      go_simp
      first | refine ⟨_, fun _ => rfl, hK _ ?_⟩ | refine hK _ ?_
      clear hK K
      refine mix_pur2 rfl (fun K hK => ?_)
      go_simp
      first | refine ⟨_, fun _ => rfl, hK _ ?_⟩ | refine hK _ ?_
      clear hK K
      refine mix_done2 ?_
      clear hqd
      go_wp2_with fail
      refine wp_region_mix2 (.one 0 (.pur 1 (.pur 2 (.pur 3 (.one 4 (.act 5 (.pur 6 (.pur 7 (.pur 8 (.pur 9 (.pur 10 .fin))))))))))) 99 (CalS bx #[.slice am c.mountains.length cpm, .slice av c.villages.length cpv] ob (oo + i) (.slice (some ⟨rb, ro, none⟩) c.villages.length cr)) (fun _ => True) (by kernel_rfl) (by kernel_rfl) rfl (by kernel_rfl) (hE _ hBa).drew (fun wd hqd _ => ?_)
      refine mix_load2 rfl rfl rfl (.agg #[.slice am c.mountains.length cpm, .slice av c.villages.length cpv]) (fun w' h => by have h : (CalS bx #[.slice am c.mountains.length cpm, .slice av c.villages.length cpv] ob (oo + i) (.slice (some ⟨rb, ro, none⟩) c.villages.length cr)) w' := h; have h0 := h.1.cell 0; have h1 := h.1.cell 1; go_simp) rfl ?_
      refine mix_pur2 rfl (fun K hK => ?_)
      go_simp
      first | refine ⟨_, fun _ => rfl, hK _ ?_⟩ | refine hK _ ?_
      clear hK K
      refine mix_pur2 rfl (fun K hK => ?_)
      go_simp
      first | refine ⟨_, fun _ => rfl, hK _ ?_⟩ | refine hK _ ?_
      clear hK K
      refine mix_pur2 rfl (fun K hK => ?_)
      go_simp
      first | refine ⟨_, fun _ => rfl, hK _ ?_⟩ | refine hK _ ?_
      clear hK K
      refine mix_load2 rfl rfl rfl (.slice (some ⟨rb, ro, none⟩) c.villages.length cr) (fun w' h => by have h : (CalS bx #[.slice am c.mountains.length cpm, .slice av c.villages.length cpv] ob (oo + i) (.slice (some ⟨rb, ro, none⟩) c.villages.length cr)) w' := h; have h0 := h.2; go_simp) rfl ?_
      refine mix_eff2 rfl false rfl (fun K hK => ?_)
      go_simp
      refine (overD_c (hC.call (bnx hBa (hqd.below _))) hok (hR.call (bnx hBa (hqd.below _))) HPD.out).mono ?_
      rintro e wo ⟨vo, rfl, hvo, hBo⟩
      have hBo1 := bnx (hqd.below wa.heap.size) hBo
      have hBo := bnx hBa hBo1
      refine hK _ _ (hE _ hBo) ?_
      clear hK K
      refine mix_pur2 rfl (fun K hK => ?_)
      go_simp
      first | refine ⟨_, fun _ => rfl, hK _ ?_⟩ | refine hK _ ?_
      clear hK K
      refine mix_pur2 rfl (fun K hK => ?_)
      go_simp
      first | refine ⟨_, fun _ => rfl, hK _ ?_⟩ | refine hK _ ?_
      clear hK K
      refine mix_pur2 rfl (fun K hK => ?_)
      go_simp
      first | refine ⟨_, fun _ => rfl, hK _ ?_⟩ | refine hK _ ?_
      clear hK K
      refine mix_pur2 rfl (fun K hK => ?_)
      go_simp
      first | refine ⟨_, fun _ => rfl, hK _ ?_⟩ | refine hK _ ?_
      clear hK K
      refine mix_pur2 rfl (fun K hK => ?_)
      go_simp
      first | refine ⟨_, fun _ => rfl, hK _ ?_⟩ | refine hK _ ?_
      clear hK K
      refine mix_done2 ?_
      have hva := hva.call hBo1
      have hla : (envyL c.villages d).length = c.villages.length := by rw [envyL_len, HDL.out]
      have hlo : (overL c d).length = c.villages.length := by rw [overL_len, HDL.out]
      have hsa := hva.shape
      rw [hla] at hsa
      obtain ⟨aa, ca, rfl, _, _⟩ := hsa
      have hso := hvo.shape
      rw [hlo] at hso
      obtain ⟨ao2, co2, rfl, _, _⟩ := hso
      have hta := total_c hva (by rw [hla]; omega) (fun x hx => by have := envyL_mem _ _ _ hx; rw [HDL.out] at this; omega)
      have hto := total_c hvo (by rw [hlo]; omega) (fun x hx => by have := overL_mem hok _ _ hx; omega)
      rw [HF1.out] at hta
      rw [HF2.out] at hto
      have HTA := Lib.hid hta
      have HTO := Lib.hid hto
      have HLA := Lib.hid hla
      have HLO := Lib.hid hlo
      clear hta hto hla hlo hqd hBo1
      go_wp2_with fail
      go_loopw [21] (fun s wx => ∃ v : Nat, v ≤ c.villages.length ∧ s = .int .i64 v ∧ Below w6.heap.size w6 wx ∧ Below wo.heap.size wo wx) (fun s _ => c.villages.length - (intOf s).toNat)
      case atStart => exact ⟨0, Nat.zero_le _, rfl, hBo, Below.refl _ _⟩
      case round =>
        rename World => wx
        obtain ⟨v, hv, rfl, hBx, hBox⟩ := hrel
        by_cases hvl : v < c.villages.length
        · have hvd : v < d.length := by have := HDL.out; omega
          have q := hrc v hvd
          have hmb := (HRL.out d[v]).1 (List.getElem_mem hvd)
          have hgv : d.getD v 0 = d[v] := by simp [hvd]
          have hra := HRKD.out v hvl
          rw [hgv] at hra
          have hea : (envyL c.villages d).length = c.villages.length := HLA.out
          have hva' : v < (envyL c.villages d).length := by omega
          have hvo' : v < (overL c d).length := by have := HLO.out; omega
          obtain ⟨ab, ao, rfl, -, hab, hac⟩ := hva.addr (by omega)
          obtain ⟨bb, bo, rfl, -, hbb, hbc⟩ := hvo.addr (by omega)
          have p1 := hac v hva'
          have p2 := hbc v hvo'
          rw [envyL_at, hra] at p1
          rw [overL_at, hgv] at p2
          obtain ⟨m, hm⟩ : ∃ m : Nat, d[v] = (m : Int) := ⟨d[v].toNat, by omega⟩
          rw [hm] at q hmb p1 p2
          have hmm : m < c.mountains.length := by rw [← hok.vl]; omega
          obtain ⟨vb, vo, rfl, -, hvb⟩ := hC.2.addr hvl1
          obtain ⟨mb, mo, rfl, -, hmb2, hmc⟩ := hC.1.addr (by omega)
          obtain ⟨p3, d3, -, g2, -, -⟩ := hC.2.at v hvl
          have g3 := hmc m hmm
          have hvo2 := hok.vil _ (List.getElem_mem hvl)
          have hmo2 := hok.bears _ (List.getElem_mem hmm)
          have e1 : overV c v m = if c.mountains[m] < c.villages[v].herd then c.villages[v].herd - c.mountains[m] else 0 := by
            rw [overV, her_at hvl, Int.toNat_natCast]
            have : c.mountains.getD m 0 = c.mountains[m] := by simp [hmm]
            rw [this]; split <;> omega
          rw [e1] at p2
          obtain ⟨x, hx1⟩ : ∃ x, x = c.villages[v].herd := ⟨_, rfl⟩
          obtain ⟨y, hy1⟩ : ∃ y, y = c.mountains[m] := ⟨_, rfl⟩
          rw [← hx1] at g2 hvo2 p2
          rw [← hy1] at g3 hmo2 p2
          have k1 := hvo2.2.2.1
          have k2 := hvo2.2.2.2.1
          have k3 := hmo2.1
          have k4 := hmo2.2
          have bw : IntKind.i64.wrap (x - y) = x - y := IntWalk.i64_in _ (by omega)
          have hF : ∀ w', Below w6.heap.size w6 w' → Below wo.heap.size wo w' → (CalX bx #[.slice (some ⟨mb, mo, none⟩) c.mountains.length cpm, .slice (some ⟨vb, vo, none⟩) c.villages.length cpv] ob (oo + i) (.slice (some ⟨rb, ro, none⟩) c.villages.length cr) rb (ro + v) m ab (ao + v) (rk c.villages v m) bb (bo + v) (if y < x then x - y else 0) vb (vo + v * 3 + 1) x mb (mo + m) y) w' := fun w' h1 h2 => ⟨(hE _ h1).1, (hE _ h1).2, (World.cell?_of_block (h1.block rb hrb)).trans q, (World.cell?_of_block (h2.block ab hab)).trans p1, (World.cell?_of_block (h2.block bb hbb)).trans p2, (World.cell?_of_block (h1.block vb hvb)).trans g2, (World.cell?_of_block (h1.block mb hmb2)).trans g3⟩
          clear hea hra hgv e1 hx1 hy1 hvo2 hmo2 hm q p1 p2 g2 g3 hac hbc hmc
          go_wp2_with fail
          refine wp_region_mix2 (.pur 0 (.pur 1 (.pur 2 (.one 3 (.one 4 (.pur 5 (.pur 6 (.pur 7 (.pur 8 (.one 9 (.pur 10 (.pur 11 (.one 12 (.act 13 (.pur 14 (.pur 15 (.pur 16 (.pur 17 (.pur 18 (.one 19 (.pur 20 (.one 21 (.pur 22 (.pur 23 (.pur 24 (.one 25 (.pur 26 (.one 27 (.pur 28 (.pur 29 (.pur 30 (.one 31 (.pur 32 (.pur 33 (.one 34 (.pur 35 (.one 36 (.pur 37 (.pur 38 (.pur 39 (.pur 40 .fin))))))))))))))))))))))))))))))))))))))))) 99 (CalX bx #[.slice (some ⟨mb, mo, none⟩) c.mountains.length cpm, .slice (some ⟨vb, vo, none⟩) c.villages.length cpv] ob (oo + i) (.slice (some ⟨rb, ro, none⟩) c.villages.length cr) rb (ro + v) m ab (ao + v) (rk c.villages v m) bb (bo + v) (if y < x then x - y else 0) vb (vo + v * 3 + 1) x mb (mo + m) y) (fun _ => True) (by kernel_rfl) (by kernel_rfl) rfl (by kernel_rfl) (hF _ hBx hBox).drew (fun wd hqd _ => ?_)
          refine mix_pur2 rfl (fun K hK => ?_)
          go_simp
          first | refine ⟨_, fun _ => rfl, hK _ ?_⟩ | refine hK _ ?_
          clear hK K
          refine mix_pur2 rfl (fun K hK => ?_)
          go_simp
          first | refine ⟨_, fun _ => rfl, hK _ ?_⟩ | refine hK _ ?_
          clear hK K
          refine mix_pur2 rfl (fun K hK => ?_)
          go_simp
          first | refine ⟨_, fun _ => rfl, hK _ ?_⟩ | refine hK _ ?_
          clear hK K
          refine mix_load2 rfl rfl rfl (.int .i64 (rk c.villages v m)) (fun w' h => by have h : (CalX bx #[.slice (some ⟨mb, mo, none⟩) c.mountains.length cpm, .slice (some ⟨vb, vo, none⟩) c.villages.length cpv] ob (oo + i) (.slice (some ⟨rb, ro, none⟩) c.villages.length cr) rb (ro + v) m ab (ao + v) (rk c.villages v m) bb (bo + v) (if y < x then x - y else 0) vb (vo + v * 3 + 1) x mb (mo + m) y) w' := h; have h0 := h.2.2.2.1; go_simp) rfl ?_
          refine mix_load2 rfl rfl rfl (.agg #[.slice (some ⟨mb, mo, none⟩) c.mountains.length cpm, .slice (some ⟨vb, vo, none⟩) c.villages.length cpv]) (fun w' h => by have h : (CalX bx #[.slice (some ⟨mb, mo, none⟩) c.mountains.length cpm, .slice (some ⟨vb, vo, none⟩) c.villages.length cpv] ob (oo + i) (.slice (some ⟨rb, ro, none⟩) c.villages.length cr) rb (ro + v) m ab (ao + v) (rk c.villages v m) bb (bo + v) (if y < x then x - y else 0) vb (vo + v * 3 + 1) x mb (mo + m) y) w' := h; have h0 := h.1.cell 0; have h1 := h.1.cell 1; go_simp) rfl ?_
          refine mix_pur2 rfl (fun K hK => ?_)
          go_simp
          first | refine ⟨_, fun _ => rfl, hK _ ?_⟩ | refine hK _ ?_
          clear hK K
          refine mix_pur2 rfl (fun K hK => ?_)
          go_simp
          first | refine ⟨_, fun _ => rfl, hK _ ?_⟩ | refine hK _ ?_
          clear hK K
          refine mix_pur2 rfl (fun K hK => ?_)
          go_simp
          first | refine ⟨_, fun _ => rfl, hK _ ?_⟩ | refine hK _ ?_
          clear hK K
          refine mix_pur2 rfl (fun K hK => ?_)
          go_simp
          first | refine ⟨_, fun _ => rfl, hK _ ?_⟩ | refine hK _ ?_
          clear hK K
          refine mix_load2 rfl rfl rfl (.slice (some ⟨rb, ro, none⟩) c.villages.length cr) (fun w' h => by have h : (CalX bx #[.slice (some ⟨mb, mo, none⟩) c.mountains.length cpm, .slice (some ⟨vb, vo, none⟩) c.villages.length cpv] ob (oo + i) (.slice (some ⟨rb, ro, none⟩) c.villages.length cr) rb (ro + v) m ab (ao + v) (rk c.villages v m) bb (bo + v) (if y < x then x - y else 0) vb (vo + v * 3 + 1) x mb (mo + m) y) w' := h; have h0 := h.2.1; go_simp) rfl ?_
          refine mix_pur2 rfl (fun K hK => ?_)
          go_simp
          first | refine ⟨_, fun _ => rfl, hK _ ?_⟩ | refine hK _ ?_
          clear hK K
          refine mix_pur2 rfl (fun K hK => ?_)
          go_simp
          first | refine ⟨_, fun _ => rfl, hK _ ?_⟩ | refine hK _ ?_
          clear hK K
          refine mix_load2 rfl rfl rfl (.int .i64 m) (fun w' h => by have h : (CalX bx #[.slice (some ⟨mb, mo, none⟩) c.mountains.length cpm, .slice (some ⟨vb, vo, none⟩) c.villages.length cpv] ob (oo + i) (.slice (some ⟨rb, ro, none⟩) c.villages.length cr) rb (ro + v) m ab (ao + v) (rk c.villages v m) bb (bo + v) (if y < x then x - y else 0) vb (vo + v * 3 + 1) x mb (mo + m) y) w' := h; have h0 := h.2.2.1; go_simp) rfl ?_
          refine mix_eff2 rfl false rfl (fun K hK => ?_)
          go_simp
          refine (plc_c (hC.call (bnx hBx (hqd.below _))) v hvl m).mono ?_
          rintro e wp ⟨rfl, hBp0⟩
          have hBp := bnx (bnx hBx (hqd.below _)) hBp0
          have hBop := bnx (bnx hBox (hqd.below _)) hBp0
          refine hK _ _ (hF _ hBp hBop) ?_
          clear hK K hBp0
          refine mix_pur2 rfl (fun K hK => ?_)
          go_simp
          first | refine ⟨_, fun _ => rfl, hK _ ?_⟩ | refine hK _ ?_
          clear hK K
          refine mix_pur2 rfl (fun K hK => ?_)
          go_simp
          first | refine ⟨_, fun _ => rfl, hK _ ?_⟩ | refine hK _ ?_
          clear hK K
          refine mix_pur2 rfl (fun K hK => ?_)
          go_simp
          first | refine ⟨_, fun _ => rfl, hK _ ?_⟩ | refine hK _ ?_
          clear hK K
          refine mix_pur2 rfl (fun K hK => ?_)
          go_simp
          first | refine ⟨_, fun _ => rfl, hK _ ?_⟩ | refine hK _ ?_
          clear hK K
          refine mix_pur2 rfl (fun K hK => ?_)
          go_simp
          first | refine ⟨_, fun _ => rfl, hK _ ?_⟩ | refine hK _ ?_
          clear hK K
          refine mix_loadg2 rfl rfl (.int .i64 (if y < x then x - y else 0)) (by go_simp) (fun w' h => by have h : (CalX bx #[.slice (some ⟨mb, mo, none⟩) c.mountains.length cpm, .slice (some ⟨vb, vo, none⟩) c.villages.length cpv] ob (oo + i) (.slice (some ⟨rb, ro, none⟩) c.villages.length cr) rb (ro + v) m ab (ao + v) (rk c.villages v m) bb (bo + v) (if y < x then x - y else 0) vb (vo + v * 3 + 1) x mb (mo + m) y) w' := h; have h0 := h.2.2.2.2.1; go_simp) rfl ?_
          refine mix_pur2 rfl (fun K hK => ?_)
          go_simp
          first | refine ⟨_, fun _ => rfl, hK _ ?_⟩ | refine hK _ ?_
          clear hK K
          refine mix_loadg2 rfl rfl (.slice (some ⟨vb, vo, none⟩) c.villages.length cpv) (by go_simp) (fun w' h => by have h : (CalX bx #[.slice (some ⟨mb, mo, none⟩) c.mountains.length cpm, .slice (some ⟨vb, vo, none⟩) c.villages.length cpv] ob (oo + i) (.slice (some ⟨rb, ro, none⟩) c.villages.length cr) rb (ro + v) m ab (ao + v) (rk c.villages v m) bb (bo + v) (if y < x then x - y else 0) vb (vo + v * 3 + 1) x mb (mo + m) y) w' := h; have h1 := h.1.cell 1; go_simp) rfl ?_
          refine mix_pur2 rfl (fun K hK => ?_)
          go_simp
          first | refine ⟨_, fun _ => rfl, hK _ ?_⟩ | refine hK _ ?_
          clear hK K
          refine mix_pur2 rfl (fun K hK => ?_)
          go_simp
          first | refine ⟨_, fun _ => rfl, hK _ ?_⟩ | refine hK _ ?_
          clear hK K
          refine mix_pur2 rfl (fun K hK => ?_)
          go_simp
          first | refine ⟨_, fun _ => rfl, hK _ ?_⟩ | refine hK _ ?_
          clear hK K
          refine mix_loadg2 rfl rfl (.int .i64 x) (by go_simp) (fun w' h => by have h : (CalX bx #[.slice (some ⟨mb, mo, none⟩) c.mountains.length cpm, .slice (some ⟨vb, vo, none⟩) c.villages.length cpv] ob (oo + i) (.slice (some ⟨rb, ro, none⟩) c.villages.length cr) rb (ro + v) m ab (ao + v) (rk c.villages v m) bb (bo + v) (if y < x then x - y else 0) vb (vo + v * 3 + 1) x mb (mo + m) y) w' := h; have h0 := h.2.2.2.2.2.1; go_simp) rfl ?_
          refine mix_pur2 rfl (fun K hK => ?_)
          go_simp
          first | refine ⟨_, fun _ => rfl, hK _ ?_⟩ | refine hK _ ?_
          clear hK K
          refine mix_loadg2 rfl rfl (.slice (some ⟨mb, mo, none⟩) c.mountains.length cpm) (by go_simp) (fun w' h => by have h : (CalX bx #[.slice (some ⟨mb, mo, none⟩) c.mountains.length cpm, .slice (some ⟨vb, vo, none⟩) c.villages.length cpv] ob (oo + i) (.slice (some ⟨rb, ro, none⟩) c.villages.length cr) rb (ro + v) m ab (ao + v) (rk c.villages v m) bb (bo + v) (if y < x then x - y else 0) vb (vo + v * 3 + 1) x mb (mo + m) y) w' := h; have h0 := h.1.cell 0; go_simp) rfl ?_
          refine mix_pur2 rfl (fun K hK => ?_)
          go_simp
          first | refine ⟨_, fun _ => rfl, hK _ ?_⟩ | refine hK _ ?_
          clear hK K
          refine mix_pur2 rfl (fun K hK => ?_)
          go_simp
          first | refine ⟨_, fun _ => rfl, hK _ ?_⟩ | refine hK _ ?_
          clear hK K
          refine mix_pur2 rfl (fun K hK => ?_)
          go_simp
          first | refine ⟨_, fun _ => rfl, hK _ ?_⟩ | refine hK _ ?_
          clear hK K
          refine mix_loadg2 rfl rfl (.slice (some ⟨rb, ro, none⟩) c.villages.length cr) (by go_simp) (fun w' h => by have h : (CalX bx #[.slice (some ⟨mb, mo, none⟩) c.mountains.length cpm, .slice (some ⟨vb, vo, none⟩) c.villages.length cpv] ob (oo + i) (.slice (some ⟨rb, ro, none⟩) c.villages.length cr) rb (ro + v) m ab (ao + v) (rk c.villages v m) bb (bo + v) (if y < x then x - y else 0) vb (vo + v * 3 + 1) x mb (mo + m) y) w' := h; have h0 := h.2.1; go_simp) rfl ?_
          refine mix_pur2 rfl (fun K hK => ?_)
          go_simp
          first | refine ⟨_, fun _ => rfl, hK _ ?_⟩ | refine hK _ ?_
          clear hK K
          refine mix_pur2 rfl (fun K hK => ?_)
          go_simp
          first | refine ⟨_, fun _ => rfl, hK _ ?_⟩ | refine hK _ ?_
          clear hK K
          refine mix_loadg2 rfl rfl (.int .i64 m) (by go_simp) (fun w' h => by have h : (CalX bx #[.slice (some ⟨mb, mo, none⟩) c.mountains.length cpm, .slice (some ⟨vb, vo, none⟩) c.villages.length cpv] ob (oo + i) (.slice (some ⟨rb, ro, none⟩) c.villages.length cr) rb (ro + v) m ab (ao + v) (rk c.villages v m) bb (bo + v) (if y < x then x - y else 0) vb (vo + v * 3 + 1) x mb (mo + m) y) w' := h; have h0 := h.2.2.1; go_simp) rfl ?_
          refine mix_pur2 rfl (fun K hK => ?_)
          go_simp
          first | refine ⟨_, fun _ => rfl, hK _ ?_⟩ | refine hK _ ?_
          clear hK K
          refine mix_loadg2 rfl rfl (.int .i64 y) (by go_simp) (fun w' h => by have h : (CalX bx #[.slice (some ⟨mb, mo, none⟩) c.mountains.length cpm, .slice (some ⟨vb, vo, none⟩) c.villages.length cpv] ob (oo + i) (.slice (some ⟨rb, ro, none⟩) c.villages.length cr) rb (ro + v) m ab (ao + v) (rk c.villages v m) bb (bo + v) (if y < x then x - y else 0) vb (vo + v * 3 + 1) x mb (mo + m) y) w' := h; have h0 := h.2.2.2.2.2.2; go_simp) rfl ?_
          refine mix_pur2 rfl (fun K hK => ?_)
          go_simp
          first | refine ⟨_, fun _ => rfl, hK _ ?_⟩ | refine hK _ ?_
          clear hK K
          refine mix_pur2 rfl (fun K hK => ?_)
          go_simp
          first | refine ⟨_, fun _ => rfl, hK _ ?_⟩ | refine hK _ ?_
          clear hK K
          refine mix_pur2 rfl (fun K hK => ?_)
          go_simp
          first | refine ⟨_, fun _ => rfl, hK _ ?_⟩ | refine hK _ ?_
          clear hK K
          refine mix_pur2 rfl (fun K hK => ?_)
          go_simp
          first | refine ⟨_, fun _ => rfl, hK _ ?_⟩ | refine hK _ ?_
          clear hK K
          refine mix_done2 ?_
          clear hqd
          go_wp2_with fail
          go_roundw
          case rel => exact ⟨v + 1, by omega, by go_num, hBp, hBop⟩
          case measure => simp [intOf]; omega
        · obtain rfl : v = c.villages.length := by omega
          have hta := HTA.out
          have hto := HTO.out
          have HTA2 := Lib.hid (total_c (hva.call hBox) (by rw [HLA.out]; omega) (fun x hx => by have := envyL_mem _ _ _ hx; rw [HDL.out] at this; omega))
          have HTO2 := Lib.hid (total_c (hvo.call hBox) (by rw [HLO.out]; omega) (fun x hx => by have := overL_mem hok _ _ hx; omega))
          clear hta hto HTA HTO
          go_wp2_with fail
          refine HTA2.out.mono ?_
          rintro e y1 ⟨rfl, rfl⟩
          go_wp2_with fail
          refine HTO2.out.mono ?_
          rintro e y2 ⟨rfl, rfl⟩
          rw [HF1.out, HF2.out]
          obtain ⟨z1, hz1⟩ : ∃ z, z = f1 d := ⟨_, rfl⟩
          obtain ⟨z2, hz2⟩ : ∃ z, z = f2 d := ⟨_, rfl⟩
          rw [← hz1] at q1 ⊢
          rw [← hz2] at q2 ⊢
          have HZ1 := Lib.hid hz1
          have HZ2 := Lib.hid hz2
          clear hz1 hz2 HTA2 HTO2
          have hDi : ∀ h : i < D.length, D[i] = d := fun h => HD.out.symm
          have HDI := Lib.hid hDi
          clear hDi
          by_cases hi0 : i = 0
          · subst hi0
            go_wp2_with fail
            go_roundw
            case rel =>
              refine ⟨0 + 1, by omega, by go_num, hBx, .inr ⟨⟨0, hil, rfl, ?_, ls_first f1 hil⟩, ⟨0, hil, rfl, ?_, ls_first f2 hil⟩⟩⟩
              · rw [HDI.out hil, ← HZ1.out]
              · rw [HDI.out hil, ← HZ2.out]
            case measure => simp [intOf]; omega
          · have bi0 : ((i : Int) == 0) = false := by simp; omega
            rcases HST.out with hk0 | ⟨⟨ci, hci, rfl, rfl, hl1⟩, ⟨ri, hri, rfl, rfl, hl2⟩⟩
            · exact absurd hk0 hi0
            · have hc1 := HB1.out _ (List.getElem_mem hci)
              have hc2 := HB2.out _ (List.getElem_mem hri)
              obtain ⟨u1, hu1⟩ : ∃ z, z = f1 D[ci] := ⟨_, rfl⟩
              obtain ⟨u2, hu2⟩ : ∃ z, z = f2 D[ri] := ⟨_, rfl⟩
              rw [← hu1] at hc1 ⊢
              rw [← hu2] at hc2 ⊢
              have HU1 := Lib.hid hu1
              have HU2 := Lib.hid hu2
              have HL1i := Lib.hid hl1
              have HL2i := Lib.hid hl2
              clear hu1 hu2 hl1 hl2
              have hn1 : z1 < u1 → LsAt f1 D (i + 1) (.int .i64 i) (.int .i64 z1) := fun h => ⟨i, hil, rfl, by rw [HDI.out hil, ← HZ1.out], ls_new f1 hil HL1i.out (by rw [HDI.out hil, ← HZ1.out, ← HU1.out]; exact h)⟩
              have hn2 : z2 < u2 → LsAt f2 D (i + 1) (.int .i64 i) (.int .i64 z2) := fun h => ⟨i, hil, rfl, by rw [HDI.out hil, ← HZ2.out], ls_new f2 hil HL2i.out (by rw [HDI.out hil, ← HZ2.out, ← HU2.out]; exact h)⟩
              have ho1 : ¬ z1 < u1 → LsAt f1 D (i + 1) (.int .i64 ci) (.int .i64 u1) := fun h => ⟨ci, hci, rfl, by rw [← HU1.out], ls_old f1 hil HL1i.out (by rw [HDI.out hil, ← HZ1.out, ← HU1.out]; exact h)⟩
              have ho2 : ¬ z2 < u2 → LsAt f2 D (i + 1) (.int .i64 ri) (.int .i64 u2) := fun h => ⟨ri, hri, rfl, by rw [← HU2.out], ls_old f2 hil HL2i.out (by rw [HDI.out hil, ← HZ2.out, ← HU2.out]; exact h)⟩
              have HN1 := Lib.hid hn1
              have HN2 := Lib.hid hn2
              have HO1 := Lib.hid ho1
              have HO2 := Lib.hid ho2
              clear hn1 hn2 ho1 ho2
              by_cases hlt1 : z1 < u1
              · by_cases hlt2 : z2 < u2
                · go_wp2_with fail
                  go_roundw
                  case rel => exact ⟨i + 1, by omega, by go_num, hBx, .inr ⟨HN1.out hlt1, HN2.out hlt2⟩⟩
                  case measure => simp [intOf]; omega
                · go_wp2_with fail
                  go_roundw
                  case rel => exact ⟨i + 1, by omega, by go_num, hBx, .inr ⟨HN1.out hlt1, HO2.out hlt2⟩⟩
                  case measure => simp [intOf]; omega
              · by_cases hlt2 : z2 < u2
                · go_wp2_with fail
                  go_roundw
                  case rel => exact ⟨i + 1, by omega, by go_num, hBx, .inr ⟨HO1.out hlt1, HN2.out hlt2⟩⟩
                  case measure => simp [intOf]; omega
                · go_wp2_with fail
                  go_roundw
                  case rel => exact ⟨i + 1, by omega, by go_num, hBx, .inr ⟨HO1.out hlt1, HO2.out hlt2⟩⟩
                  case measure => simp [intOf]; omega
    · obtain rfl : i = D.length := by omega
      rcases HST.out with hk0 | ⟨⟨ci, hci, rfl, rfl, hl1⟩, ⟨ri, hri, rfl, rfl, hl2⟩⟩
      · omega
      · rw [List.take_length] at hl1 hl2
        obtain ⟨e1, e2⟩ := HL1.out _ hl1
        obtain ⟨e3, e4⟩ := HL2.out _ hl2
        rw [e2, e4]
        rw [e1] at h5
        rw [e3] at h8
        obtain ⟨ac, cc2, r1, hR1⟩ := hO.row ci hci
        obtain ⟨ar, cr2, r2, hR2⟩ := hO.row ri hri
        have hB5 := h5.call hB
        have hB8 := h8.call hB
        have s1 := (World.cell?_of_block (hB.block ob hob)).trans r1
        have s2 := (World.cell?_of_block (hB.block ob hob)).trans r2
        have hx1 := sameInts_t hB5 (hR1.call hB)
        have HX1 := Lib.hid hx1
        rw [e1, e3]
        clear hl1 hl2 e1 e2 e3 e4 r1 r2 hx1
        go_wp2_with fail
        refine HX1.out.mono ?_
        rintro e y1 ⟨rfl, hy1⟩
        have hx2 := sameInts_t (hB8.call hy1) ((hR2.call hB).call hy1)
        have HX2 := Lib.hid hx2
        have s3 := (World.cell?_of_block (hy1.block ob (by have := hB.size; omega))).trans s2
        clear hx2 HX1
        go_wp2_with fail
        refine HX2.out.mono ?_
        rintro e y2 ⟨rfl, hy2⟩
        go_wp2_with (go_at_call 21; refine (drawn_c _).mono ?_; rintro e wz ⟨rfl, hBz⟩)
        go_ret
        exact ⟨rfl, bnx (bnx (bnx (bnx hT hB) hy1) hy2) hBz⟩

end Go.Proofs.Ythchpoabncdicaa
