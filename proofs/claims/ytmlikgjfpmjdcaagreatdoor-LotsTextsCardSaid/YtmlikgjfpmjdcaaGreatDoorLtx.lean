/- The walk of LotsTexts: it hands back true, whatever the arguments; conditions: they read as commons, a text and numbers; the library's variables hold what their types let them. -/
import Derived.Test.YtmlikgjfpmjdcaaGreatDoorRd6
import Derived.Test.YtmlikgjfpmjdcaaGreatDoorRt3
import Derived.Test.YtmlikgjfpmjdcaaGreatDoorRt4
import Derived.Test.YtmlikgjfpmjdcaaGreatDoorRt5
import Derived.Test.YtmlikgjfpmjdcaaGreatDoorShort
import Derived.Test.YtmlikgjfpmjdcaaGreatDoorNx
namespace Go.Proofs.YtmlikgjfpmjdcaaGreatDoor
open Go.RowKit

/-- The text of commons, none where they are not valid. -/
def txC (c : Com) : List UInt8 := if checkE c = 0 then cmT numK c else []
theorem txC_str (c : Com) : (if checkE c = 0 then str (cmT numK c) else ⟨#[]⟩) = str (txC c) := by
  unfold txC
  split <;> rfl
theorem txC_len (c : Com) : (txC c).length ≤ 3000 := by
  unfold txC
  split
  · rename_i hck
    have hok := (checkE_zero c).1 hck
    have hml : c.mountains.length ≤ 4 := hok.n2
    have hvl : c.villages.length ≤ 4 := by rw [hok.vl]; exact hok.n2
    have hll : ∀ v ∈ c.villages, v.likes.length ≤ 4 := fun v hv => by have h7 := (hok.vil v hv).2.2.2.2.length_eq; have h8 : (iota c.mountains.length).length = c.mountains.length := (by simp [iota]); omega
    have h1 := lsT_len numK_len c.mountains
    have h2 := flat_le 300 (vlT numK) c.villages fun v hv => by
      have h1 := numK_len v.hearths
      have h2 := numK_len v.herd
      have h3 := lsT_len numK_len v.likes
      have h4 := hll v hv
      unfold vlT
      simp only [List.length_append, List.length_cons, List.length_nil]
      omega
    unfold cmT
    simp only [List.length_append, List.length_cons, List.length_nil]
    omega
  · simp
theorem okP {c : Com} (h : checkE c = 0) : (∀ i ∈ c.mountains, 0 ≤ i ∧ i < 100) ∧ ∀ v ∈ c.villages, (0 ≤ v.hearths ∧ v.hearths < 100) ∧ (0 ≤ v.herd ∧ v.herd < 100) ∧ ∀ i ∈ v.likes, 0 ≤ i ∧ i < 100 := by
  obtain ⟨h1, _, h3⟩ := okV ((checkE_zero c).1 h)
  exact ⟨h1, fun v hv => ⟨(h3 v hv).1, (h3 v hv).2.1, (h3 v hv).2.2.1⟩⟩
theorem wa_c {A : Nat → Prop} {w : World} {vm vv : Value} {c : Com} (h : Cm A w vm vv c) :
    Calls Tryz.prog 9 #[.agg #[vm, vv]] w fun e w' => e = .returned (.tuple #[.string (str (txC c)), .int .i64 (checkE c)]) ∧ Below w.heap.size w w' := by
  have := cwrite_c h (num := numK) (Pn := fun i => 0 ≤ i ∧ i < 100) (fun i hi w' _ => itoa_k i hi w') numK_len okP
  rw [txC_str] at this
  exact this
theorem wb_c {A : Nat → Prop} {w : World} {vm vv : Value} {c : Com} (h : Cm A w vm vv c) :
    Calls Tryz.prog 10 #[.agg #[vm, vv]] w fun e w' => e = .returned (.tuple #[.string (str (txC c)), .int .i64 (checkE c)]) ∧ Below w.heap.size w w' := by
  have := rwrite_r h (num := numK) (Pn := fun i => 0 ≤ i ∧ i < 100) (fun i hi w' _ => itoa_k i hi w') numK_len okP
  rw [txC_str] at this
  exact this

/-- What stands while texts are gathered in a row of the call's own. -/
structure KP (w2 w3 : World) (bt : Nat) (v : Value) (w : World) : Prop where
  keep : ∀ k, k < w3.heap.size → k ≠ bt → w.heap[k]? = w3.heap[k]?
  size : w3.heap.size ≤ w.heap.size
  bel : Below w2.heap.size w2 w
  own : ∀ g, v.ownBlock = some g → g = bt ∨ w3.heap.size ≤ g
theorem KP.call {w2 w3 w w' : World} {bt : Nat} {v : Value} (h : KP w2 w3 bt v w) (hB : Below w.heap.size w w') : KP w2 w3 bt v w' :=
  ⟨fun k hk hn => (hB.block k (by have := h.size; omega)).trans (h.keep k hk hn), by have := h.size; have := hB.size; omega, bnw h.bel hB, h.own⟩
theorem KP.turn {w2 w3 w w' : World} {bt n : Nat} {v v' : Value} {xs : List Value} (h : KP w2 w3 bt v w) (ho : Own w2.heap.size w 9 1 v n xs) (hT : Turned w w' v v') : KP w2 w3 bt v' w' := by
  have hz := h.size
  refine ⟨fun k hk hn => (hT.block k (by omega) (fun e => ?_)).trans (h.keep k hk hn), by have := hT.size; omega, hT.below2 (B' := w2.heap.size) ho h.bel h.bel.size (Nat.le_refl _), fun g hg => ?_⟩
  · rcases h.own k e with h1 | h1
    · exact hn h1
    · omega
  · rcases hT.place with e | e
    · exact h.own g (e ▸ hg)
    · right
      have := Option.some.inj (hg.symm.trans e)
      omega

set_option maxRecDepth 100000 in
set_option maxHeartbeats 8000000 in
theorem lotsTexts_c {A A2 : Nat → Prop} {w : World} {vm vv vn : Value} {c : Com} {nums : List Int} (hc : Cm A w vm vv c) (t : List UInt8) (htl : t.length ≤ 9000000000000000000) (hn : Ints A2 w vn nums)
    (ax hx : Int) (ha : -9223372036854775808 ≤ ax ∧ ax ≤ 9223372036854775807) (hh : -9223372036854775808 ≤ hx ∧ hx ≤ 9223372036854775807) (by8 : UInt8) (hE : EV w) (hM : MX w) (h3 : 3 ≤ w.heap.size) :
    Calls Tryz.prog 3 #[.agg #[vm, vv], .string (str t), vn, .int .i64 ax, .int .i64 hx, .int .u8 by8.toNat] w fun e w' => e = .returned (.bool true) ∧ Below w.heap.size w w' := by
  obtain ⟨am, cpm, rfl, _, _⟩ := hc.1.shape
  obtain ⟨av, cpv, rfl, _, _⟩ := hc.2.shape
  obtain ⟨an, cpn, rfl, _, _⟩ := hn.shape
  have hz := str_size t
  obtain ⟨w1, hw1⟩ : ∃ w1, w1 = w.alloc (.cells #[.slice am c.mountains.length cpm, .slice av c.villages.length cpv] 25) := ⟨_, rfl⟩
  obtain ⟨b0, hb0⟩ : ∃ b, b = w.heap.size := ⟨_, rfl⟩
  have hX1 : Blk b0 #[.slice am c.mountains.length cpm, .slice av c.villages.length cpv] 25 w1 := by rw [hw1, hb0]; exact Blk.new _ _ _
  have hB1 : Below w.heap.size w w1 := by rw [hw1]; exact (Below.refl _ w).alloc (Nat.le_refl _) _
  have hc1 := hc.call hB1
  have hn1 := hn.call hB1
  go_enter Tryz.func3, Tryz.ntmps3
  go_upto_region 1 with fail
  rw [← hw1, ← hb0]
  clear hw1 hb0
  go_cut [39] (fun s39 wx => ∃ b : Bool, s39 = .bool b ∧ Below w1.heap.size w1 wx)
  case first =>
    have c0 := hX1.cell 0
    have c1 := hX1.cell 1
    go_wp2_with fail
    refine (short_c hc1).mono ?_
    rintro e w2 ⟨b, rfl, hb, hB2⟩
    cases b with
    | false =>
      go_wp2_with fail
      go_meet
      exact ⟨_, rfl, hB2⟩
    | true =>
      by_cases h200 : 200 < t.length
      · have d1 : decide ((200 : Int) < t.length) = true := decide_eq_true (by omega)
        by_cases h400 : t.length ≤ 400
        · have d2 : decide ((t.length : Int) ≤ 400) = true := decide_eq_true (by omega)
          go_wp2_with fail
          go_meet
          exact ⟨_, rfl, hB2⟩
        · have d2 : decide ((t.length : Int) ≤ 400) = false := decide_eq_false (by omega)
          go_wp2_with fail
          go_meet
          exact ⟨_, rfl, hB2⟩
      · have d1 : decide ((200 : Int) < t.length) = false := decide_eq_false (by omega)
        go_wp2_with fail
        go_meet
        exact ⟨_, rfl, hB2⟩
  case rest =>
    obtain ⟨b, rfl, hB2⟩ := hcut
    rename World => w2
    have hX2 := hX1.call hB2
    have hc2 := hc1.call hB2
    have hn2 := hn1.call hB2
    have hBw2 := bnw hB1 hB2
    have hb0l : b0 < w2.heap.size := hX2.lt
    clear hX1 hc1 hn1 hB1 hB2
    cases b with
    | true =>
      go_wp2_with fail
      refine (drawn_c _).mono ?_
      rintro e wz ⟨rfl, hBz⟩
      go_wp2_with fail
      go_ret
      exact ⟨rfl, bnw hBw2 hBz⟩
    | false =>
      go_upto_region 3 with fail
      go_cut [13, 14] (fun s13 s14 wx => ∃ (bc bt : Nat) (md : Com) (mm mv : Option Addr) (mmc mvc : Nat), s13 = .slice (some ⟨bc, 0, none⟩) 2 2 ∧ s14 = .slice (some ⟨bt, 0, none⟩) 1 1 ∧ Blk bc #[.slice am c.mountains.length cpm, .slice av c.villages.length cpv, .slice mm md.mountains.length mmc, .slice mv md.villages.length mvc] 25 wx ∧ Blk bt #[.string (str t)] 9 wx ∧ Cm (fun b => b ≠ bt) wx (.slice mm md.mountains.length mmc) (.slice mv md.villages.length mvc) md ∧ w2.heap.size ≤ bt ∧ Below w2.heap.size w2 wx)
      case first =>
        refine wp_region_mix2 (.one 0 (.pur 1 (.pur 5 (.two 2 (.two 3 (.two 4 (.pur 7 (.act 6 (.pur 8 .fin))) 6 (.act 4 (.pur 7 (.pur 8 .fin)))) 6 (.act 3 (.act 4 (.pur 7 (.pur 8 .fin))))) 6 (.act 2 (.act 3 (.act 4 (.pur 7 (.pur 8 .fin))))))))) 99 (fun w' => Blk b0 #[.slice am c.mountains.length cpm, .slice av c.villages.length cpv] 25 w') (fun _ => True) (by kernel_rfl) (by kernel_rfl) rfl (by kernel_rfl) (show Blk b0 _ 25 _ from hX2.keep rfl) (fun wd hqd _ => ?_)
        have hX := hX2.keep (show wd.heap[b0]? = _ by rw [hqd.heap])
        have hnn := hn2.qt hqd
        have hBa : Below w2.heap.size w2 wd := hqd.below _
        clear hqd
        refine mix_load2 rfl rfl rfl (.agg #[.slice am c.mountains.length cpm, .slice av c.villages.length cpv]) (fun w' h => by have h : (fun w' => Blk b0 #[.slice am c.mountains.length cpm, .slice av c.villages.length cpv] 25 w') w' := h; have h : (fun w' => Blk b0 #[.slice am c.mountains.length cpm, .slice av c.villages.length cpv] 25 w') w' := h; have h0 := h.cell 0; have h1 := h.cell 1; go_simp) rfl ?_
        refine mix_pur2 rfl (fun K hK => ?_)
        go_simp
        first | refine ⟨_, fun _ => rfl, hK _ ?_⟩ | refine hK _ ?_
        clear hK K
        refine mix_pur2 rfl (fun K hK => ?_)
        go_simp
        first | refine ⟨_, fun _ => rfl, hK _ ?_⟩ | refine hK _ ?_
        clear hK K
        refine mix_two2 rfl rfl false false rfl rfl (fun K hK => ?_) (fun K hK => ?_)
        · go_simp
          refine (newHand_c hnn).mono ?_
          rintro e wa1 ⟨rfl, hH, hBn⟩
          obtain ⟨hb, hhb⟩ : ∃ b, b = wd.heap.size := ⟨_, rfl⟩
          rw [← hhb] at hH ⊢
          have hbl : w2.heap.size ≤ hb := by rw [hhb]; exact hBa.size
          have hBa := bnw hBa hBn
          have hX := hX.call hBn
          refine hK _ _ hX ?_
          clear hK K hBn hhb
          refine mix_two2 rfl rfl false false rfl rfl (fun K hK => ?_) (fun K hK => ?_)
          · go_simp
            refine (commonsOf_c hH (by omega) 4 (by omega) (by omega)).mono ?_
            rintro e wa2 ⟨vmm, vmv, rfl, ⟨md, hM, hok⟩, ⟨k2, hk2, hH2⟩, hG⟩
            obtain ⟨mm, mmc, rfl, _, _⟩ := hM.1.shape
            obtain ⟨mv, mvc, rfl, _, _⟩ := hM.2.shape
            have hX := hX.hand hG (by omega)
            have hBa := bhand hBa hG hbl
            refine hK _ _ hX ?_
            clear hK K hG hH hH2
            refine mix_two2 rfl rfl false false rfl rfl (fun K hK => ?_) (fun K hK => ?_)
            · go_simp
              have hBn := (Below.refl wa2.heap.size wa2).alloc (Nat.le_refl _) (.cells #[.slice am c.mountains.length cpm, .slice av c.villages.length cpv, .slice mm md.mountains.length mmc, .slice mv md.villages.length mvc] 25)
              have hM := hM.call hBn
              have hBc : Blk wa2.heap.size #[.slice am c.mountains.length cpm, .slice av c.villages.length cpv, .slice mm md.mountains.length mmc, .slice mv md.villages.length mvc] 25 (wa2.alloc (.cells #[.slice am c.mountains.length cpm, .slice av c.villages.length cpv, .slice mm md.mountains.length mmc, .slice mv md.villages.length mvc] 25)) := Blk.new wa2 _ _
              obtain ⟨bc, hbc⟩ : ∃ b, b = wa2.heap.size := ⟨_, rfl⟩
              rw [← hbc] at hBc ⊢
              have hBa := bnw hBa hBn
              have hX := hX.call hBn
              generalize wa2.alloc (.cells #[.slice am c.mountains.length cpm, .slice av c.villages.length cpv, .slice mm md.mountains.length mmc, .slice mv md.villages.length mvc] 25) = wa3 at *
              refine hK _ _ hX ?_
              clear hK K hBn hbc
              refine mix_pur2 rfl (fun K hK => ?_)
              go_simp
              first | refine ⟨_, fun _ => rfl, hK _ ?_⟩ | refine hK _ ?_
              clear hK K
              refine mix_eff2 rfl false rfl (fun K hK => ?_)
              go_simp
              have hBn := (Below.refl wa3.heap.size wa3).alloc (Nat.le_refl _) (.cells #[.string (str t)] 9)
              have hM := (hM.wide (A' := fun b => b ≠ wa3.heap.size) (fun q hq hl => by omega)).call hBn
              have hBc := hBc.call hBn
              have hTx : Blk wa3.heap.size #[.string (str t)] 9 (wa3.alloc (.cells #[.string (str t)] 9)) := Blk.new wa3 _ _
              obtain ⟨bt, hbt⟩ : ∃ b, b = wa3.heap.size := ⟨_, rfl⟩
              rw [← hbt] at hTx hM ⊢
              have hbtw : w2.heap.size ≤ bt := by rw [hbt]; exact hBa.size
              have hBa := bnw hBa hBn
              have hX := hX.call hBn
              generalize wa3.alloc (.cells #[.string (str t)] 9) = wa4 at *
              refine hK _ _ hX ?_
              clear hK K hBn hbt
              refine mix_pur2 rfl (fun K hK => ?_)
              go_simp
              first | refine ⟨_, fun _ => rfl, hK _ ?_⟩ | refine hK _ ?_
              clear hK K
              refine mix_done2 ?_
              go_wp2_with fail
              go_meet
              exact ⟨bc, bt, md, mm, mv, mmc, mvc, rfl, rfl, hBc, hTx, hM, hbtw, hBa⟩
            · go_simp
              have hBn := (Below.refl wa2.heap.size wa2).alloc (Nat.le_refl _) (.cells #[.string (str t)] 9)
              have hM := (hM.wide (A' := fun b => b ≠ wa2.heap.size) (fun q hq hl => by omega)).call hBn
              have hTx : Blk wa2.heap.size #[.string (str t)] 9 (wa2.alloc (.cells #[.string (str t)] 9)) := Blk.new wa2 _ _
              obtain ⟨bt, hbt⟩ : ∃ b, b = wa2.heap.size := ⟨_, rfl⟩
              rw [← hbt] at hTx hM ⊢
              have hbtw : w2.heap.size ≤ bt := by rw [hbt]; exact hBa.size
              have hBa := bnw hBa hBn
              have hX := hX.call hBn
              generalize wa2.alloc (.cells #[.string (str t)] 9) = wa3 at *
              refine hK _ _ hX ?_
              clear hK K hBn hbt
              refine mix_eff2 rfl false rfl (fun K hK => ?_)
              go_simp
              have hBn := (Below.refl wa3.heap.size wa3).alloc (Nat.le_refl _) (.cells #[.slice am c.mountains.length cpm, .slice av c.villages.length cpv, .slice mm md.mountains.length mmc, .slice mv md.villages.length mvc] 25)
              have hTx := hTx.call hBn
              have hM := hM.call hBn
              have hBc : Blk wa3.heap.size #[.slice am c.mountains.length cpm, .slice av c.villages.length cpv, .slice mm md.mountains.length mmc, .slice mv md.villages.length mvc] 25 (wa3.alloc (.cells #[.slice am c.mountains.length cpm, .slice av c.villages.length cpv, .slice mm md.mountains.length mmc, .slice mv md.villages.length mvc] 25)) := Blk.new wa3 _ _
              obtain ⟨bc, hbc⟩ : ∃ b, b = wa3.heap.size := ⟨_, rfl⟩
              rw [← hbc] at hBc ⊢
              have hBa := bnw hBa hBn
              have hX := hX.call hBn
              generalize wa3.alloc (.cells #[.slice am c.mountains.length cpm, .slice av c.villages.length cpv, .slice mm md.mountains.length mmc, .slice mv md.villages.length mvc] 25) = wa4 at *
              refine hK _ _ hX ?_
              clear hK K hBn hbc
              refine mix_pur2 rfl (fun K hK => ?_)
              go_simp
              first | refine ⟨_, fun _ => rfl, hK _ ?_⟩ | refine hK _ ?_
              clear hK K
              refine mix_pur2 rfl (fun K hK => ?_)
              go_simp
              first | refine ⟨_, fun _ => rfl, hK _ ?_⟩ | refine hK _ ?_
              clear hK K
              refine mix_done2 ?_
              go_wp2_with fail
              go_meet
              exact ⟨bc, bt, md, mm, mv, mmc, mvc, rfl, rfl, hBc, hTx, hM, hbtw, hBa⟩
          · go_simp
            have hBn := (Below.refl wa1.heap.size wa1).alloc (Nat.le_refl _) (.cells #[.string (str t)] 9)
            have hbs := hH.lt
            have hH := hH.call hBn
            have hTx : Blk wa1.heap.size #[.string (str t)] 9 (wa1.alloc (.cells #[.string (str t)] 9)) := Blk.new wa1 _ _
            obtain ⟨bt, hbt⟩ : ∃ b, b = wa1.heap.size := ⟨_, rfl⟩
            rw [← hbt] at hTx ⊢
            have hbtw : w2.heap.size ≤ bt := by rw [hbt]; exact hBa.size
            have htne : bt ≠ hb := by omega
            have hBa := bnw hBa hBn
            have hX := hX.call hBn
            generalize wa1.alloc (.cells #[.string (str t)] 9) = wa2 at *
            refine hK _ _ hX ?_
            clear hK K hBn hbt
            refine mix_eff2 rfl false rfl (fun K hK => ?_)
            go_simp
            refine (commonsOf_c hH (by omega) 4 (by omega) (by omega)).mono ?_
            rintro e wa3 ⟨vmm, vmv, rfl, ⟨md, hM, hok⟩, ⟨k2, hk2, hH2⟩, hG⟩
            obtain ⟨mm, mmc, rfl, _, _⟩ := hM.1.shape
            obtain ⟨mv, mvc, rfl, _, _⟩ := hM.2.shape
            have hX := hX.hand hG (by omega)
            have hM := hM.wide (A' := fun b => b ≠ bt) (fun q hq _ => by have hq : wa2.heap.size ≤ q := hq; have := hTx.lt; omega)
            have hTx := hTx.hand hG htne
            have hBa := bhand hBa hG hbl
            refine hK _ _ hX ?_
            clear hK K hG hH hH2
            refine mix_eff2 rfl false rfl (fun K hK => ?_)
            go_simp
            have hBn := (Below.refl wa3.heap.size wa3).alloc (Nat.le_refl _) (.cells #[.slice am c.mountains.length cpm, .slice av c.villages.length cpv, .slice mm md.mountains.length mmc, .slice mv md.villages.length mvc] 25)
            have hTx := hTx.call hBn
            have hM := hM.call hBn
            have hBc : Blk wa3.heap.size #[.slice am c.mountains.length cpm, .slice av c.villages.length cpv, .slice mm md.mountains.length mmc, .slice mv md.villages.length mvc] 25 (wa3.alloc (.cells #[.slice am c.mountains.length cpm, .slice av c.villages.length cpv, .slice mm md.mountains.length mmc, .slice mv md.villages.length mvc] 25)) := Blk.new wa3 _ _
            obtain ⟨bc, hbc⟩ : ∃ b, b = wa3.heap.size := ⟨_, rfl⟩
            rw [← hbc] at hBc ⊢
            have hBa := bnw hBa hBn
            have hX := hX.call hBn
            generalize wa3.alloc (.cells #[.slice am c.mountains.length cpm, .slice av c.villages.length cpv, .slice mm md.mountains.length mmc, .slice mv md.villages.length mvc] 25) = wa4 at *
            refine hK _ _ hX ?_
            clear hK K hBn hbc
            refine mix_pur2 rfl (fun K hK => ?_)
            go_simp
            first | refine ⟨_, fun _ => rfl, hK _ ?_⟩ | refine hK _ ?_
            clear hK K
            refine mix_pur2 rfl (fun K hK => ?_)
            go_simp
            first | refine ⟨_, fun _ => rfl, hK _ ?_⟩ | refine hK _ ?_
            clear hK K
            refine mix_done2 ?_
            go_wp2_with fail
            go_meet
            exact ⟨bc, bt, md, mm, mv, mmc, mvc, rfl, rfl, hBc, hTx, hM, hbtw, hBa⟩
        · go_simp
          have hBn := (Below.refl wd.heap.size wd).alloc (Nat.le_refl _) (.cells #[.string (str t)] 9)
          have hnn := hnn.call hBn
          have hTx : Blk wd.heap.size #[.string (str t)] 9 (wd.alloc (.cells #[.string (str t)] 9)) := Blk.new wd _ _
          obtain ⟨bt, hbt⟩ : ∃ b, b = wd.heap.size := ⟨_, rfl⟩
          rw [← hbt] at hTx ⊢
          have hbtw : w2.heap.size ≤ bt := by rw [hbt]; exact hBa.size
          have hBa := bnw hBa hBn
          have hX := hX.call hBn
          generalize wd.alloc (.cells #[.string (str t)] 9) = wa1 at *
          refine hK _ _ hX ?_
          clear hK K hBn hbt
          refine mix_eff2 rfl false rfl (fun K hK => ?_)
          go_simp
          refine (newHand_c hnn).mono ?_
          rintro e wa2 ⟨rfl, hH, hBn⟩
          obtain ⟨hb, hhb⟩ : ∃ b, b = wa1.heap.size := ⟨_, rfl⟩
          rw [← hhb] at hH ⊢
          have hbl : w2.heap.size ≤ hb := by rw [hhb]; exact hBa.size
          have htne : bt ≠ hb := by have := hTx.lt; omega
          have hTx := hTx.call hBn
          have hBa := bnw hBa hBn
          have hX := hX.call hBn
          refine hK _ _ hX ?_
          clear hK K hBn hhb
          refine mix_eff2 rfl false rfl (fun K hK => ?_)
          go_simp
          refine (commonsOf_c hH (by omega) 4 (by omega) (by omega)).mono ?_
          rintro e wa3 ⟨vmm, vmv, rfl, ⟨md, hM, hok⟩, ⟨k2, hk2, hH2⟩, hG⟩
          obtain ⟨mm, mmc, rfl, _, _⟩ := hM.1.shape
          obtain ⟨mv, mvc, rfl, _, _⟩ := hM.2.shape
          have hX := hX.hand hG (by omega)
          have hM := hM.wide (A' := fun b => b ≠ bt) (fun q hq _ => by have hq : wa2.heap.size ≤ q := hq; have := hTx.lt; omega)
          have hTx := hTx.hand hG htne
          have hBa := bhand hBa hG hbl
          refine hK _ _ hX ?_
          clear hK K hG hH hH2
          refine mix_eff2 rfl false rfl (fun K hK => ?_)
          go_simp
          have hBn := (Below.refl wa3.heap.size wa3).alloc (Nat.le_refl _) (.cells #[.slice am c.mountains.length cpm, .slice av c.villages.length cpv, .slice mm md.mountains.length mmc, .slice mv md.villages.length mvc] 25)
          have hTx := hTx.call hBn
          have hM := hM.call hBn
          have hBc : Blk wa3.heap.size #[.slice am c.mountains.length cpm, .slice av c.villages.length cpv, .slice mm md.mountains.length mmc, .slice mv md.villages.length mvc] 25 (wa3.alloc (.cells #[.slice am c.mountains.length cpm, .slice av c.villages.length cpv, .slice mm md.mountains.length mmc, .slice mv md.villages.length mvc] 25)) := Blk.new wa3 _ _
          obtain ⟨bc, hbc⟩ : ∃ b, b = wa3.heap.size := ⟨_, rfl⟩
          rw [← hbc] at hBc ⊢
          have hBa := bnw hBa hBn
          have hX := hX.call hBn
          generalize wa3.alloc (.cells #[.slice am c.mountains.length cpm, .slice av c.villages.length cpv, .slice mm md.mountains.length mmc, .slice mv md.villages.length mvc] 25) = wa4 at *
          refine hK _ _ hX ?_
          clear hK K hBn hbc
          refine mix_pur2 rfl (fun K hK => ?_)
          go_simp
          first | refine ⟨_, fun _ => rfl, hK _ ?_⟩ | refine hK _ ?_
          clear hK K
          refine mix_pur2 rfl (fun K hK => ?_)
          go_simp
          first | refine ⟨_, fun _ => rfl, hK _ ?_⟩ | refine hK _ ?_
          clear hK K
          refine mix_done2 ?_
          go_wp2_with fail
          go_meet
          exact ⟨bc, bt, md, mm, mv, mmc, mvc, rfl, rfl, hBc, hTx, hM, hbtw, hBa⟩
      case rest =>
        obtain ⟨bc, bt, md, mm, mv, mmc, mvc, rfl, rfl, hBc, hTx, hMd, hbtw, hB3⟩ := hcut
        rename World => w3
        have hne : bc ≠ bt := fun e => by
          have h1 := hBc
          rw [e] at h1
          have h2 : some (Obj.cells #[.string (str t)] 9 (0, 0)) = some (Obj.cells #[.slice am c.mountains.length cpm, .slice av c.villages.length cpv, .slice mm md.mountains.length mmc, .slice mv md.villages.length mvc] 25 (0, 0)) := hTx.symm.trans h1
          injection h2 with h2
          injection h2 with _ h2
          exact absurd h2 (by decide)
        have hbcl := hBc.lt
        have hO3 : Own w2.heap.size w3 9 1 (.slice (some ⟨bt, 0, none⟩) 1 1) 1 (SL [t]) := ⟨rfl, .inr ⟨bt, 1, #[.string (str t)], rfl, hbtw, hTx, Nat.le_refl _, by unfold maxLen; omega, rfl, rfl⟩⟩
        have hK3 : KP w2 w3 bt (.slice (some ⟨bt, 0, none⟩) 1 1) w3 := ⟨fun _ _ _ => rfl, Nat.le_refl _, hB3, fun g hg => .inl (Option.some.inj hg).symm⟩
        have hrow : ∀ i (hi : i < 2), ∃ (cc : Com) (ma va : Option Addr) (mc vc : Nat), w3.cell? ⟨bc, i * 2, none⟩ = some (.slice ma cc.mountains.length mc) ∧ w3.cell? ⟨bc, i * 2 + 1, none⟩ = some (.slice va cc.villages.length vc) ∧ (∀ v w', KP w2 w3 bt v w' → Cm (fun _ => True) w' (.slice ma cc.mountains.length mc) (.slice va cc.villages.length vc) cc) ∧ [txC c, txC md][i]'hi = txC cc := by
          intro i hi
          rcases (show i = 0 ∨ i = 1 by omega) with rfl | rfl
          · exact ⟨c, am, av, cpm, cpv, hBc.cell 0, hBc.cell 1, fun v w' h => (hc2.call h.bel).wide (fun _ _ _ => trivial), rfl⟩
          · exact ⟨md, mm, mv, mmc, mvc, hBc.cell 2, hBc.cell 3, fun v w' h => (hMd.step h.size (fun q hq hl => h.keep q hl hq)).wide (fun _ _ _ => trivial), rfl⟩
        have HROW := Lib.hid hrow
        obtain ⟨tc, htc⟩ : ∃ x, x = txC c := ⟨_, rfl⟩
        obtain ⟨tm, htm⟩ : ∃ x, x = txC md := ⟨_, rfl⟩
        have ltc : tc.length ≤ 3000 := by rw [htc]; exact txC_len c
        have ltm : tm.length ≤ 3000 := by rw [htm]; exact txC_len md
        have HTS := Lib.hid (And.intro htc htm)
        clear hrow htc htm hBc hTx hMd
        go_wp2_with fail
        go_loopw [14, 15] (fun vt vi wr => ∃ i : Nat, i ≤ 2 ∧ vi = .int .i64 i ∧ Own w2.heap.size wr 9 1 vt (i + 1) (SL (t :: [tc, tm].take i)) ∧ KP w2 w3 bt vt wr) (fun _ vi _ => 2 - (intOf vi).toNat)
        case atStart => exact ⟨0, Nat.zero_le _, rfl, hO3, hK3⟩
        case round =>
          obtain ⟨i, hi, rfl, hO, hK⟩ := hrel
          have hwz : w2.heap.size ≤ wr.heap.size := hK.bel.size
          obtain ⟨ao, co, rfl⟩ := own_slice hO
          by_cases hi2 : i < 2
          · obtain ⟨cc, ma, va, mc, vc, e0, e1, hCM, hts⟩ := HROW.out i hi2
            have hti : [tc, tm][i]'hi2 = txC cc := by rw [← hts]; congr 1; rw [HTS.out.1, HTS.out.2]
            obtain ⟨X, hXd⟩ : ∃ x, x = txC cc := ⟨_, rfl⟩
            obtain ⟨E, hEd⟩ : ∃ x, x = checkE cc := ⟨_, rfl⟩
            have hwa := wa_c (hCM _ wr hK)
            rw [← hXd, ← hEd] at hwa
            have HWA := Lib.hid hwa
            have hwb : ∀ v w', KP w2 w3 bt v w' → Calls Tryz.prog 10 #[.agg #[.slice ma cc.mountains.length mc, .slice va cc.villages.length vc]] w' fun e w'' => e = .returned (.tuple #[.string (str X), .int .i64 E]) ∧ Below w'.heap.size w' w'' := fun v w' h => by
              have := wb_c (hCM v w' h)
              rw [← hXd, ← hEd] at this
              exact this
            have HWB := Lib.hid hwb
            have hXl : X.length ≤ 3000 := by rw [hXd]; exact txC_len cc
            have HTI := Lib.hid (show [tc, tm][i]'hi2 = X by rw [hti, hXd])
            clear hwa hwb hXd hEd hti hts
            have k0 := (World.cell?_of_block (hK.keep bc hbcl hne)).trans e0
            have k1 := (World.cell?_of_block (hK.keep bc hbcl hne)).trans e1
            go_wp2_with fail
            refine HWA.out.mono ?_
            rintro e w5 ⟨rfl, hB5⟩
            have hK5 := hK.call hB5
            clear k0 k1
            have k0 := (World.cell?_of_block (hK5.keep bc hbcl hne)).trans e0
            have k1 := (World.cell?_of_block (hK5.keep bc hbcl hne)).trans e1
            go_wp2_with fail
            refine (HWB.out _ w5 hK5).mono ?_
            rintro e w6 ⟨rfl, hB6⟩
            have hK6 := hK5.call hB6
            have hO6 := (hO.call hB5).call hB6
            have hz6 : w2.heap.size ≤ w6.heap.size := hK6.bel.size
            clear k0 k1 e0 e1 hK hK5 hO hB5 hB6
            have hA7 := (Below.refl w6.heap.size w6).alloc (Nat.le_refl _) (.cells #[.string (str X)] 9)
            have hO7 := hO6.alloc (.cells #[.string (str X)] 9)
            have hK7 := hK6.call hA7
            have hXt : (str X).toList = X := ByteArray.toList_mk X
            have hXX : (X == X) = true := by simp
            have hEE : (E != E) = false := by simp
            go_wp2_with (at_builtin; go_loud (refine wpList_append_arr rfl _ _ 32 rfl 9 (.string ⟨#[]⟩) 1 16 Tryz.underlying32 Tryz.info9 rfl (by decide) (by decide) (by simp; omega) hO7 rfl (arr_one w6 9 (.string (str X))) rfl rfl (one_str _) (by omega) ?_); intro v9 w9 hown hT9)
            have hK9 := hK7.turn hO7 hT9
            go_roundw
            case rel =>
              refine ⟨i + 1, by omega, by go_num, ?_, hK9⟩
              rw [List.take_succ_eq_append_getElem (show i < [tc, tm].length from hi2), HTI.out, ← List.cons_append, SL_append]
              exact hown
            case measure => simp [intOf]; omega
          · obtain rfl : i = 2 := by omega
            have hO4 : Own w2.heap.size wr 9 1 (.slice ao 3 co) 3 (SL [t, tc, tm]) := hO
            obtain ⟨g, cap, hgv, hgw, hcap, hSg⟩ := own_words hO4 (by simp)
            have hgv : ao = some ⟨g, 0, none⟩ := by injection hgv
            subst hgv
            have d2 : wr.cell? ⟨g, 2, none⟩ = some (.string (str tm)) := hSg.2 2 (show 2 < [t, tc, tm].length from by simp)
            have hBl := blot_r tm (by omega) ax hx ha hh by8 wr
            have HBL := Lib.hid hBl
            clear hBl hO
            go_wp2_with fail
            refine HBL.out.mono ?_
            rintro e w5 ⟨⟨r, rfl, hrl⟩, hB5⟩
            have hO5 := (hO4.call hB5).alloc (.cells #[.string (str r)] 9)
            have hA5 := (Below.refl w5.heap.size w5).alloc (Nat.le_refl _) (.cells #[.string (str r)] 9)
            have hK5 := (hK.call hB5).call hA5
            have hz5 : w2.heap.size ≤ w5.heap.size := by have := hB5.size; omega
            clear d2
            go_upto_region 13 with (at_builtin; go_loud (refine wpList_append_arr rfl _ _ 32 rfl 9 (.string ⟨#[]⟩) 1 16 Tryz.underlying32 Tryz.info9 rfl (by decide) (by decide) (by simp; omega) hO5 rfl (arr_one w5 9 (.string (str r))) rfl rfl (one_str _) (by omega) ?_); intro v9 w9 hown hT9)
            have hK9 := hK5.turn hO5 hT9
            have hO9 : Own w2.heap.size w9 9 1 v9 4 (SL [t, tc, tm, r]) := hown
            obtain ⟨g9, cap9, hv9, hg9w, hcap9, hS9⟩ := own_words hO9 (by simp)
            have hv9 : v9 = .slice (some ⟨g9, 0, none⟩) 4 cap9 := hv9
            subst hv9
            have hB9 := bnw hBw2 hK9.bel
            have hlen4 : ∀ x ∈ [t, tc, tm, r], x.length ≤ 9000000000000000000 := fun x hx => by
              simp only [List.mem_cons, List.not_mem_nil, or_false] at hx
              rcases hx with rfl | rfl | rfl | rfl <;> omega
            obtain ⟨W4, hW4⟩ : ∃ W, W = [t, tc, tm, r] := ⟨_, rfl⟩
            rw [← hW4] at hS9 hlen4
            have hW4l : W4.length ≤ 4 ∧ 4 ≤ W4.length := by rw [hW4]; exact ⟨Nat.le_refl _, Nat.le_refl _⟩
            have hE9 := hE.call h3 hB9
            have hM9 := hM.call h3 hB9
            have h39 : 3 ≤ w9.heap.size := by have := hB9.size; omega
            clear hW4 hO9 hown hT9 hO5 hK5 hK9 hA5 hK hO4 hSg HBL
            go_wp2_with fail
            go_loopw [20] (fun vi wr => ∃ i : Nat, i ≤ 4 ∧ vi = .int .i64 i ∧ Below w9.heap.size w9 wr) (fun vi _ => 4 - (intOf vi).toNat)
            case atStart => exact ⟨0, Nat.zero_le _, rfl, Below.refl _ _⟩
            case round =>
              obtain ⟨i, hi, rfl, hB⟩ := hrel
              have hBx := bnw hB9 hB
              by_cases hi4 : i < 4
              · have hiw : i < W4.length := by omega
                obtain ⟨x, hxd⟩ : ∃ x, x = W4[i] := ⟨_, rfl⟩
                have hxl := hlen4 x (by rw [hxd]; exact List.getElem_mem _)
                have hSr := hS9.call hB
                have d0 := hSr.2 i hiw
                rw [Nat.zero_add, ← hxd] at d0
                have HXD := Lib.hid hxd
                clear hxd
                have hEr := hE9.call h39 hB
                have hMr := hM9.call h39 hB
                have h3r : 3 ≤ wr.heap.size := by have := hB.size; omega
                obtain ⟨Y, hY⟩ : ∃ y, y = (readR x).1 := ⟨_, rfl⟩
                obtain ⟨L, hL⟩ : ∃ y, y = (readR x).2.1 := ⟨_, rfl⟩
                obtain ⟨E, hEE⟩ : ∃ y, y = (readR x).2.2 := ⟨_, rfl⟩
                have hra := read_c x hxl wr hEr hMr h3r
                have hrb : ∀ w', Calls Tryz.prog 13 #[.string (str x)] w' fun e w'' => ∃ vm vv, e = .returned (.tuple #[.agg #[vm, vv], .int .i64 L, .int .i64 E]) ∧ Cm (fun q => w'.heap.size ≤ q) w'' vm vv Y ∧ Below w'.heap.size w' w'' := fun w' => by
                  have := read_r x hxl w'
                  rw [← hY, ← hL, ← hEE] at this
                  exact this
                rw [← hY, ← hL, ← hEE] at hra
                have HRA := Lib.hid hra
                have HRB := Lib.hid hrb
                clear hra hrb hY hL hEE
                go_wp2_with fail
                refine HRA.out.mono ?_
                rintro e w5 ⟨vm5, vv5, rfl, hC5, hB5⟩
                obtain ⟨am5, cm5, rfl, _, _⟩ := hC5.1.shape
                obtain ⟨av5, cv5, rfl, _, _⟩ := hC5.2.shape
                go_upto_region 17 with fail
                obtain ⟨w6, hw6⟩ : ∃ w6, w6 = w5.alloc (.cells #[.slice am5 Y.mountains.length cm5, .slice av5 Y.villages.length cv5] 25) := ⟨_, rfl⟩
                obtain ⟨b8, hb8⟩ : ∃ b, b = w5.heap.size := ⟨_, rfl⟩
                have hX6 : Blk b8 #[.slice am5 Y.mountains.length cm5, .slice av5 Y.villages.length cv5] 25 w6 := by rw [hw6, hb8]; exact Blk.new _ _ _
                have hA6 : Below w5.heap.size w5 w6 := by rw [hw6]; exact (Below.refl _ w5).alloc (Nat.le_refl _) _
                have hB6 := bnw hB5 hA6
                have hC6 := hC5.call hA6
                rw [← hw6, ← hb8]
                clear hw6 hb8 hA6 hC5 hB5 d0
                have d0 := (hSr.call hB6).2 i hiw
                rw [Nat.zero_add, ← HXD.out] at d0
                go_wp2_with fail
                refine (HRB.out w6).mono ?_
                rintro e w7 ⟨vm7, vv7, rfl, hC7, hB7⟩
                obtain ⟨am7, cm7, rfl, _, _⟩ := hC7.1.shape
                obtain ⟨av7, cv7, rfl, _, _⟩ := hC7.2.shape
                go_upto_region 18 with fail
                obtain ⟨w8, hw8⟩ : ∃ w8, w8 = w7.alloc (.cells #[.slice am7 Y.mountains.length cm7, .slice av7 Y.villages.length cv7] 25) := ⟨_, rfl⟩
                obtain ⟨b9, hb9⟩ : ∃ b, b = w7.heap.size := ⟨_, rfl⟩
                have hX8 : Blk b9 #[.slice am7 Y.mountains.length cm7, .slice av7 Y.villages.length cv7] 25 w8 := by rw [hw8, hb9]; exact Blk.new _ _ _
                have hA8 : Below w7.heap.size w7 w8 := by rw [hw8]; exact (Below.refl _ w7).alloc (Nat.le_refl _) _
                have hB8 := bnw hB7 hA8
                have hC8 := hC7.call hA8
                have hX68 := hX6.call hB8
                have hC68 := hC6.call hB8
                rw [← hw8, ← hb9]
                clear hw8 hb9 hA8 hC7 hB7 d0 hX6 hC6
                have hLL : (L != L) = false := by simp
                have hEE : (E != E) = false := by simp
                have c0 := hX68.cell 0
                have c1 := hX68.cell 1
                have d0 := hX8.cell 0
                have d1 := hX8.cell 1
                go_wp2_with fail
                refine (sameCommons_c hC68 hC8).mono ?_
                rintro e wz ⟨rfl, hBz⟩
                have hcc : decide (Y = Y) = true := by simp
                rw [hcc]
                clear c0 c1 d0 d1
                go_wp2_with fail
                go_roundw
                case rel => exact ⟨i + 1, by omega, by go_num, bnw hB (bnw hB6 (bnw hB8 hBz))⟩
                case measure => simp [intOf]; omega
              · obtain rfl : i = 4 := by omega
                go_wp2_with fail
                refine (drawn_c _).mono ?_
                rintro e wz ⟨rfl, hBz⟩
                go_wp2_with fail
                go_ret
                exact ⟨rfl, bnw hBx hBz⟩

end Go.Proofs.YtmlikgjfpmjdcaaGreatDoor
