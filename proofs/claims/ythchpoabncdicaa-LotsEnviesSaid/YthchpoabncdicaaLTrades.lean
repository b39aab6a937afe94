/- The walk of LotsTrades: it hands back true, whatever the arguments; conditions: they read as commons, lists and numbers. -/
import Derived.Test.YthchpoabncdicaaRT3
import Derived.Test.YthchpoabncdicaaShort
import Derived.Test.YthchpoabncdicaaLSwaps
import Derived.Test.YthchpoabncdicaaLate1
namespace Go.Proofs.Ythchpoabncdicaa
open Go.RowKit

/-- What a round over the commons and the divisions reads. -/
def TrS (b1 o1 : Nat) (vm vv : Value) (b2 o2 : Nat) (vd : Value) (w : World) : Prop := w.cell? ⟨b1, o1, none⟩ = some vm ∧ w.cell? ⟨b1, o1 + 1, none⟩ = some vv ∧ w.cell? ⟨b2, o2, none⟩ = some vd
theorem TrS.drew {b1 o1 : Nat} {vm vv : Value} {b2 o2 : Nat} {vd : Value} {w : World} (h : TrS b1 o1 vm vv b2 o2 vd w) : TrS b1 o1 vm vv b2 o2 vd w.drew := h
def TrX (b1 o1 : Nat) (vm vv : Value) (b2 o2 : Nat) (vd : Value) (X : Nat) (mx vx : Value) (w : World) : Prop := TrS b1 o1 vm vv b2 o2 vd w ∧ Blk X #[mx, vx] 25 w
theorem TrX.drew {b1 o1 : Nat} {vm vv : Value} {b2 o2 : Nat} {vd : Value} {X : Nat} {mx vx : Value} {w : World} (h : TrX b1 o1 vm vv b2 o2 vd X mx vx w) : TrX b1 o1 vm vv b2 o2 vd X mx vx w.drew := h
theorem sameCommons_t {A A' : Nat → Prop} {w : World} {vm1 vv1 vm2 vv2 : Value} {c : Com} (h1 : Cm A w vm1 vv1 c) (h2 : Cm A' w vm2 vv2 c) :
    Calls Try.prog 34 #[.agg #[vm1, vv1], .agg #[vm2, vv2]] w fun e w' => e = .returned (.bool true) ∧ Below w.heap.size w w' :=
  (sameCommons_c h1 h2).mono fun e w' ⟨he, hB⟩ => ⟨by rw [he]; simp, hB⟩

set_option maxRecDepth 100000 in
set_option maxHeartbeats 8000000 in
theorem lotsTrades_c {A A1 A2 : Nat → Prop} {w : World} {vm vv vd vn : Value} {c : Com} {dv nums : List Int} (hc : Cm A w vm vv c) (hd : Ints A1 w vd dv) (hn : Ints A2 w vn nums) (x y : Int) (hx : -9223372036854775808 ≤ x ∧ x ≤ 9223372036854775807) :
    Calls Try.prog 3 #[.agg #[vm, vv], vd, .int .i64 x, .int .i64 y, vn] w fun e w' => e = .returned (.bool true) ∧ Below w.heap.size w w' := by
  obtain ⟨am, cpm, rfl, _, _⟩ := hc.1.shape
  obtain ⟨av, cpv, rfl, _, _⟩ := hc.2.shape
  obtain ⟨ad, cpd, rfl, _, _⟩ := hd.shape
  have ndl := hd.len
  have hB0 : Below w.heap.size w (w.alloc (.cells #[.slice am c.mountains.length cpm, .slice av c.villages.length cpv] 25)) := (Below.refl _ w).alloc (Nat.le_refl _) _
  have hbx : Blk w.heap.size #[.slice am c.mountains.length cpm, .slice av c.villages.length cpv] 25 (w.alloc (.cells #[.slice am c.mountains.length cpm, .slice av c.villages.length cpv] 25)) := Blk.new w _ _
  have hc0 := hc.call hB0
  have hd0 := hd.call hB0
  have hn0 := hn.call hB0
  go_enter Try.func3, Try.ntmps3
  go_wp2_with fail
  refine (short_c hc0).mono ?_
  rintro e w1 ⟨b, rfl, hb, hB1⟩
  have hc1 := hc0.call hB1
  have hd1 := hd0.call hB1
  have hn1 := hn0.call hB1
  have hbx1 := hbx.call hB1
  have hT1 := bnx hB0 hB1
  clear hc0 hd0 hn0 hbx hB0 hB1
  cases b with
  | false =>
    clear hb
    go_wp2_with (go_at_call 21; refine (drawn_c _).mono ?_; rintro e wz ⟨rfl, hBz⟩)
    go_ret
    exact ⟨rfl, bnx hT1 hBz⟩
  | true =>
    have hsh := hb rfl
    clear hb
    by_cases hdl : dv.length ≤ 20
    · have b1 : decide ((dv.length : Int) > 20) = false := decide_eq_false (by omega)
      go_wp2_with fail
      clear b1
      refine (newHand_c hn1).mono ?_
      rintro e w2 ⟨rfl, hH, hB2⟩
      have hs2 := hH.lt
      have hl1 := hbx1.lt
      clear hn1
      go_wp2_with fail
      refine (commonsOf_c hH (by omega) 4 (by omega) (by omega)).mono ?_
      rintro e w3 ⟨vmm, vmv, rfl, ⟨md, hM, hok⟩, ⟨k2, hk2, hH⟩, hG⟩
      have hs3 := hG.size
      have hT3 : Below w1.heap.size w1 w3 := hB2.grown hG (by omega) (fun k e => by injection e with e; omega)
      clear hG hB2
      obtain ⟨mm, mmc, rfl, _, _⟩ := hM.1.shape
      obtain ⟨mv, mvc, rfl, _, _⟩ := hM.2.shape
      have hml4 : md.mountains.length ≤ 4 := hok.n2
      have hml1 : 1 ≤ md.mountains.length := hok.n1
      have hH := hH.call ((Below.refl w3.heap.size w3).alloc (Nat.le_refl _) (.cells #[.slice mm md.mountains.length mmc, .slice mv md.villages.length mvc] 25))
      have hbm : Blk w3.heap.size #[.slice mm md.mountains.length mmc, .slice mv md.villages.length mvc] 25 (w3.alloc (.cells #[.slice mm md.mountains.length mmc, .slice mv md.villages.length mvc] 25)) := Blk.new w3 _ _
      have hM := hM.alloc (.cells #[.slice mm md.mountains.length mmc, .slice mv md.villages.length mvc] 25)
      have hT := hT3.alloc (by omega) (.cells #[.slice mm md.mountains.length mmc, .slice mv md.villages.length mvc] 25)
      have hsm : (w3.alloc (.cells #[.slice mm md.mountains.length mmc, .slice mv md.villages.length mvc] 25)).heap.size = w3.heap.size + 1 := by simp
      have c0 := hbm.cell 0
      go_wp2_with fail
      clear c0
      refine (row_c hH md.mountains.length (by omega) (by omega)).mono ?_
      rintro e w4 ⟨⟨vo, rfl, own, ho4, hpo⟩, -, hG4⟩
      have hM4 := hM.hand hG4 hs2
      have hbm4 := hbm.hand hG4 (by omega)
      have hT4 : Below w1.heap.size w1 w4 := hT.grown hG4 (by omega) (fun k e => by injection e with e; omega)
      have hs4 := hG4.size
      have hol := hpo.len
      clear hM hbm hT hH hG4 hT3
      go_wp2_with fail
      refine (copyInts_own ho4 (by omega)).mono ?_
      rintro e w5 ⟨vc5, rfl, hown, hB5⟩
      have hw1l : w1.heap.size ≤ w4.heap.size := hT4.size
      have hM4 := hM4.wide (A' := fun b => b < w4.heap.size) (fun _ _ hl => hl)
      have ho4 := ho4.wide (A' := fun b => b < w4.heap.size) (fun _ _ hl => hl)
      have hM5 := hM4.call hB5
      have hbm5 := hbm4.call hB5
      have hT5 := bnx hT4 hB5
      have ho5 := ho4.call hB5
      have hs5 := hB5.size
      clear hM4 hbm4 hT4 ho4 hB5
      obtain ⟨g, cap, rfl, hg1, hg2⟩ := own_shape hown (by omega)
      obtain ⟨ao, co, rfl, _, _⟩ := ho5.shape
      have hol1 : 1 ≤ own.length := by omega
      have hol4 : own.length ≤ 4 := by omega
      have HPO := Lib.hid hpo
      clear hpo hol
      go_wp2_with fail
      refine (wrap_c x hx own.length hol1 (by omega) w5).mono ?_
      rintro e w6 ⟨⟨k, hk, rfl⟩, rfl⟩
      have q1 := own_cell hown k hk
      have f1 := own_free hown k
      have hown2 := own_set hown k y
      have hoth : ∀ b, b ≠ g → (w6.setCell ⟨g, k, none⟩ (.int .i64 y)).heap[b]? = w6.heap[b]? := fun b hb => Below.heap_setCell _ _ _ _ (show b ≠ g from hb)
      have hB67 : Below w4.heap.size w6 (w6.setCell ⟨g, k, none⟩ (.int .i64 y)) := (Below.refl _ _).setCell hg1 _
      have hM7 : Cm (fun _ => True) (w6.setCell ⟨g, k, none⟩ (.int .i64 y)) (.slice mm md.mountains.length mmc) (.slice mv md.villages.length mvc) md := (hM5.step (by simp [World.setCell]) (fun b hb hl => hoth b (fun e => by omega))).wide (fun _ _ _ => trivial)
      have ho7 : Ints (fun _ => True) (w6.setCell ⟨g, k, none⟩ (.int .i64 y)) (.slice ao own.length co) own := (ho5.step (by simp [World.setCell]) (fun b hb hl => hoth b (fun e => by omega))).wide (fun _ _ _ => trivial)
      have hbm7 : Blk w3.heap.size #[.slice mm md.mountains.length mmc, .slice mv md.villages.length mvc] 25 (w6.setCell ⟨g, k, none⟩ (.int .i64 y)) := hbm5.other (a := ⟨g, k, none⟩) (by show w3.heap.size ≠ g; omega) _
      have hT7 : Below w1.heap.size w1 (w6.setCell ⟨g, k, none⟩ (.int .i64 y)) := hT5.setCell (show w1.heap.size ≤ g by omega) _
      have hsn : (own.set k y).length = own.length := by simp
      have hu7 : Ints (fun _ => True) (w6.setCell ⟨g, k, none⟩ (.int .i64 y)) (.slice (some ⟨g, 0, none⟩) own.length cap) (own.set k y) := (Own.intsN hown2 hsn).wide fun _ _ _ => trivial
      go_upto_region 8 with fail
      generalize w6.setCell ⟨g, k, none⟩ (.int .i64 y) = w7 at *
      clear q1 f1 hown hown2 hoth hB67 hM5 hbm5 hT5 ho5
      have hc7 := hc1.call hT7
      have hd7 := hd1.call hT7
      have hbx7 := hbx1.call hT7
      have hws7 := hT7.size
      obtain ⟨bc, hbc⟩ : ∃ bc, bc = w7.heap.size := ⟨_, rfl⟩
      have hBc : Blk bc #[.slice am c.mountains.length cpm, .slice av c.villages.length cpv, .slice mm md.mountains.length mmc, .slice mv md.villages.length mvc, .slice mm md.mountains.length mmc, .slice mv md.villages.length mvc, .slice mm md.mountains.length mmc, .slice mv md.villages.length mvc] 25 ((w7.alloc (.cells #[.slice am c.mountains.length cpm, .slice av c.villages.length cpv, .slice mm md.mountains.length mmc, .slice mv md.villages.length mvc, .slice mm md.mountains.length mmc, .slice mv md.villages.length mvc, .slice mm md.mountains.length mmc, .slice mv md.villages.length mvc] 25)).alloc (.cells #[.slice ad dv.length cpd, .slice ao own.length co, .slice (some ⟨g, 0, none⟩) own.length cap, .slice ad dv.length cpd] 22)) := by rw [hbc]; exact (Blk.new w7 _ _).keep (Below.heap_alloc _ _ _ (by simp))
      have hBd : Blk (bc + 1) #[.slice ad dv.length cpd, .slice ao own.length co, .slice (some ⟨g, 0, none⟩) own.length cap, .slice ad dv.length cpd] 22 ((w7.alloc (.cells #[.slice am c.mountains.length cpm, .slice av c.villages.length cpv, .slice mm md.mountains.length mmc, .slice mv md.villages.length mvc, .slice mm md.mountains.length mmc, .slice mv md.villages.length mvc, .slice mm md.mountains.length mmc, .slice mv md.villages.length mvc] 25)).alloc (.cells #[.slice ad dv.length cpd, .slice ao own.length co, .slice (some ⟨g, 0, none⟩) own.length cap, .slice ad dv.length cpd] 22)) := by
        have := Blk.new (w7.alloc (.cells #[.slice am c.mountains.length cpm, .slice av c.villages.length cpv, .slice mm md.mountains.length mmc, .slice mv md.villages.length mvc, .slice mm md.mountains.length mmc, .slice mv md.villages.length mvc, .slice mm md.mountains.length mmc, .slice mv md.villages.length mvc] 25)) #[.slice ad dv.length cpd, .slice ao own.length co, .slice (some ⟨g, 0, none⟩) own.length cap, .slice ad dv.length cpd] 22
        rw [World.size_alloc] at this
        rw [hbc]; exact this
      have hB78 : Below w7.heap.size w7 ((w7.alloc (.cells #[.slice am c.mountains.length cpm, .slice av c.villages.length cpv, .slice mm md.mountains.length mmc, .slice mv md.villages.length mvc, .slice mm md.mountains.length mmc, .slice mv md.villages.length mvc, .slice mm md.mountains.length mmc, .slice mv md.villages.length mvc] 25)).alloc (.cells #[.slice ad dv.length cpd, .slice ao own.length co, .slice (some ⟨g, 0, none⟩) own.length cap, .slice ad dv.length cpd] 22)) := ((Below.refl _ w7).alloc (Nat.le_refl _) _).alloc (by simp) _
      have e0 := hbx7.cell 0
      have e1 := hbx7.cell 1
      have e2 := hbm7.cell 0
      have e3 := hbm7.cell 1
      go_upto_region 9 with fail
      generalize (w7.alloc (.cells #[.slice am c.mountains.length cpm, .slice av c.villages.length cpv, .slice mm md.mountains.length mmc, .slice mv md.villages.length mvc, .slice mm md.mountains.length mmc, .slice mv md.villages.length mvc, .slice mm md.mountains.length mmc, .slice mv md.villages.length mvc] 25)).alloc (.cells #[.slice ad dv.length cpd, .slice ao own.length co, .slice (some ⟨g, 0, none⟩) own.length cap, .slice ad dv.length cpd] 22) = w8 at *
      rw [← hbc]
      have hc8 := hc7.call hB78
      have hd8 := hd7.call hB78
      have hM8 := hM7.call hB78
      have ho8 := ho7.call hB78
      have hu8 := hu7.call hB78
      have hT8 := hT7.trans (hB78.mono hws7)
      have hcl := hBc.lt
      have hdl8 := hBd.lt
      obtain ⟨bd, hbd⟩ : ∃ bd, bd = bc + 1 := ⟨_, rfl⟩
      rw [← hbd] at hBd hdl8 ⊢
      have hrow : ∀ i, i < 4 → ∃ (cc : Com) (dd : List Int) (ma va da : Option Addr) (mc vc dc : Nat), TrS bc (i * 2) (.slice ma cc.mountains.length mc) (.slice va cc.villages.length vc) bd i (.slice da dd.length dc) w8 ∧ Cm (fun _ => True) w8 (.slice ma cc.mountains.length mc) (.slice va cc.villages.length vc) cc ∧ cc.Sm ∧ Ints (fun _ => True) w8 (.slice da dd.length dc) dd ∧ dd.length ≤ 1000 := by
        intro i hi
        have hi4 : i = 0 ∨ i = 1 ∨ i = 2 ∨ i = 3 := by omega
        rcases hi4 with rfl | rfl | rfl | rfl
        · exact ⟨c, dv, am, av, ad, cpm, cpv, cpd, ⟨hBc.cell 0, hBc.cell 1, hBd.cell 0⟩, hc8.wide (fun _ _ _ => trivial), hsh.sm, hd8.wide (fun _ _ _ => trivial), by omega⟩
        · exact ⟨md, own, mm, mv, ao, mmc, mvc, co, ⟨hBc.cell 2, hBc.cell 3, hBd.cell 1⟩, hM8, hok.sm (by omega), ho8, by omega⟩
        · exact ⟨md, own.set k y, mm, mv, some ⟨g, 0, none⟩, mmc, mvc, cap, ⟨hBc.cell 4, hBc.cell 5, by rw [hsn]; exact hBd.cell 2⟩, hM8, hok.sm (by omega), by rw [hsn]; exact hu8, by omega⟩
        · exact ⟨md, dv, mm, mv, ad, mmc, mvc, cpd, ⟨hBc.cell 6, hBc.cell 7, hBd.cell 3⟩, hM8, hok.sm (by omega), hd8.wide (fun _ _ _ => trivial), by omega⟩
      have HROW := Lib.hid hrow
      clear hrow hbc hbd e0 e1 e2 e3 hBc hBd hc7 hd7 hbx7 hc8 hd8 hM8 ho8 hu8 hM7 ho7 hu7 hbm7 hB78 hT7 hsn hsm
      go_wp2_with fail
      go_loopw [17] (fun s wr => ∃ i : Nat, i ≤ 4 ∧ s = .int .i64 i ∧ Below w8.heap.size w8 wr) (fun s _ => 4 - (intOf s).toNat)
      case atStart => exact ⟨0, Nat.zero_le _, rfl, Below.refl _ _⟩
      case round =>
        obtain ⟨i, hi, rfl, hB⟩ := hrel
        by_cases hi4 : i < 4
        · obtain ⟨cc, dd, ma, va, da, mc, vc, dc, hS8, hC8, hSm, hD8, hdd⟩ := HROW.out i hi4
          have hE : ∀ w', Below w8.heap.size w8 w' → (TrS bc (i * 2) (.slice ma cc.mountains.length mc) (.slice va cc.villages.length vc) bd i (.slice da dd.length dc)) w' := fun w' h => ⟨(World.cell?_of_block (h.block bc hcl)).trans hS8.1, (World.cell?_of_block (h.block bc hcl)).trans hS8.2.1, (World.cell?_of_block (h.block bd hdl8)).trans hS8.2.2⟩
          clear hS8
          go_upto_region 12 with fail
          go_cut [18, 19] (fun s18 s19 wx => ∃ (X : Nat) (amx avx adx : Option Addr) (cmx cvx cdx : Nat), s18 = .pointer (some ⟨X, 0, none⟩) ∧ s19 = (.slice adx dd.length cdx) ∧ Blk X #[(.slice amx cc.mountains.length cmx), (.slice avx cc.villages.length cvx)] 25 wx ∧ Cm (fun _ => True) wx (.slice amx cc.mountains.length cmx) (.slice avx cc.villages.length cvx) cc ∧ Ints (fun _ => True) wx (.slice adx dd.length cdx) dd ∧ Below w8.heap.size w8 wx)
          case first =>
            refine wp_region_mix2 (.pur 0 (.pur 1 (.pur 2 (.one 3 (.pur 5 (.pur 6 (.pur 7 (.one 8 (.two 4 (.two 9 (.act 10 (.act 11 (.act 12 .fin))) 10 (.act 9 (.act 11 (.act 12 .fin)))) 10 (.act 4 (.act 9 (.act 11 (.act 12 .fin))))))))))))) 99 (TrS bc (i * 2) (.slice ma cc.mountains.length mc) (.slice va cc.villages.length vc) bd i (.slice da dd.length dc)) (fun _ => True) (by kernel_rfl) (by kernel_rfl) rfl (by kernel_rfl) (hE _ hB).drew (fun wd hqd _ => ?_)
            have hBq := hB.trans (hqd.below _)
            refine mix_pur2 rfl (fun K hK => ?_)
            go_simp
            first | refine ⟨_, fun _ => rfl, hK _ ?_⟩ | refine hK _ ?_
            clear hK K
            refine mix_pur2 rfl (fun K hK => ?_)
            go_simp
            first | refine ⟨_, fun _ => rfl, hK _ ?_⟩ | refine hK _ ?_
            clear hK K
            refine mix_pur2 rfl (fun K hK => ?_)
            go_simp
            first | refine ⟨_, fun _ => rfl, hK _ ?_⟩ | refine hK _ ?_
            clear hK K
            refine mix_loadg2 rfl rfl (.agg #[(.slice ma cc.mountains.length mc), (.slice va cc.villages.length vc)]) (by go_simp) (fun w' h => by have h : (TrS bc (i * 2) (.slice ma cc.mountains.length mc) (.slice va cc.villages.length vc) bd i (.slice da dd.length dc)) w' := h; have h0 := h.1; have h1 := h.2.1; go_simp) rfl ?_
            refine mix_pur2 rfl (fun K hK => ?_)
            go_simp
            first | refine ⟨_, fun _ => rfl, hK _ ?_⟩ | refine hK _ ?_
            clear hK K
            refine mix_pur2 rfl (fun K hK => ?_)
            go_simp
            first | refine ⟨_, fun _ => rfl, hK _ ?_⟩ | refine hK _ ?_
            clear hK K
            refine mix_pur2 rfl (fun K hK => ?_)
            go_simp
            first | refine ⟨_, fun _ => rfl, hK _ ?_⟩ | refine hK _ ?_
            clear hK K
            refine mix_loadg2 rfl rfl (.slice da dd.length dc) (by go_simp) (fun w' h => by have h : (TrS bc (i * 2) (.slice ma cc.mountains.length mc) (.slice va cc.villages.length vc) bd i (.slice da dd.length dc)) w' := h; have h0 := h.2.2; go_simp) rfl ?_
            refine mix_two2 rfl rfl false false rfl rfl (fun K hK => ?_) (fun K hK => ?_)
            · go_simp
              refine (copyCommons_c (hC8.call hBq) hSm).mono ?_
              rintro e wq0 ⟨mx, vx, rfl, hX, hBn⟩
              obtain ⟨amx, cmx, rfl, _, _⟩ := hX.1.shape
              obtain ⟨avx, cvx, rfl, _, _⟩ := hX.2.shape
              have hBq := hBq.trans (hBn.mono hBq.size)
              refine hK _ _ (hE _ hBq) ?_
              clear hK K hBn
              refine mix_two2 rfl rfl false false rfl rfl (fun K hK => ?_) (fun K hK => ?_)
              · go_simp
                refine (copyInts_c (hD8.call hBq) (by omega)).mono ?_
                rintro e wq1 ⟨dx, rfl, hDx, hBn⟩
                obtain ⟨adx, cdx, rfl, _, _⟩ := hDx.shape
                have hX := hX.call hBn
                have hBq := hBq.trans (hBn.mono hBq.size)
                refine hK _ _ (hE _ hBq) ?_
                clear hK K hBn
                refine mix_eff2 rfl false rfl (fun K hK => ?_)
                go_simp
                have hBn := (Below.refl wq1.heap.size wq1).alloc (Nat.le_refl _) (.cells #[.slice none 0 0, .slice none 0 0] 25)
                have hXs : w8.heap.size ≤ wq1.heap.size := hBq.size
                have hXb : Blk wq1.heap.size #[.slice none 0 0, .slice none 0 0] 25 (wq1.alloc (.cells #[.slice none 0 0, .slice none 0 0] 25)) := Blk.new wq1 _ _
                have hX := (hX.wide (A' := fun b => b ≠ wq1.heap.size) (fun b _ hl => by omega)).call hBn
                have hDx := (hDx.wide (A' := fun b => b ≠ wq1.heap.size) (fun b _ hl => by omega)).call hBn
                have hBq := hBq.trans (hBn.mono hBq.size)
                refine hK _ _ (hE _ hBq) ?_
                clear hK K hBn
                generalize wq1.alloc (.cells #[.slice none 0 0, .slice none 0 0] 25) = wa at *
                refine mix_eff2 rfl false rfl (fun K hK => ?_)
                obtain ⟨d0, d1, f0, f1⟩ := cells2_at hXb
                go_simp
                have hXb2 : Blk wq1.heap.size #[(.slice amx cc.mountains.length cmx), (.slice avx cc.villages.length cvx)] 25 ((wa.setCell ⟨wq1.heap.size, 0, none⟩ (.slice amx cc.mountains.length cmx)).setCell ⟨wq1.heap.size, 1, none⟩ (.slice avx cc.villages.length cvx)) := two_set hXb (.slice amx cc.mountains.length cmx) (.slice avx cc.villages.length cvx)
                have hoth : ∀ k, k ≠ wq1.heap.size → ((wa.setCell ⟨wq1.heap.size, 0, none⟩ (.slice amx cc.mountains.length cmx)).setCell ⟨wq1.heap.size, 1, none⟩ (.slice avx cc.villages.length cvx)).heap[k]? = wa.heap[k]? := fun k hk => (Below.heap_setCell _ _ _ _ (show k ≠ wq1.heap.size from hk)).trans (Below.heap_setCell _ _ _ _ (show k ≠ wq1.heap.size from hk))
                have hss : wa.heap.size ≤ ((wa.setCell ⟨wq1.heap.size, 0, none⟩ (.slice amx cc.mountains.length cmx)).setCell ⟨wq1.heap.size, 1, none⟩ (.slice avx cc.villages.length cvx)).heap.size := by simp [World.setCell]
                have hX2 := hX.step hss (fun k hk _ => hoth k hk)
                have hDx2 := hDx.step hss (fun k hk _ => hoth k hk)
                have hBq2 : Below w8.heap.size w8 ((wa.setCell ⟨wq1.heap.size, 0, none⟩ (.slice amx cc.mountains.length cmx)).setCell ⟨wq1.heap.size, 1, none⟩ (.slice avx cc.villages.length cvx)) := (hBq.setCell (show w8.heap.size ≤ wq1.heap.size by omega) _).setCell (show w8.heap.size ≤ wq1.heap.size by omega) _
                refine hK _ _ (hE _ hBq2) ?_
                clear hK K d0 d1 f0 f1
                refine mix_eff2 rfl false rfl (fun K hK => ?_)
                go_simp
                refine hK _ _ (hE _ hBq2) ?_
                clear hK K
                refine mix_done2 ?_
                go_wp2_with fail
                go_meet
                exact ⟨wq1.heap.size, _, _, _, _, _, _, rfl, rfl, hXb2, hX2.wide (fun _ _ _ => trivial), hDx2.wide (fun _ _ _ => trivial), hBq2⟩
              · go_simp
                have hBn := (Below.refl wq0.heap.size wq0).alloc (Nat.le_refl _) (.cells #[.slice none 0 0, .slice none 0 0] 25)
                have hXs : w8.heap.size ≤ wq0.heap.size := hBq.size
                have hXb : Blk wq0.heap.size #[.slice none 0 0, .slice none 0 0] 25 (wq0.alloc (.cells #[.slice none 0 0, .slice none 0 0] 25)) := Blk.new wq0 _ _
                have hX := (hX.wide (A' := fun b => b ≠ wq0.heap.size) (fun b _ hl => by omega)).call hBn
                have hBq := hBq.trans (hBn.mono hBq.size)
                refine hK _ _ (hE _ hBq) ?_
                clear hK K hBn
                generalize wq0.alloc (.cells #[.slice none 0 0, .slice none 0 0] 25) = wa at *
                refine mix_eff2 rfl false rfl (fun K hK => ?_)
                go_simp
                refine (copyInts_c (hD8.call hBq) (by omega)).mono ?_
                rintro e wq2 ⟨dx, rfl, hDx, hBn⟩
                obtain ⟨adx, cdx, rfl, _, _⟩ := hDx.shape
                have hX := hX.call hBn
                have hXl := hXb.lt
                have hXb := hXb.call hBn
                have hDx := hDx.wide (A' := fun b => b ≠ wq0.heap.size) (fun b hb _ => by omega)
                clear hXl
                have hBq := hBq.trans (hBn.mono hBq.size)
                refine hK _ _ (hE _ hBq) ?_
                clear hK K hBn
                refine mix_eff2 rfl false rfl (fun K hK => ?_)
                obtain ⟨d0, d1, f0, f1⟩ := cells2_at hXb
                go_simp
                have hXb2 : Blk wq0.heap.size #[(.slice amx cc.mountains.length cmx), (.slice avx cc.villages.length cvx)] 25 ((wq2.setCell ⟨wq0.heap.size, 0, none⟩ (.slice amx cc.mountains.length cmx)).setCell ⟨wq0.heap.size, 1, none⟩ (.slice avx cc.villages.length cvx)) := two_set hXb (.slice amx cc.mountains.length cmx) (.slice avx cc.villages.length cvx)
                have hoth : ∀ k, k ≠ wq0.heap.size → ((wq2.setCell ⟨wq0.heap.size, 0, none⟩ (.slice amx cc.mountains.length cmx)).setCell ⟨wq0.heap.size, 1, none⟩ (.slice avx cc.villages.length cvx)).heap[k]? = wq2.heap[k]? := fun k hk => (Below.heap_setCell _ _ _ _ (show k ≠ wq0.heap.size from hk)).trans (Below.heap_setCell _ _ _ _ (show k ≠ wq0.heap.size from hk))
                have hss : wq2.heap.size ≤ ((wq2.setCell ⟨wq0.heap.size, 0, none⟩ (.slice amx cc.mountains.length cmx)).setCell ⟨wq0.heap.size, 1, none⟩ (.slice avx cc.villages.length cvx)).heap.size := by simp [World.setCell]
                have hX2 := hX.step hss (fun k hk _ => hoth k hk)
                have hDx2 := hDx.step hss (fun k hk _ => hoth k hk)
                have hBq2 : Below w8.heap.size w8 ((wq2.setCell ⟨wq0.heap.size, 0, none⟩ (.slice amx cc.mountains.length cmx)).setCell ⟨wq0.heap.size, 1, none⟩ (.slice avx cc.villages.length cvx)) := (hBq.setCell (show w8.heap.size ≤ wq0.heap.size by omega) _).setCell (show w8.heap.size ≤ wq0.heap.size by omega) _
                refine hK _ _ (hE _ hBq2) ?_
                clear hK K d0 d1 f0 f1
                refine mix_eff2 rfl false rfl (fun K hK => ?_)
                go_simp
                refine hK _ _ (hE _ hBq2) ?_
                clear hK K
                refine mix_done2 ?_
                go_wp2_with fail
                go_meet
                exact ⟨wq0.heap.size, _, _, _, _, _, _, rfl, rfl, hXb2, hX2.wide (fun _ _ _ => trivial), hDx2.wide (fun _ _ _ => trivial), hBq2⟩
            · go_simp
              have hBn := (Below.refl wd.heap.size wd).alloc (Nat.le_refl _) (.cells #[.slice none 0 0, .slice none 0 0] 25)
              have hXs : w8.heap.size ≤ wd.heap.size := hBq.size
              have hXb : Blk wd.heap.size #[.slice none 0 0, .slice none 0 0] 25 (wd.alloc (.cells #[.slice none 0 0, .slice none 0 0] 25)) := Blk.new wd _ _
              have hBq := hBq.trans (hBn.mono hBq.size)
              refine hK _ _ (hE _ hBq) ?_
              clear hK K hBn
              generalize wd.alloc (.cells #[.slice none 0 0, .slice none 0 0] 25) = wa at *
              refine mix_eff2 rfl false rfl (fun K hK => ?_)
              go_simp
              refine (copyCommons_c (hC8.call hBq) hSm).mono ?_
              rintro e wq1 ⟨mx, vx, rfl, hX, hBn⟩
              obtain ⟨amx, cmx, rfl, _, _⟩ := hX.1.shape
              obtain ⟨avx, cvx, rfl, _, _⟩ := hX.2.shape
              have hXl := hXb.lt
              have hXb := hXb.call hBn
              have hX := hX.wide (A' := fun b => b ≠ wd.heap.size) (fun b hb _ => by omega)
              clear hXl
              have hBq := hBq.trans (hBn.mono hBq.size)
              refine hK _ _ (hE _ hBq) ?_
              clear hK K hBn
              refine mix_eff2 rfl false rfl (fun K hK => ?_)
              go_simp
              refine (copyInts_c (hD8.call hBq) (by omega)).mono ?_
              rintro e wq2 ⟨dx, rfl, hDx, hBn⟩
              obtain ⟨adx, cdx, rfl, _, _⟩ := hDx.shape
              have hX := hX.call hBn
              have hXl := hXb.lt
              have hXb := hXb.call hBn
              have hDx := hDx.wide (A' := fun b => b ≠ wd.heap.size) (fun b hb _ => by omega)
              clear hXl
              have hBq := hBq.trans (hBn.mono hBq.size)
              refine hK _ _ (hE _ hBq) ?_
              clear hK K hBn
              refine mix_eff2 rfl false rfl (fun K hK => ?_)
              obtain ⟨d0, d1, f0, f1⟩ := cells2_at hXb
              go_simp
              have hXb2 : Blk wd.heap.size #[(.slice amx cc.mountains.length cmx), (.slice avx cc.villages.length cvx)] 25 ((wq2.setCell ⟨wd.heap.size, 0, none⟩ (.slice amx cc.mountains.length cmx)).setCell ⟨wd.heap.size, 1, none⟩ (.slice avx cc.villages.length cvx)) := two_set hXb (.slice amx cc.mountains.length cmx) (.slice avx cc.villages.length cvx)
              have hoth : ∀ k, k ≠ wd.heap.size → ((wq2.setCell ⟨wd.heap.size, 0, none⟩ (.slice amx cc.mountains.length cmx)).setCell ⟨wd.heap.size, 1, none⟩ (.slice avx cc.villages.length cvx)).heap[k]? = wq2.heap[k]? := fun k hk => (Below.heap_setCell _ _ _ _ (show k ≠ wd.heap.size from hk)).trans (Below.heap_setCell _ _ _ _ (show k ≠ wd.heap.size from hk))
              have hss : wq2.heap.size ≤ ((wq2.setCell ⟨wd.heap.size, 0, none⟩ (.slice amx cc.mountains.length cmx)).setCell ⟨wd.heap.size, 1, none⟩ (.slice avx cc.villages.length cvx)).heap.size := by simp [World.setCell]
              have hX2 := hX.step hss (fun k hk _ => hoth k hk)
              have hDx2 := hDx.step hss (fun k hk _ => hoth k hk)
              have hBq2 : Below w8.heap.size w8 ((wq2.setCell ⟨wd.heap.size, 0, none⟩ (.slice amx cc.mountains.length cmx)).setCell ⟨wd.heap.size, 1, none⟩ (.slice avx cc.villages.length cvx)) := (hBq.setCell (show w8.heap.size ≤ wd.heap.size by omega) _).setCell (show w8.heap.size ≤ wd.heap.size by omega) _
              refine hK _ _ (hE _ hBq2) ?_
              clear hK K d0 d1 f0 f1
              refine mix_eff2 rfl false rfl (fun K hK => ?_)
              go_simp
              refine hK _ _ (hE _ hBq2) ?_
              clear hK K
              refine mix_done2 ?_
              go_wp2_with fail
              go_meet
              exact ⟨wd.heap.size, _, _, _, _, _, _, rfl, rfl, hXb2, hX2.wide (fun _ _ _ => trivial), hDx2.wide (fun _ _ _ => trivial), hBq2⟩
          case rest =>
            obtain ⟨X, amx, avx, adx, cmx, cvx, cdx, rfl, rfl, hXb, hX, hDx, hB9⟩ := hcut
            rename World => w9
            have c0 := hXb.cell 0
            have c1 := hXb.cell 1
            have htr := tradeR_c hX hDx
            have HTR := Lib.hid htr
            clear htr
            go_wp2_with fail
            clear c0 c1
            refine HTR.out.mono ?_
            rintro e w10 ⟨v20, rfl, h20, hB10a⟩
            have hB10 := hB9.trans (hB10a.mono hB9.size)
            have hXb10 := hXb.call hB10a
            have hX10 := hX.call hB10a
            have hDx10 := hDx.call hB10a
            clear HTR hXb hX hDx
            go_wp2_with fail
            refine wp_region_mix2 (.pur 0 (.pur 1 (.pur 2 (.one 3 (.pur 4 (.pur 5 (.pur 6 (.one 7 (.act 8 (.pur 9 (.pur 10 (.pur 11 (.pur 12 (.pur 13 .fin)))))))))))))) 99 (TrS bc (i * 2) (.slice ma cc.mountains.length mc) (.slice va cc.villages.length vc) bd i (.slice da dd.length dc)) (fun _ => True) (by kernel_rfl) (by kernel_rfl) rfl (by kernel_rfl) (hE _ hB10).drew (fun wd hqd _ => ?_)
            have hBd := hB10.trans (hqd.below _)
            refine mix_pur2 rfl (fun K hK => ?_)
            go_simp
            first | refine ⟨_, fun _ => rfl, hK _ ?_⟩ | refine hK _ ?_
            clear hK K
            refine mix_pur2 rfl (fun K hK => ?_)
            go_simp
            first | refine ⟨_, fun _ => rfl, hK _ ?_⟩ | refine hK _ ?_
            clear hK K
            refine mix_pur2 rfl (fun K hK => ?_)
            go_simp
            first | refine ⟨_, fun _ => rfl, hK _ ?_⟩ | refine hK _ ?_
            clear hK K
            refine mix_loadg2 rfl rfl (.agg #[(.slice ma cc.mountains.length mc), (.slice va cc.villages.length vc)]) (by go_simp) (fun w' h => by have h : (TrS bc (i * 2) (.slice ma cc.mountains.length mc) (.slice va cc.villages.length vc) bd i (.slice da dd.length dc)) w' := h; have h0 := h.1; have h1 := h.2.1; go_simp) rfl ?_
            refine mix_pur2 rfl (fun K hK => ?_)
            go_simp
            first | refine ⟨_, fun _ => rfl, hK _ ?_⟩ | refine hK _ ?_
            clear hK K
            refine mix_pur2 rfl (fun K hK => ?_)
            go_simp
            first | refine ⟨_, fun _ => rfl, hK _ ?_⟩ | refine hK _ ?_
            clear hK K
            refine mix_pur2 rfl (fun K hK => ?_)
            go_simp
            first | refine ⟨_, fun _ => rfl, hK _ ?_⟩ | refine hK _ ?_
            clear hK K
            refine mix_loadg2 rfl rfl (.slice da dd.length dc) (by go_simp) (fun w' h => by have h : (TrS bc (i * 2) (.slice ma cc.mountains.length mc) (.slice va cc.villages.length vc) bd i (.slice da dd.length dc)) w' := h; have h0 := h.2.2; go_simp) rfl ?_
            refine mix_eff2 rfl false rfl (fun K hK => ?_)
            go_simp
            refine (rtradeR_c (hC8.call hBd) (hD8.call hBd)).mono ?_
            rintro e w11 ⟨v22, rfl, h22, hB11⟩
            have hB11' := hBd.trans (hB11.mono hBd.size)
            refine hK _ _ (hE _ hB11') ?_
            clear hK K
            refine mix_pur2 rfl (fun K hK => ?_)
            go_simp
            first | refine ⟨_, fun _ => rfl, hK _ ?_⟩ | refine hK _ ?_
            clear hK K
            refine mix_pur2 rfl (fun K hK => ?_)
            go_simp
            first | refine ⟨_, fun _ => rfl, hK _ ?_⟩ | refine hK _ ?_
            clear hK K
            refine mix_pur2 rfl (fun K hK => ?_)
            go_simp
            first | refine ⟨_, fun _ => rfl, hK _ ?_⟩ | refine hK _ ?_
            clear hK K
            refine mix_pur2 rfl (fun K hK => ?_)
            go_simp
            first | refine ⟨_, fun _ => rfl, hK _ ?_⟩ | refine hK _ ?_
            clear hK K
            refine mix_pur2 rfl (fun K hK => ?_)
            go_simp
            first | refine ⟨_, fun _ => rfl, hK _ ?_⟩ | refine hK _ ?_
            clear hK K
            refine mix_done2 ?_
            have hBd := hqd.below w10.heap.size
            have hB11a : Below w10.heap.size w10 w11 := hBd.trans (hB11.mono hBd.size)
            have hXb11 := hXb10.call hB11a
            have hX11 := hX10.call hB11a
            have hDx11 := hDx10.call hB11a
            have h20b := h20.call hB11a
            have hsw := swapsR_c hX11 hDx11
            have HSW := Lib.hid hsw
            have c0 := hXb11.cell 0
            have c1 := hXb11.cell 1
            clear hsw hXb10 hX10 hDx10 h20 hqd hBd hB11
            go_wp2_with fail
            clear c0 c1
            refine HSW.out.mono ?_
            rintro e w12 ⟨v24, v25, rfl, h24, h25, hB12a⟩
            have hB12 := hB11'.trans (hB12a.mono hB11'.size)
            have hXb12 := hXb11.call hB12a
            have hX12 := hX11.call hB12a
            have hDx12 := hDx11.call hB12a
            have h20c := h20b.call hB12a
            have h22c := h22.call hB12a
            clear HSW hXb11 hX11 hDx11 h20b h22
            go_wp2_with fail
            refine wp_region_mix2 (.pur 0 (.pur 1 (.pur 2 (.one 3 (.pur 4 (.pur 5 (.pur 6 (.one 7 (.act 8 (.pur 9 (.pur 10 (.pur 11 (.pur 12 (.pur 13 (.pur 14 (.pur 15 .fin)))))))))))))))) 99 (TrS bc (i * 2) (.slice ma cc.mountains.length mc) (.slice va cc.villages.length vc) bd i (.slice da dd.length dc)) (fun _ => True) (by kernel_rfl) (by kernel_rfl) rfl (by kernel_rfl) (hE _ hB12).drew (fun wd hqd _ => ?_)
            have hBd := hB12.trans (hqd.below _)
            refine mix_pur2 rfl (fun K hK => ?_)
            go_simp
            first | refine ⟨_, fun _ => rfl, hK _ ?_⟩ | refine hK _ ?_
            clear hK K
            refine mix_pur2 rfl (fun K hK => ?_)
            go_simp
            first | refine ⟨_, fun _ => rfl, hK _ ?_⟩ | refine hK _ ?_
            clear hK K
            refine mix_pur2 rfl (fun K hK => ?_)
            go_simp
            first | refine ⟨_, fun _ => rfl, hK _ ?_⟩ | refine hK _ ?_
            clear hK K
            refine mix_loadg2 rfl rfl (.agg #[(.slice ma cc.mountains.length mc), (.slice va cc.villages.length vc)]) (by go_simp) (fun w' h => by have h : (TrS bc (i * 2) (.slice ma cc.mountains.length mc) (.slice va cc.villages.length vc) bd i (.slice da dd.length dc)) w' := h; have h0 := h.1; have h1 := h.2.1; go_simp) rfl ?_
            refine mix_pur2 rfl (fun K hK => ?_)
            go_simp
            first | refine ⟨_, fun _ => rfl, hK _ ?_⟩ | refine hK _ ?_
            clear hK K
            refine mix_pur2 rfl (fun K hK => ?_)
            go_simp
            first | refine ⟨_, fun _ => rfl, hK _ ?_⟩ | refine hK _ ?_
            clear hK K
            refine mix_pur2 rfl (fun K hK => ?_)
            go_simp
            first | refine ⟨_, fun _ => rfl, hK _ ?_⟩ | refine hK _ ?_
            clear hK K
            refine mix_loadg2 rfl rfl (.slice da dd.length dc) (by go_simp) (fun w' h => by have h : (TrS bc (i * 2) (.slice ma cc.mountains.length mc) (.slice va cc.villages.length vc) bd i (.slice da dd.length dc)) w' := h; have h0 := h.2.2; go_simp) rfl ?_
            refine mix_eff2 rfl false rfl (fun K hK => ?_)
            go_simp
            refine (rswapsR_c (hC8.call hBd) (hD8.call hBd)).mono ?_
            rintro e wz ⟨v27, v28, rfl, h27, h28, hB13⟩
            have hB13' := hBd.trans (hB13.mono hBd.size)
            refine hK _ _ (hE _ hB13') ?_
            clear hK K
            refine mix_pur2 rfl (fun K hK => ?_)
            go_simp
            first | refine ⟨_, fun _ => rfl, hK _ ?_⟩ | refine hK _ ?_
            clear hK K
            refine mix_pur2 rfl (fun K hK => ?_)
            go_simp
            first | refine ⟨_, fun _ => rfl, hK _ ?_⟩ | refine hK _ ?_
            clear hK K
            refine mix_pur2 rfl (fun K hK => ?_)
            go_simp
            first | refine ⟨_, fun _ => rfl, hK _ ?_⟩ | refine hK _ ?_
            clear hK K
            refine mix_pur2 rfl (fun K hK => ?_)
            go_simp
            first | refine ⟨_, fun _ => rfl, hK _ ?_⟩ | refine hK _ ?_
            clear hK K
            refine mix_pur2 rfl (fun K hK => ?_)
            go_simp
            first | refine ⟨_, fun _ => rfl, hK _ ?_⟩ | refine hK _ ?_
            clear hK K
            refine mix_pur2 rfl (fun K hK => ?_)
            go_simp
            first | refine ⟨_, fun _ => rfl, hK _ ?_⟩ | refine hK _ ?_
            clear hK K
            refine mix_pur2 rfl (fun K hK => ?_)
            go_simp
            first | refine ⟨_, fun _ => rfl, hK _ ?_⟩ | refine hK _ ?_
            clear hK K
            refine mix_done2 ?_
            have hBd := hqd.below w12.heap.size
            have hB13a : Below w12.heap.size w12 wz := hBd.trans (hB13.mono hBd.size)
            have hXbz := hXb12.call hB13a
            have hXz := hX12.call hB13a
            have hDz := hDx12.call hB13a
            have hr20 := h20c.call hB13a
            have hr22 := h22c.call hB13a
            have hr24 := h24.call hB13a
            have hr25 := h25.call hB13a
            have hr27 := h27
            have hr28 := h28
            clear hXb12 hX12 hDx12 h20c h22c h24 h25 h27 h28 hqd hBd hB13 hB13a
            have hBz := hB13'
            have hF : ∀ w', Below wz.heap.size wz w' → (TrX bc (i * 2) (.slice ma cc.mountains.length mc) (.slice va cc.villages.length vc) bd i (.slice da dd.length dc) X (.slice amx cc.mountains.length cmx) (.slice avx cc.villages.length cvx)) w' := fun w' h => ⟨hE w' (hBz.trans (h.mono hBz.size)), hXbz.call h⟩
            have bd0 : (divE cc dd != divE cc dd) = false := by simp
            go_wp2_with fail
            refine wp_region_mix2 (.pur 0 (.pur 1 (.pur 2 (.pur 3 (.pur 4 (.pur 5 (.pur 6 (.pur 7 (.pur 8 (.pur 9 (.pur 10 (.act 11 (.pur 12 (.pur 13 (.pur 14 (.pur 15 (.pur 16 (.act 17 (.pur 18 (.pur 19 (.pur 20 (.pur 21 (.pur 22 (.act 23 (.pur 24 (.pur 25 (.pur 26 (.pur 27 (.pur 28 (.pur 29 (.pur 30 (.one 31 (.act 32 (.pur 33 (.pur 34 (.pur 35 (.one 36 (.pur 37 (.pur 38 (.pur 39 (.one 40 (.act 41 (.pur 42 (.pur 43 .fin)))))))))))))))))))))))))))))))))))))))))))) 99 (TrX bc (i * 2) (.slice ma cc.mountains.length mc) (.slice va cc.villages.length vc) bd i (.slice da dd.length dc) X (.slice amx cc.mountains.length cmx) (.slice avx cc.villages.length cvx)) (fun _ => True) (by kernel_rfl) (by kernel_rfl) rfl (by kernel_rfl) (hF _ (Below.refl _ _)).drew (fun wd hqd _ => ?_)
            have z0 : Below wz.heap.size wz wd := hqd.below _
            refine mix_pur2 rfl (fun K hK => ?_)
            go_simp
            first | refine ⟨_, fun _ => rfl, hK _ ?_⟩ | refine hK _ ?_
            clear hK K
            refine mix_pur2 rfl (fun K hK => ?_)
            go_simp
            first | refine ⟨_, fun _ => rfl, hK _ ?_⟩ | refine hK _ ?_
            clear hK K
            refine mix_pur2 rfl (fun K hK => ?_)
            go_simp
            first | refine ⟨_, fun _ => rfl, hK _ ?_⟩ | refine hK _ ?_
            clear hK K
            refine mix_pur2 rfl (fun K hK => ?_)
            go_simp
            first | refine ⟨_, fun _ => rfl, hK _ ?_⟩ | refine hK _ ?_
            clear hK K
            refine mix_pur2 rfl (fun K hK => ?_)
            go_simp
            first | refine ⟨_, fun _ => rfl, hK _ ?_⟩ | refine hK _ ?_
            clear hK K
            refine mix_pur2 rfl (fun K hK => ?_)
            go_simp
            first | refine ⟨_, fun _ => rfl, hK _ ?_⟩ | refine hK _ ?_
            clear hK K
            refine mix_pur2 rfl (fun K hK => ?_)
            go_simp
            first | refine ⟨_, fun _ => rfl, hK _ ?_⟩ | refine hK _ ?_
            clear hK K
            refine mix_pur2 rfl (fun K hK => ?_)
            go_simp
            first | refine ⟨_, fun _ => rfl, hK _ ?_⟩ | refine hK _ ?_
            clear hK K
            refine mix_pur2 rfl (fun K hK => ?_)
            go_simp
            first | refine ⟨_, fun _ => rfl, hK _ ?_⟩ | refine hK _ ?_
            clear hK K
            refine mix_pur2 rfl (fun K hK => ?_)
            go_simp
            first | refine ⟨_, fun _ => rfl, hK _ ?_⟩ | refine hK _ ?_
            clear hK K
            refine mix_pur2 rfl (fun K hK => ?_)
            go_simp
            first | refine ⟨_, fun _ => rfl, hK _ ?_⟩ | refine hK _ ?_
            clear hK K
            refine mix_eff2 rfl false rfl (fun K hK => ?_)
            go_simp
            refine (sameInts_t (hr20.call z0) (hr22.call z0)).mono ?_
            rintro e y1 ⟨rfl, hy1⟩
            have z1 := z0.trans (hy1.mono z0.size)
            refine hK _ _ (hF _ z1) ?_
            clear hK K
            refine mix_pur2 rfl (fun K hK => ?_)
            go_simp
            first | refine ⟨_, fun _ => rfl, hK _ ?_⟩ | refine hK _ ?_
            clear hK K
            refine mix_pur2 rfl (fun K hK => ?_)
            go_simp
            first | refine ⟨_, fun _ => rfl, hK _ ?_⟩ | refine hK _ ?_
            clear hK K
            refine mix_pur2 rfl (fun K hK => ?_)
            go_simp
            first | refine ⟨_, fun _ => rfl, hK _ ?_⟩ | refine hK _ ?_
            clear hK K
            refine mix_pur2 rfl (fun K hK => ?_)
            go_simp
            first | refine ⟨_, fun _ => rfl, hK _ ?_⟩ | refine hK _ ?_
            clear hK K
            refine mix_pur2 rfl (fun K hK => ?_)
            go_simp
            first | refine ⟨_, fun _ => rfl, hK _ ?_⟩ | refine hK _ ?_
            clear hK K
            refine mix_eff2 rfl false rfl (fun K hK => ?_)
            go_simp
            refine (sameGrids_t (hr24.call z1) (hr27.call z1)).mono ?_
            rintro e y2 ⟨rfl, hy2⟩
            have z2 := z1.trans (hy2.mono z1.size)
            refine hK _ _ (hF _ z2) ?_
            clear hK K
            refine mix_pur2 rfl (fun K hK => ?_)
            go_simp
            first | refine ⟨_, fun _ => rfl, hK _ ?_⟩ | refine hK _ ?_
            clear hK K
            refine mix_pur2 rfl (fun K hK => ?_)
            go_simp
            first | refine ⟨_, fun _ => rfl, hK _ ?_⟩ | refine hK _ ?_
            clear hK K
            refine mix_pur2 rfl (fun K hK => ?_)
            go_simp
            first | refine ⟨_, fun _ => rfl, hK _ ?_⟩ | refine hK _ ?_
            clear hK K
            refine mix_pur2 rfl (fun K hK => ?_)
            go_simp
            first | refine ⟨_, fun _ => rfl, hK _ ?_⟩ | refine hK _ ?_
            clear hK K
            refine mix_pur2 rfl (fun K hK => ?_)
            go_simp
            first | refine ⟨_, fun _ => rfl, hK _ ?_⟩ | refine hK _ ?_
            clear hK K
            refine mix_eff2 rfl false rfl (fun K hK => ?_)
            go_simp
            refine (sameInts_t (hr25.call z2) (hr28.call z2)).mono ?_
            rintro e y3 ⟨rfl, hy3⟩
            have z3 := z2.trans (hy3.mono z2.size)
            refine hK _ _ (hF _ z3) ?_
            clear hK K
            refine mix_pur2 rfl (fun K hK => ?_)
            go_simp
            first | refine ⟨_, fun _ => rfl, hK _ ?_⟩ | refine hK _ ?_
            clear hK K
            refine mix_pur2 rfl (fun K hK => ?_)
            go_simp
            first | refine ⟨_, fun _ => rfl, hK _ ?_⟩ | refine hK _ ?_
            clear hK K
            refine mix_pur2 rfl (fun K hK => ?_)
            go_simp
            first | refine ⟨_, fun _ => rfl, hK _ ?_⟩ | refine hK _ ?_
            clear hK K
            refine mix_pur2 rfl (fun K hK => ?_)
            go_simp
            first | refine ⟨_, fun _ => rfl, hK _ ?_⟩ | refine hK _ ?_
            clear hK K
            refine mix_pur2 rfl (fun K hK => ?_)
            go_simp
            first | refine ⟨_, fun _ => rfl, hK _ ?_⟩ | refine hK _ ?_
            clear hK K
            refine mix_pur2 rfl (fun K hK => ?_)
            go_simp
            first | refine ⟨_, fun _ => rfl, hK _ ?_⟩ | refine hK _ ?_
            clear hK K
            refine mix_pur2 rfl (fun K hK => ?_)
            go_simp
            first | refine ⟨_, fun _ => rfl, hK _ ?_⟩ | refine hK _ ?_
            clear hK K
            refine mix_loadg2 rfl rfl (.slice da dd.length dc) (by go_simp) (fun w' h => by have h : (TrX bc (i * 2) (.slice ma cc.mountains.length mc) (.slice va cc.villages.length vc) bd i (.slice da dd.length dc) X (.slice amx cc.mountains.length cmx) (.slice avx cc.villages.length cvx)) w' := h; have h0 := h.1.2.2; go_simp) rfl ?_
            refine mix_eff2 rfl false rfl (fun K hK => ?_)
            go_simp
            refine (sameInts_t (hDz.call z3) ((hD8.call hBz).call z3)).mono ?_
            rintro e y4 ⟨rfl, hy4⟩
            have z4 := z3.trans (hy4.mono z3.size)
            refine hK _ _ (hF _ z4) ?_
            clear hK K
            refine mix_pur2 rfl (fun K hK => ?_)
            go_simp
            first | refine ⟨_, fun _ => rfl, hK _ ?_⟩ | refine hK _ ?_
            clear hK K
            refine mix_pur2 rfl (fun K hK => ?_)
            go_simp
            first | refine ⟨_, fun _ => rfl, hK _ ?_⟩ | refine hK _ ?_
            clear hK K
            refine mix_pur2 rfl (fun K hK => ?_)
            go_simp
            first | refine ⟨_, fun _ => rfl, hK _ ?_⟩ | refine hK _ ?_
            clear hK K
            refine mix_loadg2 rfl rfl (.agg #[(.slice amx cc.mountains.length cmx), (.slice avx cc.villages.length cvx)]) (by go_simp) (fun w' h => by have h : (TrX bc (i * 2) (.slice ma cc.mountains.length mc) (.slice va cc.villages.length vc) bd i (.slice da dd.length dc) X (.slice amx cc.mountains.length cmx) (.slice avx cc.villages.length cvx)) w' := h; have h0 := h.2.cell 0; have h1 := h.2.cell 1; go_simp) rfl ?_
            refine mix_pur2 rfl (fun K hK => ?_)
            go_simp
            first | refine ⟨_, fun _ => rfl, hK _ ?_⟩ | refine hK _ ?_
            clear hK K
            refine mix_pur2 rfl (fun K hK => ?_)
            go_simp
            first | refine ⟨_, fun _ => rfl, hK _ ?_⟩ | refine hK _ ?_
            clear hK K
            refine mix_pur2 rfl (fun K hK => ?_)
            go_simp
            first | refine ⟨_, fun _ => rfl, hK _ ?_⟩ | refine hK _ ?_
            clear hK K
            refine mix_loadg2 rfl rfl (.agg #[(.slice ma cc.mountains.length mc), (.slice va cc.villages.length vc)]) (by go_simp) (fun w' h => by have h : (TrX bc (i * 2) (.slice ma cc.mountains.length mc) (.slice va cc.villages.length vc) bd i (.slice da dd.length dc) X (.slice amx cc.mountains.length cmx) (.slice avx cc.villages.length cvx)) w' := h; have h0 := h.1.1; have h1 := h.1.2.1; go_simp) rfl ?_
            refine mix_eff2 rfl false rfl (fun K hK => ?_)
            go_simp
            refine (sameCommons_t (hXz.call z4) ((hC8.call hBz).call z4)).mono ?_
            rintro e y5 ⟨rfl, hy5⟩
            have z5 := z4.trans (hy5.mono z4.size)
            refine hK _ _ (hF _ z5) ?_
            clear hK K
            refine mix_pur2 rfl (fun K hK => ?_)
            go_simp
            first | refine ⟨_, fun _ => rfl, hK _ ?_⟩ | refine hK _ ?_
            clear hK K
            refine mix_pur2 rfl (fun K hK => ?_)
            go_simp
            first | refine ⟨_, fun _ => rfl, hK _ ?_⟩ | refine hK _ ?_
            clear hK K
            refine mix_done2 ?_
            go_wp2_with fail
            go_roundw
            case rel => exact ⟨i + 1, by omega, by go_num, hBz.trans (z5.mono hBz.size)⟩
            case measure => simp [intOf]; omega
        · obtain rfl : i = 4 := by omega
          go_wp2_with (go_at_call 21; refine (drawn_c _).mono ?_; rintro e wz ⟨rfl, hBz⟩)
          go_ret
          exact ⟨rfl, bnx hT1 (bnx hT8 (bnx hB hBz))⟩
    · have b1 : decide ((dv.length : Int) > 20) = true := decide_eq_true (by omega)
      go_wp2_with (go_at_call 21; refine (drawn_c _).mono ?_; rintro e wz ⟨rfl, hBz⟩)
      go_ret
      exact ⟨rfl, bnx hT1 hBz⟩

end Go.Proofs.Ythchpoabncdicaa
