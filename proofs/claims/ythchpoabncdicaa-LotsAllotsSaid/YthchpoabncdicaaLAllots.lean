/- The walk of LotsAllots: it hands back true, whatever the arguments; conditions: they read as commons, a village, numbers and a list. -/
import Derived.Test.YthchpoabncdicaaRLate
import Derived.Test.YthchpoabncdicaaPre1
import Derived.Test.YthchpoabncdicaaPut1
import Derived.Test.YthchpoabncdicaaShort
import Derived.Test.YthchpoabncdicaaLTrades
namespace Go.Proofs.Ythchpoabncdicaa
open Go.RowKit

def AlP (P : World → Prop) (bO : Nat) (cO : Array Value) (w : World) : Prop := P w ∧ Blk bO cO 25 w
/-- What a round over the commons and the places reads. -/
def AlS (b1 o1 : Nat) (vm vv : Value) (b3 o3 : Nat) (y : Int) (w : World) : Prop := w.cell? ⟨b1, o1, none⟩ = some vm ∧ w.cell? ⟨b1, o1 + 1, none⟩ = some vv ∧ w.cell? ⟨b3, o3, none⟩ = some (.int .i64 y)
def AlX (b1 o1 : Nat) (vm vv : Value) (b3 o3 : Nat) (y : Int) (X : Nat) (mx vx : Value) (w : World) : Prop := AlS b1 o1 vm vv b3 o3 y w ∧ Blk X #[mx, vx] 25 w
theorem AlX.drew {b1 o1 : Nat} {vm vv : Value} {b3 o3 : Nat} {y : Int} {X : Nat} {mx vx : Value} {w : World} (h : AlX b1 o1 vm vv b3 o3 y X mx vx w) : AlX b1 o1 vm vv b3 o3 y X mx vx w.drew := h

set_option maxRecDepth 100000 in
set_option maxHeartbeats 8000000 in
theorem lotsAllots_c {A A1 A2 : Nat → Prop} {w : World} {vm vv vl vn : Value} {c : Com} {lk nums : List Int} (hc : Cm A w vm vv c) (x y : Int) (hv : Ints A1 w vl lk) (pl : Int) (_h1 : -9223372036854775808 ≤ pl ∧ pl ≤ 9223372036854775807) (he : Int) (_h2 : -9223372036854775808 ≤ he ∧ he ≤ 9223372036854775807) (hd : Int) (_h3 : -9223372036854775808 ≤ hd ∧ hd ≤ 9223372036854775807) (hn : Ints A2 w vn nums) :
    Calls Try.prog 16 #[.agg #[vm, vv], .agg #[.int .i64 x, .int .i64 y, vl], .int .i64 pl, .int .i64 he, .int .i64 hd, vn] w fun e w' => e = .returned (.bool true) ∧ Below w.heap.size w w' := by
  obtain ⟨am, cpm, rfl, _, _⟩ := hc.1.shape
  obtain ⟨av, cpv, rfl, _, _⟩ := hc.2.shape
  obtain ⟨al, cpl, rfl, _, _⟩ := hv.shape
  have ndl := hv.len
  have hv := hv.wide (A' := fun b => b < w.heap.size) (fun _ _ hl => hl)
  have hB0 : Below w.heap.size w ((w.alloc (.cells #[.slice am c.mountains.length cpm, .slice av c.villages.length cpv] 25)).alloc (.cells #[.int .i64 x, .int .i64 y, .slice al lk.length cpl] 51)) := ((Below.refl _ w).alloc (Nat.le_refl _) _).alloc (by simp) _
  have hbx : Blk w.heap.size #[.slice am c.mountains.length cpm, .slice av c.villages.length cpv] 25 ((w.alloc (.cells #[.slice am c.mountains.length cpm, .slice av c.villages.length cpv] 25)).alloc (.cells #[.int .i64 x, .int .i64 y, .slice al lk.length cpl] 51)) := (Blk.new w _ _).alloc _
  have hbv : Blk (w.heap.size + 1) #[.int .i64 x, .int .i64 y, .slice al lk.length cpl] 51 ((w.alloc (.cells #[.slice am c.mountains.length cpm, .slice av c.villages.length cpv] 25)).alloc (.cells #[.int .i64 x, .int .i64 y, .slice al lk.length cpl] 51)) := by
    have := Blk.new (w.alloc (.cells #[.slice am c.mountains.length cpm, .slice av c.villages.length cpv] 25)) #[.int .i64 x, .int .i64 y, .slice al lk.length cpl] 51
    rw [World.size_alloc] at this; exact this
  have hc0 := hc.call hB0
  have hv0 := hv.call hB0
  have hn0 := hn.call hB0
  go_enter Try.func16, Try.ntmps16
  go_wp2_with fail
  refine (short_c hc0).mono ?_
  rintro e w1 ⟨b, rfl, hb, hB1⟩
  have hc1 := hc0.call hB1
  have hv1 := hv0.call hB1
  have hn1 := hn0.call hB1
  have hbx1 := hbx.call hB1
  have hbv1 := hbv.call hB1
  have hT1 := bnx hB0 hB1
  clear hc0 hv0 hn0 hbx hbv hB0 hB1
  cases b with
  | false =>
    clear hb
    go_wp2_with (go_at_call 21; refine (drawn_c _).mono ?_; rintro e wz ⟨rfl, hBz⟩)
    go_ret
    exact ⟨rfl, bnx hT1 hBz⟩
  | true =>
    have hsh := hb rfl
    clear hb
    have cl2 := hbv1.cell 2
    by_cases hdl : lk.length ≤ 20
    · have b1 : decide ((lk.length : Int) > 20) = false := decide_eq_false (by omega)
      go_wp2_with fail
      clear b1 cl2
      refine (newHand_c hn1).mono ?_
      rintro e w2 ⟨rfl, hH, hB2⟩
      have hs2 := hH.lt
      have hl1 := hbx1.lt
      have hlv := hbv1.lt
      clear hn1
      go_wp2_with fail
      refine (commonsOf_c hH (by omega) 4 (by omega) (by omega)).mono ?_
      rintro e w3 ⟨vmm, vmv, rfl, ⟨md, hM, hok⟩, ⟨k2, hk2, hH⟩, hG⟩
      have hs3 := hG.size
      have hT3 : Below w1.heap.size w1 w3 := hB2.grown hG (by omega) (fun k e => by injection e with e; omega)
      clear hG hB2
      obtain ⟨mm, mmc, rfl, _, _⟩ := hM.1.shape
      obtain ⟨mv, mvc, rfl, _, _⟩ := hM.2.shape
      have hml4 : md.mountains.length ≤ 4 := hok.n2
      have hml1 : 1 ≤ md.mountains.length := hok.n1
      have hvl1 : 0 < md.villages.length := by have := hok.vl; omega
      have hH := hH.call ((Below.refl w3.heap.size w3).alloc (Nat.le_refl _) (.cells #[.slice mm md.mountains.length mmc, .slice mv md.villages.length mvc] 25))
      have hbm : Blk w3.heap.size #[.slice mm md.mountains.length mmc, .slice mv md.villages.length mvc] 25 (w3.alloc (.cells #[.slice mm md.mountains.length mmc, .slice mv md.villages.length mvc] 25)) := Blk.new w3 _ _
      have hM := hM.alloc (.cells #[.slice mm md.mountains.length mmc, .slice mv md.villages.length mvc] 25)
      have hT := hT3.alloc (by omega) (.cells #[.slice mm md.mountains.length mmc, .slice mv md.villages.length mvc] 25)
      have hsm : (w3.alloc (.cells #[.slice mm md.mountains.length mmc, .slice mv md.villages.length mvc] 25)).heap.size = w3.heap.size + 1 := by simp
      have c0 := hbm.cell 0
      have c1 := hbm.cell 1
      have hcp := copyCommons_own hM (hok.sm (by omega))
      have HCP := Lib.hid hcp
      clear hcp
      go_wp2_with fail
      clear c0 c1
      refine HCP.out.mono ?_
      rintro e w5 ⟨vom, vov, ls, rfl, hCp, hB5⟩
      have hw1l : w1.heap.size ≤ (w3.alloc (.cells #[.slice mm md.mountains.length mmc, .slice mv md.villages.length mvc] 25)).heap.size := hT.size
      have hM := hM.wide (A' := fun b => w2.heap.size ≤ b ∧ b < (w3.alloc (.cells #[.slice mm md.mountains.length mmc, .slice mv md.villages.length mvc] 25)).heap.size) (fun _ hb hl => ⟨hb, hl⟩)
      obtain ⟨om, omc, rfl, _, _⟩ := hCp.im.shape
      obtain ⟨g, ovc, rfl, hg1, hg2⟩ := hCp.head hvl1
      have hM5 := hM.call hB5
      have hbm5 := hbm.call hB5
      have hH5 := hH.call hB5
      have hT5 := bnx hT hB5
      have hws5 := hB5.size
      rw [hsm] at hg1 hws5
      clear HCP hM hbm hH hT hB5
      have hbx5 := hbx1.call hT5
      have hbv5 := hbv1.call hT5
      have hv5 := hv1.call hT5
      obtain ⟨bO, hbO⟩ : ∃ b, b = w5.heap.size := ⟨_, rfl⟩
      have hBO : Blk bO #[.slice om md.mountains.length omc, .slice (some ⟨g, 0, none⟩) md.villages.length ovc] 25 (w5.alloc (.cells #[.slice om md.mountains.length omc, .slice (some ⟨g, 0, none⟩) md.villages.length ovc] 25)) := by rw [hbO]; exact Blk.new w5 _ _
      have hCp := hCp.alloc (.cells #[.slice om md.mountains.length omc, .slice (some ⟨g, 0, none⟩) md.villages.length ovc] 25)
      have hM6 := hM5.alloc (.cells #[.slice om md.mountains.length omc, .slice (some ⟨g, 0, none⟩) md.villages.length ovc] 25)
      have hbm6 := hbm5.alloc (.cells #[.slice om md.mountains.length omc, .slice (some ⟨g, 0, none⟩) md.villages.length ovc] 25)
      have hbx6 := hbx5.alloc (.cells #[.slice om md.mountains.length omc, .slice (some ⟨g, 0, none⟩) md.villages.length ovc] 25)
      have hbv6 := hbv5.alloc (.cells #[.slice om md.mountains.length omc, .slice (some ⟨g, 0, none⟩) md.villages.length ovc] 25)
      have hH6 := hH5.call ((Below.refl w5.heap.size w5).alloc (Nat.le_refl _) (.cells #[.slice om md.mountains.length omc, .slice (some ⟨g, 0, none⟩) md.villages.length ovc] 25))
      have hv6 := hv5.call ((Below.refl w5.heap.size w5).alloc (Nat.le_refl _) (.cells #[.slice om md.mountains.length omc, .slice (some ⟨g, 0, none⟩) md.villages.length ovc] 25))
      have hT6 := bal (o := .cells #[.slice om md.mountains.length omc, .slice (some ⟨g, 0, none⟩) md.villages.length ovc] 25) hT5
      go_upto_region 6 with fail
      rw [← hbO]
      generalize w5.alloc (.cells #[.slice om md.mountains.length omc, .slice (some ⟨g, 0, none⟩) md.villages.length ovc] 25) = w6 at *
      have k0 := hCp.cells 0 hvl1
      simp only [Nat.zero_mul, Nat.zero_add] at k0
      obtain ⟨k0, k1, q2⟩ := k0
      have f0 := hCp.free 0
      have f1 := hCp.free 1
      have f2 := hCp.free 2
      have v0 := hbv6.cell 0
      have v1 := hbv6.cell 1
      have v2 := hbv6.cell 2
      have o1 := hBO.cell 1
      have HBO := Lib.hid hbO
      clear hbO
      go_upto_region 7 with fail
      clear k0 k1 q2 f0 f1 f2 v0 v1 v2 o1
      have hoth : ∀ i, i ≠ g → (((w6.setCell ⟨g, 0, none⟩ (.int .i64 x)).setCell ⟨g, 1, none⟩ (.int .i64 y)).setCell ⟨g, 2, none⟩ (.slice al lk.length cpl)).heap[i]? = w6.heap[i]? := fun i hi =>
        ((Below.heap_setCell _ _ _ _ (show i ≠ g from hi)).trans (Below.heap_setCell _ _ _ _ (show i ≠ g from hi))).trans (Below.heap_setCell _ _ _ _ (show i ≠ g from hi))
      have hsz7 : w6.heap.size ≤ (((w6.setCell ⟨g, 0, none⟩ (.int .i64 x)).setCell ⟨g, 1, none⟩ (.int .i64 y)).setCell ⟨g, 2, none⟩ (.slice al lk.length cpl)).heap.size := by simp [World.setCell]
      obtain ⟨hb, hhb⟩ : ∃ hb, hb = w1.heap.size := ⟨_, rfl⟩
      have hO : Cm (fun b => b ≠ hb) (((w6.setCell ⟨g, 0, none⟩ (.int .i64 x)).setCell ⟨g, 1, none⟩ (.int .i64 y)).setCell ⟨g, 2, none⟩ (.slice al lk.length cpl)) (.slice om md.mountains.length omc) (.slice (some ⟨g, 0, none⟩) md.villages.length ovc) (⟨md.mountains, md.villages.set 0 ⟨x, y, lk⟩⟩ : Com) := hCp.put hvl1 (v := ⟨x, y, lk⟩) hv6 (fun b hb' _ => ⟨by omega, by omega⟩) (fun b hb' => by omega)
      have hM7 := (hM6.step hsz7 (fun b hb' _ => hoth b (fun e => by omega))).wide (A' := fun b => w2.heap.size ≤ b) (fun _ h _ => h.1)
      have hbm7 : Blk w3.heap.size #[.slice mm md.mountains.length mmc, .slice mv md.villages.length mvc] 25 (((w6.setCell ⟨g, 0, none⟩ (.int .i64 x)).setCell ⟨g, 1, none⟩ (.int .i64 y)).setCell ⟨g, 2, none⟩ (.slice al lk.length cpl)) := hbm6.keep (hoth _ (by omega))
      have hbx7 : Blk w.heap.size #[.slice am c.mountains.length cpm, .slice av c.villages.length cpv] 25 (((w6.setCell ⟨g, 0, none⟩ (.int .i64 x)).setCell ⟨g, 1, none⟩ (.int .i64 y)).setCell ⟨g, 2, none⟩ (.slice al lk.length cpl)) := hbx6.keep (hoth _ (by omega))
      have hBO7 : Blk bO #[.slice om md.mountains.length omc, .slice (some ⟨g, 0, none⟩) md.villages.length ovc] 25 (((w6.setCell ⟨g, 0, none⟩ (.int .i64 x)).setCell ⟨g, 1, none⟩ (.int .i64 y)).setCell ⟨g, 2, none⟩ (.slice al lk.length cpl)) := hBO.keep (hoth _ (by have := HBO.out; omega))
      have hH7 := hH6.step hsz7 (fun i hi => hoth i (by omega))
      have hT7 : Below w1.heap.size w1 (((w6.setCell ⟨g, 0, none⟩ (.int .i64 x)).setCell ⟨g, 1, none⟩ (.int .i64 y)).setCell ⟨g, 2, none⟩ (.slice al lk.length cpl)) := ((hT6.setCell (show w1.heap.size ≤ g by omega) _).setCell (show w1.heap.size ≤ g by omega) _).setCell (show w1.heap.size ≤ g by omega) _
      obtain ⟨B, hBB⟩ : ∃ B, B = w2.heap.size := ⟨_, rfl⟩
      obtain ⟨bM, hbM⟩ : ∃ bM, bM = w3.heap.size := ⟨_, rfl⟩
      have hP : Pre w1 hb B w.heap.size bM #[.slice am c.mountains.length cpm, .slice av c.villages.length cpv] #[.slice mm md.mountains.length mmc, .slice mv md.villages.length mvc] (.slice mm md.mountains.length mmc) (.slice mv md.villages.length mvc) md 100 (((w6.setCell ⟨g, 0, none⟩ (.int .i64 x)).setCell ⟨g, 1, none⟩ (.int .i64 y)).setCell ⟨g, 2, none⟩ (.slice al lk.length cpl)) := by rw [hhb, hBB, hbM]; exact ⟨⟨k2, by omega, hH7⟩, Nat.le_refl _, hs2, hs3, hbx7, hl1, hbm7, hM7, hT7⟩
      rw [← hbM, ← hhb]
      have hbOl : hb < bO := by have := HBO.out; omega
      generalize ((w6.setCell ⟨g, 0, none⟩ (.int .i64 x)).setCell ⟨g, 1, none⟩ (.int .i64 y)).setCell ⟨g, 2, none⟩ (.slice al lk.length cpl) = w7 at *
      have HHB := Lib.hid hhb
      have hBO := hBO7
      clear hoth hsz7 hCp hM6 hM7 hbm6 hbm7 hbx6 hbx7 hBO7 hH6 hH7 hT6 hT7 hv6 hbv6 hM5 hbm5 hbx5 hbv5 hH5 hv5 hbM hBB hhb hs2 hs3 hl1 hlv hg1 hg2 hws5 hsm
      go_cut [16, 17] (fun s16 s17 wx => ∃ (bc by2 : Nat) (u1 u2 : Int), s16 = .slice (some ⟨bc, 0, none⟩) 4 4 ∧ s17 = .slice (some ⟨by2, 0, none⟩) 4 4 ∧ Blk bc #[.slice am c.mountains.length cpm, .slice av c.villages.length cpv, .slice mm md.mountains.length mmc, .slice mv md.villages.length mvc, .slice mm md.mountains.length mmc, .slice mv md.villages.length mvc, .slice om md.mountains.length omc, .slice (some ⟨g, 0, none⟩) md.villages.length ovc] 25 wx ∧ Blk by2 #[.int .i64 pl, .int .i64 u1, .int .i64 pl, .int .i64 u2] 3 wx ∧ Cm (fun _ => True) wx (.slice om md.mountains.length omc) (.slice (some ⟨g, 0, none⟩) md.villages.length ovc) (⟨md.mountains, md.villages.set 0 ⟨x, y, lk⟩⟩ : Com) ∧ Pre w1 hb B w.heap.size bM #[.slice am c.mountains.length cpm, .slice av c.villages.length cpv] #[.slice mm md.mountains.length mmc, .slice mv md.villages.length mvc] (.slice mm md.mountains.length mmc) (.slice mv md.villages.length mvc) md 300 wx)
      case first =>
        refine wp_region_mix2 (.one 0 (.one 1 (.one 2 (.one 3 (.pur 5 (.pur 6 (.pur 8 (.pur 9 (.two 4 (.act 7 (.act 10 (.pur 12 (.act 11 (.pur 13 .fin))))) 7 (.two 4 (.act 10 (.pur 12 (.act 11 (.pur 13 .fin)))) 10 (.two 4 (.pur 12 (.act 11 (.pur 13 .fin))) 11 (.act 4 (.pur 12 (.pur 13 .fin)))))))))))))) 99 (AlP (Pre w1 hb B w.heap.size bM #[.slice am c.mountains.length cpm, .slice av c.villages.length cpv] #[.slice mm md.mountains.length mmc, .slice mv md.villages.length mvc] (.slice mm md.mountains.length mmc) (.slice mv md.villages.length mvc) md 300) bO #[.slice om md.mountains.length omc, .slice (some ⟨g, 0, none⟩) md.villages.length ovc]) (fun _ => True) (by kernel_rfl) (by kernel_rfl) rfl (by kernel_rfl) ⟨(hP.mono (K' := 300) (by omega)).drew, hBO⟩ (fun wd hqd _ => ?_)
        have hP := hP.qt hqd
        have hBO := hBO.call (hqd.below _)
        have hO := hO.call (hqd.below _)
        clear hqd
        refine mix_load2 rfl rfl rfl (.agg #[.slice am c.mountains.length cpm, .slice av c.villages.length cpv]) (fun w' h => by have h : (AlP (Pre w1 hb B w.heap.size bM #[.slice am c.mountains.length cpm, .slice av c.villages.length cpv] #[.slice mm md.mountains.length mmc, .slice mv md.villages.length mvc] (.slice mm md.mountains.length mmc) (.slice mv md.villages.length mvc) md 300) bO #[.slice om md.mountains.length omc, .slice (some ⟨g, 0, none⟩) md.villages.length ovc]) w' := h; have h0 := h.1.bx.cell 0; have h1 := h.1.bx.cell 1; go_simp) rfl ?_
        refine mix_load2 rfl rfl rfl (.agg #[.slice mm md.mountains.length mmc, .slice mv md.villages.length mvc]) (fun w' h => by have h : (AlP (Pre w1 hb B w.heap.size bM #[.slice am c.mountains.length cpm, .slice av c.villages.length cpv] #[.slice mm md.mountains.length mmc, .slice mv md.villages.length mvc] (.slice mm md.mountains.length mmc) (.slice mv md.villages.length mvc) md 300) bO #[.slice om md.mountains.length omc, .slice (some ⟨g, 0, none⟩) md.villages.length ovc]) w' := h; have h0 := h.1.bm.cell 0; have h1 := h.1.bm.cell 1; go_simp) rfl ?_
        refine mix_load2 rfl rfl rfl (.agg #[.slice mm md.mountains.length mmc, .slice mv md.villages.length mvc]) (fun w' h => by have h : (AlP (Pre w1 hb B w.heap.size bM #[.slice am c.mountains.length cpm, .slice av c.villages.length cpv] #[.slice mm md.mountains.length mmc, .slice mv md.villages.length mvc] (.slice mm md.mountains.length mmc) (.slice mv md.villages.length mvc) md 300) bO #[.slice om md.mountains.length omc, .slice (some ⟨g, 0, none⟩) md.villages.length ovc]) w' := h; have h0 := h.1.bm.cell 0; have h1 := h.1.bm.cell 1; go_simp) rfl ?_
        refine mix_load2 rfl rfl rfl (.agg #[.slice om md.mountains.length omc, .slice (some ⟨g, 0, none⟩) md.villages.length ovc]) (fun w' h => by have h : (AlP (Pre w1 hb B w.heap.size bM #[.slice am c.mountains.length cpm, .slice av c.villages.length cpv] #[.slice mm md.mountains.length mmc, .slice mv md.villages.length mvc] (.slice mm md.mountains.length mmc) (.slice mv md.villages.length mvc) md 300) bO #[.slice om md.mountains.length omc, .slice (some ⟨g, 0, none⟩) md.villages.length ovc]) w' := h; have h0 := h.2.cell 0; have h1 := h.2.cell 1; go_simp) rfl ?_
        refine mix_pur2 rfl (fun K hK => ?_)
        go_simp
        first | refine ⟨_, fun _ => rfl, hK _ ?_⟩ | refine hK _ ?_
        clear hK K
        refine mix_pur2 rfl (fun K hK => ?_)
        go_simp
        first | refine ⟨_, fun _ => rfl, hK _ ?_⟩ | refine hK _ ?_
        clear hK K
        refine mix_pur2 rfl (fun K hK => ?_)
        go_simp
        first | refine ⟨_, fun _ => rfl, hK _ ?_⟩ | refine hK _ ?_
        clear hK K
        refine mix_pur2 rfl (fun K hK => ?_)
        go_simp
        first | refine ⟨_, fun _ => rfl, hK _ ?_⟩ | refine hK _ ?_
        clear hK K
        refine mix_two2 rfl rfl false false rfl rfl (fun K hK => ?_) (fun K hK => ?_)
        · go_simp
          have hBc : Blk wd.heap.size #[.slice am c.mountains.length cpm, .slice av c.villages.length cpv, .slice mm md.mountains.length mmc, .slice mv md.villages.length mvc, .slice mm md.mountains.length mmc, .slice mv md.villages.length mvc, .slice om md.mountains.length omc, .slice (some ⟨g, 0, none⟩) md.villages.length ovc] 25 (wd.alloc (.cells #[.slice am c.mountains.length cpm, .slice av c.villages.length cpv, .slice mm md.mountains.length mmc, .slice mv md.villages.length mvc, .slice mm md.mountains.length mmc, .slice mv md.villages.length mvc, .slice om md.mountains.length omc, .slice (some ⟨g, 0, none⟩) md.villages.length ovc] 25)) := Blk.new wd _ _
          have hBcl : hb < wd.heap.size := hP.hlt
          have hBn := (Below.refl wd.heap.size wd).alloc (Nat.le_refl _) (.cells #[.slice am c.mountains.length cpm, .slice av c.villages.length cpv, .slice mm md.mountains.length mmc, .slice mv md.villages.length mvc, .slice mm md.mountains.length mmc, .slice mv md.villages.length mvc, .slice om md.mountains.length omc, .slice (some ⟨g, 0, none⟩) md.villages.length ovc] 25)
          have hP := hP.call hBn
          have hBO := hBO.call hBn
          have hO := hO.call hBn
          refine hK _ _ ⟨hP.mono (K' := 300) (by omega), hBO⟩ ?_
          clear hK K hBn
          obtain ⟨bc, hbc⟩ : ∃ b, b = wd.heap.size := ⟨_, rfl⟩
          rw [← hbc] at hBc hBcl ⊢
          generalize wd.alloc (.cells #[.slice am c.mountains.length cpm, .slice av c.villages.length cpv, .slice mm md.mountains.length mmc, .slice mv md.villages.length mvc, .slice mm md.mountains.length mmc, .slice mv md.villages.length mvc, .slice om md.mountains.length omc, .slice (some ⟨g, 0, none⟩) md.villages.length ovc] 25) = wa1 at *
          clear hbc
          refine mix_eff2 rfl false rfl (fun K hK => ?_)
          go_simp
          refine (Pre.upto hP 30 (by omega) (by omega) (by omega)).mono ?_
          rintro e wa2 ⟨⟨u1, rfl, hu1a, hu1b⟩, hP, hG⟩
          have hBO := hBO.hand hG (by omega)
          have hO := hO.only hG (by simp)
          have hBc := hBc.hand hG (by omega)
          have hP := hP.mono (K' := 200) (by omega)
          refine hK _ _ ⟨hP.mono (K' := 300) (by omega), hBO⟩ ?_
          clear hK K hG hu1a hu1b
          refine mix_eff2 rfl false rfl (fun K hK => ?_)
          go_simp
          refine (Pre.upto hP 30 (by omega) (by omega) (by omega)).mono ?_
          rintro e wa3 ⟨⟨u2, rfl, hu2a, hu2b⟩, hP, hG⟩
          have hBO := hBO.hand hG (by omega)
          have hO := hO.only hG (by simp)
          have hBc := hBc.hand hG (by omega)
          have hP := hP.mono (K' := 300) (by omega)
          refine hK _ _ ⟨hP.mono (K' := 300) (by omega), hBO⟩ ?_
          clear hK K hG hu2a hu2b
          refine mix_pur2 rfl (fun K hK => ?_)
          go_simp
          first | refine ⟨_, fun _ => rfl, hK _ ?_⟩ | refine hK _ ?_
          clear hK K
          refine mix_eff2 rfl false rfl (fun K hK => ?_)
          go_simp
          have hBy : Blk wa3.heap.size #[.int .i64 pl, .int .i64 u1, .int .i64 pl, .int .i64 u2] 3 (wa3.alloc (.cells #[.int .i64 pl, .int .i64 u1, .int .i64 pl, .int .i64 u2] 3)) := Blk.new wa3 _ _
          have hByl : hb < wa3.heap.size := hP.hlt
          have hBn := (Below.refl wa3.heap.size wa3).alloc (Nat.le_refl _) (.cells #[.int .i64 pl, .int .i64 u1, .int .i64 pl, .int .i64 u2] 3)
          have hP := hP.call hBn
          have hBO := hBO.call hBn
          have hO := hO.call hBn
          have hBc := hBc.call hBn
          refine hK _ _ ⟨hP.mono (K' := 300) (by omega), hBO⟩ ?_
          clear hK K hBn
          obtain ⟨by2, hby2⟩ : ∃ b, b = wa3.heap.size := ⟨_, rfl⟩
          rw [← hby2] at hBy hByl ⊢
          generalize wa3.alloc (.cells #[.int .i64 pl, .int .i64 u1, .int .i64 pl, .int .i64 u2] 3) = wa4 at *
          clear hby2
          refine mix_pur2 rfl (fun K hK => ?_)
          go_simp
          first | refine ⟨_, fun _ => rfl, hK _ ?_⟩ | refine hK _ ?_
          clear hK K
          refine mix_done2 ?_
          go_wp2_with fail
          go_meet
          exact ⟨bc, by2, u1, u2, rfl, rfl, hBc, hBy, hO.wide (fun _ _ _ => trivial), hP⟩
        · go_simp
          refine (Pre.upto hP 30 (by omega) (by omega) (by omega)).mono ?_
          rintro e wa1 ⟨⟨u1, rfl, hu1a, hu1b⟩, hP, hG⟩
          have hBO := hBO.hand hG (by omega)
          have hO := hO.only hG (by simp)
          have hP := hP.mono (K' := 200) (by omega)
          refine hK _ _ ⟨hP.mono (K' := 300) (by omega), hBO⟩ ?_
          clear hK K hG hu1a hu1b
          refine mix_two2 rfl rfl false false rfl rfl (fun K hK => ?_) (fun K hK => ?_)
          · go_simp
            have hBc : Blk wa1.heap.size #[.slice am c.mountains.length cpm, .slice av c.villages.length cpv, .slice mm md.mountains.length mmc, .slice mv md.villages.length mvc, .slice mm md.mountains.length mmc, .slice mv md.villages.length mvc, .slice om md.mountains.length omc, .slice (some ⟨g, 0, none⟩) md.villages.length ovc] 25 (wa1.alloc (.cells #[.slice am c.mountains.length cpm, .slice av c.villages.length cpv, .slice mm md.mountains.length mmc, .slice mv md.villages.length mvc, .slice mm md.mountains.length mmc, .slice mv md.villages.length mvc, .slice om md.mountains.length omc, .slice (some ⟨g, 0, none⟩) md.villages.length ovc] 25)) := Blk.new wa1 _ _
            have hBcl : hb < wa1.heap.size := hP.hlt
            have hBn := (Below.refl wa1.heap.size wa1).alloc (Nat.le_refl _) (.cells #[.slice am c.mountains.length cpm, .slice av c.villages.length cpv, .slice mm md.mountains.length mmc, .slice mv md.villages.length mvc, .slice mm md.mountains.length mmc, .slice mv md.villages.length mvc, .slice om md.mountains.length omc, .slice (some ⟨g, 0, none⟩) md.villages.length ovc] 25)
            have hP := hP.call hBn
            have hBO := hBO.call hBn
            have hO := hO.call hBn
            refine hK _ _ ⟨hP.mono (K' := 300) (by omega), hBO⟩ ?_
            clear hK K hBn
            obtain ⟨bc, hbc⟩ : ∃ b, b = wa1.heap.size := ⟨_, rfl⟩
            rw [← hbc] at hBc hBcl ⊢
            generalize wa1.alloc (.cells #[.slice am c.mountains.length cpm, .slice av c.villages.length cpv, .slice mm md.mountains.length mmc, .slice mv md.villages.length mvc, .slice mm md.mountains.length mmc, .slice mv md.villages.length mvc, .slice om md.mountains.length omc, .slice (some ⟨g, 0, none⟩) md.villages.length ovc] 25) = wa2 at *
            clear hbc
            refine mix_eff2 rfl false rfl (fun K hK => ?_)
            go_simp
            refine (Pre.upto hP 30 (by omega) (by omega) (by omega)).mono ?_
            rintro e wa3 ⟨⟨u2, rfl, hu2a, hu2b⟩, hP, hG⟩
            have hBO := hBO.hand hG (by omega)
            have hO := hO.only hG (by simp)
            have hBc := hBc.hand hG (by omega)
            have hP := hP.mono (K' := 300) (by omega)
            refine hK _ _ ⟨hP.mono (K' := 300) (by omega), hBO⟩ ?_
            clear hK K hG hu2a hu2b
            refine mix_pur2 rfl (fun K hK => ?_)
            go_simp
            first | refine ⟨_, fun _ => rfl, hK _ ?_⟩ | refine hK _ ?_
            clear hK K
            refine mix_eff2 rfl false rfl (fun K hK => ?_)
            go_simp
            have hBy : Blk wa3.heap.size #[.int .i64 pl, .int .i64 u1, .int .i64 pl, .int .i64 u2] 3 (wa3.alloc (.cells #[.int .i64 pl, .int .i64 u1, .int .i64 pl, .int .i64 u2] 3)) := Blk.new wa3 _ _
            have hByl : hb < wa3.heap.size := hP.hlt
            have hBn := (Below.refl wa3.heap.size wa3).alloc (Nat.le_refl _) (.cells #[.int .i64 pl, .int .i64 u1, .int .i64 pl, .int .i64 u2] 3)
            have hP := hP.call hBn
            have hBO := hBO.call hBn
            have hO := hO.call hBn
            have hBc := hBc.call hBn
            refine hK _ _ ⟨hP.mono (K' := 300) (by omega), hBO⟩ ?_
            clear hK K hBn
            obtain ⟨by2, hby2⟩ : ∃ b, b = wa3.heap.size := ⟨_, rfl⟩
            rw [← hby2] at hBy hByl ⊢
            generalize wa3.alloc (.cells #[.int .i64 pl, .int .i64 u1, .int .i64 pl, .int .i64 u2] 3) = wa4 at *
            clear hby2
            refine mix_pur2 rfl (fun K hK => ?_)
            go_simp
            first | refine ⟨_, fun _ => rfl, hK _ ?_⟩ | refine hK _ ?_
            clear hK K
            refine mix_done2 ?_
            go_wp2_with fail
            go_meet
            exact ⟨bc, by2, u1, u2, rfl, rfl, hBc, hBy, hO.wide (fun _ _ _ => trivial), hP⟩
          · go_simp
            refine (Pre.upto hP 30 (by omega) (by omega) (by omega)).mono ?_
            rintro e wa2 ⟨⟨u2, rfl, hu2a, hu2b⟩, hP, hG⟩
            have hBO := hBO.hand hG (by omega)
            have hO := hO.only hG (by simp)
            have hP := hP.mono (K' := 300) (by omega)
            refine hK _ _ ⟨hP.mono (K' := 300) (by omega), hBO⟩ ?_
            clear hK K hG hu2a hu2b
            refine mix_two2 rfl rfl false false rfl rfl (fun K hK => ?_) (fun K hK => ?_)
            · go_simp
              have hBc : Blk wa2.heap.size #[.slice am c.mountains.length cpm, .slice av c.villages.length cpv, .slice mm md.mountains.length mmc, .slice mv md.villages.length mvc, .slice mm md.mountains.length mmc, .slice mv md.villages.length mvc, .slice om md.mountains.length omc, .slice (some ⟨g, 0, none⟩) md.villages.length ovc] 25 (wa2.alloc (.cells #[.slice am c.mountains.length cpm, .slice av c.villages.length cpv, .slice mm md.mountains.length mmc, .slice mv md.villages.length mvc, .slice mm md.mountains.length mmc, .slice mv md.villages.length mvc, .slice om md.mountains.length omc, .slice (some ⟨g, 0, none⟩) md.villages.length ovc] 25)) := Blk.new wa2 _ _
              have hBcl : hb < wa2.heap.size := hP.hlt
              have hBn := (Below.refl wa2.heap.size wa2).alloc (Nat.le_refl _) (.cells #[.slice am c.mountains.length cpm, .slice av c.villages.length cpv, .slice mm md.mountains.length mmc, .slice mv md.villages.length mvc, .slice mm md.mountains.length mmc, .slice mv md.villages.length mvc, .slice om md.mountains.length omc, .slice (some ⟨g, 0, none⟩) md.villages.length ovc] 25)
              have hP := hP.call hBn
              have hBO := hBO.call hBn
              have hO := hO.call hBn
              refine hK _ _ ⟨hP.mono (K' := 300) (by omega), hBO⟩ ?_
              clear hK K hBn
              obtain ⟨bc, hbc⟩ : ∃ b, b = wa2.heap.size := ⟨_, rfl⟩
              rw [← hbc] at hBc hBcl ⊢
              generalize wa2.alloc (.cells #[.slice am c.mountains.length cpm, .slice av c.villages.length cpv, .slice mm md.mountains.length mmc, .slice mv md.villages.length mvc, .slice mm md.mountains.length mmc, .slice mv md.villages.length mvc, .slice om md.mountains.length omc, .slice (some ⟨g, 0, none⟩) md.villages.length ovc] 25) = wa3 at *
              clear hbc
              refine mix_pur2 rfl (fun K hK => ?_)
              go_simp
              first | refine ⟨_, fun _ => rfl, hK _ ?_⟩ | refine hK _ ?_
              clear hK K
              refine mix_eff2 rfl false rfl (fun K hK => ?_)
              go_simp
              have hBy : Blk wa3.heap.size #[.int .i64 pl, .int .i64 u1, .int .i64 pl, .int .i64 u2] 3 (wa3.alloc (.cells #[.int .i64 pl, .int .i64 u1, .int .i64 pl, .int .i64 u2] 3)) := Blk.new wa3 _ _
              have hByl : hb < wa3.heap.size := hP.hlt
              have hBn := (Below.refl wa3.heap.size wa3).alloc (Nat.le_refl _) (.cells #[.int .i64 pl, .int .i64 u1, .int .i64 pl, .int .i64 u2] 3)
              have hP := hP.call hBn
              have hBO := hBO.call hBn
              have hO := hO.call hBn
              have hBc := hBc.call hBn
              refine hK _ _ ⟨hP.mono (K' := 300) (by omega), hBO⟩ ?_
              clear hK K hBn
              obtain ⟨by2, hby2⟩ : ∃ b, b = wa3.heap.size := ⟨_, rfl⟩
              rw [← hby2] at hBy hByl ⊢
              generalize wa3.alloc (.cells #[.int .i64 pl, .int .i64 u1, .int .i64 pl, .int .i64 u2] 3) = wa4 at *
              clear hby2
              refine mix_pur2 rfl (fun K hK => ?_)
              go_simp
              first | refine ⟨_, fun _ => rfl, hK _ ?_⟩ | refine hK _ ?_
              clear hK K
              refine mix_done2 ?_
              go_wp2_with fail
              go_meet
              exact ⟨bc, by2, u1, u2, rfl, rfl, hBc, hBy, hO.wide (fun _ _ _ => trivial), hP⟩
            · go_simp
              have hBy : Blk wa2.heap.size #[.int .i64 pl, .int .i64 u1, .int .i64 pl, .int .i64 u2] 3 (wa2.alloc (.cells #[.int .i64 pl, .int .i64 u1, .int .i64 pl, .int .i64 u2] 3)) := Blk.new wa2 _ _
              have hByl : hb < wa2.heap.size := hP.hlt
              have hBn := (Below.refl wa2.heap.size wa2).alloc (Nat.le_refl _) (.cells #[.int .i64 pl, .int .i64 u1, .int .i64 pl, .int .i64 u2] 3)
              have hP := hP.call hBn
              have hBO := hBO.call hBn
              have hO := hO.call hBn
              refine hK _ _ ⟨hP.mono (K' := 300) (by omega), hBO⟩ ?_
              clear hK K hBn
              obtain ⟨by2, hby2⟩ : ∃ b, b = wa2.heap.size := ⟨_, rfl⟩
              rw [← hby2] at hBy hByl ⊢
              generalize wa2.alloc (.cells #[.int .i64 pl, .int .i64 u1, .int .i64 pl, .int .i64 u2] 3) = wa3 at *
              clear hby2
              refine mix_eff2 rfl false rfl (fun K hK => ?_)
              go_simp
              have hBc : Blk wa3.heap.size #[.slice am c.mountains.length cpm, .slice av c.villages.length cpv, .slice mm md.mountains.length mmc, .slice mv md.villages.length mvc, .slice mm md.mountains.length mmc, .slice mv md.villages.length mvc, .slice om md.mountains.length omc, .slice (some ⟨g, 0, none⟩) md.villages.length ovc] 25 (wa3.alloc (.cells #[.slice am c.mountains.length cpm, .slice av c.villages.length cpv, .slice mm md.mountains.length mmc, .slice mv md.villages.length mvc, .slice mm md.mountains.length mmc, .slice mv md.villages.length mvc, .slice om md.mountains.length omc, .slice (some ⟨g, 0, none⟩) md.villages.length ovc] 25)) := Blk.new wa3 _ _
              have hBcl : hb < wa3.heap.size := hP.hlt
              have hBn := (Below.refl wa3.heap.size wa3).alloc (Nat.le_refl _) (.cells #[.slice am c.mountains.length cpm, .slice av c.villages.length cpv, .slice mm md.mountains.length mmc, .slice mv md.villages.length mvc, .slice mm md.mountains.length mmc, .slice mv md.villages.length mvc, .slice om md.mountains.length omc, .slice (some ⟨g, 0, none⟩) md.villages.length ovc] 25)
              have hP := hP.call hBn
              have hBO := hBO.call hBn
              have hO := hO.call hBn
              have hBy := hBy.call hBn
              refine hK _ _ ⟨hP.mono (K' := 300) (by omega), hBO⟩ ?_
              clear hK K hBn
              obtain ⟨bc, hbc⟩ : ∃ b, b = wa3.heap.size := ⟨_, rfl⟩
              rw [← hbc] at hBc hBcl ⊢
              generalize wa3.alloc (.cells #[.slice am c.mountains.length cpm, .slice av c.villages.length cpv, .slice mm md.mountains.length mmc, .slice mv md.villages.length mvc, .slice mm md.mountains.length mmc, .slice mv md.villages.length mvc, .slice om md.mountains.length omc, .slice (some ⟨g, 0, none⟩) md.villages.length ovc] 25) = wa4 at *
              clear hbc
              refine mix_pur2 rfl (fun K hK => ?_)
              go_simp
              first | refine ⟨_, fun _ => rfl, hK _ ?_⟩ | refine hK _ ?_
              clear hK K
              refine mix_pur2 rfl (fun K hK => ?_)
              go_simp
              first | refine ⟨_, fun _ => rfl, hK _ ?_⟩ | refine hK _ ?_
              clear hK K
              refine mix_done2 ?_
              go_wp2_with fail
              go_meet
              exact ⟨bc, by2, u1, u2, rfl, rfl, hBc, hBy, hO.wide (fun _ _ _ => trivial), hP⟩
      case rest =>
        obtain ⟨bc, by2, u1, u2, rfl, rfl, hBc, hBy, hO8, hP⟩ := hcut
        rename World => w8
        have hT8 := hP.below
        have hc8 := hc1.call hT8
        have hM8 := hP.md
        have hcl := hBc.lt
        have hyl8 := hBy.lt
        have hvl4 : md.villages.length ≤ 4 := by have := hok.vl; omega
        have hrow : ∀ i, i < 4 → ∃ (cc : Com) (yy : Int) (ma va : Option Addr) (mc vc : Nat), AlS bc (i * 2) (.slice ma cc.mountains.length mc) (.slice va cc.villages.length vc) by2 i yy w8 ∧ Cm (fun _ => True) w8 (.slice ma cc.mountains.length mc) (.slice va cc.villages.length vc) cc ∧ cc.Sm := by
          intro i hi
          have hi4 : i = 0 ∨ i = 1 ∨ i = 2 ∨ i = 3 := by omega
          rcases hi4 with rfl | rfl | rfl | rfl
          · exact ⟨c, pl, am, av, cpm, cpv, ⟨hBc.cell 0, hBc.cell 1, hBy.cell 0⟩, hc8.wide (fun _ _ _ => trivial), hsh.sm⟩
          · exact ⟨md, u1, mm, mv, mmc, mvc, ⟨hBc.cell 2, hBc.cell 3, hBy.cell 1⟩, hM8.wide (fun _ _ _ => trivial), hok.sm (by omega)⟩
          · exact ⟨md, pl, mm, mv, mmc, mvc, ⟨hBc.cell 4, hBc.cell 5, hBy.cell 2⟩, hM8.wide (fun _ _ _ => trivial), hok.sm (by omega)⟩
          · refine ⟨(⟨md.mountains, md.villages.set 0 ⟨x, y, lk⟩⟩ : Com), u2, om, some ⟨g, 0, none⟩, omc, ovc, ⟨hBc.cell 6, by simp only [List.length_set]; exact hBc.cell 7, hBy.cell 3⟩, by simp only [List.length_set]; exact hO8, ?_, ?_, ?_⟩
            · show md.mountains.length ≤ 1000; omega
            · show (md.villages.set 0 ⟨x, y, lk⟩).length ≤ 1000; rw [List.length_set]; omega
            · intro v hv
              rcases List.mem_or_eq_of_mem_set hv with h | h
              · exact (hok.sm (by omega)).l v h
              · rw [h]; show lk.length ≤ 1000; omega
        have HROW := Lib.hid hrow
        clear hrow hBc hBy hc8 hM8 hO8 hP hc1
        go_wp2_with fail
        go_loopw [18] (fun s wr => ∃ i : Nat, i ≤ 4 ∧ s = .int .i64 i ∧ Below w8.heap.size w8 wr) (fun s _ => 4 - (intOf s).toNat)
        case atStart => exact ⟨0, Nat.zero_le _, rfl, Below.refl _ _⟩
        case round =>
          obtain ⟨i, hi, rfl, hB⟩ := hrel
          by_cases hi4 : i < 4
          · obtain ⟨cc, yy, ma, va, mc, vc, hS8, hC8, hSm⟩ := HROW.out i hi4
            have hE : ∀ w', Below w8.heap.size w8 w' → AlS bc (i * 2) (.slice ma cc.mountains.length mc) (.slice va cc.villages.length vc) by2 i yy w' := fun w' h => ⟨(World.cell?_of_block (h.block bc hcl)).trans hS8.1, (World.cell?_of_block (h.block bc hcl)).trans hS8.2.1, (World.cell?_of_block (h.block by2 hyl8)).trans hS8.2.2⟩
            clear hS8
            have e0 := (hE _ hB).1
            have e1 := (hE _ hB).2.1
            have hcc := copyCommons_c (hC8.call hB) hSm
            have HCC := Lib.hid hcc
            clear hcc
            go_wp2_with fail
            clear e0 e1
            refine HCC.out.mono ?_
            rintro e wc ⟨mx, vx, rfl, hX, hBc⟩
            obtain ⟨amx, cmx, rfl, _, _⟩ := hX.1.shape
            obtain ⟨avx, cvx, rfl, _, _⟩ := hX.2.shape
            have hB9 := bnx hB hBc
            clear HCC hBc
            go_upto_region 12 with fail
            obtain ⟨X, hXe⟩ : ∃ X, X = wc.heap.size := ⟨_, rfl⟩
            have hXb : Blk X #[(.slice amx cc.mountains.length cmx), (.slice avx cc.villages.length cvx)] 25 (wc.alloc (.cells #[(.slice amx cc.mountains.length cmx), (.slice avx cc.villages.length cvx)] 25)) := by rw [hXe]; exact Blk.new wc _ _
            have hX := hX.alloc (.cells #[(.slice amx cc.mountains.length cmx), (.slice avx cc.villages.length cvx)] 25)
            have hB9 := bal (o := .cells #[(.slice amx cc.mountains.length cmx), (.slice avx cc.villages.length cvx)] 25) hB9
            have hC9 := hC8.call hB9
            rw [← hXe]
            generalize wc.alloc (.cells #[(.slice amx cc.mountains.length cmx), (.slice avx cc.villages.length cvx)] 25) = w9 at *
            clear hXe
            have hF : ∀ w', Below w9.heap.size w9 w' → (AlX bc (i * 2) (.slice ma cc.mountains.length mc) (.slice va cc.villages.length vc) by2 i yy X (.slice amx cc.mountains.length cmx) (.slice avx cc.villages.length cvx)) w' := fun w' h => ⟨hE w' (bnx hB9 h), hXb.call h⟩
            have h_w9 := Below.refl w9.heap.size w9
            go_wp2_with fail
            refine wp_region_mix2 (.one 0 (.pur 1 (.pur 2 (.pur 3 (.one 4 (.act 5 (.pur 6 (.pur 7 (.pur 8 (.pur 9 (.pur 10 .fin))))))))))) 99 (AlX bc (i * 2) (.slice ma cc.mountains.length mc) (.slice va cc.villages.length vc) by2 i yy X (.slice amx cc.mountains.length cmx) (.slice avx cc.villages.length cvx)) (fun _ => True) (by kernel_rfl) (by kernel_rfl) rfl (by kernel_rfl) (hF _ h_w9).drew (fun wd hqd _ => ?_)
            refine mix_loadg2 rfl rfl (.agg #[(.slice amx cc.mountains.length cmx), (.slice avx cc.villages.length cvx)]) (by go_simp) (fun w' h => by have h : (AlX bc (i * 2) (.slice ma cc.mountains.length mc) (.slice va cc.villages.length vc) by2 i yy X (.slice amx cc.mountains.length cmx) (.slice avx cc.villages.length cvx)) w' := h; have h0 := h.2.cell 0; have h1 := h.2.cell 1; go_simp) rfl ?_
            refine mix_pur2 rfl (fun K hK => ?_)
            go_simp
            first | refine ⟨_, fun _ => rfl, hK _ ?_⟩ | refine hK _ ?_
            clear hK K
            refine mix_pur2 rfl (fun K hK => ?_)
            go_simp
            first | refine ⟨_, fun _ => rfl, hK _ ?_⟩ | refine hK _ ?_
            clear hK K
            refine mix_pur2 rfl (fun K hK => ?_)
            go_simp
            first | refine ⟨_, fun _ => rfl, hK _ ?_⟩ | refine hK _ ?_
            clear hK K
            refine mix_loadg2 rfl rfl (.int .i64 yy) (by go_simp) (fun w' h => by have h : (AlX bc (i * 2) (.slice ma cc.mountains.length mc) (.slice va cc.villages.length vc) by2 i yy X (.slice amx cc.mountains.length cmx) (.slice avx cc.villages.length cvx)) w' := h; have h0 := h.1.2.2; go_simp) rfl ?_
            refine mix_eff2 rfl false rfl (fun K hK => ?_)
            go_simp
            refine (allotF_c (hX.call (bnx h_w9 (hqd.below _))) yy).mono ?_
            rintro e w10 ⟨v20, rfl, h20, hBn⟩
            have hN : Below w9.heap.size w9 w10 := bnx (hqd.below w9.heap.size) hBn
            refine hK _ _ (hF _ (bnx h_w9 hN)) ?_
            clear hK K
            refine mix_pur2 rfl (fun K hK => ?_)
            go_simp
            first | refine ⟨_, fun _ => rfl, hK _ ?_⟩ | refine hK _ ?_
            clear hK K
            refine mix_pur2 rfl (fun K hK => ?_)
            go_simp
            first | refine ⟨_, fun _ => rfl, hK _ ?_⟩ | refine hK _ ?_
            clear hK K
            refine mix_pur2 rfl (fun K hK => ?_)
            go_simp
            first | refine ⟨_, fun _ => rfl, hK _ ?_⟩ | refine hK _ ?_
            clear hK K
            refine mix_pur2 rfl (fun K hK => ?_)
            go_simp
            first | refine ⟨_, fun _ => rfl, hK _ ?_⟩ | refine hK _ ?_
            clear hK K
            refine mix_pur2 rfl (fun K hK => ?_)
            go_simp
            first | refine ⟨_, fun _ => rfl, hK _ ?_⟩ | refine hK _ ?_
            clear hK K
            refine mix_done2 ?_
            have h_w10 := bnx h_w9 hN
            clear hqd hBn hN
            go_wp2_with fail
            refine wp_region_mix2 (.pur 0 (.pur 1 (.pur 2 (.one 3 (.pur 4 (.pur 5 (.pur 6 (.one 7 (.act 8 (.pur 9 (.pur 10 (.pur 11 (.pur 12 (.pur 13 .fin)))))))))))))) 99 (AlX bc (i * 2) (.slice ma cc.mountains.length mc) (.slice va cc.villages.length vc) by2 i yy X (.slice amx cc.mountains.length cmx) (.slice avx cc.villages.length cvx)) (fun _ => True) (by kernel_rfl) (by kernel_rfl) rfl (by kernel_rfl) (hF _ h_w10).drew (fun wd hqd _ => ?_)
            refine mix_pur2 rfl (fun K hK => ?_)
            go_simp
            first | refine ⟨_, fun _ => rfl, hK _ ?_⟩ | refine hK _ ?_
            clear hK K
            refine mix_pur2 rfl (fun K hK => ?_)
            go_simp
            first | refine ⟨_, fun _ => rfl, hK _ ?_⟩ | refine hK _ ?_
            clear hK K
            refine mix_pur2 rfl (fun K hK => ?_)
            go_simp
            first | refine ⟨_, fun _ => rfl, hK _ ?_⟩ | refine hK _ ?_
            clear hK K
            refine mix_loadg2 rfl rfl (.agg #[(.slice ma cc.mountains.length mc), (.slice va cc.villages.length vc)]) (by go_simp) (fun w' h => by have h : (AlX bc (i * 2) (.slice ma cc.mountains.length mc) (.slice va cc.villages.length vc) by2 i yy X (.slice amx cc.mountains.length cmx) (.slice avx cc.villages.length cvx)) w' := h; have h0 := h.1.1; have h1 := h.1.2.1; go_simp) rfl ?_
            refine mix_pur2 rfl (fun K hK => ?_)
            go_simp
            first | refine ⟨_, fun _ => rfl, hK _ ?_⟩ | refine hK _ ?_
            clear hK K
            refine mix_pur2 rfl (fun K hK => ?_)
            go_simp
            first | refine ⟨_, fun _ => rfl, hK _ ?_⟩ | refine hK _ ?_
            clear hK K
            refine mix_pur2 rfl (fun K hK => ?_)
            go_simp
            first | refine ⟨_, fun _ => rfl, hK _ ?_⟩ | refine hK _ ?_
            clear hK K
            refine mix_loadg2 rfl rfl (.int .i64 yy) (by go_simp) (fun w' h => by have h : (AlX bc (i * 2) (.slice ma cc.mountains.length mc) (.slice va cc.villages.length vc) by2 i yy X (.slice amx cc.mountains.length cmx) (.slice avx cc.villages.length cvx)) w' := h; have h0 := h.1.2.2; go_simp) rfl ?_
            refine mix_eff2 rfl false rfl (fun K hK => ?_)
            go_simp
            refine (rallotF_c (hC9.call (bnx h_w10 (hqd.below _))) yy).mono ?_
            rintro e w11 ⟨v22, rfl, h22, hBn⟩
            have hN : Below w10.heap.size w10 w11 := bnx (hqd.below w10.heap.size) hBn
            refine hK _ _ (hF _ (bnx h_w10 hN)) ?_
            clear hK K
            refine mix_pur2 rfl (fun K hK => ?_)
            go_simp
            first | refine ⟨_, fun _ => rfl, hK _ ?_⟩ | refine hK _ ?_
            clear hK K
            refine mix_pur2 rfl (fun K hK => ?_)
            go_simp
            first | refine ⟨_, fun _ => rfl, hK _ ?_⟩ | refine hK _ ?_
            clear hK K
            refine mix_pur2 rfl (fun K hK => ?_)
            go_simp
            first | refine ⟨_, fun _ => rfl, hK _ ?_⟩ | refine hK _ ?_
            clear hK K
            refine mix_pur2 rfl (fun K hK => ?_)
            go_simp
            first | refine ⟨_, fun _ => rfl, hK _ ?_⟩ | refine hK _ ?_
            clear hK K
            refine mix_pur2 rfl (fun K hK => ?_)
            go_simp
            first | refine ⟨_, fun _ => rfl, hK _ ?_⟩ | refine hK _ ?_
            clear hK K
            refine mix_done2 ?_
            have h_w11 := bnx h_w10 hN
            have h20 := h20.call hN
            clear hqd hBn hN
            have bd0 : (checkE cc != checkE cc) = false := by simp
            have bd1 : (placesErrE cc yy != placesErrE cc yy) = false := by simp
            go_wp2_with fail
            refine wp_region_mix2 (.one 0 (.pur 2 (.pur 3 (.pur 4 (.one 5 (.act 1 (.act 6 (.pur 7 (.pur 8 (.pur 9 (.pur 10 (.pur 11 (.pur 12 (.pur 13 (.pur 14 (.pur 15 (.act 16 (.pur 17 (.pur 18 .fin))))))))))))))))))) 99 (AlX bc (i * 2) (.slice ma cc.mountains.length mc) (.slice va cc.villages.length vc) by2 i yy X (.slice amx cc.mountains.length cmx) (.slice avx cc.villages.length cvx)) (fun _ => True) (by kernel_rfl) (by kernel_rfl) rfl (by kernel_rfl) (hF _ h_w11).drew (fun wd hqd _ => ?_)
            have z0 : Below w11.heap.size w11 wd := hqd.below _
            refine mix_loadg2 rfl rfl (.agg #[(.slice amx cc.mountains.length cmx), (.slice avx cc.villages.length cvx)]) (by go_simp) (fun w' h => by have h : (AlX bc (i * 2) (.slice ma cc.mountains.length mc) (.slice va cc.villages.length vc) by2 i yy X (.slice amx cc.mountains.length cmx) (.slice avx cc.villages.length cvx)) w' := h; have h0 := h.2.cell 0; have h1 := h.2.cell 1; go_simp) rfl ?_
            refine mix_pur2 rfl (fun K hK => ?_)
            go_simp
            first | refine ⟨_, fun _ => rfl, hK _ ?_⟩ | refine hK _ ?_
            clear hK K
            refine mix_pur2 rfl (fun K hK => ?_)
            go_simp
            first | refine ⟨_, fun _ => rfl, hK _ ?_⟩ | refine hK _ ?_
            clear hK K
            refine mix_pur2 rfl (fun K hK => ?_)
            go_simp
            first | refine ⟨_, fun _ => rfl, hK _ ?_⟩ | refine hK _ ?_
            clear hK K
            refine mix_loadg2 rfl rfl (.agg #[(.slice ma cc.mountains.length mc), (.slice va cc.villages.length vc)]) (by go_simp) (fun w' h => by have h : (AlX bc (i * 2) (.slice ma cc.mountains.length mc) (.slice va cc.villages.length vc) by2 i yy X (.slice amx cc.mountains.length cmx) (.slice avx cc.villages.length cvx)) w' := h; have h0 := h.1.1; have h1 := h.1.2.1; go_simp) rfl ?_
            refine mix_eff2 rfl false rfl (fun K hK => ?_)
            go_simp
            refine (check_c (hX.call (bnx h_w11 z0))).mono ?_
            rintro e y1 ⟨rfl, hy1⟩
            have z1 := bnx z0 hy1
            refine hK _ _ (hF _ (bnx h_w11 z1)) ?_
            clear hK K
            refine mix_eff2 rfl false rfl (fun K hK => ?_)
            go_simp
            refine (rcheck_c (hC9.call (bnx h_w11 z1))).mono ?_
            rintro e y2 ⟨rfl, hy2⟩
            have z2 := bnx z1 hy2
            refine hK _ _ (hF _ (bnx h_w11 z2)) ?_
            clear hK K
            refine mix_pur2 rfl (fun K hK => ?_)
            go_simp
            first | refine ⟨_, fun _ => rfl, hK _ ?_⟩ | refine hK _ ?_
            clear hK K
            refine mix_pur2 rfl (fun K hK => ?_)
            go_simp
            first | refine ⟨_, fun _ => rfl, hK _ ?_⟩ | refine hK _ ?_
            clear hK K
            refine mix_pur2 rfl (fun K hK => ?_)
            go_simp
            first | refine ⟨_, fun _ => rfl, hK _ ?_⟩ | refine hK _ ?_
            clear hK K
            refine mix_pur2 rfl (fun K hK => ?_)
            go_simp
            first | refine ⟨_, fun _ => rfl, hK _ ?_⟩ | refine hK _ ?_
            clear hK K
            refine mix_pur2 rfl (fun K hK => ?_)
            go_simp
            first | refine ⟨_, fun _ => rfl, hK _ ?_⟩ | refine hK _ ?_
            clear hK K
            refine mix_pur2 rfl (fun K hK => ?_)
            go_simp
            first | refine ⟨_, fun _ => rfl, hK _ ?_⟩ | refine hK _ ?_
            clear hK K
            refine mix_pur2 rfl (fun K hK => ?_)
            go_simp
            first | refine ⟨_, fun _ => rfl, hK _ ?_⟩ | refine hK _ ?_
            clear hK K
            refine mix_pur2 rfl (fun K hK => ?_)
            go_simp
            first | refine ⟨_, fun _ => rfl, hK _ ?_⟩ | refine hK _ ?_
            clear hK K
            refine mix_pur2 rfl (fun K hK => ?_)
            go_simp
            first | refine ⟨_, fun _ => rfl, hK _ ?_⟩ | refine hK _ ?_
            clear hK K
            refine mix_eff2 rfl false rfl (fun K hK => ?_)
            go_simp
            refine (sameInts_t (h20.call z2) (h22.call z2)).mono ?_
            rintro e y3 ⟨rfl, hy3⟩
            have z3 := bnx z2 hy3
            refine hK _ _ (hF _ (bnx h_w11 z3)) ?_
            clear hK K
            refine mix_pur2 rfl (fun K hK => ?_)
            go_simp
            first | refine ⟨_, fun _ => rfl, hK _ ?_⟩ | refine hK _ ?_
            clear hK K
            refine mix_pur2 rfl (fun K hK => ?_)
            go_simp
            first | refine ⟨_, fun _ => rfl, hK _ ?_⟩ | refine hK _ ?_
            clear hK K
            refine mix_done2 ?_
            have h_y3 := bnx h_w11 z3
            clear h20 h22 hy1 hy2 hy3 z0 z1 z2 z3 bd0 bd1 hqd
            go_wp2_with fail
            refine wp_region_mix2 (.one 0 (.pur 1 (.pur 2 (.pur 3 (.one 4 (.act 5 (.pur 6 (.pur 7 (.pur 8 (.pur 9 (.pur 10 .fin))))))))))) 99 (AlX bc (i * 2) (.slice ma cc.mountains.length mc) (.slice va cc.villages.length vc) by2 i yy X (.slice amx cc.mountains.length cmx) (.slice avx cc.villages.length cvx)) (fun _ => True) (by kernel_rfl) (by kernel_rfl) rfl (by kernel_rfl) (hF _ h_y3).drew (fun wd hqd _ => ?_)
            refine mix_loadg2 rfl rfl (.agg #[(.slice amx cc.mountains.length cmx), (.slice avx cc.villages.length cvx)]) (by go_simp) (fun w' h => by have h : (AlX bc (i * 2) (.slice ma cc.mountains.length mc) (.slice va cc.villages.length vc) by2 i yy X (.slice amx cc.mountains.length cmx) (.slice avx cc.villages.length cvx)) w' := h; have h0 := h.2.cell 0; have h1 := h.2.cell 1; go_simp) rfl ?_
            refine mix_pur2 rfl (fun K hK => ?_)
            go_simp
            first | refine ⟨_, fun _ => rfl, hK _ ?_⟩ | refine hK _ ?_
            clear hK K
            refine mix_pur2 rfl (fun K hK => ?_)
            go_simp
            first | refine ⟨_, fun _ => rfl, hK _ ?_⟩ | refine hK _ ?_
            clear hK K
            refine mix_pur2 rfl (fun K hK => ?_)
            go_simp
            first | refine ⟨_, fun _ => rfl, hK _ ?_⟩ | refine hK _ ?_
            clear hK K
            refine mix_loadg2 rfl rfl (.int .i64 yy) (by go_simp) (fun w' h => by have h : (AlX bc (i * 2) (.slice ma cc.mountains.length mc) (.slice va cc.villages.length vc) by2 i yy X (.slice amx cc.mountains.length cmx) (.slice avx cc.villages.length cvx)) w' := h; have h0 := h.1.2.2; go_simp) rfl ?_
            refine mix_eff2 rfl false rfl (fun K hK => ?_)
            go_simp
            refine (nextA_c (hX.call (bnx h_y3 (hqd.below _))) yy).mono ?_
            rintro e w13 ⟨rfl, hBn⟩
            have hN : Below y3.heap.size y3 w13 := bnx (hqd.below y3.heap.size) hBn
            refine hK _ _ (hF _ (bnx h_y3 hN)) ?_
            clear hK K
            refine mix_pur2 rfl (fun K hK => ?_)
            go_simp
            first | refine ⟨_, fun _ => rfl, hK _ ?_⟩ | refine hK _ ?_
            clear hK K
            refine mix_pur2 rfl (fun K hK => ?_)
            go_simp
            first | refine ⟨_, fun _ => rfl, hK _ ?_⟩ | refine hK _ ?_
            clear hK K
            refine mix_pur2 rfl (fun K hK => ?_)
            go_simp
            first | refine ⟨_, fun _ => rfl, hK _ ?_⟩ | refine hK _ ?_
            clear hK K
            refine mix_pur2 rfl (fun K hK => ?_)
            go_simp
            first | refine ⟨_, fun _ => rfl, hK _ ?_⟩ | refine hK _ ?_
            clear hK K
            refine mix_pur2 rfl (fun K hK => ?_)
            go_simp
            first | refine ⟨_, fun _ => rfl, hK _ ?_⟩ | refine hK _ ?_
            clear hK K
            refine mix_done2 ?_
            have h_w13 := bnx h_y3 hN
            clear hqd hBn hN
            go_wp2_with fail
            refine wp_region_mix2 (.pur 0 (.pur 1 (.pur 2 (.one 3 (.pur 4 (.pur 5 (.pur 6 (.one 7 (.act 8 (.pur 9 (.pur 10 (.pur 11 (.pur 12 (.pur 13 .fin)))))))))))))) 99 (AlX bc (i * 2) (.slice ma cc.mountains.length mc) (.slice va cc.villages.length vc) by2 i yy X (.slice amx cc.mountains.length cmx) (.slice avx cc.villages.length cvx)) (fun _ => True) (by kernel_rfl) (by kernel_rfl) rfl (by kernel_rfl) (hF _ h_w13).drew (fun wd hqd _ => ?_)
            refine mix_pur2 rfl (fun K hK => ?_)
            go_simp
            first | refine ⟨_, fun _ => rfl, hK _ ?_⟩ | refine hK _ ?_
            clear hK K
            refine mix_pur2 rfl (fun K hK => ?_)
            go_simp
            first | refine ⟨_, fun _ => rfl, hK _ ?_⟩ | refine hK _ ?_
            clear hK K
            refine mix_pur2 rfl (fun K hK => ?_)
            go_simp
            first | refine ⟨_, fun _ => rfl, hK _ ?_⟩ | refine hK _ ?_
            clear hK K
            refine mix_loadg2 rfl rfl (.agg #[(.slice ma cc.mountains.length mc), (.slice va cc.villages.length vc)]) (by go_simp) (fun w' h => by have h : (AlX bc (i * 2) (.slice ma cc.mountains.length mc) (.slice va cc.villages.length vc) by2 i yy X (.slice amx cc.mountains.length cmx) (.slice avx cc.villages.length cvx)) w' := h; have h0 := h.1.1; have h1 := h.1.2.1; go_simp) rfl ?_
            refine mix_pur2 rfl (fun K hK => ?_)
            go_simp
            first | refine ⟨_, fun _ => rfl, hK _ ?_⟩ | refine hK _ ?_
            clear hK K
            refine mix_pur2 rfl (fun K hK => ?_)
            go_simp
            first | refine ⟨_, fun _ => rfl, hK _ ?_⟩ | refine hK _ ?_
            clear hK K
            refine mix_pur2 rfl (fun K hK => ?_)
            go_simp
            first | refine ⟨_, fun _ => rfl, hK _ ?_⟩ | refine hK _ ?_
            clear hK K
            refine mix_loadg2 rfl rfl (.int .i64 yy) (by go_simp) (fun w' h => by have h : (AlX bc (i * 2) (.slice ma cc.mountains.length mc) (.slice va cc.villages.length vc) by2 i yy X (.slice amx cc.mountains.length cmx) (.slice avx cc.villages.length cvx)) w' := h; have h0 := h.1.2.2; go_simp) rfl ?_
            refine mix_eff2 rfl false rfl (fun K hK => ?_)
            go_simp
            refine (rnextA_c (hC9.call (bnx h_w13 (hqd.below _))) yy).mono ?_
            rintro e w14 ⟨rfl, hBn⟩
            have hN : Below w13.heap.size w13 w14 := bnx (hqd.below w13.heap.size) hBn
            refine hK _ _ (hF _ (bnx h_w13 hN)) ?_
            clear hK K
            refine mix_pur2 rfl (fun K hK => ?_)
            go_simp
            first | refine ⟨_, fun _ => rfl, hK _ ?_⟩ | refine hK _ ?_
            clear hK K
            refine mix_pur2 rfl (fun K hK => ?_)
            go_simp
            first | refine ⟨_, fun _ => rfl, hK _ ?_⟩ | refine hK _ ?_
            clear hK K
            refine mix_pur2 rfl (fun K hK => ?_)
            go_simp
            first | refine ⟨_, fun _ => rfl, hK _ ?_⟩ | refine hK _ ?_
            clear hK K
            refine mix_pur2 rfl (fun K hK => ?_)
            go_simp
            first | refine ⟨_, fun _ => rfl, hK _ ?_⟩ | refine hK _ ?_
            clear hK K
            refine mix_pur2 rfl (fun K hK => ?_)
            go_simp
            first | refine ⟨_, fun _ => rfl, hK _ ?_⟩ | refine hK _ ?_
            clear hK K
            refine mix_done2 ?_
            have h_w14 := bnx h_w13 hN
            clear hqd hBn hN
            go_wp2_with fail
            refine wp_region_mix2 (.one 0 (.pur 1 (.pur 2 (.pur 3 (.pur 4 (.pur 5 (.one 6 (.act 7 (.pur 8 (.pur 9 (.pur 10 (.pur 11 (.pur 12 (.pur 13 (.pur 14 .fin))))))))))))))) 99 (AlX bc (i * 2) (.slice ma cc.mountains.length mc) (.slice va cc.villages.length vc) by2 i yy X (.slice amx cc.mountains.length cmx) (.slice avx cc.villages.length cvx)) (fun _ => True) (by kernel_rfl) (by kernel_rfl) rfl (by kernel_rfl) (hF _ h_w14).drew (fun wd hqd _ => ?_)
            refine mix_loadg2 rfl rfl (.agg #[(.slice amx cc.mountains.length cmx), (.slice avx cc.villages.length cvx)]) (by go_simp) (fun w' h => by have h : (AlX bc (i * 2) (.slice ma cc.mountains.length mc) (.slice va cc.villages.length vc) by2 i yy X (.slice amx cc.mountains.length cmx) (.slice avx cc.villages.length cvx)) w' := h; have h0 := h.2.cell 0; have h1 := h.2.cell 1; go_simp) rfl ?_
            refine mix_pur2 rfl (fun K hK => ?_)
            go_simp
            first | refine ⟨_, fun _ => rfl, hK _ ?_⟩ | refine hK _ ?_
            clear hK K
            refine mix_pur2 rfl (fun K hK => ?_)
            go_simp
            first | refine ⟨_, fun _ => rfl, hK _ ?_⟩ | refine hK _ ?_
            clear hK K
            refine mix_pur2 rfl (fun K hK => ?_)
            go_simp
            first | refine ⟨_, fun _ => rfl, hK _ ?_⟩ | refine hK _ ?_
            clear hK K
            refine mix_pur2 rfl (fun K hK => ?_)
            go_simp
            first | refine ⟨_, fun _ => rfl, hK _ ?_⟩ | refine hK _ ?_
            clear hK K
            refine mix_pur2 rfl (fun K hK => ?_)
            go_simp
            first | refine ⟨_, fun _ => rfl, hK _ ?_⟩ | refine hK _ ?_
            clear hK K
            refine mix_loadg2 rfl rfl (.int .i64 yy) (by go_simp) (fun w' h => by have h : (AlX bc (i * 2) (.slice ma cc.mountains.length mc) (.slice va cc.villages.length vc) by2 i yy X (.slice amx cc.mountains.length cmx) (.slice avx cc.villages.length cvx)) w' := h; have h0 := h.1.2.2; go_simp) rfl ?_
            refine mix_eff2 rfl false rfl (fun K hK => ?_)
            go_simp
            refine (lateA_c (hX.call (bnx h_w14 (hqd.below _))) he hd yy).mono ?_
            rintro e w15 ⟨v20, rfl, h20, hBn⟩
            have hN : Below w14.heap.size w14 w15 := bnx (hqd.below w14.heap.size) hBn
            refine hK _ _ (hF _ (bnx h_w14 hN)) ?_
            clear hK K
            refine mix_pur2 rfl (fun K hK => ?_)
            go_simp
            first | refine ⟨_, fun _ => rfl, hK _ ?_⟩ | refine hK _ ?_
            clear hK K
            refine mix_pur2 rfl (fun K hK => ?_)
            go_simp
            first | refine ⟨_, fun _ => rfl, hK _ ?_⟩ | refine hK _ ?_
            clear hK K
            refine mix_pur2 rfl (fun K hK => ?_)
            go_simp
            first | refine ⟨_, fun _ => rfl, hK _ ?_⟩ | refine hK _ ?_
            clear hK K
            refine mix_pur2 rfl (fun K hK => ?_)
            go_simp
            first | refine ⟨_, fun _ => rfl, hK _ ?_⟩ | refine hK _ ?_
            clear hK K
            refine mix_pur2 rfl (fun K hK => ?_)
            go_simp
            first | refine ⟨_, fun _ => rfl, hK _ ?_⟩ | refine hK _ ?_
            clear hK K
            refine mix_pur2 rfl (fun K hK => ?_)
            go_simp
            first | refine ⟨_, fun _ => rfl, hK _ ?_⟩ | refine hK _ ?_
            clear hK K
            refine mix_pur2 rfl (fun K hK => ?_)
            go_simp
            first | refine ⟨_, fun _ => rfl, hK _ ?_⟩ | refine hK _ ?_
            clear hK K
            refine mix_done2 ?_
            have h_w15 := bnx h_w14 hN
            clear hqd hBn hN
            go_wp2_with fail
            refine wp_region_mix2 (.pur 0 (.pur 1 (.pur 2 (.one 3 (.pur 4 (.pur 5 (.pur 6 (.pur 7 (.pur 8 (.one 9 (.act 10 (.pur 11 (.pur 12 (.pur 13 (.pur 14 (.pur 15 (.pur 16 (.pur 17 .fin)))))))))))))))))) 99 (AlX bc (i * 2) (.slice ma cc.mountains.length mc) (.slice va cc.villages.length vc) by2 i yy X (.slice amx cc.mountains.length cmx) (.slice avx cc.villages.length cvx)) (fun _ => True) (by kernel_rfl) (by kernel_rfl) rfl (by kernel_rfl) (hF _ h_w15).drew (fun wd hqd _ => ?_)
            refine mix_pur2 rfl (fun K hK => ?_)
            go_simp
            first | refine ⟨_, fun _ => rfl, hK _ ?_⟩ | refine hK _ ?_
            clear hK K
            refine mix_pur2 rfl (fun K hK => ?_)
            go_simp
            first | refine ⟨_, fun _ => rfl, hK _ ?_⟩ | refine hK _ ?_
            clear hK K
            refine mix_pur2 rfl (fun K hK => ?_)
            go_simp
            first | refine ⟨_, fun _ => rfl, hK _ ?_⟩ | refine hK _ ?_
            clear hK K
            refine mix_loadg2 rfl rfl (.agg #[(.slice ma cc.mountains.length mc), (.slice va cc.villages.length vc)]) (by go_simp) (fun w' h => by have h : (AlX bc (i * 2) (.slice ma cc.mountains.length mc) (.slice va cc.villages.length vc) by2 i yy X (.slice amx cc.mountains.length cmx) (.slice avx cc.villages.length cvx)) w' := h; have h0 := h.1.1; have h1 := h.1.2.1; go_simp) rfl ?_
            refine mix_pur2 rfl (fun K hK => ?_)
            go_simp
            first | refine ⟨_, fun _ => rfl, hK _ ?_⟩ | refine hK _ ?_
            clear hK K
            refine mix_pur2 rfl (fun K hK => ?_)
            go_simp
            first | refine ⟨_, fun _ => rfl, hK _ ?_⟩ | refine hK _ ?_
            clear hK K
            refine mix_pur2 rfl (fun K hK => ?_)
            go_simp
            first | refine ⟨_, fun _ => rfl, hK _ ?_⟩ | refine hK _ ?_
            clear hK K
            refine mix_pur2 rfl (fun K hK => ?_)
            go_simp
            first | refine ⟨_, fun _ => rfl, hK _ ?_⟩ | refine hK _ ?_
            clear hK K
            refine mix_pur2 rfl (fun K hK => ?_)
            go_simp
            first | refine ⟨_, fun _ => rfl, hK _ ?_⟩ | refine hK _ ?_
            clear hK K
            refine mix_loadg2 rfl rfl (.int .i64 yy) (by go_simp) (fun w' h => by have h : (AlX bc (i * 2) (.slice ma cc.mountains.length mc) (.slice va cc.villages.length vc) by2 i yy X (.slice amx cc.mountains.length cmx) (.slice avx cc.villages.length cvx)) w' := h; have h0 := h.1.2.2; go_simp) rfl ?_
            refine mix_eff2 rfl false rfl (fun K hK => ?_)
            go_simp
            refine (rlateA_c (hC9.call (bnx h_w15 (hqd.below _))) he hd yy).mono ?_
            rintro e w16 ⟨v22, rfl, h22, hBn⟩
            have hN : Below w15.heap.size w15 w16 := bnx (hqd.below w15.heap.size) hBn
            refine hK _ _ (hF _ (bnx h_w15 hN)) ?_
            clear hK K
            refine mix_pur2 rfl (fun K hK => ?_)
            go_simp
            first | refine ⟨_, fun _ => rfl, hK _ ?_⟩ | refine hK _ ?_
            clear hK K
            refine mix_pur2 rfl (fun K hK => ?_)
            go_simp
            first | refine ⟨_, fun _ => rfl, hK _ ?_⟩ | refine hK _ ?_
            clear hK K
            refine mix_pur2 rfl (fun K hK => ?_)
            go_simp
            first | refine ⟨_, fun _ => rfl, hK _ ?_⟩ | refine hK _ ?_
            clear hK K
            refine mix_pur2 rfl (fun K hK => ?_)
            go_simp
            first | refine ⟨_, fun _ => rfl, hK _ ?_⟩ | refine hK _ ?_
            clear hK K
            refine mix_pur2 rfl (fun K hK => ?_)
            go_simp
            first | refine ⟨_, fun _ => rfl, hK _ ?_⟩ | refine hK _ ?_
            clear hK K
            refine mix_pur2 rfl (fun K hK => ?_)
            go_simp
            first | refine ⟨_, fun _ => rfl, hK _ ?_⟩ | refine hK _ ?_
            clear hK K
            refine mix_pur2 rfl (fun K hK => ?_)
            go_simp
            first | refine ⟨_, fun _ => rfl, hK _ ?_⟩ | refine hK _ ?_
            clear hK K
            refine mix_done2 ?_
            have h_w16 := bnx h_w15 hN
            have h20 := h20.call hN
            clear hqd hBn hN
            have bd0 : (nextV cc yy != nextV cc yy) = false := by simp
            have bd1 : (nextE cc yy != nextE cc yy) = false := by simp
            have bd2 : (lateNo cc he hd yy != lateNo cc he hd yy) = false := by simp
            have bd3 : (lateE cc he hd yy != lateE cc he hd yy) = false := by simp
            go_wp2_with fail
            refine wp_region_mix2 (.pur 0 (.pur 1 (.pur 2 (.pur 3 (.pur 4 (.pur 5 (.pur 6 (.pur 7 (.pur 8 (.pur 9 (.pur 10 (.pur 11 (.pur 12 (.pur 13 (.pur 14 (.pur 15 (.pur 16 (.pur 17 (.pur 18 (.pur 19 (.pur 20 (.act 21 (.pur 22 (.pur 23 (.pur 24 (.one 25 (.pur 26 (.pur 27 (.pur 28 (.one 29 (.act 30 (.pur 31 (.pur 32 .fin))))))))))))))))))))))))))))))))) 99 (AlX bc (i * 2) (.slice ma cc.mountains.length mc) (.slice va cc.villages.length vc) by2 i yy X (.slice amx cc.mountains.length cmx) (.slice avx cc.villages.length cvx)) (fun _ => True) (by kernel_rfl) (by kernel_rfl) rfl (by kernel_rfl) (hF _ h_w16).drew (fun wd hqd _ => ?_)
            have z0 : Below w16.heap.size w16 wd := hqd.below _
            refine mix_pur2 rfl (fun K hK => ?_)
            go_simp
            first | refine ⟨_, fun _ => rfl, hK _ ?_⟩ | refine hK _ ?_
            clear hK K
            refine mix_pur2 rfl (fun K hK => ?_)
            go_simp
            first | refine ⟨_, fun _ => rfl, hK _ ?_⟩ | refine hK _ ?_
            clear hK K
            refine mix_pur2 rfl (fun K hK => ?_)
            go_simp
            first | refine ⟨_, fun _ => rfl, hK _ ?_⟩ | refine hK _ ?_
            clear hK K
            refine mix_pur2 rfl (fun K hK => ?_)
            go_simp
            first | refine ⟨_, fun _ => rfl, hK _ ?_⟩ | refine hK _ ?_
            clear hK K
            refine mix_pur2 rfl (fun K hK => ?_)
            go_simp
            first | refine ⟨_, fun _ => rfl, hK _ ?_⟩ | refine hK _ ?_
            clear hK K
            refine mix_pur2 rfl (fun K hK => ?_)
            go_simp
            first | refine ⟨_, fun _ => rfl, hK _ ?_⟩ | refine hK _ ?_
            clear hK K
            refine mix_pur2 rfl (fun K hK => ?_)
            go_simp
            first | refine ⟨_, fun _ => rfl, hK _ ?_⟩ | refine hK _ ?_
            clear hK K
            refine mix_pur2 rfl (fun K hK => ?_)
            go_simp
            first | refine ⟨_, fun _ => rfl, hK _ ?_⟩ | refine hK _ ?_
            clear hK K
            refine mix_pur2 rfl (fun K hK => ?_)
            go_simp
            first | refine ⟨_, fun _ => rfl, hK _ ?_⟩ | refine hK _ ?_
            clear hK K
            refine mix_pur2 rfl (fun K hK => ?_)
            go_simp
            first | refine ⟨_, fun _ => rfl, hK _ ?_⟩ | refine hK _ ?_
            clear hK K
            refine mix_pur2 rfl (fun K hK => ?_)
            go_simp
            first | refine ⟨_, fun _ => rfl, hK _ ?_⟩ | refine hK _ ?_
            clear hK K
            refine mix_pur2 rfl (fun K hK => ?_)
            go_simp
            first | refine ⟨_, fun _ => rfl, hK _ ?_⟩ | refine hK _ ?_
            clear hK K
            refine mix_pur2 rfl (fun K hK => ?_)
            go_simp
            first | refine ⟨_, fun _ => rfl, hK _ ?_⟩ | refine hK _ ?_
            clear hK K
            refine mix_pur2 rfl (fun K hK => ?_)
            go_simp
            first | refine ⟨_, fun _ => rfl, hK _ ?_⟩ | refine hK _ ?_
            clear hK K
            refine mix_pur2 rfl (fun K hK => ?_)
            go_simp
            first | refine ⟨_, fun _ => rfl, hK _ ?_⟩ | refine hK _ ?_
            clear hK K
            refine mix_pur2 rfl (fun K hK => ?_)
            go_simp
            first | refine ⟨_, fun _ => rfl, hK _ ?_⟩ | refine hK _ ?_
            clear hK K
            refine mix_pur2 rfl (fun K hK => ?_)
            go_simp
            first | refine ⟨_, fun _ => rfl, hK _ ?_⟩ | refine hK _ ?_
            clear hK K
            refine mix_pur2 rfl (fun K hK => ?_)
            go_simp
            first | refine ⟨_, fun _ => rfl, hK _ ?_⟩ | refine hK _ ?_
            clear hK K
            refine mix_pur2 rfl (fun K hK => ?_)
            go_simp
            first | refine ⟨_, fun _ => rfl, hK _ ?_⟩ | refine hK _ ?_
            clear hK K
            refine mix_pur2 rfl (fun K hK => ?_)
            go_simp
            first | refine ⟨_, fun _ => rfl, hK _ ?_⟩ | refine hK _ ?_
            clear hK K
            refine mix_pur2 rfl (fun K hK => ?_)
            go_simp
            first | refine ⟨_, fun _ => rfl, hK _ ?_⟩ | refine hK _ ?_
            clear hK K
            refine mix_eff2 rfl false rfl (fun K hK => ?_)
            go_simp
            refine (sameInts_t (h20.call z0) (h22.call z0)).mono ?_
            rintro e y1 ⟨rfl, hy1⟩
            have z1 := bnx z0 hy1
            refine hK _ _ (hF _ (bnx h_w16 z1)) ?_
            clear hK K
            refine mix_pur2 rfl (fun K hK => ?_)
            go_simp
            first | refine ⟨_, fun _ => rfl, hK _ ?_⟩ | refine hK _ ?_
            clear hK K
            refine mix_pur2 rfl (fun K hK => ?_)
            go_simp
            first | refine ⟨_, fun _ => rfl, hK _ ?_⟩ | refine hK _ ?_
            clear hK K
            refine mix_pur2 rfl (fun K hK => ?_)
            go_simp
            first | refine ⟨_, fun _ => rfl, hK _ ?_⟩ | refine hK _ ?_
            clear hK K
            refine mix_loadg2 rfl rfl (.agg #[(.slice amx cc.mountains.length cmx), (.slice avx cc.villages.length cvx)]) (by go_simp) (fun w' h => by have h : (AlX bc (i * 2) (.slice ma cc.mountains.length mc) (.slice va cc.villages.length vc) by2 i yy X (.slice amx cc.mountains.length cmx) (.slice avx cc.villages.length cvx)) w' := h; have h0 := h.2.cell 0; have h1 := h.2.cell 1; go_simp) rfl ?_
            refine mix_pur2 rfl (fun K hK => ?_)
            go_simp
            first | refine ⟨_, fun _ => rfl, hK _ ?_⟩ | refine hK _ ?_
            clear hK K
            refine mix_pur2 rfl (fun K hK => ?_)
            go_simp
            first | refine ⟨_, fun _ => rfl, hK _ ?_⟩ | refine hK _ ?_
            clear hK K
            refine mix_pur2 rfl (fun K hK => ?_)
            go_simp
            first | refine ⟨_, fun _ => rfl, hK _ ?_⟩ | refine hK _ ?_
            clear hK K
            refine mix_loadg2 rfl rfl (.agg #[(.slice ma cc.mountains.length mc), (.slice va cc.villages.length vc)]) (by go_simp) (fun w' h => by have h : (AlX bc (i * 2) (.slice ma cc.mountains.length mc) (.slice va cc.villages.length vc) by2 i yy X (.slice amx cc.mountains.length cmx) (.slice avx cc.villages.length cvx)) w' := h; have h0 := h.1.1; have h1 := h.1.2.1; go_simp) rfl ?_
            refine mix_eff2 rfl false rfl (fun K hK => ?_)
            go_simp
            refine (sameCommons_t (hX.call (bnx h_w16 z1)) (hC9.call (bnx h_w16 z1))).mono ?_
            rintro e y2 ⟨rfl, hy2⟩
            have z2 := bnx z1 hy2
            refine hK _ _ (hF _ (bnx h_w16 z2)) ?_
            clear hK K
            refine mix_pur2 rfl (fun K hK => ?_)
            go_simp
            first | refine ⟨_, fun _ => rfl, hK _ ?_⟩ | refine hK _ ?_
            clear hK K
            refine mix_pur2 rfl (fun K hK => ?_)
            go_simp
            first | refine ⟨_, fun _ => rfl, hK _ ?_⟩ | refine hK _ ?_
            clear hK K
            refine mix_done2 ?_
            go_wp2_with fail
            go_roundw
            case rel => exact ⟨i + 1, by omega, by go_num, bnx hB9 (bnx h_w16 z2)⟩
            case measure => simp [intOf]; omega
          · obtain rfl : i = 4 := by omega
            go_wp2_with (go_at_call 21; refine (drawn_c _).mono ?_; rintro e wz ⟨rfl, hBz⟩)
            go_ret
            exact ⟨rfl, bnx hT1 (bnx hT8 (bnx hB hBz))⟩
    · have b1 : decide ((lk.length : Int) > 20) = true := decide_eq_true (by omega)
      go_wp2_with (go_at_call 21; refine (drawn_c _).mono ?_; rintro e wz ⟨rfl, hBz⟩)
      go_ret
      exact ⟨rfl, bnx hT1 hBz⟩

end Go.Proofs.Ythchpoabncdicaa
