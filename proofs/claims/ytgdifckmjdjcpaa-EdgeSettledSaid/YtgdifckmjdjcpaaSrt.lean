/- The sort of furrows by their years (edge): insertionSortCmpFunc, stableCmpFunc, SortStableFunc, and the order that they go by; conditions: at most eight furrows. -/
import Derived.Test.YtgdifckmjdjcpaaFur1
import Derived.Test.YtgdifckmjdjcpaaGrp2
import Derived.Test.YtgdifckmjdjcpaaEdgT12
import Derived.Test.YtgdifckmjdjcpaaOnl
namespace Go.Proofs.Ytgdifckmjdjcpaa
open Go.RowKit

section
variable {P : Program} {ops : Array Oper} {Q : Exit → Act → World → Prop} {C : Bool → World → Prop}
/-- A load under a guard that holds. -/
theorem mix_loadg2 {z i : Nat} {rest : PlanC} {ph : Bool} {a : Act} {w : World} {o : Oper} (hi : ops[i]? = some o) {t : TypeId} {x : Operand} (ho : o.op = .load t x) {p : Addr} (v : Value)
    (hg : Region.wanted o (yielded ops a.tmps) = true) (hv : ∀ w', C ph w' → (loadVar t p).run P w' = .ok v w') (hx : a.eval x = .pointer (some p)) (h : wpMix2 P ops C z Q rest ph (a.put o.dst v) w) : wpMix2 P ops C z Q (.one i rest) ph a w := by
  refine ⟨o, v, hi, .inl ⟨hg, fun w' hS => ?_⟩, h⟩
  simp [execOp, ho, Instr.loadAt, hx, Instr.sureAddr, hv w' hS]
end

theorem year_c (f : Fu) (w : World) : Calls Try.prog 125 #[.agg #[.int .i64 f.point, .int .i64 f.year, .int .i64 f.off]] w fun e w' => e = .returned (.int .i64 f.year) ∧ Below w.heap.size w w' := by
  have hB := (Below.refl w.heap.size w).alloc (Nat.le_refl _) (.cells #[.int .i64 f.point, .int .i64 f.year, .int .i64 f.off] 76)
  go_enter Try.func125, Try.ntmps125
  go_wp2
  go_ret
  exact ⟨rfl, hB⟩

set_option maxRecDepth 100000 in
theorem order_c (f g : Fu) {bk : Nat} {w : World} (hK : Blk bk #[.func (.func 125) #[] #[]] 155 w) : Calls Try.prog 133 #[.agg #[.int .i64 f.point, .int .i64 f.year, .int .i64 f.off], .agg #[.int .i64 g.point, .int .i64 g.year, .int .i64 g.off], .pointer (some ⟨bk, 0, none⟩)] w fun e w' => e = .returned (.int .i64 (cmpI f.year g.year)) ∧ Below w.heap.size w w' := by
  obtain ⟨wq, hwq⟩ : ∃ wq, wq = (w.alloc (.cells #[.int .i64 f.point, .int .i64 f.year, .int .i64 f.off] 76)).alloc (.cells #[.int .i64 g.point, .int .i64 g.year, .int .i64 g.off] 76) := ⟨_, rfl⟩
  obtain ⟨ba, hba⟩ : ∃ b, b = w.heap.size := ⟨_, rfl⟩
  obtain ⟨bb, hbb⟩ : ∃ b, b = w.heap.size + 1 := ⟨_, rfl⟩
  have hA0 : Blk ba #[.int .i64 f.point, .int .i64 f.year, .int .i64 f.off] 76 wq := by rw [hwq, hba]; exact (Blk.new w _ _).alloc _
  have hB0 : Blk bb #[.int .i64 g.point, .int .i64 g.year, .int .i64 g.off] 76 wq := by rw [hwq, hbb]; exact blk_at (by simp) _ _
  have hBq : Below w.heap.size w wq := by rw [hwq]; exact ((Below.refl _ w).alloc (Nat.le_refl _) _).alloc (by simp) _
  have hK0 := hK.call hBq
  clear hK
  go_enter Try.func133, Try.ntmps133
  go_upto_region 1 with fail
  rw [← hwq, ← hbb, ← hba]
  clear hwq hbb hba
  refine wp_region_mix2 (.one 0 (.one 1 (.one 3 (.one 4 (.act 2 (.act 5 (.act 6 (.pur 7 .fin)))))))) 99 (fun w' => Blk bk #[.func (.func 125) #[] #[]] 155 w' ∧ Blk ba #[.int .i64 f.point, .int .i64 f.year, .int .i64 f.off] 76 w' ∧ Blk bb #[.int .i64 g.point, .int .i64 g.year, .int .i64 g.off] 76 w') (fun _ => True) (by kernel_rfl) (by kernel_rfl) rfl (by kernel_rfl) ⟨hK0.qt ((Qt.refl _).drewN 1), hA0.qt ((Qt.refl _).drewN 1), hB0.qt ((Qt.refl _).drewN 1)⟩ (fun wd hqd _ => ?_)
  refine mix_load2 rfl rfl rfl (.func (.func 125) #[] #[]) (fun w' h => by have h : (fun w' => Blk bk #[.func (.func 125) #[] #[]] 155 w' ∧ Blk ba #[.int .i64 f.point, .int .i64 f.year, .int .i64 f.off] 76 w' ∧ Blk bb #[.int .i64 g.point, .int .i64 g.year, .int .i64 g.off] 76 w') w' := h; have c0 := h.1.cell 0; go_simp) rfl ?_
  refine mix_load2 rfl rfl rfl (.agg #[.int .i64 f.point, .int .i64 f.year, .int .i64 f.off]) (fun w' h => by have h : (fun w' => Blk bk #[.func (.func 125) #[] #[]] 155 w' ∧ Blk ba #[.int .i64 f.point, .int .i64 f.year, .int .i64 f.off] 76 w' ∧ Blk bb #[.int .i64 g.point, .int .i64 g.year, .int .i64 g.off] 76 w') w' := h; have c0 := h.2.1.cell 0; have c1 := h.2.1.cell 1; have c2 := h.2.1.cell 2; go_simp) rfl ?_
  refine mix_load2 rfl rfl rfl (.func (.func 125) #[] #[]) (fun w' h => by have h : (fun w' => Blk bk #[.func (.func 125) #[] #[]] 155 w' ∧ Blk ba #[.int .i64 f.point, .int .i64 f.year, .int .i64 f.off] 76 w' ∧ Blk bb #[.int .i64 g.point, .int .i64 g.year, .int .i64 g.off] 76 w') w' := h; have c0 := h.1.cell 0; go_simp) rfl ?_
  refine mix_load2 rfl rfl rfl (.agg #[.int .i64 g.point, .int .i64 g.year, .int .i64 g.off]) (fun w' h => by have h : (fun w' => Blk bk #[.func (.func 125) #[] #[]] 155 w' ∧ Blk ba #[.int .i64 f.point, .int .i64 f.year, .int .i64 f.off] 76 w' ∧ Blk bb #[.int .i64 g.point, .int .i64 g.year, .int .i64 g.off] 76 w') w' := h; have c0 := h.2.2.cell 0; have c1 := h.2.2.cell 1; have c2 := h.2.2.cell 2; go_simp) rfl ?_
  refine mix_eff2 rfl false rfl (fun K hK => ?_)
  go_simp
  refine (year_c f _).mono ?_
  rintro e w3 ⟨rfl, hB3⟩
  have hB3 := bnx (hqd.below wq.heap.size) hB3
  refine hK _ _ ⟨hK0.call hB3, hA0.call hB3, hB0.call hB3⟩ ?_
  clear hK K
  refine mix_eff2 rfl false rfl (fun K hK => ?_)
  go_simp
  refine (year_c g _).mono ?_
  rintro e w4 ⟨rfl, hB4⟩
  have hB4 := bnx hB3 hB4
  refine hK _ _ ⟨hK0.call hB4, hA0.call hB4, hB0.call hB4⟩ ?_
  clear hK K
  refine mix_eff2 rfl false rfl (fun K hK => ?_)
  go_simp
  refine (cmpI_c f.year g.year _).mono ?_
  rintro e w5 ⟨rfl, rfl⟩
  refine hK _ _ ⟨hK0.call hB4, hA0.call hB4, hB0.call hB4⟩ ?_
  clear hK K
  refine mix_pur2 rfl (fun K hK => ?_)
  go_simp
  first | refine ⟨_, fun _ => rfl, hK _ ?_⟩ | refine hK _ ?_
  clear hK K
  refine mix_done2 ?_
  go_wp2
  go_ret
  exact ⟨rfl, bnx hBq hB4⟩

/-- Furrows in a row of the call's own. -/
def FO (N g n cap : Nat) (l : List Fu) (w : World) : Prop := Own N w 76 3 (.slice (some ⟨g, 0, none⟩) n cap) n (l.flatMap fcells)
theorem FO.len {N g n cap : Nat} {l : List Fu} {w : World} (h : FO N g n cap l w) : l.length = n := by
  have := (show World.ownsRow _ _ _ _ _ _ _ from h).1
  rw [flat_len fcells_len] at this
  omega
theorem FO.at {N g n cap : Nat} {l : List Fu} {w : World} (h : FO N g n cap l w) {j : Nat} (hj : j < l.length) :
    w.cell? ⟨g, j * 3, none⟩ = some (.int .i64 l[j].point) ∧ w.cell? ⟨g, j * 3 + 1, none⟩ = some (.int .i64 l[j].year) ∧ w.cell? ⟨g, j * 3 + 2, none⟩ = some (.int .i64 l[j].off) := by
  have hl := h.len
  have h0 := flat_at fcells_len l j hj 0 (by decide)
  have h1 := flat_at fcells_len l j hj 1 (by decide)
  have h2 := flat_at fcells_len l j hj 2 (by decide)
  rw [Nat.add_zero] at h0
  refine ⟨?_, ?_, ?_⟩
  · rw [World.ownsRow.cellAt h _ (by omega)]; exact h0
  · rw [World.ownsRow.cellAt h _ (by omega)]; exact h1
  · rw [World.ownsRow.cellAt h _ (by omega)]; exact h2
theorem FO.free {N g n cap : Nat} {l : List Fu} {w : World} (h : FO N g n cap l w) (j : Nat) : w.frozen? ⟨g, j, none⟩ = false := own_free h j
theorem fu_set : ∀ (l : List Fu) (j : Nat), j < l.length → ∀ f : Fu, (((l.flatMap fcells).set (j * 3) (.int .i64 f.point)).set (j * 3 + 1) (.int .i64 f.year)).set (j * 3 + 2) (.int .i64 f.off) = (l.set j f).flatMap fcells
  | [], j, h, _ => by simp at h
  | a :: l, 0, _, f => by simp [fcells]
  | a :: l, j + 1, h, f => by
    have ih := fu_set l j (by simpa using h) f
    rw [show (j + 1) * 3 = j * 3 + 3 by omega, show j * 3 + 3 + 1 = j * 3 + 1 + 3 by omega, show j * 3 + 3 + 2 = j * 3 + 2 + 3 by omega]
    simp only [List.flatMap_cons, fcells, List.cons_append, List.nil_append, List.set_cons_succ]
    rw [ih]
theorem FO.set {N g n cap : Nat} {l : List Fu} {w : World} (h : FO N g n cap l w) {j : Nat} (hj : j < l.length) (f : Fu) :
    FO N g n cap (l.set j f) (((w.setCell ⟨g, j * 3, none⟩ (.int .i64 f.point)).setCell ⟨g, j * 3 + 1, none⟩ (.int .i64 f.year)).setCell ⟨g, j * 3 + 2, none⟩ (.int .i64 f.off)) := by
  have h1 := (World.ownsRow.stored h (j * 3) (.int .i64 f.point)).1
  have h2 := (World.ownsRow.stored h1 (j * 3 + 1) (.int .i64 f.year)).1
  have h3 := (World.ownsRow.stored h2 (j * 3 + 2) (.int .i64 f.off)).1
  rw [fu_set l j hj f] at h3
  exact h3
theorem keep3 (g : Nat) (w : World) (i j k : Nat) (x y z : Value) : Keep (fun q => q = g) w (((w.setCell ⟨g, i, none⟩ x).setCell ⟨g, j, none⟩ y).setCell ⟨g, k, none⟩ z) :=
  ((Keep.setCell (own := fun q => q = g) w ⟨g, i, none⟩ x rfl).trans (Keep.setCell (own := fun q => q = g) _ ⟨g, j, none⟩ y rfl)).trans (Keep.setCell (own := fun q => q = g) _ ⟨g, k, none⟩ z rfl)
theorem FO.call {N g n cap : Nat} {l : List Fu} {w w' : World} (h : FO N g n cap l w) (hB : Below w.heap.size w w') : FO N g n cap l w' := Own.call h hB
theorem FO.blk {N g n cap : Nat} {l : List Fu} {w : World} (h : FO N g n cap l w) : N ≤ g ∧ g < w.heap.size := World.ownsRow.lt h g rfl
theorem cmpI_lt {a b : Int} : cmpI a b < 0 ↔ a < b := by
  unfold cmpI
  by_cases h : a < b
  · rw [if_pos h]; simp [h]
  · rw [if_neg h]
    by_cases h2 : b < a
    · rw [if_pos h2]; simp; omega
    · rw [if_neg h2]; simp; omega

set_option maxRecDepth 100000 in
set_option maxHeartbeats 2000000 in
theorem insert_c {N n cap bk : Nat} {ao : Option Addr} {l : List Fu} (hl : l.length = n) (hn : n ≤ 8) {w : World} (hO : Own N w 76 3 (.slice ao n cap) n (l.flatMap fcells)) (hK : Blk bk #[.func (.func 125) #[] #[]] 155 w) (hNb : bk < N) :
    Calls Try.prog 135 #[.slice ao n cap, .int .i64 0, .int .i64 n, .func (.func 133) #[] #[.pointer (some ⟨bk, 0, none⟩)]] w fun e w' => e = .returned (.tuple #[]) ∧ ∃ l', (l.Perm l' ∧ l'.Pairwise fun f g => f.year ≤ g.year) ∧ Own N w' 76 3 (.slice ao n cap) n (l'.flatMap fcells) ∧ Keep (fun q => N ≤ q) w w' := by
  by_cases hn1 : n ≤ 1
  · go_enter Try.func135, Try.ntmps135
    go_wp2_with fail
    refine wp_loop_rounds 1 ?_
    rw [rounds_succ]
    go_wp2_with fail
    go_end0
    exact ⟨rfl, l, ⟨List.Perm.refl _, (Srt.start l).done (by omega) |>.2⟩, hO, Keep.refl _ _⟩
  · obtain ⟨g, rfl⟩ : ∃ g, ao = some ⟨g, 0, none⟩ := by
      rcases hO.2 with ⟨h1, h0⟩ | ⟨g, cp, cur, h1, _⟩
      · omega
      · injection h1 with h1 _ _
        exact ⟨g, h1⟩
    have HL := Lib.hid hl
    clear hl
    go_enter Try.func135, Try.ntmps135
    go_wp2_with fail
    go_loopw [8] (fun vi wr => ∃ (i : Nat) (cur : List Fu), 1 ≤ i ∧ i ≤ n ∧ vi = .int .i64 i ∧ Srt l cur i ∧ FO N g n cap cur wr ∧ Keep (fun q => q = g) w wr) (fun vi _ => n - (intOf vi).toNat)
    case atStart => exact ⟨1, l, by omega, by omega, rfl, Srt.start l, hO, Keep.refl _ _⟩
    case round =>
      obtain ⟨i, cur, hi1, hin, rfl, hS, hF, hKp⟩ := hrel
      by_cases hlt : i < n
      · have hbk : bk ≠ g := by have := hF.blk; omega
        have hKr := hK.keep (hKp.block _ hK.lt hbk)
        go_wp2_with fail
        go_loopw [9] (fun vj wj => ∃ (j : Nat) (cu : List Fu), j ≤ i ∧ vj = .int .i64 j ∧ Ins l cu i j ∧ FO N g n cap cu wj ∧ Keep (fun q => q = g) wr wj) (fun vj _ => (intOf vj).toNat)
        case atStart => exact ⟨i, cur, Nat.le_refl _, rfl, hS.begin, hF, Keep.refl _ _⟩
        case round =>
          rename World => wj
          obtain ⟨j, cu, hji, rfl, hI, hFj, hKj⟩ := hrel
          clear hF
          have hlen := hFj.len
          by_cases hj0 : 0 < j
          · obtain ⟨j1, hj1⟩ : ∃ j1, j1 = j - 1 := ⟨_, rfl⟩
            have bw : IntKind.i64.wrap ((j : Int) - 1) = (j1 : Int) := by rw [IntWalk.i64_in _ (by omega)]; omega
            have hja : j ≤ j1 + 1 := by omega
            have hjb : j1 + 1 ≤ j := by omega
            have HJ := Lib.hid hj1
            clear hj1
            have hjl : j < cu.length := by omega
            have hjl1 : j1 < cu.length := by omega
            have hjn : j < n := by omega
            have hjn1 : j1 < n := by omega
            have hKj2 := hKr.keep (hKj.block _ hKr.lt hbk)
            have hfb := hFj.blk
            by_cases hyr : cu[j].year < cu[j1].year
            · have hc : cmpI cu[j].year cu[j1].year < 0 := cmpI_lt.2 hyr
              have HY := Lib.hid hyr
              clear hyr hlen
              go_wp2_with fail
              refine wp_region_mix2 (.pur 0 (.pur 1 (.pur 2 (.pur 3 (.pur 4 (.pur 5 (.pur 6 (.pur 7 (.one 8 (.pur 9 (.pur 10 (.pur 11 (.pur 12 (.one 13 (.act 14 (.pur 15 (.pur 16 .fin))))))))))))))))) 99 (fun w' => FO N g n cap cu w') (fun w' => FO N g n cap cu w') (by kernel_rfl) (by kernel_rfl) rfl (by kernel_rfl) (hFj.call (((Qt.refl _).drewN 1).below _)) (fun wd4 hq4 _ => ?_)
              refine mix_pur2 rfl (fun K hK => ?_)
              go_simp
              first | refine ⟨_, fun _ => rfl, hK _ ?_⟩ | refine hK _ ?_
              clear hK K
              refine mix_pur2 rfl (fun K hK => ?_)
              go_simp
              first | refine ⟨_, fun _ => rfl, hK _ ?_⟩ | refine hK _ ?_
              clear hK K
              refine mix_pur2 rfl (fun K hK => ?_)
              go_simp
              first | refine ⟨_, fun _ => rfl, hK _ ?_⟩ | refine hK _ ?_
              clear hK K
              refine mix_pur2 rfl (fun K hK => ?_)
              go_simp
              first | refine ⟨_, fun _ => rfl, hK _ ?_⟩ | refine hK _ ?_
              clear hK K
              refine mix_pur2 rfl (fun K hK => ?_)
              go_simp
              first | refine ⟨_, fun _ => rfl, hK _ ?_⟩ | refine hK _ ?_
              clear hK K
              refine mix_pur2 rfl (fun K hK => ?_)
              go_simp
              first | refine ⟨_, fun _ => rfl, hK _ ?_⟩ | refine hK _ ?_
              clear hK K
              refine mix_pur2 rfl (fun K hK => ?_)
              go_simp
              first | refine ⟨_, fun _ => rfl, hK _ ?_⟩ | refine hK _ ?_
              clear hK K
              refine mix_pur2 rfl (fun K hK => ?_)
              go_simp
              first | refine ⟨_, fun _ => rfl, hK _ ?_⟩ | refine hK _ ?_
              clear hK K
              refine mix_loadg2 rfl rfl (.agg #[.int .i64 cu[j].point, .int .i64 cu[j].year, .int .i64 cu[j].off]) (by go_simp) (fun w' h => by have h : (fun w' => FO N g n cap cu w') w' := h; have c := h.at hjl; obtain ⟨c0, c1, c2⟩ := c; go_simp) rfl ?_
              refine mix_pur2 rfl (fun K hK => ?_)
              go_simp
              first | refine ⟨_, fun _ => rfl, hK _ ?_⟩ | refine hK _ ?_
              clear hK K
              refine mix_pur2 rfl (fun K hK => ?_)
              go_simp
              first | refine ⟨_, fun _ => rfl, hK _ ?_⟩ | refine hK _ ?_
              clear hK K
              refine mix_pur2 rfl (fun K hK => ?_)
              go_simp
              first | refine ⟨_, fun _ => rfl, hK _ ?_⟩ | refine hK _ ?_
              clear hK K
              refine mix_pur2 rfl (fun K hK => ?_)
              go_simp
              first | refine ⟨_, fun _ => rfl, hK _ ?_⟩ | refine hK _ ?_
              clear hK K
              refine mix_loadg2 rfl rfl (.agg #[.int .i64 cu[j1].point, .int .i64 cu[j1].year, .int .i64 cu[j1].off]) (by go_simp) (fun w' h => by have h : (fun w' => FO N g n cap cu w') w' := h; have c := h.at hjl1; obtain ⟨c0, c1, c2⟩ := c; go_simp) rfl ?_
              refine mix_eff2 rfl false rfl (fun K hK => ?_)
              go_simp
              refine (order_c cu[j] cu[j1] (hKj2.qt hq4)).mono ?_
              rintro e w5 ⟨rfl, hB5⟩
              have hF5 := (hFj.call (hq4.below _)).call hB5
              have hB5 := bnx (hq4.below wj.heap.size) hB5
              refine hK _ _ hF5 ?_
              clear hK K
              refine mix_pur2 rfl (fun K hK => ?_)
              go_simp
              first | refine ⟨_, fun _ => rfl, hK _ ?_⟩ | refine hK _ ?_
              clear hK K
              refine mix_pur2 rfl (fun K hK => ?_)
              go_simp
              first | refine ⟨_, fun _ => rfl, hK _ ?_⟩ | refine hK _ ?_
              clear hK K
              refine mix_done2 ?_
              go_wp2_with fail
              refine wp_region_mix2 (.pur 0 (.pur 1 (.pur 2 (.pur 3 (.pur 4 (.pur 5 (.pur 6 (.pur 7 (.pur 8 (.one 9 (.pur 10 (.pur 11 (.pur 12 (.one 13 (.pur 14 (.act 15 (.pur 16 (.act 17 .fin)))))))))))))))))) 15 (fun w' => FO N g n cap cu w') (fun _ => True) (by kernel_rfl) (by kernel_rfl) rfl (by kernel_rfl) (hF5.call (((Qt.refl _).drewN 1).below _)) (fun wd6 hq6 _ => ?_)
              refine mix_pur2 rfl (fun K hK => ?_)
              go_simp
              first | refine ⟨_, fun _ => rfl, hK _ ?_⟩ | refine hK _ ?_
              clear hK K
              refine mix_pur2 rfl (fun K hK => ?_)
              go_simp
              first | refine ⟨_, fun _ => rfl, hK _ ?_⟩ | refine hK _ ?_
              clear hK K
              refine mix_pur2 rfl (fun K hK => ?_)
              go_simp
              first | refine ⟨_, fun _ => rfl, hK _ ?_⟩ | refine hK _ ?_
              clear hK K
              refine mix_pur2 rfl (fun K hK => ?_)
              go_simp
              first | refine ⟨_, fun _ => rfl, hK _ ?_⟩ | refine hK _ ?_
              clear hK K
              refine mix_pur2 rfl (fun K hK => ?_)
              go_simp
              first | refine ⟨_, fun _ => rfl, hK _ ?_⟩ | refine hK _ ?_
              clear hK K
              refine mix_pur2 rfl (fun K hK => ?_)
              go_simp
              first | refine ⟨_, fun _ => rfl, hK _ ?_⟩ | refine hK _ ?_
              clear hK K
              refine mix_pur2 rfl (fun K hK => ?_)
              go_simp
              first | refine ⟨_, fun _ => rfl, hK _ ?_⟩ | refine hK _ ?_
              clear hK K
              refine mix_pur2 rfl (fun K hK => ?_)
              go_simp
              first | refine ⟨_, fun _ => rfl, hK _ ?_⟩ | refine hK _ ?_
              clear hK K
              refine mix_pur2 rfl (fun K hK => ?_)
              go_simp
              first | refine ⟨_, fun _ => rfl, hK _ ?_⟩ | refine hK _ ?_
              clear hK K
              refine mix_load2 rfl rfl rfl (.agg #[.int .i64 cu[j1].point, .int .i64 cu[j1].year, .int .i64 cu[j1].off]) (fun w' h => by have h : (fun w' => FO N g n cap cu w') w' := h; have c := h.at hjl1; obtain ⟨c0, c1, c2⟩ := c; go_simp) rfl ?_
              refine mix_pur2 rfl (fun K hK => ?_)
              go_simp
              first | refine ⟨_, fun _ => rfl, hK _ ?_⟩ | refine hK _ ?_
              clear hK K
              refine mix_pur2 rfl (fun K hK => ?_)
              go_simp
              first | refine ⟨_, fun _ => rfl, hK _ ?_⟩ | refine hK _ ?_
              clear hK K
              refine mix_pur2 rfl (fun K hK => ?_)
              go_simp
              first | refine ⟨_, fun _ => rfl, hK _ ?_⟩ | refine hK _ ?_
              clear hK K
              refine mix_load2 rfl rfl rfl (.agg #[.int .i64 cu[j].point, .int .i64 cu[j].year, .int .i64 cu[j].off]) (fun w' h => by have h : (fun w' => FO N g n cap cu w') w' := h; have c := h.at hjl; obtain ⟨c0, c1, c2⟩ := c; go_simp) rfl ?_
              refine mix_pur2 rfl (fun K hK => ?_)
              go_simp
              first | refine ⟨_, fun _ => rfl, hK _ ?_⟩ | refine hK _ ?_
              clear hK K
              refine mix_eff2 rfl true rfl (fun K hK => ?_)
              have hF7 := hF5.call (hq6.below _)
              obtain ⟨e0, e1, e2⟩ := hF7.at hjl
              have f0 := hF7.free (j * 3)
              have f1 := hF7.free (j * 3 + 1)
              have f2 := hF7.free (j * 3 + 2)
              go_simp
              refine hK _ _ trivial ?_
              clear hK K e0 e1 e2 f0 f1 f2
              refine mix_pur2 rfl (fun K hK => ?_)
              go_simp
              first | refine ⟨_, fun _ => rfl, hK _ ?_⟩ | refine hK _ ?_
              clear hK K
              refine mix_eff2 rfl true rfl (fun K hK => ?_)
              have hF8 := hF7.set hjl cu[j1]
              obtain ⟨e0, e1, e2⟩ := hF8.at (j := j1) (by rw [List.length_set]; exact hjl1)
              have f0 := hF8.free (j1 * 3)
              have f1 := hF8.free (j1 * 3 + 1)
              have f2 := hF8.free (j1 * 3 + 2)
              have hk8 := keep3 g wd6 (j * 3) (j * 3 + 1) (j * 3 + 2) (.int .i64 cu[j1].point) (.int .i64 cu[j1].year) (.int .i64 cu[j1].off)
              obtain ⟨w8, hw8⟩ : ∃ w8, w8 = ((wd6.setCell ⟨g, j * 3, none⟩ (.int .i64 cu[j1].point)).setCell ⟨g, j * 3 + 1, none⟩ (.int .i64 cu[j1].year)).setCell ⟨g, j * 3 + 2, none⟩ (.int .i64 cu[j1].off) := ⟨_, rfl⟩
              rw [← hw8] at hF8 e0 e1 e2 f0 f1 f2 hk8 ⊢
              clear hw8
              go_simp
              refine hK _ _ trivial ?_
              clear hK K e0 e1 e2 f0 f1 f2
              refine mix_done2 ?_
              have hk9 := keep3 g w8 (j1 * 3) (j1 * 3 + 1) (j1 * 3 + 2) (.int .i64 cu[j].point) (.int .i64 cu[j].year) (.int .i64 cu[j].off)
              have hF9 := hF8.set (j := j1) (by rw [List.length_set]; exact hjl1) cu[j]
              have hsw : (cu.set j cu[j1]).set j1 cu[j] = swapL cu j := by
                rw [swapL_eq hjl]
                have e : j - 1 = j1 := by omega
                simp only [e]
              rw [hsw] at hF9
              clear hF8 hsw
              generalize ((w8.setCell ⟨g, j1 * 3, none⟩ (.int .i64 cu[j].point)).setCell ⟨g, j1 * 3 + 1, none⟩ (.int .i64 cu[j].year)).setCell ⟨g, j1 * 3 + 2, none⟩ (.int .i64 cu[j].off) = w9 at hk9 hF9 ⊢
              go_wp2_with fail
              go_roundw
              case rel =>
                have hI2 := hI.sink hj0 hji hjl (by have := HY.out; have e : j - 1 = j1 := by omega
                                                    simp only [e]; exact this)
                have e : j - 1 = j1 := by omega
                rw [e] at hI2
                exact ⟨j1, _, by omega, rfl, hI2, hF9, ((hKj.trans (Keep.call hB5)).trans (Keep.qt hq6)).trans (hk8.trans hk9)⟩
              case measure => simp [intOf]; omega
            · have hc : ¬ cmpI cu[j].year cu[j1].year < 0 := fun h => hyr (cmpI_lt.1 h)
              have HY := Lib.hid hyr
              clear hyr hlen
              go_wp2_with fail
              refine wp_region_mix2 (.pur 0 (.pur 1 (.pur 2 (.pur 3 (.pur 4 (.pur 5 (.pur 6 (.pur 7 (.one 8 (.pur 9 (.pur 10 (.pur 11 (.pur 12 (.one 13 (.act 14 (.pur 15 (.pur 16 .fin))))))))))))))))) 99 (fun w' => FO N g n cap cu w') (fun w' => FO N g n cap cu w') (by kernel_rfl) (by kernel_rfl) rfl (by kernel_rfl) (hFj.call (((Qt.refl _).drewN 1).below _)) (fun wd4 hq4 _ => ?_)
              refine mix_pur2 rfl (fun K hK => ?_)
              go_simp
              first | refine ⟨_, fun _ => rfl, hK _ ?_⟩ | refine hK _ ?_
              clear hK K
              refine mix_pur2 rfl (fun K hK => ?_)
              go_simp
              first | refine ⟨_, fun _ => rfl, hK _ ?_⟩ | refine hK _ ?_
              clear hK K
              refine mix_pur2 rfl (fun K hK => ?_)
              go_simp
              first | refine ⟨_, fun _ => rfl, hK _ ?_⟩ | refine hK _ ?_
              clear hK K
              refine mix_pur2 rfl (fun K hK => ?_)
              go_simp
              first | refine ⟨_, fun _ => rfl, hK _ ?_⟩ | refine hK _ ?_
              clear hK K
              refine mix_pur2 rfl (fun K hK => ?_)
              go_simp
              first | refine ⟨_, fun _ => rfl, hK _ ?_⟩ | refine hK _ ?_
              clear hK K
              refine mix_pur2 rfl (fun K hK => ?_)
              go_simp
              first | refine ⟨_, fun _ => rfl, hK _ ?_⟩ | refine hK _ ?_
              clear hK K
              refine mix_pur2 rfl (fun K hK => ?_)
              go_simp
              first | refine ⟨_, fun _ => rfl, hK _ ?_⟩ | refine hK _ ?_
              clear hK K
              refine mix_pur2 rfl (fun K hK => ?_)
              go_simp
              first | refine ⟨_, fun _ => rfl, hK _ ?_⟩ | refine hK _ ?_
              clear hK K
              refine mix_loadg2 rfl rfl (.agg #[.int .i64 cu[j].point, .int .i64 cu[j].year, .int .i64 cu[j].off]) (by go_simp) (fun w' h => by have h : (fun w' => FO N g n cap cu w') w' := h; have c := h.at hjl; obtain ⟨c0, c1, c2⟩ := c; go_simp) rfl ?_
              refine mix_pur2 rfl (fun K hK => ?_)
              go_simp
              first | refine ⟨_, fun _ => rfl, hK _ ?_⟩ | refine hK _ ?_
              clear hK K
              refine mix_pur2 rfl (fun K hK => ?_)
              go_simp
              first | refine ⟨_, fun _ => rfl, hK _ ?_⟩ | refine hK _ ?_
              clear hK K
              refine mix_pur2 rfl (fun K hK => ?_)
              go_simp
              first | refine ⟨_, fun _ => rfl, hK _ ?_⟩ | refine hK _ ?_
              clear hK K
              refine mix_pur2 rfl (fun K hK => ?_)
              go_simp
              first | refine ⟨_, fun _ => rfl, hK _ ?_⟩ | refine hK _ ?_
              clear hK K
              refine mix_loadg2 rfl rfl (.agg #[.int .i64 cu[j1].point, .int .i64 cu[j1].year, .int .i64 cu[j1].off]) (by go_simp) (fun w' h => by have h : (fun w' => FO N g n cap cu w') w' := h; have c := h.at hjl1; obtain ⟨c0, c1, c2⟩ := c; go_simp) rfl ?_
              refine mix_eff2 rfl false rfl (fun K hK => ?_)
              go_simp
              refine (order_c cu[j] cu[j1] (hKj2.qt hq4)).mono ?_
              rintro e w5 ⟨rfl, hB5⟩
              have hF5 := (hFj.call (hq4.below _)).call hB5
              have hB5 := bnx (hq4.below wj.heap.size) hB5
              refine hK _ _ hF5 ?_
              clear hK K
              refine mix_pur2 rfl (fun K hK => ?_)
              go_simp
              first | refine ⟨_, fun _ => rfl, hK _ ?_⟩ | refine hK _ ?_
              clear hK K
              refine mix_pur2 rfl (fun K hK => ?_)
              go_simp
              first | refine ⟨_, fun _ => rfl, hK _ ?_⟩ | refine hK _ ?_
              clear hK K
              refine mix_done2 ?_
              go_wp2_with fail
              have hS2 := hI.stop hji (by have := hFj.len; omega) (.inr ⟨hj0, by
                have := HY.out
                have e : j - 1 = j1 := by omega
                simp only [e]; omega⟩)
              go_roundw
              case rel => exact ⟨i + 1, cu, by omega, by omega, by go_num, hS2, hF5, (hKp.trans hKj).trans (Keep.call hB5)⟩
              case measure => simp [intOf]; omega
          · obtain rfl : j = 0 := by omega
            have hS2 := hI.stop (by omega) (by omega) (.inl rfl)
            go_wp2_with fail
            go_quiet (fail)
            go_wp2_with fail
            go_roundw
            case rel => exact ⟨i + 1, cu, by omega, by omega, by go_num, hS2, hFj.call (((Qt.refl wj).drewN _).below _), (hKp.trans hKj).drewN _⟩
            case measure => simp [intOf]; omega
      · obtain rfl : i = n := by omega
        go_wp2_with fail
        go_end0
        refine ⟨rfl, cur, hS.done (by rw [hF.len]; exact Nat.le_refl _), hF, hKp.mono fun q _ e => by subst e; exact hF.blk.1⟩

end Go.Proofs.Ytgdifckmjdjcpaa
