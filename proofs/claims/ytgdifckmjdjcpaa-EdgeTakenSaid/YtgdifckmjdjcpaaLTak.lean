/- EdgeTaken: what its walk hands back; conditions: the arguments read as an edge, furrows, a furrow, numbers, a list of numbers. -/
import Derived.Test.YtgdifckmjdjcpaaTst
import Derived.Test.YtgdifckmjdjcpaaStp
import Derived.Test.YtgdifckmjdjcpaaStk
import Derived.Test.YtgdifckmjdjcpaaStq
import Derived.Test.YtgdifckmjdjcpaaRsi
import Derived.Test.YtgdifckmjdjcpaaSin
import Derived.Test.YtgdifckmjdjcpaaSae
import Derived.Test.YtgdifckmjdjcpaaSur
namespace Go.Proofs.Ytgdifckmjdjcpaa
open Go.RowKit

/-- A row of edges, and one of its own. -/
def ErS (b i : Nat) (y : Edg) (v : Value) (w : World) : Prop := w.cell? ⟨b, i * 3, none⟩ = some (.int .i64 y.points) ∧ w.cell? ⟨b, i * 3 + 1, none⟩ = some (.int .i64 y.bend) ∧ w.cell? ⟨b, i * 3 + 2, none⟩ = some v
theorem ErS.below {b i : Nat} {y : Edg} {v : Value} {B : Nat} {w w' : World} (h : ErS b i y v w) (hB : Below B w w') (hb : b < B) : ErS b i y v w' :=
  ⟨(cell_same (hB.block b hb)).trans h.1, (cell_same (hB.block b hb)).trans h.2.1, (cell_same (hB.block b hb)).trans h.2.2⟩
theorem FuC.mono {w u : World} {hb bx bm K K' : Nat} {x m : Edg} {vx vm vl vf : Value} {l f : List Fu} {e s i : Option (Nat × Array Value)} (h : FuC w hb bx x vx bm m vm vl l vf f e s i K u) (hk : K ≤ K') : FuC w hb bx x vx bm m vm vl l vf f e s i K' u :=
  ⟨by obtain ⟨k, h1, h2⟩ := h.hnd; exact ⟨k, by omega, h2⟩, h.hX, h.hM, h.rx, h.rm, h.rl, h.rf, h.he, h.hs, h.hi, h.below, h.hw⟩
theorem FuC.lits2 {w u : World} {hb bx bm K : Nat} {x m : Edg} {vx vm vl vf : Value} {l f : List Fu} {q1 q2 : Nat} {c1 c2 : Array Value} (h : FuC w hb bx x vx bm m vm vl l vf f none none none K u) (h1 : Blk q1 c1 24 u) (h2 : Blk q2 c2 44 u) : FuC w hb bx x vx bm m vm vl l vf f (some (q1, c1)) (some (q2, c2)) none K u :=
  ⟨h.hnd, h.hX, h.hM, h.rx, h.rm, h.rl, h.rf, fun q cs e => (by cases e; exact h1), fun q cs e => (by cases e; exact h2), h.hi, h.below, h.hw⟩
theorem Own.grow {B n sz : Nat} {e : TypeId} {w w' : World} {v : Value} {xs : List Value} (h : Own B w e sz v n xs) (hB : Below w.heap.size w w') : Own B w' e sz v n xs := h.step fun k _ _ hl => hB.block k hl
theorem own_ne_ty {B n b sz : Nat} {e t : TypeId} {w : World} {v : Value} {xs : List Value} {c : Array Value} (h : Own B w e sz v n xs) (hX : Blk b c t w) (hn : e ≠ t) : v.ownBlock ≠ some b := by
  rcases h.2 with ⟨rfl, _⟩ | ⟨g, cap, cur, rfl, hb, hg, -⟩
  · simp [Value.ownBlock]
  · simp only [Value.ownBlock]
    intro hq
    injection hq with hq
    subst hq
    unfold Blk at hX
    rw [hX] at hg
    injection hg with hg
    injection hg with hg1 hg2
    exact hn hg2.symm
/-- What is read while the inputs are dealt. -/
def MdS (bx : Nat) (x : Edg) (vx : Value) (bm : Nat) (m : Edg) (vm : Value) (w : World) : Prop := Blk bx #[.int .i64 x.points, .int .i64 x.bend, vx] 24 w ∧ Blk bm #[.int .i64 m.points, .int .i64 m.bend, vm] 24 w
def MdG (bx : Nat) (x : Edg) (vx : Value) (bm : Nat) (m : Edg) (vm : Value) (more : Fu) (w : World) : Prop := Blk bx #[.int .i64 x.points, .int .i64 x.bend, vx] 24 w ∧ Blk bm #[.int .i64 m.points, .int .i64 m.bend, vm] 24 w ∧ Blk (bx + 1) #[.int .i64 more.point, .int .i64 more.year, .int .i64 more.off] 76 w
/-- What stands at one place of the rows. -/
def RowT (q1 i : Nat) (y : Edg) (v : Value) (q2 : Nat) (vg : Value) (q3 : Nat) (ir : Int) (q4 : Nat) (ia : Int) (w : World) : Prop :=
  ErS q1 i y v w ∧ w.cell? ⟨q2, i, none⟩ = some vg ∧ w.cell? ⟨q3, i, none⟩ = some (.int .i64 ir) ∧ w.cell? ⟨q4, i, none⟩ = some (.int .i64 ia)
theorem RowT.below {q1 i q2 q3 q4 : Nat} {y : Edg} {v vg : Value} {ir ia : Int} {B : Nat} {w w' : World} (h : RowT q1 i y v q2 vg q3 ir q4 ia w) (hB : Below B w w') (h1 : q1 < B) (h2 : q2 < B) (h3 : q3 < B) (h4 : q4 < B) : RowT q1 i y v q2 vg q3 ir q4 ia w' :=
  ⟨h.1.below hB h1, (cell_same (hB.block q2 h2)).trans h.2.1, (cell_same (hB.block q3 h3)).trans h.2.2.1, (cell_same (hB.block q4 h4)).trans h.2.2.2⟩
def RowU (b9 : Nat) (y : Edg) (v9 : Value) (q1 i : Nat) (v : Value) (q2 : Nat) (vg : Value) (q3 : Nat) (ir : Int) (q4 : Nat) (ia : Int) (w : World) : Prop := Blk b9 #[.int .i64 y.points, .int .i64 y.bend, v9] 24 w ∧ RowT q1 i y v q2 vg q3 ir q4 ia w
theorem ent24 : Ent 24 := ⟨_, Try.func24, rfl, by kernel_rfl⟩
theorem ent31 : Ent 31 := ⟨_, Try.func31, rfl, by kernel_rfl⟩
theorem ent32 : Ent 32 := ⟨_, Try.func32, rfl, by kernel_rfl⟩
theorem ent35 : Ent 35 := ⟨_, Try.func35, rfl, by kernel_rfl⟩
theorem ent37 : Ent 37 := ⟨_, Try.func37, rfl, by kernel_rfl⟩
theorem ent40 : Ent 40 := ⟨_, Try.func40, rfl, by kernel_rfl⟩
theorem ent47 : Ent 47 := ⟨_, Try.func47, rfl, by kernel_rfl⟩
theorem ent49 : Ent 49 := ⟨_, Try.func49, rfl, by kernel_rfl⟩
theorem ent50 : Ent 50 := ⟨_, Try.func50, rfl, by kernel_rfl⟩
theorem ent59 : Ent 59 := ⟨_, Try.func59, rfl, by kernel_rfl⟩
theorem ent60 : Ent 60 := ⟨_, Try.func60, rfl, by kernel_rfl⟩
theorem ent61 : Ent 61 := ⟨_, Try.func61, rfl, by kernel_rfl⟩
theorem ent62 : Ent 62 := ⟨_, Try.func62, rfl, by kernel_rfl⟩

set_option maxRecDepth 100000 in
set_option maxHeartbeats 100000000 in
theorem edgeTaken_c {A A1 A2 : Nat → Prop} {w : World} {vx vl vn : Value} {x : Edg} (h : ClsM A w vx x.claims) {l : List Fu} (hl : FusM A1 w vl l) (more : Fu) (year point : Int) {nums : List Int} (hn : Ints A2 w vn nums) : Calls Try.prog 14 #[.agg #[.int .i64 x.points, .int .i64 x.bend, vx], vl, .agg #[.int .i64 more.point, .int .i64 more.year, .int .i64 more.off], .int .i64 year, .int .i64 point, vn] w fun e w' => e = .returned (.bool true) ∧ Below w.heap.size w w' := by
  obtain ⟨ax, cx, rfl, hcx1, hcx2⟩ := h.shape
  obtain ⟨al, cl, rfl, hcl1, hcl2⟩ := hl.shape
  obtain ⟨an, cn, rfl, _, _⟩ := hn.shape
  have n1 := h.len
  have n2 := hl.len
  obtain ⟨w1, hw1⟩ : ∃ w1, w1 = (w.alloc (.cells #[.int .i64 x.points, .int .i64 x.bend, .slice ax x.claims.length cx] 24)).alloc (.cells #[.int .i64 more.point, .int .i64 more.year, .int .i64 more.off] 76) := ⟨_, rfl⟩
  obtain ⟨b1, hb1⟩ : ∃ b, b = w.heap.size := ⟨_, rfl⟩
  have hX1 : Blk b1 #[.int .i64 x.points, .int .i64 x.bend, .slice ax x.claims.length cx] 24 w1 := by rw [hw1, hb1]; exact (Blk.new w _ _).alloc _
  have hg1 : Blk (b1 + 1) #[.int .i64 more.point, .int .i64 more.year, .int .i64 more.off] 76 w1 := by rw [hw1, hb1]; exact blk_at (by simp) _ _
  have hB1 : Below w.heap.size w w1 := by rw [hw1]; exact bal2 ((Below.refl _ w).alloc (Nat.le_refl _) _)
  have hn1 := hn.call hB1
  go_enter Try.func14, Try.ntmps14
  go_upto_region 1 with fail
  rw [← hw1, ← hb1]
  clear hw1 hb1
  have c2 := hX1.cell 2
  by_cases h20 : 20 < x.claims.length
  · have hd1 : decide (20 < x.claims.length) = true := decide_eq_true h20
    go_wp2_with fail
    refine (surveyed_c _).mono ?_
    rintro e w2 ⟨rfl, hB2⟩
    go_wp2_with fail
    go_ret
    exact ⟨rfl, bnx hB1 hB2⟩
  · by_cases h21 : 20 < l.length
    · go_wp2_with fail
      refine (surveyed_c _).mono ?_
      rintro e w2 ⟨rfl, hB2⟩
      go_wp2_with fail
      go_ret
      exact ⟨rfl, bnx hB1 hB2⟩
    · go_wp2_with fail
      refine (newHand_c hn1).mono ?_
      rintro e w2 ⟨rfl, hH2, hB2⟩
      obtain ⟨hb, hhb⟩ : ∃ b, b = w1.heap.size := ⟨_, rfl⟩
      have hb1 : b1 + 1 < hb := by rw [hhb]; exact hg1.lt
      have hb2 : w.heap.size ≤ hb := by rw [hhb]; exact hB1.size
      rw [← hhb] at hH2 ⊢
      have hX2 := hX1.call hB2
      have hg2 := hg1.call hB2
      have hBw2 := bnx hB1 hB2
      have hl2 := hH2.lt
      clear hhb c2 hX1 hg1 hB1 hB2 hn1
      go_wp2_with fail
      refine (edgeOf_c hH2 (by omega) (pts := 4) (cl := 4) (by omega) (by omega)).mono ?_
      rintro e w3 ⟨⟨m, vm, rfl, hm, hm3, hm4, hOm⟩, ⟨k3, hk3, hH3⟩, hG3⟩
      have hB3 := bhand hBw2 hG3 hb2
      have hX3 := hX2.hand hG3 (by omega)
      have hg3 := hg2.hand hG3 (by omega)
      obtain ⟨am, cm, rfl⟩ := own_slice hOm
      obtain ⟨w4, hw4⟩ : ∃ w4, w4 = w3.alloc (.cells #[.int .i64 m.points, .int .i64 m.bend, .slice am m.claims.length cm] 24) := ⟨_, rfl⟩
      obtain ⟨bm, hbm⟩ : ∃ b, b = w3.heap.size := ⟨_, rfl⟩
      have hE4 : Below w3.heap.size w3 w4 := by rw [hw4]; exact (Below.refl _ _).alloc (Nat.le_refl _) _
      have hM4 : Blk bm #[.int .i64 m.points, .int .i64 m.bend, .slice am m.claims.length cm] 24 w4 := by rw [hw4, hbm]; exact Blk.new _ _ _
      have hX4 := hX3.call hE4
      have hg4 := hg3.call hE4
      have hH4 := hH3.call hE4
      have hB4 := bnx hB3 hE4
      have hOm4 := (Own.cls hOm).call hE4
      have hmp := hm.p
      go_upto_region 5 with fail
      rw [← hw4, ← hbm]
      clear hw4 hbm hX2 hg2 hg3 hX3 hOm hBw2 hB3 hH3 hG3 hE4
      have c0 := hM4.cell 0
      have c1 := hM4.cell 1
      have c2 := hM4.cell 2
      go_wp2_with fail
      refine (furrowsOf_c (B := m.bend) hH4 (by omega) hmp am m.claims.length cm).mono ?_
      rintro e w5 ⟨⟨f, vf, rfl, hfx, hOf⟩, ⟨k5, hk5, hH5⟩, hG5⟩
      have hlt4 := hH4.lt
      have hX5 := hX4.hand hG5 (by omega)
      have hg5 := hg4.hand hG5 (by omega)
      have hM5 := hM4.hand hG5 (hM4.ne_hnd ⟨k3, Nat.le_refl _, hH4⟩ (by decide))
      have hm5 := hOm4.only hG5 (by omega)
      have hB5 := bhand hB4 hG5 hb2
      have hf5 := Own.fus hOf
      obtain ⟨af, cf, rfl⟩ := own_slice hOf
      have hf8 := (furX_facts hfx).1
      clear c0 c1 c2 hX4 hg4 hM4 hOm4 hB4 hOf hG5
      go_wp2_with fail
      refine (upto_c hH5 (by omega) 30 (by omega) (by omega)).mono ?_
      rintro e w6 ⟨⟨u0, rfl, hu0, hu0b⟩, ⟨k6, hk6, hH6⟩, hG6⟩
      have hlt5 := hH5.lt
      have hg6 := hg5.hand hG6 (by omega)
      have hB6 := bhand hB5 hG6 hb2
      have hz4 := hH4.lt
      have hs0 : FuC w hb b1 x (.slice ax x.claims.length cx) bm m (.slice am m.claims.length cm) (.slice al l.length cl) l (.slice af f.length cf) f none none none 500 w6 :=
        ⟨⟨k6, by omega, hH6⟩, hX5.hand hG6 (by omega), hM5.hand hG6 (hM5.ne_hnd ⟨k5, Nat.le_refl _, hH5⟩ (by decide)),
          ((h.wide (A' := fun q => q < w.heap.size) fun q _ hq => hq).below hB6 fun q hq _ => hq).wide fun q hq hl => by omega,
          (hm5.only hG6 (by omega)).wide fun q hq hl => by omega,
          ((hl.wide (A' := fun q => q < w.heap.size) fun q _ hq => hq).below hB6 fun q hq _ => hq).wide fun q hq hl => by omega,
          (hf5.only hG6 (by omega)).wide fun q hq hl => by omega,
          fun q cs e => (by cases e), fun q cs e => (by cases e), fun q cs e => (by cases e), hB6, hb2⟩
      have hmp2 := hm.p
      clear hH6 hG6 hX5 hg5 hM5 hm5 hf5 hB5 hB6 hH5 hH4 hfx
      go_upto_if 59 with fail
      go_cut [16] from 38 to 72 (fun s16 wx => ∃ u : Int, s16 = .int .i64 u ∧ FuC w hb b1 x (.slice ax x.claims.length cx) bm m (.slice am m.claims.length cm) (.slice al l.length cl) l (.slice af f.length cf) f none none none 600 wx ∧ Blk (b1 + 1) #[.int .i64 more.point, .int .i64 more.year, .int .i64 more.off] 76 wx)
      case first =>
        by_cases hf0 : 0 < f.length
        · obtain ⟨gf, og, rfl, -, -⟩ := fus_addr hs0.rf hf0
          have bm1 : IntKind.i64.wrap ((f.length : Int) - 1) = (f.length : Int) - 1 := IntWalk.i64_in _ (by omega)
          have hd0 : decide (0 < f.length) = true := decide_eq_true hf0
          obtain ⟨k6, hk6, hH6⟩ := hs0.hnd
          go_wp2_with fail
          refine (upto_c hH6 (by omega) ((f.length : Int) - 1) (by omega) (by omega)).mono ?_
          rintro e w7 ⟨⟨u7, rfl, hu7, hu7b⟩, ⟨k7, hk7, hH7⟩, hG7⟩
          obtain ⟨j, rfl⟩ := Int.eq_ofNat_of_zero_le hu7
          have hj : j < f.length := by omega
          have hs7 := hs0.hand (K' := 501) ⟨k7, by omega, hH7⟩ hG7
          have hg7 := hg6.hand hG7 (by omega)
          obtain ⟨-, y7, -⟩ := fus_at hs7.rf j hj
          obtain ⟨w8, hw8⟩ : ∃ w8, w8 = w7.alloc (.cells #[.int .i64 f[j].year] 3) := ⟨_, rfl⟩
          have hI : Ints (fun q => w7.heap.size ≤ q) (w7.alloc (.cells #[.int .i64 f[j].year] 3)) (.slice (some ⟨w7.heap.size, 0, none⟩) 1 1) [f[j].year] := Own.ints (own_lit w7 3 1 #[.int .i64 f[j].year] 1 rfl (by omega))
          have hgr := (Below.refl w7.heap.size w7).alloc (Nat.le_refl _) (.cells #[.int .i64 f[j].year] 3)
          have hlt7 := hH7.lt
          rw [← hw8] at hI hgr
          have hs8 := hs7.call hgr
          have hg8 := hg7.call hgr
          obtain ⟨k8, hk8, hH8⟩ := hs8.hnd
          clear hs0 hs7 hg7 hH6 hG7
          go_wp2_with fail
          rw [← hw8]
          refine (of_c hH8 (by omega) u0 hI (by omega) (by simp)).mono ?_
          rintro e w9 ⟨⟨u9, rfl, -⟩, ⟨k9, hk9, hH9⟩, hG9⟩
          go_wp2_with fail
          go_meet
          case rel => exact ⟨u9, rfl, hs8.hand ⟨k9, by omega, hH9⟩ hG9, hg8.hand hG9 (by omega)⟩
        · have hd0 : decide (0 < f.length) = false := decide_eq_false hf0
          go_wp2_with fail
          go_meet
          case rel => exact ⟨u0, rfl, hs0.mono (by omega), hg6⟩
      case rest =>
      obtain ⟨u1, rfl, hs9, hg9⟩ := hcut
      rename World => w9
      clear hs0 hg6 hu0 hu0b
      have hyg : ∀ u, Below w9.heap.size w9 u → (MdG b1 x (.slice ax x.claims.length cx) bm m (.slice am m.claims.length cm) more) u := fun u hb => ⟨hs9.hX.call hb, hs9.hM.call hb, hg9.call hb⟩
      have HYG := Lib.hid hyg
      clear hyg
      go_upto_region 9 with fail
      go_cut [17, 18] from 73 to 86 (fun s17 s18 wx => ∃ (q1 q2 : Nat) (ag : Option Addr) (cg : Nat), s17 = .slice (some ⟨q1, 0, none⟩) 4 4 ∧ s18 = .slice (some ⟨q2, 0, none⟩) 4 4 ∧ FuC w hb b1 x (.slice ax x.claims.length cx) bm m (.slice am m.claims.length cm) (.slice al l.length cl) l (.slice af f.length cf) f (some (q1, #[.int .i64 x.points, .int .i64 x.bend, .slice ax x.claims.length cx, .int .i64 m.points, .int .i64 m.bend, .slice am m.claims.length cm, .int .i64 m.points, .int .i64 m.bend, .slice am m.claims.length cm, .int .i64 m.points, .int .i64 m.bend, .slice am m.claims.length cm])) (some (q2, #[.slice al l.length cl, .slice af f.length cf, .slice ag (f.length + 1) cg, .slice al l.length cl])) none 600 wx ∧ FusM (fun q => q ≠ hb) wx (.slice ag (f.length + 1) cg) (f ++ [more]))
      case first => as_aux_lemma =>
        refine wp_region_mix2 (.one 0 (.one 1 (.one 2 (.one 3 (.pur 5 (.pur 6 (.pur 7 (.one 9 (.pur 12 (.three 4 (.two 8 (.act 10 (.act 11 (.pur 14 (.act 13 (.pur 15 .fin))))) 10 (.act 8 (.act 11 (.pur 14 (.act 13 (.pur 15 .fin)))))) 8 (.two 4 (.act 10 (.act 11 (.pur 14 (.act 13 (.pur 15 .fin))))) 10 (.two 4 (.act 11 (.pur 14 (.act 13 (.pur 15 .fin)))) 11 (.two 4 (.pur 14 (.act 13 (.pur 15 .fin))) 13 (.act 4 (.pur 14 (.pur 15 .fin)))))) 10 (.two 4 (.act 8 (.act 11 (.pur 14 (.act 13 (.pur 15 .fin))))) 8 (.two 4 (.act 11 (.pur 14 (.act 13 (.pur 15 .fin)))) 11 (.two 4 (.pur 14 (.act 13 (.pur 15 .fin))) 13 (.act 4 (.pur 14 (.pur 15 .fin)))))))))))))))) 99 (MdG b1 x (.slice ax x.claims.length cx) bm m (.slice am m.claims.length cm) more) (fun _ => True) (by kernel_rfl) (by kernel_rfl) rfl (by kernel_rfl) (HYG.out _ (((Qt.refl _).drewN 1).below _)) (fun wd hqd _ => ?_)
        have z0 : Below wd.heap.size wd wd := Below.refl _ _
        have hSM : ∀ c, Below wd.heap.size wd c → (MdG b1 x (.slice ax x.claims.length cx) bm m (.slice am m.claims.length cm) more) c := fun c hc => HYG.out _ (bnx (hqd.below _) hc)
        have hd9 := hs9.call (hqd.below _)
        have hRF := hd9.rf
        have hbw : hb < wd.heap.size := by obtain ⟨k, -, hk⟩ := hd9.hnd; exact hk.lt
        refine mix_load2 rfl rfl rfl (.agg #[.int .i64 x.points, .int .i64 x.bend, .slice ax x.claims.length cx]) (fun w' h => by have h : (MdG b1 x (.slice ax x.claims.length cx) bm m (.slice am m.claims.length cm) more) w' := h; have e0 := h.1.cell 0; have e1 := h.1.cell 1; have e2 := h.1.cell 2; go_simp) rfl ?_
        refine mix_load2 rfl rfl rfl (.agg #[.int .i64 m.points, .int .i64 m.bend, .slice am m.claims.length cm]) (fun w' h => by have h : (MdG b1 x (.slice ax x.claims.length cx) bm m (.slice am m.claims.length cm) more) w' := h; have e0 := h.2.1.cell 0; have e1 := h.2.1.cell 1; have e2 := h.2.1.cell 2; go_simp) rfl ?_
        refine mix_load2 rfl rfl rfl (.agg #[.int .i64 m.points, .int .i64 m.bend, .slice am m.claims.length cm]) (fun w' h => by have h : (MdG b1 x (.slice ax x.claims.length cx) bm m (.slice am m.claims.length cm) more) w' := h; have e0 := h.2.1.cell 0; have e1 := h.2.1.cell 1; have e2 := h.2.1.cell 2; go_simp) rfl ?_
        refine mix_load2 rfl rfl rfl (.agg #[.int .i64 m.points, .int .i64 m.bend, .slice am m.claims.length cm]) (fun w' h => by have h : (MdG b1 x (.slice ax x.claims.length cx) bm m (.slice am m.claims.length cm) more) w' := h; have e0 := h.2.1.cell 0; have e1 := h.2.1.cell 1; have e2 := h.2.1.cell 2; go_simp) rfl ?_
        refine mix_pur2 rfl (fun K hK => ?_)
        go_simp
        first | refine ⟨_, fun _ => rfl, hK _ ?_⟩ | refine hK _ ?_
        clear hK K
        refine mix_pur2 rfl (fun K hK => ?_)
        go_simp
        first | refine ⟨_, fun _ => rfl, hK _ ?_⟩ | refine hK _ ?_
        clear hK K
        refine mix_pur2 rfl (fun K hK => ?_)
        go_simp
        first | refine ⟨_, fun _ => rfl, hK _ ?_⟩ | refine hK _ ?_
        clear hK K
        refine mix_load2 rfl rfl rfl (.agg #[.int .i64 more.point, .int .i64 more.year, .int .i64 more.off]) (fun w' h => by have h : (MdG b1 x (.slice ax x.claims.length cx) bm m (.slice am m.claims.length cm) more) w' := h; have e0 := h.2.2.cell 0; have e1 := h.2.2.cell 1; have e2 := h.2.2.cell 2; go_simp) rfl ?_
        refine mix_pur2 rfl (fun K hK => ?_)
        go_simp
        first | refine ⟨_, fun _ => rfl, hK _ ?_⟩ | refine hK _ ?_
        clear hK K
        refine mix_three3 rfl rfl rfl false false false rfl rfl rfl (fun K hK => ?_) (fun K hK => ?_) (fun K hK => ?_)
        · refine stz_lit 29 24 4 rfl rfl rfl rfl Try.underlying29 inf24 (by decide) (cells := #[.int .i64 x.points, .int .i64 x.bend, .slice ax x.claims.length cx, .int .i64 m.points, .int .i64 m.bend, .slice am m.claims.length cm, .int .i64 m.points, .int .i64 m.bend, .slice am m.claims.length cm, .int .i64 m.points, .int .i64 m.bend, .slice am m.claims.length cm]) (fill_e4 _ _ _ _ _ _ _ _ _ _ _ _ _ _ _ _ _ _ _ _) (by kernel_rfl) ?_
          have z1 := bal2 (o := .cells #[.int .i64 x.points, .int .i64 x.bend, .slice ax x.claims.length cx, .int .i64 m.points, .int .i64 m.bend, .slice am m.claims.length cm, .int .i64 m.points, .int .i64 m.bend, .slice am m.claims.length cm, .int .i64 m.points, .int .i64 m.bend, .slice am m.claims.length cm] 24) z0
          have hgr := (Below.refl wd.heap.size wd).alloc (Nat.le_refl _) (.cells #[.int .i64 x.points, .int .i64 x.bend, .slice ax x.claims.length cx, .int .i64 m.points, .int .i64 m.bend, .slice am m.claims.length cm, .int .i64 m.points, .int .i64 m.bend, .slice am m.claims.length cm, .int .i64 m.points, .int .i64 m.bend, .slice am m.claims.length cm] 24)
          have hE := Blk.new wd #[.int .i64 x.points, .int .i64 x.bend, .slice ax x.claims.length cx, .int .i64 m.points, .int .i64 m.bend, .slice am m.claims.length cm, .int .i64 m.points, .int .i64 m.bend, .slice am m.claims.length cm, .int .i64 m.points, .int .i64 m.bend, .slice am m.claims.length cm] 24
          refine hK _ _ (hSM _ z1) ?_
          try (rw [set_lit]; dsimp only [List.set])
          clear hK K
          clear hgr
          obtain ⟨q1, hq1⟩ : ∃ b, b = wd.heap.size := ⟨_, rfl⟩
          rw [← hq1] at hE ⊢
          generalize wd.alloc (.cells #[.int .i64 x.points, .int .i64 x.bend, .slice ax x.claims.length cx, .int .i64 m.points, .int .i64 m.bend, .slice am m.claims.length cm, .int .i64 m.points, .int .i64 m.bend, .slice am m.claims.length cm, .int .i64 m.points, .int .i64 m.bend, .slice am m.claims.length cm] 24) = wa1 at z1 hE ⊢
          clear hq1
          refine mix_two3 rfl rfl false false rfl rfl (fun K hK => ?_) (fun K hK => ?_)
          · refine stz_fn rfl rfl rfl ent37 rfl rfl (by kernel_rfl) (copyFurrows_c (hRF.call z1) (by omega)) ?_
            rintro e' wa2 ⟨vp, rfl, hP, hgr⟩
            refine ⟨_, rfl, ?_⟩
            have z2 := z1.trans (hgr.mono z1.size)
            have hE := hE.call hgr
            obtain ⟨B0, hB0⟩ : ∃ b, b = wa1.heap.size := ⟨_, rfl⟩
            have hPB : wd.heap.size ≤ B0 := by rw [hB0]; exact z1.size
            have hPS : B0 ≤ wa2.heap.size := by rw [hB0]; exact hgr.size
            rw [← hB0] at hP
            obtain ⟨aq, cq, rfl⟩ := own_slice hP
            refine hK _ _ (hSM _ z2) ?_
            try (rw [set_lit]; dsimp only [List.set])
            clear hK K
            clear hgr hB0
            refine mix_eff3 rfl false rfl (fun K hK => ?_)
            refine stz_lit 44 76 1 rfl rfl rfl rfl Try.underlying44 Try.info76 (by decide) (cells := #[.int .i64 more.point, .int .i64 more.year, .int .i64 more.off]) (fill_f1 _ _ _) (by kernel_rfl) ?_
            have z3 := bal2 (o := .cells #[.int .i64 more.point, .int .i64 more.year, .int .i64 more.off] 76) z2
            have hgr := (Below.refl wa2.heap.size wa2).alloc (Nat.le_refl _) (.cells #[.int .i64 more.point, .int .i64 more.year, .int .i64 more.off] 76)
            have hE := hE.call hgr
            have hP := Own.grow hP hgr
            have hPS : B0 ≤ (wa2.alloc (.cells #[.int .i64 more.point, .int .i64 more.year, .int .i64 more.off] 76)).heap.size := by have := hgr.size; omega
            have hL := own_lit wa2 76 3 #[.int .i64 more.point, .int .i64 more.year, .int .i64 more.off] 1 rfl (by omega)
            refine hK _ _ (hSM _ z3) ?_
            try (rw [set_lit]; dsimp only [List.set])
            clear hK K
            clear hgr
            obtain ⟨ql, hql⟩ : ∃ b, b = wa2.heap.size := ⟨_, rfl⟩
            rw [← hql] at hL ⊢
            generalize wa2.alloc (.cells #[.int .i64 more.point, .int .i64 more.year, .int .i64 more.off] 76) = wa3 at z3 hL hE hP hPS ⊢
            clear hql
            refine mix_eff3 rfl false rfl (fun K hK => ?_)
            refine stz_app 44 rfl rfl rfl 76 _ 3 24 Try.underlying44 Try.info76 rfl (by decide) (by decide) hPS hP hL.arr rfl (fcells_one more) (by omega) (by kernel_rfl) (by kernel_rfl) ?_
            intro v' wa4 hown hT
            have z4 := hT.below2 hP z3 z3.size hPB
            have hE := hE.keep (hT.block _ hE.lt (fun e => own_ne_ty hP hE (by decide) e))
            obtain ⟨ag, cg, rfl⟩ := own_slice hown
            have hown : Own B0 wa4 76 3 (.slice ag (f.length + 1) cg) (f ++ [more]).length ((f ++ [more]).flatMap fcells) := by rw [List.flatMap_append, List.length_append]; exact hown
            have hF := (Own.fus hown).wide (A' := fun q => q ≠ hb) fun q hq _ => by have := hbw; omega
            refine hK _ _ (hSM _ z4) ?_
            try (rw [set_lit]; dsimp only [List.set])
            clear hK K
            clear hP hL hown hT hPB hPS
            refine mix_pur2 rfl (fun K hK => ?_)
            go_simp
            first | refine ⟨_, fun _ => rfl, hK _ ?_⟩ | refine hK _ ?_
            clear hK K
            refine mix_eff3 rfl false rfl (fun K hK => ?_)
            refine stz_lit 48 44 4 rfl rfl rfl rfl Try.underlying48 inf44 (by decide) (cells := #[.slice al l.length cl, .slice af f.length cf, .slice ag (f.length + 1) cg, .slice al l.length cl]) (fill_s4 _ _ _ _ _ _ _ _ _ _ _ _) (by kernel_rfl) ?_
            have z5 := bal2 (o := .cells #[.slice al l.length cl, .slice af f.length cf, .slice ag (f.length + 1) cg, .slice al l.length cl] 44) z4
            have hgr := (Below.refl wa4.heap.size wa4).alloc (Nat.le_refl _) (.cells #[.slice al l.length cl, .slice af f.length cf, .slice ag (f.length + 1) cg, .slice al l.length cl] 44)
            have hE := hE.call hgr
            have hF := hF.call hgr
            have hS := Blk.new wa4 #[.slice al l.length cl, .slice af f.length cf, .slice ag (f.length + 1) cg, .slice al l.length cl] 44
            refine hK _ _ (hSM _ z5) ?_
            try (rw [set_lit]; dsimp only [List.set])
            clear hK K
            clear hgr
            obtain ⟨q2, hq2⟩ : ∃ b, b = wa4.heap.size := ⟨_, rfl⟩
            rw [← hq2] at hS ⊢
            generalize wa4.alloc (.cells #[.slice al l.length cl, .slice af f.length cf, .slice ag (f.length + 1) cg, .slice al l.length cl] 44) = wa5 at z5 hS hE hF ⊢
            clear hq2
            refine mix_pur2 rfl (fun K hK => ?_)
            go_simp
            first | refine ⟨_, fun _ => rfl, hK _ ?_⟩ | refine hK _ ?_
            clear hK K
            refine mix_done2 ?_
            go_wp2_with fail
            go_meet
            case rel => exact ⟨q1, q2, ag, cg, rfl, rfl, (hd9.call z5).lits2 hE hS, hF⟩
          · refine stz_lit 44 76 1 rfl rfl rfl rfl Try.underlying44 Try.info76 (by decide) (cells := #[.int .i64 more.point, .int .i64 more.year, .int .i64 more.off]) (fill_f1 _ _ _) (by kernel_rfl) ?_
            have z2 := bal2 (o := .cells #[.int .i64 more.point, .int .i64 more.year, .int .i64 more.off] 76) z1
            have hgr := (Below.refl wa1.heap.size wa1).alloc (Nat.le_refl _) (.cells #[.int .i64 more.point, .int .i64 more.year, .int .i64 more.off] 76)
            have hE := hE.call hgr
            have hL := own_lit wa1 76 3 #[.int .i64 more.point, .int .i64 more.year, .int .i64 more.off] 1 rfl (by omega)
            refine hK _ _ (hSM _ z2) ?_
            try (rw [set_lit]; dsimp only [List.set])
            clear hK K
            clear hgr
            obtain ⟨ql, hql⟩ : ∃ b, b = wa1.heap.size := ⟨_, rfl⟩
            rw [← hql] at hL ⊢
            generalize wa1.alloc (.cells #[.int .i64 more.point, .int .i64 more.year, .int .i64 more.off] 76) = wa2 at z2 hL hE ⊢
            clear hql
            refine mix_eff3 rfl false rfl (fun K hK => ?_)
            refine stz_fn rfl rfl rfl ent37 rfl rfl (by kernel_rfl) (copyFurrows_c (hRF.call z2) (by omega)) ?_
            rintro e' wa3 ⟨vp, rfl, hP, hgr⟩
            refine ⟨_, rfl, ?_⟩
            have z3 := z2.trans (hgr.mono z2.size)
            have hE := hE.call hgr
            have hL := Own.grow hL hgr
            obtain ⟨B0, hB0⟩ : ∃ b, b = wa2.heap.size := ⟨_, rfl⟩
            have hPB : wd.heap.size ≤ B0 := by rw [hB0]; exact z2.size
            have hPS : B0 ≤ wa3.heap.size := by rw [hB0]; exact hgr.size
            rw [← hB0] at hP
            obtain ⟨aq, cq, rfl⟩ := own_slice hP
            refine hK _ _ (hSM _ z3) ?_
            try (rw [set_lit]; dsimp only [List.set])
            clear hK K
            clear hgr hB0
            refine mix_eff3 rfl false rfl (fun K hK => ?_)
            refine stz_app 44 rfl rfl rfl 76 _ 3 24 Try.underlying44 Try.info76 rfl (by decide) (by decide) hPS hP hL.arr rfl (fcells_one more) (by omega) (by kernel_rfl) (by kernel_rfl) ?_
            intro v' wa4 hown hT
            have z4 := hT.below2 hP z3 z3.size hPB
            have hE := hE.keep (hT.block _ hE.lt (fun e => own_ne_ty hP hE (by decide) e))
            obtain ⟨ag, cg, rfl⟩ := own_slice hown
            have hown : Own B0 wa4 76 3 (.slice ag (f.length + 1) cg) (f ++ [more]).length ((f ++ [more]).flatMap fcells) := by rw [List.flatMap_append, List.length_append]; exact hown
            have hF := (Own.fus hown).wide (A' := fun q => q ≠ hb) fun q hq _ => by have := hbw; omega
            refine hK _ _ (hSM _ z4) ?_
            try (rw [set_lit]; dsimp only [List.set])
            clear hK K
            clear hP hL hown hT hPB hPS
            refine mix_pur2 rfl (fun K hK => ?_)
            go_simp
            first | refine ⟨_, fun _ => rfl, hK _ ?_⟩ | refine hK _ ?_
            clear hK K
            refine mix_eff3 rfl false rfl (fun K hK => ?_)
            refine stz_lit 48 44 4 rfl rfl rfl rfl Try.underlying48 inf44 (by decide) (cells := #[.slice al l.length cl, .slice af f.length cf, .slice ag (f.length + 1) cg, .slice al l.length cl]) (fill_s4 _ _ _ _ _ _ _ _ _ _ _ _) (by kernel_rfl) ?_
            have z5 := bal2 (o := .cells #[.slice al l.length cl, .slice af f.length cf, .slice ag (f.length + 1) cg, .slice al l.length cl] 44) z4
            have hgr := (Below.refl wa4.heap.size wa4).alloc (Nat.le_refl _) (.cells #[.slice al l.length cl, .slice af f.length cf, .slice ag (f.length + 1) cg, .slice al l.length cl] 44)
            have hE := hE.call hgr
            have hF := hF.call hgr
            have hS := Blk.new wa4 #[.slice al l.length cl, .slice af f.length cf, .slice ag (f.length + 1) cg, .slice al l.length cl] 44
            refine hK _ _ (hSM _ z5) ?_
            try (rw [set_lit]; dsimp only [List.set])
            clear hK K
            clear hgr
            obtain ⟨q2, hq2⟩ : ∃ b, b = wa4.heap.size := ⟨_, rfl⟩
            rw [← hq2] at hS ⊢
            generalize wa4.alloc (.cells #[.slice al l.length cl, .slice af f.length cf, .slice ag (f.length + 1) cg, .slice al l.length cl] 44) = wa5 at z5 hS hE hF ⊢
            clear hq2
            refine mix_pur2 rfl (fun K hK => ?_)
            go_simp
            first | refine ⟨_, fun _ => rfl, hK _ ?_⟩ | refine hK _ ?_
            clear hK K
            refine mix_done2 ?_
            go_wp2_with fail
            go_meet
            case rel => exact ⟨q1, q2, ag, cg, rfl, rfl, (hd9.call z5).lits2 hE hS, hF⟩
        · refine stz_fn rfl rfl rfl ent37 rfl rfl (by kernel_rfl) (copyFurrows_c (hRF.call z0) (by omega)) ?_
          rintro e' wa1 ⟨vp, rfl, hP, hgr⟩
          refine ⟨_, rfl, ?_⟩
          have z1 := z0.trans (hgr.mono z0.size)
          obtain ⟨B0, hB0⟩ : ∃ b, b = wd.heap.size := ⟨_, rfl⟩
          have hPB : wd.heap.size ≤ B0 := by rw [hB0]; exact z0.size
          have hPS : B0 ≤ wa1.heap.size := by rw [hB0]; exact hgr.size
          rw [← hB0] at hP
          obtain ⟨aq, cq, rfl⟩ := own_slice hP
          refine hK _ _ (hSM _ z1) ?_
          try (rw [set_lit]; dsimp only [List.set])
          clear hK K
          clear hgr hB0
          refine mix_two3 rfl rfl false false rfl rfl (fun K hK => ?_) (fun K hK => ?_)
          · refine stz_lit 29 24 4 rfl rfl rfl rfl Try.underlying29 inf24 (by decide) (cells := #[.int .i64 x.points, .int .i64 x.bend, .slice ax x.claims.length cx, .int .i64 m.points, .int .i64 m.bend, .slice am m.claims.length cm, .int .i64 m.points, .int .i64 m.bend, .slice am m.claims.length cm, .int .i64 m.points, .int .i64 m.bend, .slice am m.claims.length cm]) (fill_e4 _ _ _ _ _ _ _ _ _ _ _ _ _ _ _ _ _ _ _ _) (by kernel_rfl) ?_
            have z2 := bal2 (o := .cells #[.int .i64 x.points, .int .i64 x.bend, .slice ax x.claims.length cx, .int .i64 m.points, .int .i64 m.bend, .slice am m.claims.length cm, .int .i64 m.points, .int .i64 m.bend, .slice am m.claims.length cm, .int .i64 m.points, .int .i64 m.bend, .slice am m.claims.length cm] 24) z1
            have hgr := (Below.refl wa1.heap.size wa1).alloc (Nat.le_refl _) (.cells #[.int .i64 x.points, .int .i64 x.bend, .slice ax x.claims.length cx, .int .i64 m.points, .int .i64 m.bend, .slice am m.claims.length cm, .int .i64 m.points, .int .i64 m.bend, .slice am m.claims.length cm, .int .i64 m.points, .int .i64 m.bend, .slice am m.claims.length cm] 24)
            have hP := Own.grow hP hgr
            have hPS : B0 ≤ (wa1.alloc (.cells #[.int .i64 x.points, .int .i64 x.bend, .slice ax x.claims.length cx, .int .i64 m.points, .int .i64 m.bend, .slice am m.claims.length cm, .int .i64 m.points, .int .i64 m.bend, .slice am m.claims.length cm, .int .i64 m.points, .int .i64 m.bend, .slice am m.claims.length cm] 24)).heap.size := by have := hgr.size; omega
            have hE := Blk.new wa1 #[.int .i64 x.points, .int .i64 x.bend, .slice ax x.claims.length cx, .int .i64 m.points, .int .i64 m.bend, .slice am m.claims.length cm, .int .i64 m.points, .int .i64 m.bend, .slice am m.claims.length cm, .int .i64 m.points, .int .i64 m.bend, .slice am m.claims.length cm] 24
            refine hK _ _ (hSM _ z2) ?_
            try (rw [set_lit]; dsimp only [List.set])
            clear hK K
            clear hgr
            obtain ⟨q1, hq1⟩ : ∃ b, b = wa1.heap.size := ⟨_, rfl⟩
            rw [← hq1] at hE ⊢
            generalize wa1.alloc (.cells #[.int .i64 x.points, .int .i64 x.bend, .slice ax x.claims.length cx, .int .i64 m.points, .int .i64 m.bend, .slice am m.claims.length cm, .int .i64 m.points, .int .i64 m.bend, .slice am m.claims.length cm, .int .i64 m.points, .int .i64 m.bend, .slice am m.claims.length cm] 24) = wa2 at z2 hE hP hPS ⊢
            clear hq1
            refine mix_eff3 rfl false rfl (fun K hK => ?_)
            refine stz_lit 44 76 1 rfl rfl rfl rfl Try.underlying44 Try.info76 (by decide) (cells := #[.int .i64 more.point, .int .i64 more.year, .int .i64 more.off]) (fill_f1 _ _ _) (by kernel_rfl) ?_
            have z3 := bal2 (o := .cells #[.int .i64 more.point, .int .i64 more.year, .int .i64 more.off] 76) z2
            have hgr := (Below.refl wa2.heap.size wa2).alloc (Nat.le_refl _) (.cells #[.int .i64 more.point, .int .i64 more.year, .int .i64 more.off] 76)
            have hE := hE.call hgr
            have hP := Own.grow hP hgr
            have hPS : B0 ≤ (wa2.alloc (.cells #[.int .i64 more.point, .int .i64 more.year, .int .i64 more.off] 76)).heap.size := by have := hgr.size; omega
            have hL := own_lit wa2 76 3 #[.int .i64 more.point, .int .i64 more.year, .int .i64 more.off] 1 rfl (by omega)
            refine hK _ _ (hSM _ z3) ?_
            try (rw [set_lit]; dsimp only [List.set])
            clear hK K
            clear hgr
            obtain ⟨ql, hql⟩ : ∃ b, b = wa2.heap.size := ⟨_, rfl⟩
            rw [← hql] at hL ⊢
            generalize wa2.alloc (.cells #[.int .i64 more.point, .int .i64 more.year, .int .i64 more.off] 76) = wa3 at z3 hL hE hP hPS ⊢
            clear hql
            refine mix_eff3 rfl false rfl (fun K hK => ?_)
            refine stz_app 44 rfl rfl rfl 76 _ 3 24 Try.underlying44 Try.info76 rfl (by decide) (by decide) hPS hP hL.arr rfl (fcells_one more) (by omega) (by kernel_rfl) (by kernel_rfl) ?_
            intro v' wa4 hown hT
            have z4 := hT.below2 hP z3 z3.size hPB
            have hE := hE.keep (hT.block _ hE.lt (fun e => own_ne_ty hP hE (by decide) e))
            obtain ⟨ag, cg, rfl⟩ := own_slice hown
            have hown : Own B0 wa4 76 3 (.slice ag (f.length + 1) cg) (f ++ [more]).length ((f ++ [more]).flatMap fcells) := by rw [List.flatMap_append, List.length_append]; exact hown
            have hF := (Own.fus hown).wide (A' := fun q => q ≠ hb) fun q hq _ => by have := hbw; omega
            refine hK _ _ (hSM _ z4) ?_
            try (rw [set_lit]; dsimp only [List.set])
            clear hK K
            clear hP hL hown hT hPB hPS
            refine mix_pur2 rfl (fun K hK => ?_)
            go_simp
            first | refine ⟨_, fun _ => rfl, hK _ ?_⟩ | refine hK _ ?_
            clear hK K
            refine mix_eff3 rfl false rfl (fun K hK => ?_)
            refine stz_lit 48 44 4 rfl rfl rfl rfl Try.underlying48 inf44 (by decide) (cells := #[.slice al l.length cl, .slice af f.length cf, .slice ag (f.length + 1) cg, .slice al l.length cl]) (fill_s4 _ _ _ _ _ _ _ _ _ _ _ _) (by kernel_rfl) ?_
            have z5 := bal2 (o := .cells #[.slice al l.length cl, .slice af f.length cf, .slice ag (f.length + 1) cg, .slice al l.length cl] 44) z4
            have hgr := (Below.refl wa4.heap.size wa4).alloc (Nat.le_refl _) (.cells #[.slice al l.length cl, .slice af f.length cf, .slice ag (f.length + 1) cg, .slice al l.length cl] 44)
            have hE := hE.call hgr
            have hF := hF.call hgr
            have hS := Blk.new wa4 #[.slice al l.length cl, .slice af f.length cf, .slice ag (f.length + 1) cg, .slice al l.length cl] 44
            refine hK _ _ (hSM _ z5) ?_
            try (rw [set_lit]; dsimp only [List.set])
            clear hK K
            clear hgr
            obtain ⟨q2, hq2⟩ : ∃ b, b = wa4.heap.size := ⟨_, rfl⟩
            rw [← hq2] at hS ⊢
            generalize wa4.alloc (.cells #[.slice al l.length cl, .slice af f.length cf, .slice ag (f.length + 1) cg, .slice al l.length cl] 44) = wa5 at z5 hS hE hF ⊢
            clear hq2
            refine mix_pur2 rfl (fun K hK => ?_)
            go_simp
            first | refine ⟨_, fun _ => rfl, hK _ ?_⟩ | refine hK _ ?_
            clear hK K
            refine mix_done2 ?_
            go_wp2_with fail
            go_meet
            case rel => exact ⟨q1, q2, ag, cg, rfl, rfl, (hd9.call z5).lits2 hE hS, hF⟩
          · refine stz_lit 44 76 1 rfl rfl rfl rfl Try.underlying44 Try.info76 (by decide) (cells := #[.int .i64 more.point, .int .i64 more.year, .int .i64 more.off]) (fill_f1 _ _ _) (by kernel_rfl) ?_
            have z2 := bal2 (o := .cells #[.int .i64 more.point, .int .i64 more.year, .int .i64 more.off] 76) z1
            have hgr := (Below.refl wa1.heap.size wa1).alloc (Nat.le_refl _) (.cells #[.int .i64 more.point, .int .i64 more.year, .int .i64 more.off] 76)
            have hP := Own.grow hP hgr
            have hPS : B0 ≤ (wa1.alloc (.cells #[.int .i64 more.point, .int .i64 more.year, .int .i64 more.off] 76)).heap.size := by have := hgr.size; omega
            have hL := own_lit wa1 76 3 #[.int .i64 more.point, .int .i64 more.year, .int .i64 more.off] 1 rfl (by omega)
            refine hK _ _ (hSM _ z2) ?_
            try (rw [set_lit]; dsimp only [List.set])
            clear hK K
            clear hgr
            obtain ⟨ql, hql⟩ : ∃ b, b = wa1.heap.size := ⟨_, rfl⟩
            rw [← hql] at hL ⊢
            generalize wa1.alloc (.cells #[.int .i64 more.point, .int .i64 more.year, .int .i64 more.off] 76) = wa2 at z2 hL hP hPS ⊢
            clear hql
            refine mix_two3 rfl rfl false false rfl rfl (fun K hK => ?_) (fun K hK => ?_)
            · refine stz_lit 29 24 4 rfl rfl rfl rfl Try.underlying29 inf24 (by decide) (cells := #[.int .i64 x.points, .int .i64 x.bend, .slice ax x.claims.length cx, .int .i64 m.points, .int .i64 m.bend, .slice am m.claims.length cm, .int .i64 m.points, .int .i64 m.bend, .slice am m.claims.length cm, .int .i64 m.points, .int .i64 m.bend, .slice am m.claims.length cm]) (fill_e4 _ _ _ _ _ _ _ _ _ _ _ _ _ _ _ _ _ _ _ _) (by kernel_rfl) ?_
              have z3 := bal2 (o := .cells #[.int .i64 x.points, .int .i64 x.bend, .slice ax x.claims.length cx, .int .i64 m.points, .int .i64 m.bend, .slice am m.claims.length cm, .int .i64 m.points, .int .i64 m.bend, .slice am m.claims.length cm, .int .i64 m.points, .int .i64 m.bend, .slice am m.claims.length cm] 24) z2
              have hgr := (Below.refl wa2.heap.size wa2).alloc (Nat.le_refl _) (.cells #[.int .i64 x.points, .int .i64 x.bend, .slice ax x.claims.length cx, .int .i64 m.points, .int .i64 m.bend, .slice am m.claims.length cm, .int .i64 m.points, .int .i64 m.bend, .slice am m.claims.length cm, .int .i64 m.points, .int .i64 m.bend, .slice am m.claims.length cm] 24)
              have hP := Own.grow hP hgr
              have hL := Own.grow hL hgr
              have hPS : B0 ≤ (wa2.alloc (.cells #[.int .i64 x.points, .int .i64 x.bend, .slice ax x.claims.length cx, .int .i64 m.points, .int .i64 m.bend, .slice am m.claims.length cm, .int .i64 m.points, .int .i64 m.bend, .slice am m.claims.length cm, .int .i64 m.points, .int .i64 m.bend, .slice am m.claims.length cm] 24)).heap.size := by have := hgr.size; omega
              have hE := Blk.new wa2 #[.int .i64 x.points, .int .i64 x.bend, .slice ax x.claims.length cx, .int .i64 m.points, .int .i64 m.bend, .slice am m.claims.length cm, .int .i64 m.points, .int .i64 m.bend, .slice am m.claims.length cm, .int .i64 m.points, .int .i64 m.bend, .slice am m.claims.length cm] 24
              refine hK _ _ (hSM _ z3) ?_
              try (rw [set_lit]; dsimp only [List.set])
              clear hK K
              clear hgr
              obtain ⟨q1, hq1⟩ : ∃ b, b = wa2.heap.size := ⟨_, rfl⟩
              rw [← hq1] at hE ⊢
              generalize wa2.alloc (.cells #[.int .i64 x.points, .int .i64 x.bend, .slice ax x.claims.length cx, .int .i64 m.points, .int .i64 m.bend, .slice am m.claims.length cm, .int .i64 m.points, .int .i64 m.bend, .slice am m.claims.length cm, .int .i64 m.points, .int .i64 m.bend, .slice am m.claims.length cm] 24) = wa3 at z3 hE hP hPS hL ⊢
              clear hq1
              refine mix_eff3 rfl false rfl (fun K hK => ?_)
              refine stz_app 44 rfl rfl rfl 76 _ 3 24 Try.underlying44 Try.info76 rfl (by decide) (by decide) hPS hP hL.arr rfl (fcells_one more) (by omega) (by kernel_rfl) (by kernel_rfl) ?_
              intro v' wa4 hown hT
              have z4 := hT.below2 hP z3 z3.size hPB
              have hE := hE.keep (hT.block _ hE.lt (fun e => own_ne_ty hP hE (by decide) e))
              obtain ⟨ag, cg, rfl⟩ := own_slice hown
              have hown : Own B0 wa4 76 3 (.slice ag (f.length + 1) cg) (f ++ [more]).length ((f ++ [more]).flatMap fcells) := by rw [List.flatMap_append, List.length_append]; exact hown
              have hF := (Own.fus hown).wide (A' := fun q => q ≠ hb) fun q hq _ => by have := hbw; omega
              refine hK _ _ (hSM _ z4) ?_
              try (rw [set_lit]; dsimp only [List.set])
              clear hK K
              clear hP hL hown hT hPB hPS
              refine mix_pur2 rfl (fun K hK => ?_)
              go_simp
              first | refine ⟨_, fun _ => rfl, hK _ ?_⟩ | refine hK _ ?_
              clear hK K
              refine mix_eff3 rfl false rfl (fun K hK => ?_)
              refine stz_lit 48 44 4 rfl rfl rfl rfl Try.underlying48 inf44 (by decide) (cells := #[.slice al l.length cl, .slice af f.length cf, .slice ag (f.length + 1) cg, .slice al l.length cl]) (fill_s4 _ _ _ _ _ _ _ _ _ _ _ _) (by kernel_rfl) ?_
              have z5 := bal2 (o := .cells #[.slice al l.length cl, .slice af f.length cf, .slice ag (f.length + 1) cg, .slice al l.length cl] 44) z4
              have hgr := (Below.refl wa4.heap.size wa4).alloc (Nat.le_refl _) (.cells #[.slice al l.length cl, .slice af f.length cf, .slice ag (f.length + 1) cg, .slice al l.length cl] 44)
              have hE := hE.call hgr
              have hF := hF.call hgr
              have hS := Blk.new wa4 #[.slice al l.length cl, .slice af f.length cf, .slice ag (f.length + 1) cg, .slice al l.length cl] 44
              refine hK _ _ (hSM _ z5) ?_
              try (rw [set_lit]; dsimp only [List.set])
              clear hK K
              clear hgr
              obtain ⟨q2, hq2⟩ : ∃ b, b = wa4.heap.size := ⟨_, rfl⟩
              rw [← hq2] at hS ⊢
              generalize wa4.alloc (.cells #[.slice al l.length cl, .slice af f.length cf, .slice ag (f.length + 1) cg, .slice al l.length cl] 44) = wa5 at z5 hS hE hF ⊢
              clear hq2
              refine mix_pur2 rfl (fun K hK => ?_)
              go_simp
              first | refine ⟨_, fun _ => rfl, hK _ ?_⟩ | refine hK _ ?_
              clear hK K
              refine mix_done2 ?_
              go_wp2_with fail
              go_meet
              case rel => exact ⟨q1, q2, ag, cg, rfl, rfl, (hd9.call z5).lits2 hE hS, hF⟩
            · refine stz_app 44 rfl rfl rfl 76 _ 3 24 Try.underlying44 Try.info76 rfl (by decide) (by decide) hPS hP hL.arr rfl (fcells_one more) (by omega) (by kernel_rfl) (by kernel_rfl) ?_
              intro v' wa3 hown hT
              have z3 := hT.below2 hP z2 z2.size hPB
              obtain ⟨ag, cg, rfl⟩ := own_slice hown
              have hown : Own B0 wa3 76 3 (.slice ag (f.length + 1) cg) (f ++ [more]).length ((f ++ [more]).flatMap fcells) := by rw [List.flatMap_append, List.length_append]; exact hown
              have hF := (Own.fus hown).wide (A' := fun q => q ≠ hb) fun q hq _ => by have := hbw; omega
              refine hK _ _ (hSM _ z3) ?_
              try (rw [set_lit]; dsimp only [List.set])
              clear hK K
              clear hP hL hown hT hPB hPS
              refine mix_two3 rfl rfl false false rfl rfl (fun K hK => ?_) (fun K hK => ?_)
              · refine stz_lit 29 24 4 rfl rfl rfl rfl Try.underlying29 inf24 (by decide) (cells := #[.int .i64 x.points, .int .i64 x.bend, .slice ax x.claims.length cx, .int .i64 m.points, .int .i64 m.bend, .slice am m.claims.length cm, .int .i64 m.points, .int .i64 m.bend, .slice am m.claims.length cm, .int .i64 m.points, .int .i64 m.bend, .slice am m.claims.length cm]) (fill_e4 _ _ _ _ _ _ _ _ _ _ _ _ _ _ _ _ _ _ _ _) (by kernel_rfl) ?_
                have z4 := bal2 (o := .cells #[.int .i64 x.points, .int .i64 x.bend, .slice ax x.claims.length cx, .int .i64 m.points, .int .i64 m.bend, .slice am m.claims.length cm, .int .i64 m.points, .int .i64 m.bend, .slice am m.claims.length cm, .int .i64 m.points, .int .i64 m.bend, .slice am m.claims.length cm] 24) z3
                have hgr := (Below.refl wa3.heap.size wa3).alloc (Nat.le_refl _) (.cells #[.int .i64 x.points, .int .i64 x.bend, .slice ax x.claims.length cx, .int .i64 m.points, .int .i64 m.bend, .slice am m.claims.length cm, .int .i64 m.points, .int .i64 m.bend, .slice am m.claims.length cm, .int .i64 m.points, .int .i64 m.bend, .slice am m.claims.length cm] 24)
                have hF := hF.call hgr
                have hE := Blk.new wa3 #[.int .i64 x.points, .int .i64 x.bend, .slice ax x.claims.length cx, .int .i64 m.points, .int .i64 m.bend, .slice am m.claims.length cm, .int .i64 m.points, .int .i64 m.bend, .slice am m.claims.length cm, .int .i64 m.points, .int .i64 m.bend, .slice am m.claims.length cm] 24
                refine hK _ _ (hSM _ z4) ?_
                try (rw [set_lit]; dsimp only [List.set])
                clear hK K
                clear hgr
                obtain ⟨q1, hq1⟩ : ∃ b, b = wa3.heap.size := ⟨_, rfl⟩
                rw [← hq1] at hE ⊢
                generalize wa3.alloc (.cells #[.int .i64 x.points, .int .i64 x.bend, .slice ax x.claims.length cx, .int .i64 m.points, .int .i64 m.bend, .slice am m.claims.length cm, .int .i64 m.points, .int .i64 m.bend, .slice am m.claims.length cm, .int .i64 m.points, .int .i64 m.bend, .slice am m.claims.length cm] 24) = wa4 at z4 hE hF ⊢
                clear hq1
                refine mix_pur2 rfl (fun K hK => ?_)
                go_simp
                first | refine ⟨_, fun _ => rfl, hK _ ?_⟩ | refine hK _ ?_
                clear hK K
                refine mix_eff3 rfl false rfl (fun K hK => ?_)
                refine stz_lit 48 44 4 rfl rfl rfl rfl Try.underlying48 inf44 (by decide) (cells := #[.slice al l.length cl, .slice af f.length cf, .slice ag (f.length + 1) cg, .slice al l.length cl]) (fill_s4 _ _ _ _ _ _ _ _ _ _ _ _) (by kernel_rfl) ?_
                have z5 := bal2 (o := .cells #[.slice al l.length cl, .slice af f.length cf, .slice ag (f.length + 1) cg, .slice al l.length cl] 44) z4
                have hgr := (Below.refl wa4.heap.size wa4).alloc (Nat.le_refl _) (.cells #[.slice al l.length cl, .slice af f.length cf, .slice ag (f.length + 1) cg, .slice al l.length cl] 44)
                have hE := hE.call hgr
                have hF := hF.call hgr
                have hS := Blk.new wa4 #[.slice al l.length cl, .slice af f.length cf, .slice ag (f.length + 1) cg, .slice al l.length cl] 44
                refine hK _ _ (hSM _ z5) ?_
                try (rw [set_lit]; dsimp only [List.set])
                clear hK K
                clear hgr
                obtain ⟨q2, hq2⟩ : ∃ b, b = wa4.heap.size := ⟨_, rfl⟩
                rw [← hq2] at hS ⊢
                generalize wa4.alloc (.cells #[.slice al l.length cl, .slice af f.length cf, .slice ag (f.length + 1) cg, .slice al l.length cl] 44) = wa5 at z5 hS hE hF ⊢
                clear hq2
                refine mix_pur2 rfl (fun K hK => ?_)
                go_simp
                first | refine ⟨_, fun _ => rfl, hK _ ?_⟩ | refine hK _ ?_
                clear hK K
                refine mix_done2 ?_
                go_wp2_with fail
                go_meet
                case rel => exact ⟨q1, q2, ag, cg, rfl, rfl, (hd9.call z5).lits2 hE hS, hF⟩
              · refine stz_lit 48 44 4 rfl rfl rfl rfl Try.underlying48 inf44 (by decide) (cells := #[.slice al l.length cl, .slice af f.length cf, .slice ag (f.length + 1) cg, .slice al l.length cl]) (fill_s4 _ _ _ _ _ _ _ _ _ _ _ _) (by kernel_rfl) ?_
                have z4 := bal2 (o := .cells #[.slice al l.length cl, .slice af f.length cf, .slice ag (f.length + 1) cg, .slice al l.length cl] 44) z3
                have hgr := (Below.refl wa3.heap.size wa3).alloc (Nat.le_refl _) (.cells #[.slice al l.length cl, .slice af f.length cf, .slice ag (f.length + 1) cg, .slice al l.length cl] 44)
                have hF := hF.call hgr
                have hS := Blk.new wa3 #[.slice al l.length cl, .slice af f.length cf, .slice ag (f.length + 1) cg, .slice al l.length cl] 44
                refine hK _ _ (hSM _ z4) ?_
                try (rw [set_lit]; dsimp only [List.set])
                clear hK K
                clear hgr
                obtain ⟨q2, hq2⟩ : ∃ b, b = wa3.heap.size := ⟨_, rfl⟩
                rw [← hq2] at hS ⊢
                generalize wa3.alloc (.cells #[.slice al l.length cl, .slice af f.length cf, .slice ag (f.length + 1) cg, .slice al l.length cl] 44) = wa4 at z4 hS hF ⊢
                clear hq2
                refine mix_eff3 rfl false rfl (fun K hK => ?_)
                refine stz_lit 29 24 4 rfl rfl rfl rfl Try.underlying29 inf24 (by decide) (cells := #[.int .i64 x.points, .int .i64 x.bend, .slice ax x.claims.length cx, .int .i64 m.points, .int .i64 m.bend, .slice am m.claims.length cm, .int .i64 m.points, .int .i64 m.bend, .slice am m.claims.length cm, .int .i64 m.points, .int .i64 m.bend, .slice am m.claims.length cm]) (fill_e4 _ _ _ _ _ _ _ _ _ _ _ _ _ _ _ _ _ _ _ _) (by kernel_rfl) ?_
                have z5 := bal2 (o := .cells #[.int .i64 x.points, .int .i64 x.bend, .slice ax x.claims.length cx, .int .i64 m.points, .int .i64 m.bend, .slice am m.claims.length cm, .int .i64 m.points, .int .i64 m.bend, .slice am m.claims.length cm, .int .i64 m.points, .int .i64 m.bend, .slice am m.claims.length cm] 24) z4
                have hgr := (Below.refl wa4.heap.size wa4).alloc (Nat.le_refl _) (.cells #[.int .i64 x.points, .int .i64 x.bend, .slice ax x.claims.length cx, .int .i64 m.points, .int .i64 m.bend, .slice am m.claims.length cm, .int .i64 m.points, .int .i64 m.bend, .slice am m.claims.length cm, .int .i64 m.points, .int .i64 m.bend, .slice am m.claims.length cm] 24)
                have hF := hF.call hgr
                have hS := hS.call hgr
                have hE := Blk.new wa4 #[.int .i64 x.points, .int .i64 x.bend, .slice ax x.claims.length cx, .int .i64 m.points, .int .i64 m.bend, .slice am m.claims.length cm, .int .i64 m.points, .int .i64 m.bend, .slice am m.claims.length cm, .int .i64 m.points, .int .i64 m.bend, .slice am m.claims.length cm] 24
                refine hK _ _ (hSM _ z5) ?_
                try (rw [set_lit]; dsimp only [List.set])
                clear hK K
                clear hgr
                obtain ⟨q1, hq1⟩ : ∃ b, b = wa4.heap.size := ⟨_, rfl⟩
                rw [← hq1] at hE ⊢
                generalize wa4.alloc (.cells #[.int .i64 x.points, .int .i64 x.bend, .slice ax x.claims.length cx, .int .i64 m.points, .int .i64 m.bend, .slice am m.claims.length cm, .int .i64 m.points, .int .i64 m.bend, .slice am m.claims.length cm, .int .i64 m.points, .int .i64 m.bend, .slice am m.claims.length cm] 24) = wa5 at z5 hE hF hS ⊢
                clear hq1
                refine mix_pur2 rfl (fun K hK => ?_)
                go_simp
                first | refine ⟨_, fun _ => rfl, hK _ ?_⟩ | refine hK _ ?_
                clear hK K
                refine mix_pur2 rfl (fun K hK => ?_)
                go_simp
                first | refine ⟨_, fun _ => rfl, hK _ ?_⟩ | refine hK _ ?_
                clear hK K
                refine mix_done2 ?_
                go_wp2_with fail
                go_meet
                case rel => exact ⟨q1, q2, ag, cg, rfl, rfl, (hd9.call z5).lits2 hE hS, hF⟩
        · refine stz_lit 44 76 1 rfl rfl rfl rfl Try.underlying44 Try.info76 (by decide) (cells := #[.int .i64 more.point, .int .i64 more.year, .int .i64 more.off]) (fill_f1 _ _ _) (by kernel_rfl) ?_
          have z1 := bal2 (o := .cells #[.int .i64 more.point, .int .i64 more.year, .int .i64 more.off] 76) z0
          have hgr := (Below.refl wd.heap.size wd).alloc (Nat.le_refl _) (.cells #[.int .i64 more.point, .int .i64 more.year, .int .i64 more.off] 76)
          have hL := own_lit wd 76 3 #[.int .i64 more.point, .int .i64 more.year, .int .i64 more.off] 1 rfl (by omega)
          refine hK _ _ (hSM _ z1) ?_
          try (rw [set_lit]; dsimp only [List.set])
          clear hK K
          clear hgr
          obtain ⟨ql, hql⟩ : ∃ b, b = wd.heap.size := ⟨_, rfl⟩
          rw [← hql] at hL ⊢
          generalize wd.alloc (.cells #[.int .i64 more.point, .int .i64 more.year, .int .i64 more.off] 76) = wa1 at z1 hL ⊢
          clear hql
          refine mix_two3 rfl rfl false false rfl rfl (fun K hK => ?_) (fun K hK => ?_)
          · refine stz_lit 29 24 4 rfl rfl rfl rfl Try.underlying29 inf24 (by decide) (cells := #[.int .i64 x.points, .int .i64 x.bend, .slice ax x.claims.length cx, .int .i64 m.points, .int .i64 m.bend, .slice am m.claims.length cm, .int .i64 m.points, .int .i64 m.bend, .slice am m.claims.length cm, .int .i64 m.points, .int .i64 m.bend, .slice am m.claims.length cm]) (fill_e4 _ _ _ _ _ _ _ _ _ _ _ _ _ _ _ _ _ _ _ _) (by kernel_rfl) ?_
            have z2 := bal2 (o := .cells #[.int .i64 x.points, .int .i64 x.bend, .slice ax x.claims.length cx, .int .i64 m.points, .int .i64 m.bend, .slice am m.claims.length cm, .int .i64 m.points, .int .i64 m.bend, .slice am m.claims.length cm, .int .i64 m.points, .int .i64 m.bend, .slice am m.claims.length cm] 24) z1
            have hgr := (Below.refl wa1.heap.size wa1).alloc (Nat.le_refl _) (.cells #[.int .i64 x.points, .int .i64 x.bend, .slice ax x.claims.length cx, .int .i64 m.points, .int .i64 m.bend, .slice am m.claims.length cm, .int .i64 m.points, .int .i64 m.bend, .slice am m.claims.length cm, .int .i64 m.points, .int .i64 m.bend, .slice am m.claims.length cm] 24)
            have hL := Own.grow hL hgr
            have hE := Blk.new wa1 #[.int .i64 x.points, .int .i64 x.bend, .slice ax x.claims.length cx, .int .i64 m.points, .int .i64 m.bend, .slice am m.claims.length cm, .int .i64 m.points, .int .i64 m.bend, .slice am m.claims.length cm, .int .i64 m.points, .int .i64 m.bend, .slice am m.claims.length cm] 24
            refine hK _ _ (hSM _ z2) ?_
            try (rw [set_lit]; dsimp only [List.set])
            clear hK K
            clear hgr
            obtain ⟨q1, hq1⟩ : ∃ b, b = wa1.heap.size := ⟨_, rfl⟩
            rw [← hq1] at hE ⊢
            generalize wa1.alloc (.cells #[.int .i64 x.points, .int .i64 x.bend, .slice ax x.claims.length cx, .int .i64 m.points, .int .i64 m.bend, .slice am m.claims.length cm, .int .i64 m.points, .int .i64 m.bend, .slice am m.claims.length cm, .int .i64 m.points, .int .i64 m.bend, .slice am m.claims.length cm] 24) = wa2 at z2 hE hL ⊢
            clear hq1
            refine mix_eff3 rfl false rfl (fun K hK => ?_)
            refine stz_fn rfl rfl rfl ent37 rfl rfl (by kernel_rfl) (copyFurrows_c (hRF.call z2) (by omega)) ?_
            rintro e' wa3 ⟨vp, rfl, hP, hgr⟩
            refine ⟨_, rfl, ?_⟩
            have z3 := z2.trans (hgr.mono z2.size)
            have hE := hE.call hgr
            have hL := Own.grow hL hgr
            obtain ⟨B0, hB0⟩ : ∃ b, b = wa2.heap.size := ⟨_, rfl⟩
            have hPB : wd.heap.size ≤ B0 := by rw [hB0]; exact z2.size
            have hPS : B0 ≤ wa3.heap.size := by rw [hB0]; exact hgr.size
            rw [← hB0] at hP
            obtain ⟨aq, cq, rfl⟩ := own_slice hP
            refine hK _ _ (hSM _ z3) ?_
            try (rw [set_lit]; dsimp only [List.set])
            clear hK K
            clear hgr hB0
            refine mix_eff3 rfl false rfl (fun K hK => ?_)
            refine stz_app 44 rfl rfl rfl 76 _ 3 24 Try.underlying44 Try.info76 rfl (by decide) (by decide) hPS hP hL.arr rfl (fcells_one more) (by omega) (by kernel_rfl) (by kernel_rfl) ?_
            intro v' wa4 hown hT
            have z4 := hT.below2 hP z3 z3.size hPB
            have hE := hE.keep (hT.block _ hE.lt (fun e => own_ne_ty hP hE (by decide) e))
            obtain ⟨ag, cg, rfl⟩ := own_slice hown
            have hown : Own B0 wa4 76 3 (.slice ag (f.length + 1) cg) (f ++ [more]).length ((f ++ [more]).flatMap fcells) := by rw [List.flatMap_append, List.length_append]; exact hown
            have hF := (Own.fus hown).wide (A' := fun q => q ≠ hb) fun q hq _ => by have := hbw; omega
            refine hK _ _ (hSM _ z4) ?_
            try (rw [set_lit]; dsimp only [List.set])
            clear hK K
            clear hP hL hown hT hPB hPS
            refine mix_pur2 rfl (fun K hK => ?_)
            go_simp
            first | refine ⟨_, fun _ => rfl, hK _ ?_⟩ | refine hK _ ?_
            clear hK K
            refine mix_eff3 rfl false rfl (fun K hK => ?_)
            refine stz_lit 48 44 4 rfl rfl rfl rfl Try.underlying48 inf44 (by decide) (cells := #[.slice al l.length cl, .slice af f.length cf, .slice ag (f.length + 1) cg, .slice al l.length cl]) (fill_s4 _ _ _ _ _ _ _ _ _ _ _ _) (by kernel_rfl) ?_
            have z5 := bal2 (o := .cells #[.slice al l.length cl, .slice af f.length cf, .slice ag (f.length + 1) cg, .slice al l.length cl] 44) z4
            have hgr := (Below.refl wa4.heap.size wa4).alloc (Nat.le_refl _) (.cells #[.slice al l.length cl, .slice af f.length cf, .slice ag (f.length + 1) cg, .slice al l.length cl] 44)
            have hE := hE.call hgr
            have hF := hF.call hgr
            have hS := Blk.new wa4 #[.slice al l.length cl, .slice af f.length cf, .slice ag (f.length + 1) cg, .slice al l.length cl] 44
            refine hK _ _ (hSM _ z5) ?_
            try (rw [set_lit]; dsimp only [List.set])
            clear hK K
            clear hgr
            obtain ⟨q2, hq2⟩ : ∃ b, b = wa4.heap.size := ⟨_, rfl⟩
            rw [← hq2] at hS ⊢
            generalize wa4.alloc (.cells #[.slice al l.length cl, .slice af f.length cf, .slice ag (f.length + 1) cg, .slice al l.length cl] 44) = wa5 at z5 hS hE hF ⊢
            clear hq2
            refine mix_pur2 rfl (fun K hK => ?_)
            go_simp
            first | refine ⟨_, fun _ => rfl, hK _ ?_⟩ | refine hK _ ?_
            clear hK K
            refine mix_done2 ?_
            go_wp2_with fail
            go_meet
            case rel => exact ⟨q1, q2, ag, cg, rfl, rfl, (hd9.call z5).lits2 hE hS, hF⟩
          · refine stz_fn rfl rfl rfl ent37 rfl rfl (by kernel_rfl) (copyFurrows_c (hRF.call z1) (by omega)) ?_
            rintro e' wa2 ⟨vp, rfl, hP, hgr⟩
            refine ⟨_, rfl, ?_⟩
            have z2 := z1.trans (hgr.mono z1.size)
            have hL := Own.grow hL hgr
            obtain ⟨B0, hB0⟩ : ∃ b, b = wa1.heap.size := ⟨_, rfl⟩
            have hPB : wd.heap.size ≤ B0 := by rw [hB0]; exact z1.size
            have hPS : B0 ≤ wa2.heap.size := by rw [hB0]; exact hgr.size
            rw [← hB0] at hP
            obtain ⟨aq, cq, rfl⟩ := own_slice hP
            refine hK _ _ (hSM _ z2) ?_
            try (rw [set_lit]; dsimp only [List.set])
            clear hK K
            clear hgr hB0
            refine mix_two3 rfl rfl false false rfl rfl (fun K hK => ?_) (fun K hK => ?_)
            · refine stz_lit 29 24 4 rfl rfl rfl rfl Try.underlying29 inf24 (by decide) (cells := #[.int .i64 x.points, .int .i64 x.bend, .slice ax x.claims.length cx, .int .i64 m.points, .int .i64 m.bend, .slice am m.claims.length cm, .int .i64 m.points, .int .i64 m.bend, .slice am m.claims.length cm, .int .i64 m.points, .int .i64 m.bend, .slice am m.claims.length cm]) (fill_e4 _ _ _ _ _ _ _ _ _ _ _ _ _ _ _ _ _ _ _ _) (by kernel_rfl) ?_
              have z3 := bal2 (o := .cells #[.int .i64 x.points, .int .i64 x.bend, .slice ax x.claims.length cx, .int .i64 m.points, .int .i64 m.bend, .slice am m.claims.length cm, .int .i64 m.points, .int .i64 m.bend, .slice am m.claims.length cm, .int .i64 m.points, .int .i64 m.bend, .slice am m.claims.length cm] 24) z2
              have hgr := (Below.refl wa2.heap.size wa2).alloc (Nat.le_refl _) (.cells #[.int .i64 x.points, .int .i64 x.bend, .slice ax x.claims.length cx, .int .i64 m.points, .int .i64 m.bend, .slice am m.claims.length cm, .int .i64 m.points, .int .i64 m.bend, .slice am m.claims.length cm, .int .i64 m.points, .int .i64 m.bend, .slice am m.claims.length cm] 24)
              have hP := Own.grow hP hgr
              have hL := Own.grow hL hgr
              have hPS : B0 ≤ (wa2.alloc (.cells #[.int .i64 x.points, .int .i64 x.bend, .slice ax x.claims.length cx, .int .i64 m.points, .int .i64 m.bend, .slice am m.claims.length cm, .int .i64 m.points, .int .i64 m.bend, .slice am m.claims.length cm, .int .i64 m.points, .int .i64 m.bend, .slice am m.claims.length cm] 24)).heap.size := by have := hgr.size; omega
              have hE := Blk.new wa2 #[.int .i64 x.points, .int .i64 x.bend, .slice ax x.claims.length cx, .int .i64 m.points, .int .i64 m.bend, .slice am m.claims.length cm, .int .i64 m.points, .int .i64 m.bend, .slice am m.claims.length cm, .int .i64 m.points, .int .i64 m.bend, .slice am m.claims.length cm] 24
              refine hK _ _ (hSM _ z3) ?_
              try (rw [set_lit]; dsimp only [List.set])
              clear hK K
              clear hgr
              obtain ⟨q1, hq1⟩ : ∃ b, b = wa2.heap.size := ⟨_, rfl⟩
              rw [← hq1] at hE ⊢
              generalize wa2.alloc (.cells #[.int .i64 x.points, .int .i64 x.bend, .slice ax x.claims.length cx, .int .i64 m.points, .int .i64 m.bend, .slice am m.claims.length cm, .int .i64 m.points, .int .i64 m.bend, .slice am m.claims.length cm, .int .i64 m.points, .int .i64 m.bend, .slice am m.claims.length cm] 24) = wa3 at z3 hE hP hPS hL ⊢
              clear hq1
              refine mix_eff3 rfl false rfl (fun K hK => ?_)
              refine stz_app 44 rfl rfl rfl 76 _ 3 24 Try.underlying44 Try.info76 rfl (by decide) (by decide) hPS hP hL.arr rfl (fcells_one more) (by omega) (by kernel_rfl) (by kernel_rfl) ?_
              intro v' wa4 hown hT
              have z4 := hT.below2 hP z3 z3.size hPB
              have hE := hE.keep (hT.block _ hE.lt (fun e => own_ne_ty hP hE (by decide) e))
              obtain ⟨ag, cg, rfl⟩ := own_slice hown
              have hown : Own B0 wa4 76 3 (.slice ag (f.length + 1) cg) (f ++ [more]).length ((f ++ [more]).flatMap fcells) := by rw [List.flatMap_append, List.length_append]; exact hown
              have hF := (Own.fus hown).wide (A' := fun q => q ≠ hb) fun q hq _ => by have := hbw; omega
              refine hK _ _ (hSM _ z4) ?_
              try (rw [set_lit]; dsimp only [List.set])
              clear hK K
              clear hP hL hown hT hPB hPS
              refine mix_pur2 rfl (fun K hK => ?_)
              go_simp
              first | refine ⟨_, fun _ => rfl, hK _ ?_⟩ | refine hK _ ?_
              clear hK K
              refine mix_eff3 rfl false rfl (fun K hK => ?_)
              refine stz_lit 48 44 4 rfl rfl rfl rfl Try.underlying48 inf44 (by decide) (cells := #[.slice al l.length cl, .slice af f.length cf, .slice ag (f.length + 1) cg, .slice al l.length cl]) (fill_s4 _ _ _ _ _ _ _ _ _ _ _ _) (by kernel_rfl) ?_
              have z5 := bal2 (o := .cells #[.slice al l.length cl, .slice af f.length cf, .slice ag (f.length + 1) cg, .slice al l.length cl] 44) z4
              have hgr := (Below.refl wa4.heap.size wa4).alloc (Nat.le_refl _) (.cells #[.slice al l.length cl, .slice af f.length cf, .slice ag (f.length + 1) cg, .slice al l.length cl] 44)
              have hE := hE.call hgr
              have hF := hF.call hgr
              have hS := Blk.new wa4 #[.slice al l.length cl, .slice af f.length cf, .slice ag (f.length + 1) cg, .slice al l.length cl] 44
              refine hK _ _ (hSM _ z5) ?_
              try (rw [set_lit]; dsimp only [List.set])
              clear hK K
              clear hgr
              obtain ⟨q2, hq2⟩ : ∃ b, b = wa4.heap.size := ⟨_, rfl⟩
              rw [← hq2] at hS ⊢
              generalize wa4.alloc (.cells #[.slice al l.length cl, .slice af f.length cf, .slice ag (f.length + 1) cg, .slice al l.length cl] 44) = wa5 at z5 hS hE hF ⊢
              clear hq2
              refine mix_pur2 rfl (fun K hK => ?_)
              go_simp
              first | refine ⟨_, fun _ => rfl, hK _ ?_⟩ | refine hK _ ?_
              clear hK K
              refine mix_done2 ?_
              go_wp2_with fail
              go_meet
              case rel => exact ⟨q1, q2, ag, cg, rfl, rfl, (hd9.call z5).lits2 hE hS, hF⟩
            · refine stz_app 44 rfl rfl rfl 76 _ 3 24 Try.underlying44 Try.info76 rfl (by decide) (by decide) hPS hP hL.arr rfl (fcells_one more) (by omega) (by kernel_rfl) (by kernel_rfl) ?_
              intro v' wa3 hown hT
              have z3 := hT.below2 hP z2 z2.size hPB
              obtain ⟨ag, cg, rfl⟩ := own_slice hown
              have hown : Own B0 wa3 76 3 (.slice ag (f.length + 1) cg) (f ++ [more]).length ((f ++ [more]).flatMap fcells) := by rw [List.flatMap_append, List.length_append]; exact hown
              have hF := (Own.fus hown).wide (A' := fun q => q ≠ hb) fun q hq _ => by have := hbw; omega
              refine hK _ _ (hSM _ z3) ?_
              try (rw [set_lit]; dsimp only [List.set])
              clear hK K
              clear hP hL hown hT hPB hPS
              refine mix_two3 rfl rfl false false rfl rfl (fun K hK => ?_) (fun K hK => ?_)
              · refine stz_lit 29 24 4 rfl rfl rfl rfl Try.underlying29 inf24 (by decide) (cells := #[.int .i64 x.points, .int .i64 x.bend, .slice ax x.claims.length cx, .int .i64 m.points, .int .i64 m.bend, .slice am m.claims.length cm, .int .i64 m.points, .int .i64 m.bend, .slice am m.claims.length cm, .int .i64 m.points, .int .i64 m.bend, .slice am m.claims.length cm]) (fill_e4 _ _ _ _ _ _ _ _ _ _ _ _ _ _ _ _ _ _ _ _) (by kernel_rfl) ?_
                have z4 := bal2 (o := .cells #[.int .i64 x.points, .int .i64 x.bend, .slice ax x.claims.length cx, .int .i64 m.points, .int .i64 m.bend, .slice am m.claims.length cm, .int .i64 m.points, .int .i64 m.bend, .slice am m.claims.length cm, .int .i64 m.points, .int .i64 m.bend, .slice am m.claims.length cm] 24) z3
                have hgr := (Below.refl wa3.heap.size wa3).alloc (Nat.le_refl _) (.cells #[.int .i64 x.points, .int .i64 x.bend, .slice ax x.claims.length cx, .int .i64 m.points, .int .i64 m.bend, .slice am m.claims.length cm, .int .i64 m.points, .int .i64 m.bend, .slice am m.claims.length cm, .int .i64 m.points, .int .i64 m.bend, .slice am m.claims.length cm] 24)
                have hF := hF.call hgr
                have hE := Blk.new wa3 #[.int .i64 x.points, .int .i64 x.bend, .slice ax x.claims.length cx, .int .i64 m.points, .int .i64 m.bend, .slice am m.claims.length cm, .int .i64 m.points, .int .i64 m.bend, .slice am m.claims.length cm, .int .i64 m.points, .int .i64 m.bend, .slice am m.claims.length cm] 24
                refine hK _ _ (hSM _ z4) ?_
                try (rw [set_lit]; dsimp only [List.set])
                clear hK K
                clear hgr
                obtain ⟨q1, hq1⟩ : ∃ b, b = wa3.heap.size := ⟨_, rfl⟩
                rw [← hq1] at hE ⊢
                generalize wa3.alloc (.cells #[.int .i64 x.points, .int .i64 x.bend, .slice ax x.claims.length cx, .int .i64 m.points, .int .i64 m.bend, .slice am m.claims.length cm, .int .i64 m.points, .int .i64 m.bend, .slice am m.claims.length cm, .int .i64 m.points, .int .i64 m.bend, .slice am m.claims.length cm] 24) = wa4 at z4 hE hF ⊢
                clear hq1
                refine mix_pur2 rfl (fun K hK => ?_)
                go_simp
                first | refine ⟨_, fun _ => rfl, hK _ ?_⟩ | refine hK _ ?_
                clear hK K
                refine mix_eff3 rfl false rfl (fun K hK => ?_)
                refine stz_lit 48 44 4 rfl rfl rfl rfl Try.underlying48 inf44 (by decide) (cells := #[.slice al l.length cl, .slice af f.length cf, .slice ag (f.length + 1) cg, .slice al l.length cl]) (fill_s4 _ _ _ _ _ _ _ _ _ _ _ _) (by kernel_rfl) ?_
                have z5 := bal2 (o := .cells #[.slice al l.length cl, .slice af f.length cf, .slice ag (f.length + 1) cg, .slice al l.length cl] 44) z4
                have hgr := (Below.refl wa4.heap.size wa4).alloc (Nat.le_refl _) (.cells #[.slice al l.length cl, .slice af f.length cf, .slice ag (f.length + 1) cg, .slice al l.length cl] 44)
                have hE := hE.call hgr
                have hF := hF.call hgr
                have hS := Blk.new wa4 #[.slice al l.length cl, .slice af f.length cf, .slice ag (f.length + 1) cg, .slice al l.length cl] 44
                refine hK _ _ (hSM _ z5) ?_
                try (rw [set_lit]; dsimp only [List.set])
                clear hK K
                clear hgr
                obtain ⟨q2, hq2⟩ : ∃ b, b = wa4.heap.size := ⟨_, rfl⟩
                rw [← hq2] at hS ⊢
                generalize wa4.alloc (.cells #[.slice al l.length cl, .slice af f.length cf, .slice ag (f.length + 1) cg, .slice al l.length cl] 44) = wa5 at z5 hS hE hF ⊢
                clear hq2
                refine mix_pur2 rfl (fun K hK => ?_)
                go_simp
                first | refine ⟨_, fun _ => rfl, hK _ ?_⟩ | refine hK _ ?_
                clear hK K
                refine mix_done2 ?_
                go_wp2_with fail
                go_meet
                case rel => exact ⟨q1, q2, ag, cg, rfl, rfl, (hd9.call z5).lits2 hE hS, hF⟩
              · refine stz_lit 48 44 4 rfl rfl rfl rfl Try.underlying48 inf44 (by decide) (cells := #[.slice al l.length cl, .slice af f.length cf, .slice ag (f.length + 1) cg, .slice al l.length cl]) (fill_s4 _ _ _ _ _ _ _ _ _ _ _ _) (by kernel_rfl) ?_
                have z4 := bal2 (o := .cells #[.slice al l.length cl, .slice af f.length cf, .slice ag (f.length + 1) cg, .slice al l.length cl] 44) z3
                have hgr := (Below.refl wa3.heap.size wa3).alloc (Nat.le_refl _) (.cells #[.slice al l.length cl, .slice af f.length cf, .slice ag (f.length + 1) cg, .slice al l.length cl] 44)
                have hF := hF.call hgr
                have hS := Blk.new wa3 #[.slice al l.length cl, .slice af f.length cf, .slice ag (f.length + 1) cg, .slice al l.length cl] 44
                refine hK _ _ (hSM _ z4) ?_
                try (rw [set_lit]; dsimp only [List.set])
                clear hK K
                clear hgr
                obtain ⟨q2, hq2⟩ : ∃ b, b = wa3.heap.size := ⟨_, rfl⟩
                rw [← hq2] at hS ⊢
                generalize wa3.alloc (.cells #[.slice al l.length cl, .slice af f.length cf, .slice ag (f.length + 1) cg, .slice al l.length cl] 44) = wa4 at z4 hS hF ⊢
                clear hq2
                refine mix_eff3 rfl false rfl (fun K hK => ?_)
                refine stz_lit 29 24 4 rfl rfl rfl rfl Try.underlying29 inf24 (by decide) (cells := #[.int .i64 x.points, .int .i64 x.bend, .slice ax x.claims.length cx, .int .i64 m.points, .int .i64 m.bend, .slice am m.claims.length cm, .int .i64 m.points, .int .i64 m.bend, .slice am m.claims.length cm, .int .i64 m.points, .int .i64 m.bend, .slice am m.claims.length cm]) (fill_e4 _ _ _ _ _ _ _ _ _ _ _ _ _ _ _ _ _ _ _ _) (by kernel_rfl) ?_
                have z5 := bal2 (o := .cells #[.int .i64 x.points, .int .i64 x.bend, .slice ax x.claims.length cx, .int .i64 m.points, .int .i64 m.bend, .slice am m.claims.length cm, .int .i64 m.points, .int .i64 m.bend, .slice am m.claims.length cm, .int .i64 m.points, .int .i64 m.bend, .slice am m.claims.length cm] 24) z4
                have hgr := (Below.refl wa4.heap.size wa4).alloc (Nat.le_refl _) (.cells #[.int .i64 x.points, .int .i64 x.bend, .slice ax x.claims.length cx, .int .i64 m.points, .int .i64 m.bend, .slice am m.claims.length cm, .int .i64 m.points, .int .i64 m.bend, .slice am m.claims.length cm, .int .i64 m.points, .int .i64 m.bend, .slice am m.claims.length cm] 24)
                have hF := hF.call hgr
                have hS := hS.call hgr
                have hE := Blk.new wa4 #[.int .i64 x.points, .int .i64 x.bend, .slice ax x.claims.length cx, .int .i64 m.points, .int .i64 m.bend, .slice am m.claims.length cm, .int .i64 m.points, .int .i64 m.bend, .slice am m.claims.length cm, .int .i64 m.points, .int .i64 m.bend, .slice am m.claims.length cm] 24
                refine hK _ _ (hSM _ z5) ?_
                try (rw [set_lit]; dsimp only [List.set])
                clear hK K
                clear hgr
                obtain ⟨q1, hq1⟩ : ∃ b, b = wa4.heap.size := ⟨_, rfl⟩
                rw [← hq1] at hE ⊢
                generalize wa4.alloc (.cells #[.int .i64 x.points, .int .i64 x.bend, .slice ax x.claims.length cx, .int .i64 m.points, .int .i64 m.bend, .slice am m.claims.length cm, .int .i64 m.points, .int .i64 m.bend, .slice am m.claims.length cm, .int .i64 m.points, .int .i64 m.bend, .slice am m.claims.length cm] 24) = wa5 at z5 hE hF hS ⊢
                clear hq1
                refine mix_pur2 rfl (fun K hK => ?_)
                go_simp
                first | refine ⟨_, fun _ => rfl, hK _ ?_⟩ | refine hK _ ?_
                clear hK K
                refine mix_pur2 rfl (fun K hK => ?_)
                go_simp
                first | refine ⟨_, fun _ => rfl, hK _ ?_⟩ | refine hK _ ?_
                clear hK K
                refine mix_done2 ?_
                go_wp2_with fail
                go_meet
                case rel => exact ⟨q1, q2, ag, cg, rfl, rfl, (hd9.call z5).lits2 hE hS, hF⟩
      case rest =>
      obtain ⟨q1, q2, ag, cg, rfl, rfl, hsa, hFa⟩ := hcut
      rename World => wa
      clear hs9 hg9 HYG
      have bm1 : IntKind.i64.wrap (m.points - 1) = m.points - 1 := IntWalk.i64_in _ (by omega)
      have hY : ∀ e s i K u, FuC w hb b1 x (.slice ax x.claims.length cx) bm m (.slice am m.claims.length cm) (.slice al l.length cl) l (.slice af f.length cf) f e s i K u → MdS b1 x (.slice ax x.claims.length cx) bm m (.slice am m.claims.length cm) u := fun e s i K u h => ⟨h.hX, h.hM⟩
      have HY := Lib.hid hY
      clear hY
      go_upto_region 10 with fail
      go_cut [19, 20] from 87 to 104 (fun s19 s20 wx => ∃ (q3 q4 : Nat) (p1 p2 : Int), s19 = .slice (some ⟨q3, 0, none⟩) 4 4 ∧ s20 = .slice (some ⟨q4, 0, none⟩) 4 4 ∧ FuC w hb b1 x (.slice ax x.claims.length cx) bm m (.slice am m.claims.length cm) (.slice al l.length cl) l (.slice af f.length cf) f (some (q1, #[.int .i64 x.points, .int .i64 x.bend, .slice ax x.claims.length cx, .int .i64 m.points, .int .i64 m.bend, .slice am m.claims.length cm, .int .i64 m.points, .int .i64 m.bend, .slice am m.claims.length cm, .int .i64 m.points, .int .i64 m.bend, .slice am m.claims.length cm])) (some (q2, #[.slice al l.length cl, .slice af f.length cf, .slice ag (f.length + 1) cg, .slice al l.length cl])) (some (q3, #[.int .i64 year, .int .i64 u1, .int .i64 u1, .int .i64 year])) 700 wx ∧ FusM (fun q => q ≠ hb) wx (.slice ag (f.length + 1) cg) (f ++ [more]) ∧ Blk q4 #[.int .i64 point, .int .i64 p1, .int .i64 p2, .int .i64 point] 3 wx)
      case first => as_aux_lemma =>
        refine wp_region_mix2 (.pur 0 (.pur 1 (.pur 2 (.pur 3 (.pur 5 (.pur 6 (.pur 7 (.one 8 (.pur 9 (.pur 11 (.pur 12 (.one 13 (.pur 14 (.pur 16 (.two 4 (.act 10 (.act 15 (.pur 18 (.act 17 (.pur 19 .fin))))) 10 (.two 4 (.act 15 (.pur 18 (.act 17 (.pur 19 .fin)))) 15 (.two 4 (.pur 18 (.act 17 (.pur 19 .fin))) 17 (.act 4 (.pur 18 (.pur 19 .fin)))))))))))))))))))) 99 (MdS b1 x (.slice ax x.claims.length cx) bm m (.slice am m.claims.length cm)) (fun _ => True) (by kernel_rfl) (by kernel_rfl) rfl (by kernel_rfl) (HY.out _ _ _ _ _ (hsa.qt ((Qt.refl _).drewN 1))) (fun wd hqd _ => ?_)
        have hs := hsa.qt hqd
        have hF := hFa.call (hqd.below _)
        refine mix_pur2 rfl (fun K hK => ?_)
        go_simp
        first | refine ⟨_, fun _ => rfl, hK _ ?_⟩ | refine hK _ ?_
        clear hK K
        refine mix_pur2 rfl (fun K hK => ?_)
        go_simp
        first | refine ⟨_, fun _ => rfl, hK _ ?_⟩ | refine hK _ ?_
        clear hK K
        refine mix_pur2 rfl (fun K hK => ?_)
        go_simp
        first | refine ⟨_, fun _ => rfl, hK _ ?_⟩ | refine hK _ ?_
        clear hK K
        refine mix_pur2 rfl (fun K hK => ?_)
        go_simp
        first | refine ⟨_, fun _ => rfl, hK _ ?_⟩ | refine hK _ ?_
        clear hK K
        refine mix_pur2 rfl (fun K hK => ?_)
        go_simp
        first | refine ⟨_, fun _ => rfl, hK _ ?_⟩ | refine hK _ ?_
        clear hK K
        refine mix_pur2 rfl (fun K hK => ?_)
        go_simp
        first | refine ⟨_, fun _ => rfl, hK _ ?_⟩ | refine hK _ ?_
        clear hK K
        refine mix_pur2 rfl (fun K hK => ?_)
        go_simp
        first | refine ⟨_, fun _ => rfl, hK _ ?_⟩ | refine hK _ ?_
        clear hK K
        refine mix_load2 rfl rfl rfl (.int .i64 m.points) (fun w' h => by have h : (MdS b1 x (.slice ax x.claims.length cx) bm m (.slice am m.claims.length cm)) w' := h; have e0 := h.2.cell 0; go_simp) rfl ?_
        refine mix_pur2 rfl (fun K hK => ?_)
        go_simp
        first | refine ⟨_, fun _ => rfl, hK _ ?_⟩ | refine hK _ ?_
        clear hK K
        refine mix_pur2 rfl (fun K hK => ?_)
        go_simp
        first | refine ⟨_, fun _ => rfl, hK _ ?_⟩ | refine hK _ ?_
        clear hK K
        refine mix_pur2 rfl (fun K hK => ?_)
        go_simp
        first | refine ⟨_, fun _ => rfl, hK _ ?_⟩ | refine hK _ ?_
        clear hK K
        refine mix_load2 rfl rfl rfl (.int .i64 m.points) (fun w' h => by have h : (MdS b1 x (.slice ax x.claims.length cx) bm m (.slice am m.claims.length cm)) w' := h; have e0 := h.2.cell 0; go_simp) rfl ?_
        refine mix_pur2 rfl (fun K hK => ?_)
        go_simp
        first | refine ⟨_, fun _ => rfl, hK _ ?_⟩ | refine hK _ ?_
        clear hK K
        refine mix_pur2 rfl (fun K hK => ?_)
        go_simp
        first | refine ⟨_, fun _ => rfl, hK _ ?_⟩ | refine hK _ ?_
        clear hK K
        refine mix_two3 rfl rfl false false rfl rfl (fun K hK => ?_) (fun K hK => ?_)
        · refine stz_lit 27 3 4 rfl rfl rfl rfl Try.underlying27 Try.info3 (by decide) (cells := #[.int .i64 year, .int .i64 u1, .int .i64 u1, .int .i64 year]) (fill_i4 _ _ _ _) (by kernel_rfl) ?_
          have hgr := (Below.refl wd.heap.size wd).alloc (Nat.le_refl _) (.cells #[.int .i64 year, .int .i64 u1, .int .i64 u1, .int .i64 year] 3)
          have hs := hs.liti #[.int .i64 year, .int .i64 u1, .int .i64 u1, .int .i64 year]
          have hF := hF.call hgr
          refine hK _ _ (HY.out _ _ _ _ _ hs) ?_
          try (rw [set_lit]; dsimp only [List.set])
          clear hK K hgr
          obtain ⟨q3, hq3⟩ : ∃ b, b = wd.heap.size := ⟨_, rfl⟩
          rw [← hq3] at hs ⊢
          generalize wd.alloc (.cells #[.int .i64 year, .int .i64 u1, .int .i64 u1, .int .i64 year] 3) = wa1 at hs hF ⊢
          clear hq3
          refine mix_eff3 rfl false rfl (fun K hK => ?_)
          obtain ⟨kk, hkk, hHH⟩ := hs.hnd
          refine stz_fn rfl rfl rfl ent35 rfl rfl (by kernel_rfl) (upto_c hHH (by omega) (m.points - 1) (by omega) (by omega)) ?_
          rintro e wa2 ⟨⟨p1, rfl, hu1, hu1b⟩, ⟨k9, hk9, hH9⟩, hG9⟩
          refine ⟨_, rfl, ?_⟩
          have hs := hs.hand (K' := 601) ⟨k9, by omega, hH9⟩ hG9
          have hF := hF.only hG9 (fun e => e rfl)
          refine hK _ _ (HY.out _ _ _ _ _ hs) ?_
          try (rw [set_lit]; dsimp only [List.set])
          clear hK K hHH hH9 hG9 hkk hk9 kk k9 hu1 hu1b
          refine mix_eff3 rfl false rfl (fun K hK => ?_)
          obtain ⟨kk, hkk, hHH⟩ := hs.hnd
          refine stz_fn rfl rfl rfl ent35 rfl rfl (by kernel_rfl) (upto_c hHH (by omega) (m.points - 1) (by omega) (by omega)) ?_
          rintro e wa3 ⟨⟨p2, rfl, hu1, hu1b⟩, ⟨k9, hk9, hH9⟩, hG9⟩
          refine ⟨_, rfl, ?_⟩
          have hs := hs.hand (K' := 602) ⟨k9, by omega, hH9⟩ hG9
          have hF := hF.only hG9 (fun e => e rfl)
          refine hK _ _ (HY.out _ _ _ _ _ hs) ?_
          try (rw [set_lit]; dsimp only [List.set])
          clear hK K hHH hH9 hG9 hkk hk9 kk k9 hu1 hu1b
          refine mix_pur2 rfl (fun K hK => ?_)
          go_simp
          first | refine ⟨_, fun _ => rfl, hK _ ?_⟩ | refine hK _ ?_
          clear hK K
          refine mix_eff3 rfl false rfl (fun K hK => ?_)
          refine stz_lit 27 3 4 rfl rfl rfl rfl Try.underlying27 Try.info3 (by decide) (cells := #[.int .i64 point, .int .i64 p1, .int .i64 p2, .int .i64 point]) (fill_i4 _ _ _ _) (by kernel_rfl) ?_
          have hgr := (Below.refl wa3.heap.size wa3).alloc (Nat.le_refl _) (.cells #[.int .i64 point, .int .i64 p1, .int .i64 p2, .int .i64 point] 3)
          have hs := hs.call hgr
          have hF := hF.call hgr
          have hA := Blk.new wa3 #[.int .i64 point, .int .i64 p1, .int .i64 p2, .int .i64 point] 3
          refine hK _ _ (HY.out _ _ _ _ _ hs) ?_
          try (rw [set_lit]; dsimp only [List.set])
          clear hK K hgr
          obtain ⟨q4, hq4⟩ : ∃ b, b = wa3.heap.size := ⟨_, rfl⟩
          rw [← hq4] at hA ⊢
          generalize wa3.alloc (.cells #[.int .i64 point, .int .i64 p1, .int .i64 p2, .int .i64 point] 3) = wa4 at hs hF hA ⊢
          clear hq4
          refine mix_pur2 rfl (fun K hK => ?_)
          go_simp
          first | refine ⟨_, fun _ => rfl, hK _ ?_⟩ | refine hK _ ?_
          clear hK K
          refine mix_done2 ?_
          go_wp2_with fail
          go_meet
          case rel => exact ⟨q3, q4, p1, p2, rfl, rfl, hs.mono (by omega), hF, hA⟩
        · obtain ⟨kk, hkk, hHH⟩ := hs.hnd
          refine stz_fn rfl rfl rfl ent35 rfl rfl (by kernel_rfl) (upto_c hHH (by omega) (m.points - 1) (by omega) (by omega)) ?_
          rintro e wa1 ⟨⟨p1, rfl, hu1, hu1b⟩, ⟨k9, hk9, hH9⟩, hG9⟩
          refine ⟨_, rfl, ?_⟩
          have hs := hs.hand (K' := 601) ⟨k9, by omega, hH9⟩ hG9
          have hF := hF.only hG9 (fun e => e rfl)
          refine hK _ _ (HY.out _ _ _ _ _ hs) ?_
          try (rw [set_lit]; dsimp only [List.set])
          clear hK K hHH hH9 hG9 hkk hk9 kk k9 hu1 hu1b
          refine mix_two3 rfl rfl false false rfl rfl (fun K hK => ?_) (fun K hK => ?_)
          · refine stz_lit 27 3 4 rfl rfl rfl rfl Try.underlying27 Try.info3 (by decide) (cells := #[.int .i64 year, .int .i64 u1, .int .i64 u1, .int .i64 year]) (fill_i4 _ _ _ _) (by kernel_rfl) ?_
            have hgr := (Below.refl wa1.heap.size wa1).alloc (Nat.le_refl _) (.cells #[.int .i64 year, .int .i64 u1, .int .i64 u1, .int .i64 year] 3)
            have hs := hs.liti #[.int .i64 year, .int .i64 u1, .int .i64 u1, .int .i64 year]
            have hF := hF.call hgr
            refine hK _ _ (HY.out _ _ _ _ _ hs) ?_
            try (rw [set_lit]; dsimp only [List.set])
            clear hK K hgr
            obtain ⟨q3, hq3⟩ : ∃ b, b = wa1.heap.size := ⟨_, rfl⟩
            rw [← hq3] at hs ⊢
            generalize wa1.alloc (.cells #[.int .i64 year, .int .i64 u1, .int .i64 u1, .int .i64 year] 3) = wa2 at hs hF ⊢
            clear hq3
            refine mix_eff3 rfl false rfl (fun K hK => ?_)
            obtain ⟨kk, hkk, hHH⟩ := hs.hnd
            refine stz_fn rfl rfl rfl ent35 rfl rfl (by kernel_rfl) (upto_c hHH (by omega) (m.points - 1) (by omega) (by omega)) ?_
            rintro e wa3 ⟨⟨p2, rfl, hu1, hu1b⟩, ⟨k9, hk9, hH9⟩, hG9⟩
            refine ⟨_, rfl, ?_⟩
            have hs := hs.hand (K' := 602) ⟨k9, by omega, hH9⟩ hG9
            have hF := hF.only hG9 (fun e => e rfl)
            refine hK _ _ (HY.out _ _ _ _ _ hs) ?_
            try (rw [set_lit]; dsimp only [List.set])
            clear hK K hHH hH9 hG9 hkk hk9 kk k9 hu1 hu1b
            refine mix_pur2 rfl (fun K hK => ?_)
            go_simp
            first | refine ⟨_, fun _ => rfl, hK _ ?_⟩ | refine hK _ ?_
            clear hK K
            refine mix_eff3 rfl false rfl (fun K hK => ?_)
            refine stz_lit 27 3 4 rfl rfl rfl rfl Try.underlying27 Try.info3 (by decide) (cells := #[.int .i64 point, .int .i64 p1, .int .i64 p2, .int .i64 point]) (fill_i4 _ _ _ _) (by kernel_rfl) ?_
            have hgr := (Below.refl wa3.heap.size wa3).alloc (Nat.le_refl _) (.cells #[.int .i64 point, .int .i64 p1, .int .i64 p2, .int .i64 point] 3)
            have hs := hs.call hgr
            have hF := hF.call hgr
            have hA := Blk.new wa3 #[.int .i64 point, .int .i64 p1, .int .i64 p2, .int .i64 point] 3
            refine hK _ _ (HY.out _ _ _ _ _ hs) ?_
            try (rw [set_lit]; dsimp only [List.set])
            clear hK K hgr
            obtain ⟨q4, hq4⟩ : ∃ b, b = wa3.heap.size := ⟨_, rfl⟩
            rw [← hq4] at hA ⊢
            generalize wa3.alloc (.cells #[.int .i64 point, .int .i64 p1, .int .i64 p2, .int .i64 point] 3) = wa4 at hs hF hA ⊢
            clear hq4
            refine mix_pur2 rfl (fun K hK => ?_)
            go_simp
            first | refine ⟨_, fun _ => rfl, hK _ ?_⟩ | refine hK _ ?_
            clear hK K
            refine mix_done2 ?_
            go_wp2_with fail
            go_meet
            case rel => exact ⟨q3, q4, p1, p2, rfl, rfl, hs.mono (by omega), hF, hA⟩
          · obtain ⟨kk, hkk, hHH⟩ := hs.hnd
            refine stz_fn rfl rfl rfl ent35 rfl rfl (by kernel_rfl) (upto_c hHH (by omega) (m.points - 1) (by omega) (by omega)) ?_
            rintro e wa2 ⟨⟨p2, rfl, hu1, hu1b⟩, ⟨k9, hk9, hH9⟩, hG9⟩
            refine ⟨_, rfl, ?_⟩
            have hs := hs.hand (K' := 602) ⟨k9, by omega, hH9⟩ hG9
            have hF := hF.only hG9 (fun e => e rfl)
            refine hK _ _ (HY.out _ _ _ _ _ hs) ?_
            try (rw [set_lit]; dsimp only [List.set])
            clear hK K hHH hH9 hG9 hkk hk9 kk k9 hu1 hu1b
            refine mix_two3 rfl rfl false false rfl rfl (fun K hK => ?_) (fun K hK => ?_)
            · refine stz_lit 27 3 4 rfl rfl rfl rfl Try.underlying27 Try.info3 (by decide) (cells := #[.int .i64 year, .int .i64 u1, .int .i64 u1, .int .i64 year]) (fill_i4 _ _ _ _) (by kernel_rfl) ?_
              have hgr := (Below.refl wa2.heap.size wa2).alloc (Nat.le_refl _) (.cells #[.int .i64 year, .int .i64 u1, .int .i64 u1, .int .i64 year] 3)
              have hs := hs.liti #[.int .i64 year, .int .i64 u1, .int .i64 u1, .int .i64 year]
              have hF := hF.call hgr
              refine hK _ _ (HY.out _ _ _ _ _ hs) ?_
              try (rw [set_lit]; dsimp only [List.set])
              clear hK K hgr
              obtain ⟨q3, hq3⟩ : ∃ b, b = wa2.heap.size := ⟨_, rfl⟩
              rw [← hq3] at hs ⊢
              generalize wa2.alloc (.cells #[.int .i64 year, .int .i64 u1, .int .i64 u1, .int .i64 year] 3) = wa3 at hs hF ⊢
              clear hq3
              refine mix_pur2 rfl (fun K hK => ?_)
              go_simp
              first | refine ⟨_, fun _ => rfl, hK _ ?_⟩ | refine hK _ ?_
              clear hK K
              refine mix_eff3 rfl false rfl (fun K hK => ?_)
              refine stz_lit 27 3 4 rfl rfl rfl rfl Try.underlying27 Try.info3 (by decide) (cells := #[.int .i64 point, .int .i64 p1, .int .i64 p2, .int .i64 point]) (fill_i4 _ _ _ _) (by kernel_rfl) ?_
              have hgr := (Below.refl wa3.heap.size wa3).alloc (Nat.le_refl _) (.cells #[.int .i64 point, .int .i64 p1, .int .i64 p2, .int .i64 point] 3)
              have hs := hs.call hgr
              have hF := hF.call hgr
              have hA := Blk.new wa3 #[.int .i64 point, .int .i64 p1, .int .i64 p2, .int .i64 point] 3
              refine hK _ _ (HY.out _ _ _ _ _ hs) ?_
              try (rw [set_lit]; dsimp only [List.set])
              clear hK K hgr
              obtain ⟨q4, hq4⟩ : ∃ b, b = wa3.heap.size := ⟨_, rfl⟩
              rw [← hq4] at hA ⊢
              generalize wa3.alloc (.cells #[.int .i64 point, .int .i64 p1, .int .i64 p2, .int .i64 point] 3) = wa4 at hs hF hA ⊢
              clear hq4
              refine mix_pur2 rfl (fun K hK => ?_)
              go_simp
              first | refine ⟨_, fun _ => rfl, hK _ ?_⟩ | refine hK _ ?_
              clear hK K
              refine mix_done2 ?_
              go_wp2_with fail
              go_meet
              case rel => exact ⟨q3, q4, p1, p2, rfl, rfl, hs.mono (by omega), hF, hA⟩
            · refine stz_lit 27 3 4 rfl rfl rfl rfl Try.underlying27 Try.info3 (by decide) (cells := #[.int .i64 point, .int .i64 p1, .int .i64 p2, .int .i64 point]) (fill_i4 _ _ _ _) (by kernel_rfl) ?_
              have hgr := (Below.refl wa2.heap.size wa2).alloc (Nat.le_refl _) (.cells #[.int .i64 point, .int .i64 p1, .int .i64 p2, .int .i64 point] 3)
              have hs := hs.call hgr
              have hF := hF.call hgr
              have hA := Blk.new wa2 #[.int .i64 point, .int .i64 p1, .int .i64 p2, .int .i64 point] 3
              refine hK _ _ (HY.out _ _ _ _ _ hs) ?_
              try (rw [set_lit]; dsimp only [List.set])
              clear hK K hgr
              obtain ⟨q4, hq4⟩ : ∃ b, b = wa2.heap.size := ⟨_, rfl⟩
              rw [← hq4] at hA ⊢
              generalize wa2.alloc (.cells #[.int .i64 point, .int .i64 p1, .int .i64 p2, .int .i64 point] 3) = wa3 at hs hF hA ⊢
              clear hq4
              refine mix_eff3 rfl false rfl (fun K hK => ?_)
              refine stz_lit 27 3 4 rfl rfl rfl rfl Try.underlying27 Try.info3 (by decide) (cells := #[.int .i64 year, .int .i64 u1, .int .i64 u1, .int .i64 year]) (fill_i4 _ _ _ _) (by kernel_rfl) ?_
              have hgr := (Below.refl wa3.heap.size wa3).alloc (Nat.le_refl _) (.cells #[.int .i64 year, .int .i64 u1, .int .i64 u1, .int .i64 year] 3)
              have hs := hs.liti #[.int .i64 year, .int .i64 u1, .int .i64 u1, .int .i64 year]
              have hF := hF.call hgr
              have hA := hA.call hgr
              refine hK _ _ (HY.out _ _ _ _ _ hs) ?_
              try (rw [set_lit]; dsimp only [List.set])
              clear hK K hgr
              obtain ⟨q3, hq3⟩ : ∃ b, b = wa3.heap.size := ⟨_, rfl⟩
              rw [← hq3] at hs ⊢
              generalize wa3.alloc (.cells #[.int .i64 year, .int .i64 u1, .int .i64 u1, .int .i64 year] 3) = wa4 at hs hF hA ⊢
              clear hq3
              refine mix_pur2 rfl (fun K hK => ?_)
              go_simp
              first | refine ⟨_, fun _ => rfl, hK _ ?_⟩ | refine hK _ ?_
              clear hK K
              refine mix_pur2 rfl (fun K hK => ?_)
              go_simp
              first | refine ⟨_, fun _ => rfl, hK _ ?_⟩ | refine hK _ ?_
              clear hK K
              refine mix_done2 ?_
              go_wp2_with fail
              go_meet
              case rel => exact ⟨q3, q4, p1, p2, rfl, rfl, hs.mono (by omega), hF, hA⟩
      case rest =>
      obtain ⟨q3, q4, p1, p2, rfl, rfl, hsz, hFz, hAz⟩ := hcut
      rename World => wz
      rw [show f.length + 1 = (f ++ [more]).length by simp] at hsz hFz
      clear hsa hFa HY bm1
      have hEz := hsz.he _ _ rfl
      have hSz := hsz.hs _ _ rfl
      have hIz := hsz.hi _ _ rfl
      have hBz := hsz.below
      have l1 := hEz.lt
      have l2 := hSz.lt
      have l3 := hIz.lt
      have l4 := hAz.lt
      have hfl : (f ++ [more]).length ≤ 20 := by simp; omega
      have hrow : ∀ i, i < 4 → ∃ (y : Edg) (ay : Option Addr) (cy : Nat) (g : List Fu) (av : Option Addr) (cv : Nat) (ir ia : Int), RowT q1 i y (.slice ay y.claims.length cy) q2 (.slice av g.length cv) q3 ir q4 ia wz ∧ ClsM (fun _ => True) wz (.slice ay y.claims.length cy) y.claims ∧ FusM (fun _ => True) wz (.slice av g.length cv) g ∧ y.claims.length ≤ 20 ∧ g.length ≤ 20 := by
        intro i hi
        have hi3 : i = 0 ∨ i = 1 ∨ i = 2 ∨ i = 3 := by omega
        rcases hi3 with rfl | rfl | rfl | rfl
        · exact ⟨x, ax, cx, l, al, cl, year, point, ⟨⟨hEz.cell 0, hEz.cell 1, hEz.cell 2⟩, hSz.cell 0, hIz.cell 0, hAz.cell 0⟩, hsz.rx.wide fun _ _ _ => trivial, hsz.rl.wide fun _ _ _ => trivial, by omega, by omega⟩
        · exact ⟨m, am, cm, f, af, cf, u1, p1, ⟨⟨hEz.cell 3, hEz.cell 4, hEz.cell 5⟩, hSz.cell 1, hIz.cell 1, hAz.cell 1⟩, hsz.rm.wide fun _ _ _ => trivial, hsz.rf.wide fun _ _ _ => trivial, by omega, by omega⟩
        · exact ⟨m, am, cm, f ++ [more], ag, cg, u1, p2, ⟨⟨hEz.cell 6, hEz.cell 7, hEz.cell 8⟩, hSz.cell 2, hIz.cell 2, hAz.cell 2⟩, hsz.rm.wide fun _ _ _ => trivial, hFz.wide fun _ _ _ => trivial, by omega, hfl⟩
        · exact ⟨m, am, cm, l, al, cl, year, point, ⟨⟨hEz.cell 9, hEz.cell 10, hEz.cell 11⟩, hSz.cell 3, hIz.cell 3, hAz.cell 3⟩, hsz.rm.wide fun _ _ _ => trivial, hsz.rl.wide fun _ _ _ => trivial, by omega, by omega⟩
      have HROW := Lib.hid hrow
      clear hrow hEz hSz hIz hAz hsz hFz hm hmp2
      go_wp2_with fail
      go_loopw [21] (fun vi wr => ∃ i : Nat, i ≤ 4 ∧ vi = .int .i64 i ∧ Below wz.heap.size wz wr) (fun vi _ => 4 - (intOf vi).toNat)
      case atStart => exact ⟨0, by omega, rfl, Below.refl _ _⟩
      case round =>
        obtain ⟨i, hi', rfl, hBr⟩ := hrel
        by_cases hlt : i < 4
        · obtain ⟨y, ay, cy, g, av, cv, ir, ia, hS4, hC4, hG4, hy20, hg20⟩ := HROW.out i hlt
          have hEq : ∀ w', Below wz.heap.size wz w' → (RowT q1 i y (.slice ay y.claims.length cy) q2 (.slice av g.length cv) q3 ir q4 ia) w' := fun w' hb => hS4.below hb l1 l2 l3 l4
          have HEQ := Lib.hid hEq
          have hCr := hC4.call hBr
          have hFr := hG4.call hBr
          have hF : ∀ w', Below wr.heap.size wr w' → (RowT q1 i y (.slice ay y.claims.length cy) q2 (.slice av g.length cv) q3 ir q4 ia) w' := fun w' hb => HEQ.out w' (bnx hBr hb)
          clear hS4 hEq
          go_upto_region 14 with fail
          go_cut [22, 23] from 105 to 253 (fun s22 s23 wx => ∃ (b9 : Nat) (ao : Option Addr) (co : Nat) (ap : Option Addr) (cp : Nat), s22 = .pointer (some ⟨b9, 0, none⟩) ∧ s23 = .slice ap g.length cp ∧ Blk b9 #[.int .i64 y.points, .int .i64 y.bend, .slice ao y.claims.length co] 24 wx ∧ ClsM (fun _ => True) wx (.slice ao y.claims.length co) y.claims ∧ FusM (fun _ => True) wx (.slice ap g.length cp) g ∧ Below wr.heap.size wr wx)
          case first => as_aux_lemma =>
            refine wp_region_mix2 (.pur 0 (.pur 1 (.pur 2 (.one 3 (.pur 5 (.pur 6 (.pur 7 (.one 8 (.two 4 (.two 9 (.act 10 (.act 11 (.pur 12 .fin))) 10 (.act 9 (.act 11 (.pur 12 .fin)))) 10 (.act 4 (.act 9 (.act 11 (.pur 12 .fin))))))))))))) 11 (RowT q1 i y (.slice ay y.claims.length cy) q2 (.slice av g.length cv) q3 ir q4 ia) (fun _ => True) (by kernel_rfl) (by kernel_rfl) rfl (by kernel_rfl) (hF _ (((Qt.refl _).drewN 1).below _)) (fun wd hqd _ => ?_)
            have z0 : Below wr.heap.size wr wd := hqd.below _
            refine mix_pur2 rfl (fun K hK => ?_)
            go_simp
            first | refine ⟨_, fun _ => rfl, hK _ ?_⟩ | refine hK _ ?_
            clear hK K
            refine mix_pur2 rfl (fun K hK => ?_)
            go_simp
            first | refine ⟨_, fun _ => rfl, hK _ ?_⟩ | refine hK _ ?_
            clear hK K
            refine mix_pur2 rfl (fun K hK => ?_)
            go_simp
            first | refine ⟨_, fun _ => rfl, hK _ ?_⟩ | refine hK _ ?_
            clear hK K
            refine mix_load2 rfl rfl rfl (.agg #[.int .i64 y.points, .int .i64 y.bend, .slice ay y.claims.length cy]) (fun w' h => by have h : (RowT q1 i y (.slice ay y.claims.length cy) q2 (.slice av g.length cv) q3 ir q4 ia) w' := h; have e0 := h.1.1; have e1 := h.1.2.1; have e2 := h.1.2.2; go_simp) rfl ?_
            refine mix_pur2 rfl (fun K hK => ?_)
            go_simp
            first | refine ⟨_, fun _ => rfl, hK _ ?_⟩ | refine hK _ ?_
            clear hK K
            refine mix_pur2 rfl (fun K hK => ?_)
            go_simp
            first | refine ⟨_, fun _ => rfl, hK _ ?_⟩ | refine hK _ ?_
            clear hK K
            refine mix_pur2 rfl (fun K hK => ?_)
            go_simp
            first | refine ⟨_, fun _ => rfl, hK _ ?_⟩ | refine hK _ ?_
            clear hK K
            refine mix_load2 rfl rfl rfl (.slice av g.length cv) (fun w' h => by have h : (RowT q1 i y (.slice ay y.claims.length cy) q2 (.slice av g.length cv) q3 ir q4 ia) w' := h; have e0 := h.2.1; go_simp) rfl ?_
            refine mix_two3 rfl rfl false false rfl rfl (fun K hK => ?_) (fun K hK => ?_)
            · refine stz_fn rfl rfl rfl ent24 rfl rfl (by kernel_rfl) (copyEdge_c (hCr.call z0) (by omega)) ?_
              rintro e' wa1 ⟨vo, rfl, hOo, hB9⟩
              refine ⟨_, rfl, ?_⟩
              obtain ⟨ao, co, rfl⟩ := own_slice hOo
              have hO := Own.cls hOo
              have z1 := z0.trans (hB9.mono z0.size)
              refine hK _ _ (hF _ z1) ?_
              try (rw [set_lit]; dsimp only [List.set])
              clear hK K hB9 hOo
              refine mix_two3 rfl rfl false false rfl rfl (fun K hK => ?_) (fun K hK => ?_)
              · refine stz_fn rfl rfl rfl ent37 rfl rfl (by kernel_rfl) (copyFurrows_c (hFr.call z1) (by omega)) ?_
                rintro e' wa2 ⟨vp, rfl, hPo, hB9⟩
                refine ⟨_, rfl, ?_⟩
                obtain ⟨ap, cp, rfl⟩ := own_slice hPo
                have hP := Own.fus hPo
                have hO := hO.call hB9
                have z2 := z1.trans (hB9.mono z1.size)
                refine hK _ _ (hF _ z2) ?_
                try (rw [set_lit]; dsimp only [List.set])
                clear hK K hB9 hPo
                refine mix_eff3 rfl false rfl (fun K hK => ?_)
                refine stg_open ?_
                go_simp
                have hO := hO.wide (A' := fun q => q ≠ wa2.heap.size) fun q _ hl => by omega
                have hO := hO.call ((Below.refl wa2.heap.size wa2).alloc (Nat.le_refl _) (.cells #[.int .i64 0, .int .i64 0, .slice none 0 0] 24))
                have hP := hP.wide (A' := fun q => q ≠ wa2.heap.size) fun q _ hl => by omega
                have hP := hP.call ((Below.refl wa2.heap.size wa2).alloc (Nat.le_refl _) (.cells #[.int .i64 0, .int .i64 0, .slice none 0 0] 24))
                have z3 := bal2 (o := .cells #[.int .i64 0, .int .i64 0, .slice none 0 0] 24) z2
                have hA := Blk.new wa2 #[.int .i64 0, .int .i64 0, .slice none 0 0] 24
                have hAn : wr.heap.size ≤ wa2.heap.size := z2.size
                refine hK _ _ (hF _ z3) ?_
                try (rw [set_lit]; dsimp only [List.set])
                clear hK K
                obtain ⟨ba, hba⟩ : ∃ b, b = wa2.heap.size := ⟨_, rfl⟩
                rw [← hba] at hA hAn hO hP ⊢
                generalize wa2.alloc (.cells #[.int .i64 0, .int .i64 0, .slice none 0 0] 24) = wa3 at hA z3 hO hP ⊢
                clear hba
                refine mix_eff3 rfl true rfl (fun K hK => ?_)
                have q0c := hA.cell 0
                have q1c := hA.cell 1
                have q2c := hA.cell 2
                have fq0 := hA.free 0
                have fq1 := hA.free 1
                have fq2 := hA.free 2
                refine stg_open ?_
                go_simp
                refine hK _ _ trivial ?_
                try (rw [set_lit]; dsimp only [List.set])
                clear hK K
                refine mix_pur2 rfl (fun K hK => ?_)
                go_simp
                first | refine ⟨_, fun _ => rfl, hK _ ?_⟩ | refine hK _ ?_
                clear hK K
                refine mix_done2 ?_
                go_wp2_with fail
                go_meet
                case rel => exact ⟨ba, ao, co, ap, cp, rfl, rfl, ((hA.set 0 _).set 1 _).set 2 _, ((Elems.step (Elems.step (Elems.step hO (by simp [World.setCell]) fun q hq _ => Below.heap_setCell _ _ _ _ hq) (by simp [World.setCell]) fun q hq _ => Below.heap_setCell _ _ _ _ hq) (by simp [World.setCell]) fun q hq _ => Below.heap_setCell _ _ _ _ hq)).wide fun _ _ _ => trivial, ((Elems.step (Elems.step (Elems.step hP (by simp [World.setCell]) fun q hq _ => Below.heap_setCell _ _ _ _ hq) (by simp [World.setCell]) fun q hq _ => Below.heap_setCell _ _ _ _ hq) (by simp [World.setCell]) fun q hq _ => Below.heap_setCell _ _ _ _ hq)).wide fun _ _ _ => trivial, (Below.setCell (Below.setCell (Below.setCell z3 (p := ⟨ba, 0, none⟩) hAn _) (p := ⟨ba, 1, none⟩) hAn _) (p := ⟨ba, 2, none⟩) hAn _)⟩
              · refine stg_open ?_
                go_simp
                have hO := hO.wide (A' := fun q => q ≠ wa1.heap.size) fun q _ hl => by omega
                have hO := hO.call ((Below.refl wa1.heap.size wa1).alloc (Nat.le_refl _) (.cells #[.int .i64 0, .int .i64 0, .slice none 0 0] 24))
                have z2 := bal2 (o := .cells #[.int .i64 0, .int .i64 0, .slice none 0 0] 24) z1
                have hA := Blk.new wa1 #[.int .i64 0, .int .i64 0, .slice none 0 0] 24
                have hAn : wr.heap.size ≤ wa1.heap.size := z1.size
                refine hK _ _ (hF _ z2) ?_
                try (rw [set_lit]; dsimp only [List.set])
                clear hK K
                obtain ⟨ba, hba⟩ : ∃ b, b = wa1.heap.size := ⟨_, rfl⟩
                rw [← hba] at hA hAn hO ⊢
                generalize wa1.alloc (.cells #[.int .i64 0, .int .i64 0, .slice none 0 0] 24) = wa2 at hA z2 hO ⊢
                clear hba
                refine mix_eff3 rfl false rfl (fun K hK => ?_)
                refine stz_fn rfl rfl rfl ent37 rfl rfl (by kernel_rfl) (copyFurrows_c (hFr.call z2) (by omega)) ?_
                rintro e' wa3 ⟨vp, rfl, hPo, hB9⟩
                refine ⟨_, rfl, ?_⟩
                obtain ⟨ap, cp, rfl⟩ := own_slice hPo
                have hP := Own.fus hPo
                have hO := hO.call hB9
                have hP := hP.wide (A' := fun q => q ≠ ba) fun q hq _ => by have := hA.lt; omega
                have hA := hA.call hB9
                have z3 := z2.trans (hB9.mono z2.size)
                refine hK _ _ (hF _ z3) ?_
                try (rw [set_lit]; dsimp only [List.set])
                clear hK K hB9 hPo
                refine mix_eff3 rfl true rfl (fun K hK => ?_)
                have q0c := hA.cell 0
                have q1c := hA.cell 1
                have q2c := hA.cell 2
                have fq0 := hA.free 0
                have fq1 := hA.free 1
                have fq2 := hA.free 2
                refine stg_open ?_
                go_simp
                refine hK _ _ trivial ?_
                try (rw [set_lit]; dsimp only [List.set])
                clear hK K
                refine mix_pur2 rfl (fun K hK => ?_)
                go_simp
                first | refine ⟨_, fun _ => rfl, hK _ ?_⟩ | refine hK _ ?_
                clear hK K
                refine mix_done2 ?_
                go_wp2_with fail
                go_meet
                case rel => exact ⟨ba, ao, co, ap, cp, rfl, rfl, ((hA.set 0 _).set 1 _).set 2 _, ((Elems.step (Elems.step (Elems.step hO (by simp [World.setCell]) fun q hq _ => Below.heap_setCell _ _ _ _ hq) (by simp [World.setCell]) fun q hq _ => Below.heap_setCell _ _ _ _ hq) (by simp [World.setCell]) fun q hq _ => Below.heap_setCell _ _ _ _ hq)).wide fun _ _ _ => trivial, ((Elems.step (Elems.step (Elems.step hP (by simp [World.setCell]) fun q hq _ => Below.heap_setCell _ _ _ _ hq) (by simp [World.setCell]) fun q hq _ => Below.heap_setCell _ _ _ _ hq) (by simp [World.setCell]) fun q hq _ => Below.heap_setCell _ _ _ _ hq)).wide fun _ _ _ => trivial, (Below.setCell (Below.setCell (Below.setCell z3 (p := ⟨ba, 0, none⟩) hAn _) (p := ⟨ba, 1, none⟩) hAn _) (p := ⟨ba, 2, none⟩) hAn _)⟩
            · refine stg_open ?_
              go_simp
              have z1 := bal2 (o := .cells #[.int .i64 0, .int .i64 0, .slice none 0 0] 24) z0
              have hA := Blk.new wd #[.int .i64 0, .int .i64 0, .slice none 0 0] 24
              have hAn : wr.heap.size ≤ wd.heap.size := z0.size
              refine hK _ _ (hF _ z1) ?_
              try (rw [set_lit]; dsimp only [List.set])
              clear hK K
              obtain ⟨ba, hba⟩ : ∃ b, b = wd.heap.size := ⟨_, rfl⟩
              rw [← hba] at hA hAn ⊢
              generalize wd.alloc (.cells #[.int .i64 0, .int .i64 0, .slice none 0 0] 24) = wa1 at hA z1 ⊢
              clear hba
              refine mix_eff3 rfl false rfl (fun K hK => ?_)
              refine stz_fn rfl rfl rfl ent24 rfl rfl (by kernel_rfl) (copyEdge_c (hCr.call z1) (by omega)) ?_
              rintro e' wa2 ⟨vo, rfl, hOo, hB9⟩
              refine ⟨_, rfl, ?_⟩
              obtain ⟨ao, co, rfl⟩ := own_slice hOo
              have hO := Own.cls hOo
              have hO := hO.wide (A' := fun q => q ≠ ba) fun q hq _ => by have := hA.lt; omega
              have hA := hA.call hB9
              have z2 := z1.trans (hB9.mono z1.size)
              refine hK _ _ (hF _ z2) ?_
              try (rw [set_lit]; dsimp only [List.set])
              clear hK K hB9 hOo
              refine mix_eff3 rfl false rfl (fun K hK => ?_)
              refine stz_fn rfl rfl rfl ent37 rfl rfl (by kernel_rfl) (copyFurrows_c (hFr.call z2) (by omega)) ?_
              rintro e' wa3 ⟨vp, rfl, hPo, hB9⟩
              refine ⟨_, rfl, ?_⟩
              obtain ⟨ap, cp, rfl⟩ := own_slice hPo
              have hP := Own.fus hPo
              have hO := hO.call hB9
              have hP := hP.wide (A' := fun q => q ≠ ba) fun q hq _ => by have := hA.lt; omega
              have hA := hA.call hB9
              have z3 := z2.trans (hB9.mono z2.size)
              refine hK _ _ (hF _ z3) ?_
              try (rw [set_lit]; dsimp only [List.set])
              clear hK K hB9 hPo
              refine mix_eff3 rfl true rfl (fun K hK => ?_)
              have q0c := hA.cell 0
              have q1c := hA.cell 1
              have q2c := hA.cell 2
              have fq0 := hA.free 0
              have fq1 := hA.free 1
              have fq2 := hA.free 2
              refine stg_open ?_
              go_simp
              refine hK _ _ trivial ?_
              try (rw [set_lit]; dsimp only [List.set])
              clear hK K
              refine mix_pur2 rfl (fun K hK => ?_)
              go_simp
              first | refine ⟨_, fun _ => rfl, hK _ ?_⟩ | refine hK _ ?_
              clear hK K
              refine mix_done2 ?_
              go_wp2_with fail
              go_meet
              case rel => exact ⟨ba, ao, co, ap, cp, rfl, rfl, ((hA.set 0 _).set 1 _).set 2 _, ((Elems.step (Elems.step (Elems.step hO (by simp [World.setCell]) fun q hq _ => Below.heap_setCell _ _ _ _ hq) (by simp [World.setCell]) fun q hq _ => Below.heap_setCell _ _ _ _ hq) (by simp [World.setCell]) fun q hq _ => Below.heap_setCell _ _ _ _ hq)).wide fun _ _ _ => trivial, ((Elems.step (Elems.step (Elems.step hP (by simp [World.setCell]) fun q hq _ => Below.heap_setCell _ _ _ _ hq) (by simp [World.setCell]) fun q hq _ => Below.heap_setCell _ _ _ _ hq) (by simp [World.setCell]) fun q hq _ => Below.heap_setCell _ _ _ _ hq)).wide fun _ _ _ => trivial, (Below.setCell (Below.setCell (Below.setCell z3 (p := ⟨ba, 0, none⟩) hAn _) (p := ⟨ba, 1, none⟩) hAn _) (p := ⟨ba, 2, none⟩) hAn _)⟩
          case rest =>
          obtain ⟨b9, ao, co, ap, cp, rfl, rfl, hD1, hO1, hP1, hU⟩ := hcut
          rename World => u1'
          obtain ⟨v1, hv1⟩ : ∃ u, u = u1' := ⟨_, rfl⟩
          rw [← hv1] at hD1 hO1 hP1 hU ⊢
          have hBu1 := bnx hBr hU
          clear hv1 hF hU hCr hFr
          go_upto_region 15 with fail
          obtain ⟨T, hT⟩ : ∃ T, T = takenX y g ir := ⟨_, rfl⟩
          obtain ⟨N, hN⟩ : ∃ N, N = encrX y g ir := ⟨_, rfl⟩
          obtain ⟨S, hS⟩ : ∃ S, S = sinceX y g ia := ⟨_, rfl⟩
          have HT := Lib.hid hT
          have HN := Lib.hid hN
          have HS := Lib.hid hS
          clear hT hN hS
          have hF : ∀ w', Below v1.heap.size v1 w' → (RowU b9 y (.slice ao y.claims.length co) q1 i (.slice ay y.claims.length cy) q2 (.slice av g.length cv) q3 ir q4 ia) w' := fun w' hb => ⟨hD1.call hb, HEQ.out w' (bnx hBu1 hb)⟩
          go_cut [24, 25] from 105 to 253 (fun s24 s25 wx => s25 = .int .i64 T.2 ∧ RgsM (fun _ => True) wx s24 T.1 ∧ Below v1.heap.size v1 wx)
          case first => as_aux_lemma =>
            refine wp_region_mix2 (.one 0 (.pur 1 (.pur 2 (.pur 3 (.pur 4 (.one 5 (.act 6 (.pur 7 (.pur 8 (.pur 9 (.pur 10 (.pur 11 .fin)))))))))))) 99 (RowU b9 y (.slice ao y.claims.length co) q1 i (.slice ay y.claims.length cy) q2 (.slice av g.length cv) q3 ir q4 ia) (fun _ => True) (by kernel_rfl) (by kernel_rfl) rfl (by kernel_rfl) (hF _ (((Qt.refl _).drewN 1).below _)) (fun wd hqd _ => ?_)
            have z0 : Below v1.heap.size v1 wd := hqd.below _
            refine mix_ld (p := ⟨b9, 0, none⟩) (v := (.agg #[.int .i64 y.points, .int .i64 y.bend, .slice ao y.claims.length co])) rfl (by kernel_rfl) rfl rfl (fun w' h => by have h : (RowU b9 y (.slice ao y.claims.length co) q1 i (.slice ay y.claims.length cy) q2 (.slice av g.length cv) q3 ir q4 ia) w' := h; have e0 := h.1.cell 0; have e1 := h.1.cell 1; have e2 := h.1.cell 2; go_simp) (by kernel_rfl) ?_
            try (rw [set_lit]; dsimp only [List.set])
            refine mix_mw (v := (.slice ap g.length cp)) rfl (by kernel_rfl) rfl (.inl rfl) (by kernel_rfl) ?_
            try (rw [set_lit]; dsimp only [List.set])
            refine mix_mw (v := (.slice (some ⟨q3, 0, none⟩) 4 4)) rfl (by kernel_rfl) rfl (.inl rfl) (by kernel_rfl) ?_
            try (rw [set_lit]; dsimp only [List.set])
            refine mix_mw (v := (.int .i64 (i : Int))) rfl (by kernel_rfl) rfl (.inl rfl) (by kernel_rfl) ?_
            try (rw [set_lit]; dsimp only [List.set])
            refine mix_ix (p := (.slice (some ⟨q3, 0, none⟩) 4 4)) (q := (.int .i64 (i : Int))) (v := (.pointer (some ⟨q3, i, none⟩))) rfl (by kernel_rfl) rfl rfl (fun w => ix27 hlt w) (by kernel_rfl) (by kernel_rfl) ?_
            try (rw [set_lit]; dsimp only [List.set])
            refine mix_ld (p := ⟨q3, i, none⟩) (v := (.int .i64 ir)) rfl (by kernel_rfl) rfl rfl (fun w' h => by have h : (RowU b9 y (.slice ao y.claims.length co) q1 i (.slice ay y.claims.length cy) q2 (.slice av g.length cv) q3 ir q4 ia) w' := h; have e0 := h.2.2.2.1; go_simp) (by kernel_rfl) ?_
            try (rw [set_lit]; dsimp only [List.set])
            refine mix_eff3 rfl false rfl (fun K hK => ?_)
            refine stw_fn (by kernel_rfl) rfl rfl ent49 rfl rfl (by kernel_rfl) (takens_c (hO1.call z0) (hP1.call z0) ir) ?_
            rintro e' wa1 ⟨v9, rfl, hR9, hB9⟩
            rw [← HT.out] at hR9 ⊢
            refine ⟨_, rfl, ?_⟩
            have z1 := z0.trans (hB9.mono z0.size)
            refine hK _ _ (hF _ z1) ?_
            try (rw [set_lit]; dsimp only [List.set])
            clear hK K
            refine mix_mw (v := (.tuple #[v9, .int .i64 T.2])) rfl (by kernel_rfl) rfl (.inl rfl) (by kernel_rfl) ?_
            try (rw [set_lit]; dsimp only [List.set])
            refine mix_ext (p := (.tuple #[v9, .int .i64 T.2])) (v := v9) rfl (by kernel_rfl) rfl rfl (ex20 _ _) (by kernel_rfl) ?_
            try (rw [set_lit]; dsimp only [List.set])
            refine mix_ext (p := (.tuple #[v9, .int .i64 T.2])) (v := (.int .i64 T.2)) rfl (by kernel_rfl) rfl rfl (ex21 _ _) (by kernel_rfl) ?_
            try (rw [set_lit]; dsimp only [List.set])
            refine mix_mw (v := v9) rfl (by kernel_rfl) rfl (.inr rfl) (by kernel_rfl) ?_
            try (rw [set_lit]; dsimp only [List.set])
            refine mix_mw (v := (.int .i64 T.2)) rfl (by kernel_rfl) rfl (.inr rfl) (by kernel_rfl) ?_
            try (rw [set_lit]; dsimp only [List.set])
            refine mix_done2 ?_
            go_wp2_with fail
            go_meet
            case rel => exact ⟨rfl, hR9.wide fun _ _ _ => trivial, bnx z0 hB9⟩
          case rest =>
          obtain ⟨rfl, hR24, hU⟩ := hcut
          rename World => u2
          go_upto_region 16 with fail
          have hD2 := hD1.call hU
          have hO2 := hO1.call hU
          have hP2 := hP1.call hU
          have hBu2 := bnx hBu1 hU
          clear hD1 hO1 hP1 hBu1 hU hF
          have hF : ∀ w', Below u2.heap.size u2 w' → (RowU b9 y (.slice ao y.claims.length co) q1 i (.slice ay y.claims.length cy) q2 (.slice av g.length cv) q3 ir q4 ia) w' := fun w' hb => ⟨hD2.call hb, HEQ.out w' (bnx hBu2 hb)⟩
          go_cut [26, 27] from 105 to 253 (fun s26 s27 wx => s27 = .int .i64 T.2 ∧ RgsM (fun _ => True) wx s26 T.1 ∧ Below u2.heap.size u2 wx)
          case first => as_aux_lemma =>
            refine wp_region_mix2 (.pur 0 (.pur 1 (.pur 2 (.one 3 (.pur 4 (.pur 5 (.pur 6 (.one 7 (.pur 8 (.pur 9 (.pur 10 (.one 11 (.act 12 (.pur 13 (.pur 14 (.pur 15 (.pur 16 (.pur 17 .fin)))))))))))))))))) 99 (RowU b9 y (.slice ao y.claims.length co) q1 i (.slice ay y.claims.length cy) q2 (.slice av g.length cv) q3 ir q4 ia) (fun _ => True) (by kernel_rfl) (by kernel_rfl) rfl (by kernel_rfl) (hF _ (((Qt.refl _).drewN 1).below _)) (fun wd hqd _ => ?_)
            have z0 : Below u2.heap.size u2 wd := hqd.below _
            refine mix_mw (v := (.slice (some ⟨q1, 0, none⟩) 4 4)) rfl (by kernel_rfl) rfl (.inl rfl) (by kernel_rfl) ?_
            try (rw [set_lit]; dsimp only [List.set])
            refine mix_mw (v := (.int .i64 (i : Int))) rfl (by kernel_rfl) rfl (.inl rfl) (by kernel_rfl) ?_
            try (rw [set_lit]; dsimp only [List.set])
            refine mix_ix (p := (.slice (some ⟨q1, 0, none⟩) 4 4)) (q := (.int .i64 (i : Int))) (v := (.pointer (some ⟨q1, i * 3, none⟩))) rfl (by kernel_rfl) rfl rfl (fun w => ix29 hlt w) (by kernel_rfl) (by kernel_rfl) ?_
            try (rw [set_lit]; dsimp only [List.set])
            refine mix_ld (p := ⟨q1, i * 3, none⟩) (v := (.agg #[.int .i64 y.points, .int .i64 y.bend, .slice ay y.claims.length cy])) rfl (by kernel_rfl) rfl rfl (fun w' h => by have h : (RowU b9 y (.slice ao y.claims.length co) q1 i (.slice ay y.claims.length cy) q2 (.slice av g.length cv) q3 ir q4 ia) w' := h; have e0 := h.2.1.1; have e1 := h.2.1.2.1; have e2 := h.2.1.2.2; go_simp) (by kernel_rfl) ?_
            try (rw [set_lit]; dsimp only [List.set])
            refine mix_mw (v := (.slice (some ⟨q2, 0, none⟩) 4 4)) rfl (by kernel_rfl) rfl (.inl rfl) (by kernel_rfl) ?_
            try (rw [set_lit]; dsimp only [List.set])
            refine mix_mw (v := (.int .i64 (i : Int))) rfl (by kernel_rfl) rfl (.inl rfl) (by kernel_rfl) ?_
            try (rw [set_lit]; dsimp only [List.set])
            refine mix_ix (p := (.slice (some ⟨q2, 0, none⟩) 4 4)) (q := (.int .i64 (i : Int))) (v := (.pointer (some ⟨q2, i, none⟩))) rfl (by kernel_rfl) rfl rfl (fun w => ix48 hlt w) (by kernel_rfl) (by kernel_rfl) ?_
            try (rw [set_lit]; dsimp only [List.set])
            refine mix_ld (p := ⟨q2, i, none⟩) (v := (.slice av g.length cv)) rfl (by kernel_rfl) rfl rfl (fun w' h => by have h : (RowU b9 y (.slice ao y.claims.length co) q1 i (.slice ay y.claims.length cy) q2 (.slice av g.length cv) q3 ir q4 ia) w' := h; have e0 := h.2.2.1; go_simp) (by kernel_rfl) ?_
            try (rw [set_lit]; dsimp only [List.set])
            refine mix_mw (v := (.slice (some ⟨q3, 0, none⟩) 4 4)) rfl (by kernel_rfl) rfl (.inl rfl) (by kernel_rfl) ?_
            try (rw [set_lit]; dsimp only [List.set])
            refine mix_mw (v := (.int .i64 (i : Int))) rfl (by kernel_rfl) rfl (.inl rfl) (by kernel_rfl) ?_
            try (rw [set_lit]; dsimp only [List.set])
            refine mix_ix (p := (.slice (some ⟨q3, 0, none⟩) 4 4)) (q := (.int .i64 (i : Int))) (v := (.pointer (some ⟨q3, i, none⟩))) rfl (by kernel_rfl) rfl rfl (fun w => ix27 hlt w) (by kernel_rfl) (by kernel_rfl) ?_
            try (rw [set_lit]; dsimp only [List.set])
            refine mix_ld (p := ⟨q3, i, none⟩) (v := (.int .i64 ir)) rfl (by kernel_rfl) rfl rfl (fun w' h => by have h : (RowU b9 y (.slice ao y.claims.length co) q1 i (.slice ay y.claims.length cy) q2 (.slice av g.length cv) q3 ir q4 ia) w' := h; have e0 := h.2.2.2.1; go_simp) (by kernel_rfl) ?_
            try (rw [set_lit]; dsimp only [List.set])
            refine mix_eff3 rfl false rfl (fun K hK => ?_)
            refine stw_fn (by kernel_rfl) rfl rfl ent59 rfl rfl (by kernel_rfl) (rtaken_c (hC4.call (bnx hBu2 z0)) (hG4.call (bnx hBu2 z0)) ir) ?_
            rintro e' wa1 ⟨v9, rfl, hR9, hB9⟩
            rw [← HT.out] at hR9 ⊢
            refine ⟨_, rfl, ?_⟩
            have z1 := z0.trans (hB9.mono z0.size)
            refine hK _ _ (hF _ z1) ?_
            try (rw [set_lit]; dsimp only [List.set])
            clear hK K
            refine mix_mw (v := (.tuple #[v9, .int .i64 T.2])) rfl (by kernel_rfl) rfl (.inl rfl) (by kernel_rfl) ?_
            try (rw [set_lit]; dsimp only [List.set])
            refine mix_ext (p := (.tuple #[v9, .int .i64 T.2])) (v := v9) rfl (by kernel_rfl) rfl rfl (ex20 _ _) (by kernel_rfl) ?_
            try (rw [set_lit]; dsimp only [List.set])
            refine mix_ext (p := (.tuple #[v9, .int .i64 T.2])) (v := (.int .i64 T.2)) rfl (by kernel_rfl) rfl rfl (ex21 _ _) (by kernel_rfl) ?_
            try (rw [set_lit]; dsimp only [List.set])
            refine mix_mw (v := v9) rfl (by kernel_rfl) rfl (.inr rfl) (by kernel_rfl) ?_
            try (rw [set_lit]; dsimp only [List.set])
            refine mix_mw (v := (.int .i64 T.2)) rfl (by kernel_rfl) rfl (.inr rfl) (by kernel_rfl) ?_
            try (rw [set_lit]; dsimp only [List.set])
            refine mix_done2 ?_
            go_wp2_with fail
            go_meet
            case rel => exact ⟨rfl, hR9.wide fun _ _ _ => trivial, bnx z0 hB9⟩
          case rest =>
          obtain ⟨rfl, hR26, hU⟩ := hcut
          rename World => u3
          go_upto_region 17 with fail
          have hD3 := hD2.call hU
          have hO3 := hO2.call hU
          have hP3 := hP2.call hU
          have hBu3 := bnx hBu2 hU
          have hR24 := hR24.call hU
          clear hD2 hO2 hP2 hBu2 hU hF
          have hF : ∀ w', Below u3.heap.size u3 w' → (RowU b9 y (.slice ao y.claims.length co) q1 i (.slice ay y.claims.length cy) q2 (.slice av g.length cv) q3 ir q4 ia) w' := fun w' hb => ⟨hD3.call hb, HEQ.out w' (bnx hBu3 hb)⟩
          go_cut [28, 29] from 105 to 253 (fun s28 s29 wx => s29 = .int .i64 N.2 ∧ Ints (fun _ => True) wx s28 N.1 ∧ Below u3.heap.size u3 wx)
          case first => as_aux_lemma =>
            refine wp_region_mix2 (.one 0 (.pur 1 (.pur 2 (.pur 3 (.pur 4 (.one 5 (.act 6 (.pur 7 (.pur 8 (.pur 9 (.pur 10 (.pur 11 .fin)))))))))))) 99 (RowU b9 y (.slice ao y.claims.length co) q1 i (.slice ay y.claims.length cy) q2 (.slice av g.length cv) q3 ir q4 ia) (fun _ => True) (by kernel_rfl) (by kernel_rfl) rfl (by kernel_rfl) (hF _ (((Qt.refl _).drewN 1).below _)) (fun wd hqd _ => ?_)
            have z0 : Below u3.heap.size u3 wd := hqd.below _
            refine mix_ld (p := ⟨b9, 0, none⟩) (v := (.agg #[.int .i64 y.points, .int .i64 y.bend, .slice ao y.claims.length co])) rfl (by kernel_rfl) rfl rfl (fun w' h => by have h : (RowU b9 y (.slice ao y.claims.length co) q1 i (.slice ay y.claims.length cy) q2 (.slice av g.length cv) q3 ir q4 ia) w' := h; have e0 := h.1.cell 0; have e1 := h.1.cell 1; have e2 := h.1.cell 2; go_simp) (by kernel_rfl) ?_
            try (rw [set_lit]; dsimp only [List.set])
            refine mix_mw (v := (.slice ap g.length cp)) rfl (by kernel_rfl) rfl (.inl rfl) (by kernel_rfl) ?_
            try (rw [set_lit]; dsimp only [List.set])
            refine mix_mw (v := (.slice (some ⟨q3, 0, none⟩) 4 4)) rfl (by kernel_rfl) rfl (.inl rfl) (by kernel_rfl) ?_
            try (rw [set_lit]; dsimp only [List.set])
            refine mix_mw (v := (.int .i64 (i : Int))) rfl (by kernel_rfl) rfl (.inl rfl) (by kernel_rfl) ?_
            try (rw [set_lit]; dsimp only [List.set])
            refine mix_ix (p := (.slice (some ⟨q3, 0, none⟩) 4 4)) (q := (.int .i64 (i : Int))) (v := (.pointer (some ⟨q3, i, none⟩))) rfl (by kernel_rfl) rfl rfl (fun w => ix27 hlt w) (by kernel_rfl) (by kernel_rfl) ?_
            try (rw [set_lit]; dsimp only [List.set])
            refine mix_ld (p := ⟨q3, i, none⟩) (v := (.int .i64 ir)) rfl (by kernel_rfl) rfl rfl (fun w' h => by have h : (RowU b9 y (.slice ao y.claims.length co) q1 i (.slice ay y.claims.length cy) q2 (.slice av g.length cv) q3 ir q4 ia) w' := h; have e0 := h.2.2.2.1; go_simp) (by kernel_rfl) ?_
            try (rw [set_lit]; dsimp only [List.set])
            refine mix_eff3 rfl false rfl (fun K hK => ?_)
            refine stw_fn (by kernel_rfl) rfl rfl ent50 rfl rfl (by kernel_rfl) (encr_c (hO3.call z0) (hP3.call z0) ir) ?_
            rintro e' wa1 ⟨v9, rfl, hR9, hB9⟩
            rw [← HN.out] at hR9 ⊢
            refine ⟨_, rfl, ?_⟩
            have z1 := z0.trans (hB9.mono z0.size)
            refine hK _ _ (hF _ z1) ?_
            try (rw [set_lit]; dsimp only [List.set])
            clear hK K
            refine mix_mw (v := (.tuple #[v9, .int .i64 N.2])) rfl (by kernel_rfl) rfl (.inl rfl) (by kernel_rfl) ?_
            try (rw [set_lit]; dsimp only [List.set])
            refine mix_ext (p := (.tuple #[v9, .int .i64 N.2])) (v := v9) rfl (by kernel_rfl) rfl rfl (ex20 _ _) (by kernel_rfl) ?_
            try (rw [set_lit]; dsimp only [List.set])
            refine mix_ext (p := (.tuple #[v9, .int .i64 N.2])) (v := (.int .i64 N.2)) rfl (by kernel_rfl) rfl rfl (ex21 _ _) (by kernel_rfl) ?_
            try (rw [set_lit]; dsimp only [List.set])
            refine mix_mw (v := v9) rfl (by kernel_rfl) rfl (.inr rfl) (by kernel_rfl) ?_
            try (rw [set_lit]; dsimp only [List.set])
            refine mix_mw (v := (.int .i64 N.2)) rfl (by kernel_rfl) rfl (.inr rfl) (by kernel_rfl) ?_
            try (rw [set_lit]; dsimp only [List.set])
            refine mix_done2 ?_
            go_wp2_with fail
            go_meet
            case rel => exact ⟨rfl, hR9.wide fun _ _ _ => trivial, bnx z0 hB9⟩
          case rest =>
          obtain ⟨rfl, hR28, hU⟩ := hcut
          rename World => u4
          go_upto_region 18 with fail
          have hD4 := hD3.call hU
          have hO4 := hO3.call hU
          have hP4 := hP3.call hU
          have hBu4 := bnx hBu3 hU
          have hR24 := hR24.call hU
          have hR26 := hR26.call hU
          clear hD3 hO3 hP3 hBu3 hU hF
          have hF : ∀ w', Below u4.heap.size u4 w' → (RowU b9 y (.slice ao y.claims.length co) q1 i (.slice ay y.claims.length cy) q2 (.slice av g.length cv) q3 ir q4 ia) w' := fun w' hb => ⟨hD4.call hb, HEQ.out w' (bnx hBu4 hb)⟩
          go_cut [30, 31] from 105 to 253 (fun s30 s31 wx => s31 = .int .i64 N.2 ∧ Ints (fun _ => True) wx s30 N.1 ∧ Below u4.heap.size u4 wx)
          case first => as_aux_lemma =>
            refine wp_region_mix2 (.pur 0 (.pur 1 (.pur 2 (.one 3 (.pur 4 (.pur 5 (.pur 6 (.one 7 (.pur 8 (.pur 9 (.pur 10 (.one 11 (.act 12 (.pur 13 (.pur 14 (.pur 15 (.pur 16 (.pur 17 .fin)))))))))))))))))) 99 (RowU b9 y (.slice ao y.claims.length co) q1 i (.slice ay y.claims.length cy) q2 (.slice av g.length cv) q3 ir q4 ia) (fun _ => True) (by kernel_rfl) (by kernel_rfl) rfl (by kernel_rfl) (hF _ (((Qt.refl _).drewN 1).below _)) (fun wd hqd _ => ?_)
            have z0 : Below u4.heap.size u4 wd := hqd.below _
            refine mix_mw (v := (.slice (some ⟨q1, 0, none⟩) 4 4)) rfl (by kernel_rfl) rfl (.inl rfl) (by kernel_rfl) ?_
            try (rw [set_lit]; dsimp only [List.set])
            refine mix_mw (v := (.int .i64 (i : Int))) rfl (by kernel_rfl) rfl (.inl rfl) (by kernel_rfl) ?_
            try (rw [set_lit]; dsimp only [List.set])
            refine mix_ix (p := (.slice (some ⟨q1, 0, none⟩) 4 4)) (q := (.int .i64 (i : Int))) (v := (.pointer (some ⟨q1, i * 3, none⟩))) rfl (by kernel_rfl) rfl rfl (fun w => ix29 hlt w) (by kernel_rfl) (by kernel_rfl) ?_
            try (rw [set_lit]; dsimp only [List.set])
            refine mix_ld (p := ⟨q1, i * 3, none⟩) (v := (.agg #[.int .i64 y.points, .int .i64 y.bend, .slice ay y.claims.length cy])) rfl (by kernel_rfl) rfl rfl (fun w' h => by have h : (RowU b9 y (.slice ao y.claims.length co) q1 i (.slice ay y.claims.length cy) q2 (.slice av g.length cv) q3 ir q4 ia) w' := h; have e0 := h.2.1.1; have e1 := h.2.1.2.1; have e2 := h.2.1.2.2; go_simp) (by kernel_rfl) ?_
            try (rw [set_lit]; dsimp only [List.set])
            refine mix_mw (v := (.slice (some ⟨q2, 0, none⟩) 4 4)) rfl (by kernel_rfl) rfl (.inl rfl) (by kernel_rfl) ?_
            try (rw [set_lit]; dsimp only [List.set])
            refine mix_mw (v := (.int .i64 (i : Int))) rfl (by kernel_rfl) rfl (.inl rfl) (by kernel_rfl) ?_
            try (rw [set_lit]; dsimp only [List.set])
            refine mix_ix (p := (.slice (some ⟨q2, 0, none⟩) 4 4)) (q := (.int .i64 (i : Int))) (v := (.pointer (some ⟨q2, i, none⟩))) rfl (by kernel_rfl) rfl rfl (fun w => ix48 hlt w) (by kernel_rfl) (by kernel_rfl) ?_
            try (rw [set_lit]; dsimp only [List.set])
            refine mix_ld (p := ⟨q2, i, none⟩) (v := (.slice av g.length cv)) rfl (by kernel_rfl) rfl rfl (fun w' h => by have h : (RowU b9 y (.slice ao y.claims.length co) q1 i (.slice ay y.claims.length cy) q2 (.slice av g.length cv) q3 ir q4 ia) w' := h; have e0 := h.2.2.1; go_simp) (by kernel_rfl) ?_
            try (rw [set_lit]; dsimp only [List.set])
            refine mix_mw (v := (.slice (some ⟨q3, 0, none⟩) 4 4)) rfl (by kernel_rfl) rfl (.inl rfl) (by kernel_rfl) ?_
            try (rw [set_lit]; dsimp only [List.set])
            refine mix_mw (v := (.int .i64 (i : Int))) rfl (by kernel_rfl) rfl (.inl rfl) (by kernel_rfl) ?_
            try (rw [set_lit]; dsimp only [List.set])
            refine mix_ix (p := (.slice (some ⟨q3, 0, none⟩) 4 4)) (q := (.int .i64 (i : Int))) (v := (.pointer (some ⟨q3, i, none⟩))) rfl (by kernel_rfl) rfl rfl (fun w => ix27 hlt w) (by kernel_rfl) (by kernel_rfl) ?_
            try (rw [set_lit]; dsimp only [List.set])
            refine mix_ld (p := ⟨q3, i, none⟩) (v := (.int .i64 ir)) rfl (by kernel_rfl) rfl rfl (fun w' h => by have h : (RowU b9 y (.slice ao y.claims.length co) q1 i (.slice ay y.claims.length cy) q2 (.slice av g.length cv) q3 ir q4 ia) w' := h; have e0 := h.2.2.2.1; go_simp) (by kernel_rfl) ?_
            try (rw [set_lit]; dsimp only [List.set])
            refine mix_eff3 rfl false rfl (fun K hK => ?_)
            refine stw_fn (by kernel_rfl) rfl rfl ent60 rfl rfl (by kernel_rfl) (rencr_c (hC4.call (bnx hBu4 z0)) (hG4.call (bnx hBu4 z0)) ir) ?_
            rintro e' wa1 ⟨v9, rfl, hR9, hB9⟩
            rw [← HN.out] at hR9 ⊢
            refine ⟨_, rfl, ?_⟩
            have z1 := z0.trans (hB9.mono z0.size)
            refine hK _ _ (hF _ z1) ?_
            try (rw [set_lit]; dsimp only [List.set])
            clear hK K
            refine mix_mw (v := (.tuple #[v9, .int .i64 N.2])) rfl (by kernel_rfl) rfl (.inl rfl) (by kernel_rfl) ?_
            try (rw [set_lit]; dsimp only [List.set])
            refine mix_ext (p := (.tuple #[v9, .int .i64 N.2])) (v := v9) rfl (by kernel_rfl) rfl rfl (ex20 _ _) (by kernel_rfl) ?_
            try (rw [set_lit]; dsimp only [List.set])
            refine mix_ext (p := (.tuple #[v9, .int .i64 N.2])) (v := (.int .i64 N.2)) rfl (by kernel_rfl) rfl rfl (ex21 _ _) (by kernel_rfl) ?_
            try (rw [set_lit]; dsimp only [List.set])
            refine mix_mw (v := v9) rfl (by kernel_rfl) rfl (.inr rfl) (by kernel_rfl) ?_
            try (rw [set_lit]; dsimp only [List.set])
            refine mix_mw (v := (.int .i64 N.2)) rfl (by kernel_rfl) rfl (.inr rfl) (by kernel_rfl) ?_
            try (rw [set_lit]; dsimp only [List.set])
            refine mix_done2 ?_
            go_wp2_with fail
            go_meet
            case rel => exact ⟨rfl, hR9.wide fun _ _ _ => trivial, bnx z0 hB9⟩
          case rest =>
          obtain ⟨rfl, hR30, hU⟩ := hcut
          rename World => u5
          go_upto_region 19 with fail
          have hD5 := hD4.call hU
          have hO5 := hO4.call hU
          have hP5 := hP4.call hU
          have hBu5 := bnx hBu4 hU
          have hR24 := hR24.call hU
          have hR26 := hR26.call hU
          have hR28 := hR28.call hU
          clear hD4 hO4 hP4 hBu4 hU hF
          have hF : ∀ w', Below u5.heap.size u5 w' → (RowU b9 y (.slice ao y.claims.length co) q1 i (.slice ay y.claims.length cy) q2 (.slice av g.length cv) q3 ir q4 ia) w' := fun w' hb => ⟨hD5.call hb, HEQ.out w' (bnx hBu5 hb)⟩
          go_cut [32, 33, 34] from 105 to 253 (fun s32 s33 s34 wx => s32 = .int .i64 S.1.1 ∧ s33 = .int .i64 S.1.2 ∧ s34 = .int .i64 S.2 ∧ Below u5.heap.size u5 wx)
          case first => as_aux_lemma =>
            refine wp_region_mix2 (.one 0 (.pur 1 (.pur 2 (.pur 3 (.pur 4 (.one 5 (.act 6 (.pur 7 (.pur 8 (.pur 9 (.pur 10 (.pur 11 (.pur 12 (.pur 13 .fin)))))))))))))) 99 (RowU b9 y (.slice ao y.claims.length co) q1 i (.slice ay y.claims.length cy) q2 (.slice av g.length cv) q3 ir q4 ia) (fun _ => True) (by kernel_rfl) (by kernel_rfl) rfl (by kernel_rfl) (hF _ (((Qt.refl _).drewN 1).below _)) (fun wd hqd _ => ?_)
            have z0 : Below u5.heap.size u5 wd := hqd.below _
            refine mix_ld (p := ⟨b9, 0, none⟩) (v := (.agg #[.int .i64 y.points, .int .i64 y.bend, .slice ao y.claims.length co])) rfl (by kernel_rfl) rfl rfl (fun w' h => by have h : (RowU b9 y (.slice ao y.claims.length co) q1 i (.slice ay y.claims.length cy) q2 (.slice av g.length cv) q3 ir q4 ia) w' := h; have e0 := h.1.cell 0; have e1 := h.1.cell 1; have e2 := h.1.cell 2; go_simp) (by kernel_rfl) ?_
            try (rw [set_lit]; dsimp only [List.set])
            refine mix_mw (v := (.slice ap g.length cp)) rfl (by kernel_rfl) rfl (.inl rfl) (by kernel_rfl) ?_
            try (rw [set_lit]; dsimp only [List.set])
            refine mix_mw (v := (.slice (some ⟨q4, 0, none⟩) 4 4)) rfl (by kernel_rfl) rfl (.inl rfl) (by kernel_rfl) ?_
            try (rw [set_lit]; dsimp only [List.set])
            refine mix_mw (v := (.int .i64 (i : Int))) rfl (by kernel_rfl) rfl (.inl rfl) (by kernel_rfl) ?_
            try (rw [set_lit]; dsimp only [List.set])
            refine mix_ix (p := (.slice (some ⟨q4, 0, none⟩) 4 4)) (q := (.int .i64 (i : Int))) (v := (.pointer (some ⟨q4, i, none⟩))) rfl (by kernel_rfl) rfl rfl (fun w => ix27 hlt w) (by kernel_rfl) (by kernel_rfl) ?_
            try (rw [set_lit]; dsimp only [List.set])
            refine mix_ld (p := ⟨q4, i, none⟩) (v := (.int .i64 ia)) rfl (by kernel_rfl) rfl rfl (fun w' h => by have h : (RowU b9 y (.slice ao y.claims.length co) q1 i (.slice ay y.claims.length cy) q2 (.slice av g.length cv) q3 ir q4 ia) w' := h; have e0 := h.2.2.2.2; go_simp) (by kernel_rfl) ?_
            try (rw [set_lit]; dsimp only [List.set])
            refine mix_eff3 rfl false rfl (fun K hK => ?_)
            refine stw_fn (by kernel_rfl) rfl rfl ent61 rfl rfl (by kernel_rfl) (since_c (hO5.call z0) (hP5.call z0) ia) ?_
            rintro e' wa1 ⟨rfl, hB9⟩
            rw [← HS.out]
            refine ⟨_, rfl, ?_⟩
            have z1 := z0.trans (hB9.mono z0.size)
            refine hK _ _ (hF _ z1) ?_
            try (rw [set_lit]; dsimp only [List.set])
            clear hK K
            refine mix_mw (v := (.tuple #[.int .i64 S.1.1, .int .i64 S.1.2, .int .i64 S.2])) rfl (by kernel_rfl) rfl (.inl rfl) (by kernel_rfl) ?_
            try (rw [set_lit]; dsimp only [List.set])
            refine mix_ext (p := (.tuple #[.int .i64 S.1.1, .int .i64 S.1.2, .int .i64 S.2])) (v := (.int .i64 S.1.1)) rfl (by kernel_rfl) rfl rfl (ex30 _ _ _) (by kernel_rfl) ?_
            try (rw [set_lit]; dsimp only [List.set])
            refine mix_ext (p := (.tuple #[.int .i64 S.1.1, .int .i64 S.1.2, .int .i64 S.2])) (v := (.int .i64 S.1.2)) rfl (by kernel_rfl) rfl rfl (ex31 _ _ _) (by kernel_rfl) ?_
            try (rw [set_lit]; dsimp only [List.set])
            refine mix_ext (p := (.tuple #[.int .i64 S.1.1, .int .i64 S.1.2, .int .i64 S.2])) (v := (.int .i64 S.2)) rfl (by kernel_rfl) rfl rfl (ex32 _ _ _) (by kernel_rfl) ?_
            try (rw [set_lit]; dsimp only [List.set])
            refine mix_mw (v := (.int .i64 S.1.1)) rfl (by kernel_rfl) rfl (.inr rfl) (by kernel_rfl) ?_
            try (rw [set_lit]; dsimp only [List.set])
            refine mix_mw (v := (.int .i64 S.1.2)) rfl (by kernel_rfl) rfl (.inr rfl) (by kernel_rfl) ?_
            try (rw [set_lit]; dsimp only [List.set])
            refine mix_mw (v := (.int .i64 S.2)) rfl (by kernel_rfl) rfl (.inr rfl) (by kernel_rfl) ?_
            try (rw [set_lit]; dsimp only [List.set])
            refine mix_done2 ?_
            go_wp2_with fail
            go_meet
            case rel => exact ⟨rfl, rfl, rfl, bnx z0 hB9⟩
          case rest =>
          obtain ⟨rfl, rfl, rfl, hU⟩ := hcut
          rename World => u6
          go_upto_region 20 with fail
          have hD6 := hD5.call hU
          have hO6 := hO5.call hU
          have hP6 := hP5.call hU
          have hBu6 := bnx hBu5 hU
          have hR24 := hR24.call hU
          have hR26 := hR26.call hU
          have hR28 := hR28.call hU
          have hR30 := hR30.call hU
          clear hD5 hO5 hP5 hBu5 hU hF
          have hF : ∀ w', Below u6.heap.size u6 w' → (RowU b9 y (.slice ao y.claims.length co) q1 i (.slice ay y.claims.length cy) q2 (.slice av g.length cv) q3 ir q4 ia) w' := fun w' hb => ⟨hD6.call hb, HEQ.out w' (bnx hBu6 hb)⟩
          go_cut [35, 36, 37] from 105 to 253 (fun s35 s36 s37 wx => s35 = .int .i64 S.1.1 ∧ s36 = .int .i64 S.1.2 ∧ s37 = .int .i64 S.2 ∧ Below u6.heap.size u6 wx)
          case first => as_aux_lemma =>
            refine wp_region_mix2 (.pur 0 (.pur 1 (.pur 2 (.one 3 (.pur 4 (.pur 5 (.pur 6 (.one 7 (.pur 8 (.pur 9 (.pur 10 (.one 11 (.act 12 (.pur 13 (.pur 14 (.pur 15 (.pur 16 (.pur 17 (.pur 18 (.pur 19 .fin)))))))))))))))))))) 99 (RowU b9 y (.slice ao y.claims.length co) q1 i (.slice ay y.claims.length cy) q2 (.slice av g.length cv) q3 ir q4 ia) (fun _ => True) (by kernel_rfl) (by kernel_rfl) rfl (by kernel_rfl) (hF _ (((Qt.refl _).drewN 1).below _)) (fun wd hqd _ => ?_)
            have z0 : Below u6.heap.size u6 wd := hqd.below _
            refine mix_mw (v := (.slice (some ⟨q1, 0, none⟩) 4 4)) rfl (by kernel_rfl) rfl (.inl rfl) (by kernel_rfl) ?_
            try (rw [set_lit]; dsimp only [List.set])
            refine mix_mw (v := (.int .i64 (i : Int))) rfl (by kernel_rfl) rfl (.inl rfl) (by kernel_rfl) ?_
            try (rw [set_lit]; dsimp only [List.set])
            refine mix_ix (p := (.slice (some ⟨q1, 0, none⟩) 4 4)) (q := (.int .i64 (i : Int))) (v := (.pointer (some ⟨q1, i * 3, none⟩))) rfl (by kernel_rfl) rfl rfl (fun w => ix29 hlt w) (by kernel_rfl) (by kernel_rfl) ?_
            try (rw [set_lit]; dsimp only [List.set])
            refine mix_ld (p := ⟨q1, i * 3, none⟩) (v := (.agg #[.int .i64 y.points, .int .i64 y.bend, .slice ay y.claims.length cy])) rfl (by kernel_rfl) rfl rfl (fun w' h => by have h : (RowU b9 y (.slice ao y.claims.length co) q1 i (.slice ay y.claims.length cy) q2 (.slice av g.length cv) q3 ir q4 ia) w' := h; have e0 := h.2.1.1; have e1 := h.2.1.2.1; have e2 := h.2.1.2.2; go_simp) (by kernel_rfl) ?_
            try (rw [set_lit]; dsimp only [List.set])
            refine mix_mw (v := (.slice (some ⟨q2, 0, none⟩) 4 4)) rfl (by kernel_rfl) rfl (.inl rfl) (by kernel_rfl) ?_
            try (rw [set_lit]; dsimp only [List.set])
            refine mix_mw (v := (.int .i64 (i : Int))) rfl (by kernel_rfl) rfl (.inl rfl) (by kernel_rfl) ?_
            try (rw [set_lit]; dsimp only [List.set])
            refine mix_ix (p := (.slice (some ⟨q2, 0, none⟩) 4 4)) (q := (.int .i64 (i : Int))) (v := (.pointer (some ⟨q2, i, none⟩))) rfl (by kernel_rfl) rfl rfl (fun w => ix48 hlt w) (by kernel_rfl) (by kernel_rfl) ?_
            try (rw [set_lit]; dsimp only [List.set])
            refine mix_ld (p := ⟨q2, i, none⟩) (v := (.slice av g.length cv)) rfl (by kernel_rfl) rfl rfl (fun w' h => by have h : (RowU b9 y (.slice ao y.claims.length co) q1 i (.slice ay y.claims.length cy) q2 (.slice av g.length cv) q3 ir q4 ia) w' := h; have e0 := h.2.2.1; go_simp) (by kernel_rfl) ?_
            try (rw [set_lit]; dsimp only [List.set])
            refine mix_mw (v := (.slice (some ⟨q4, 0, none⟩) 4 4)) rfl (by kernel_rfl) rfl (.inl rfl) (by kernel_rfl) ?_
            try (rw [set_lit]; dsimp only [List.set])
            refine mix_mw (v := (.int .i64 (i : Int))) rfl (by kernel_rfl) rfl (.inl rfl) (by kernel_rfl) ?_
            try (rw [set_lit]; dsimp only [List.set])
            refine mix_ix (p := (.slice (some ⟨q4, 0, none⟩) 4 4)) (q := (.int .i64 (i : Int))) (v := (.pointer (some ⟨q4, i, none⟩))) rfl (by kernel_rfl) rfl rfl (fun w => ix27 hlt w) (by kernel_rfl) (by kernel_rfl) ?_
            try (rw [set_lit]; dsimp only [List.set])
            refine mix_ld (p := ⟨q4, i, none⟩) (v := (.int .i64 ia)) rfl (by kernel_rfl) rfl rfl (fun w' h => by have h : (RowU b9 y (.slice ao y.claims.length co) q1 i (.slice ay y.claims.length cy) q2 (.slice av g.length cv) q3 ir q4 ia) w' := h; have e0 := h.2.2.2.2; go_simp) (by kernel_rfl) ?_
            try (rw [set_lit]; dsimp only [List.set])
            refine mix_eff3 rfl false rfl (fun K hK => ?_)
            refine stw_fn (by kernel_rfl) rfl rfl ent62 rfl rfl (by kernel_rfl) (rsince_c (hC4.call (bnx hBu6 z0)) (hG4.call (bnx hBu6 z0)) ia) ?_
            rintro e' wa1 ⟨rfl, hB9⟩
            rw [← HS.out]
            refine ⟨_, rfl, ?_⟩
            have z1 := z0.trans (hB9.mono z0.size)
            refine hK _ _ (hF _ z1) ?_
            try (rw [set_lit]; dsimp only [List.set])
            clear hK K
            refine mix_mw (v := (.tuple #[.int .i64 S.1.1, .int .i64 S.1.2, .int .i64 S.2])) rfl (by kernel_rfl) rfl (.inl rfl) (by kernel_rfl) ?_
            try (rw [set_lit]; dsimp only [List.set])
            refine mix_ext (p := (.tuple #[.int .i64 S.1.1, .int .i64 S.1.2, .int .i64 S.2])) (v := (.int .i64 S.1.1)) rfl (by kernel_rfl) rfl rfl (ex30 _ _ _) (by kernel_rfl) ?_
            try (rw [set_lit]; dsimp only [List.set])
            refine mix_ext (p := (.tuple #[.int .i64 S.1.1, .int .i64 S.1.2, .int .i64 S.2])) (v := (.int .i64 S.1.2)) rfl (by kernel_rfl) rfl rfl (ex31 _ _ _) (by kernel_rfl) ?_
            try (rw [set_lit]; dsimp only [List.set])
            refine mix_ext (p := (.tuple #[.int .i64 S.1.1, .int .i64 S.1.2, .int .i64 S.2])) (v := (.int .i64 S.2)) rfl (by kernel_rfl) rfl rfl (ex32 _ _ _) (by kernel_rfl) ?_
            try (rw [set_lit]; dsimp only [List.set])
            refine mix_mw (v := (.int .i64 S.1.1)) rfl (by kernel_rfl) rfl (.inr rfl) (by kernel_rfl) ?_
            try (rw [set_lit]; dsimp only [List.set])
            refine mix_mw (v := (.int .i64 S.1.2)) rfl (by kernel_rfl) rfl (.inr rfl) (by kernel_rfl) ?_
            try (rw [set_lit]; dsimp only [List.set])
            refine mix_mw (v := (.int .i64 S.2)) rfl (by kernel_rfl) rfl (.inr rfl) (by kernel_rfl) ?_
            try (rw [set_lit]; dsimp only [List.set])
            refine mix_done2 ?_
            go_wp2_with fail
            go_meet
            case rel => exact ⟨rfl, rfl, rfl, bnx z0 hB9⟩
          case rest =>
          obtain ⟨rfl, rfl, rfl, hU⟩ := hcut
          rename World => u7
          go_upto_region 21 with fail
          have hD7 := hD6.call hU
          have hO7 := hO6.call hU
          have hP7 := hP6.call hU
          have hBu7 := bnx hBu6 hU
          have hR24 := hR24.call hU
          have hR26 := hR26.call hU
          have hR28 := hR28.call hU
          have hR30 := hR30.call hU
          clear hD6 hO6 hP6 hBu6 hU hF
          have hG : ∀ w', Below u7.heap.size u7 w' → (RowU b9 y (.slice ao y.claims.length co) q1 i (.slice ay y.claims.length cy) q2 (.slice av g.length cv) q3 ir q4 ia) w' := fun w' hb => ⟨hD7.call hb, HEQ.out w' (bnx hBu7 hb)⟩
          go_cut [253] from 201 to 253 (fun s253 wx => s253 = .bool false ∧ Below u7.heap.size u7 wx)
          case first => as_aux_lemma =>
            refine wp_region_mix2 (.pur 0 (.pur 1 (.pur 2 (.pur 3 (.pur 4 (.pur 5 (.pur 6 (.pur 7 (.pur 8 (.pur 9 (.pur 10 (.pur 11 (.pur 12 (.pur 13 (.pur 14 (.pur 15 (.pur 16 (.pur 17 (.pur 18 (.pur 19 (.pur 20 (.pur 21 (.pur 22 (.pur 23 (.pur 24 (.pur 25 (.act 26 (.pur 27 (.pur 28 (.pur 29 (.pur 30 (.pur 31 (.act 32 (.pur 33 (.pur 34 (.pur 35 (.one 36 (.pur 37 (.pur 38 (.pur 39 (.one 40 (.act 41 (.pur 42 (.pur 43 (.pur 44 (.pur 45 (.pur 46 (.pur 47 (.pur 48 (.one 49 (.act 50 (.pur 51 (.pur 52 .fin))))))))))))))))))))))))))))))))))))))))))))))))))))) 99 (RowU b9 y (.slice ao y.claims.length co) q1 i (.slice ay y.claims.length cy) q2 (.slice av g.length cv) q3 ir q4 ia) (fun _ => True) (by kernel_rfl) (by kernel_rfl) rfl (by kernel_rfl) (hG _ (((Qt.refl _).drewN 1).below _)) (fun wd hqd _ => ?_)
            have z0 : Below u7.heap.size u7 wd := hqd.below _
            refine mix_mw (v := (.int .i64 T.2)) rfl (by kernel_rfl) rfl (.inl rfl) (by kernel_rfl) ?_
            try (rw [set_lit]; dsimp only [List.set])
            refine mix_mw (v := (.int .i64 T.2)) rfl (by kernel_rfl) rfl (.inl rfl) (by kernel_rfl) ?_
            try (rw [set_lit]; dsimp only [List.set])
            refine mix_bin (p := (.int .i64 T.2)) (q := (.int .i64 T.2)) (v := .bool false) rfl (by kernel_rfl) rfl rfl (ne34 _ _ _) (by kernel_rfl) (by kernel_rfl) ?_
            try (rw [set_lit]; dsimp only [List.set])
            refine mix_mw (v := (.bool false)) rfl (by kernel_rfl) rfl (.inl rfl) (by kernel_rfl) ?_
            try (rw [set_lit]; dsimp only [List.set])
            refine mix_mw (v := (.int .i64 N.2)) rfl (by kernel_rfl) rfl (.inl rfl) (by kernel_rfl) ?_
            try (rw [set_lit]; dsimp only [List.set])
            refine mix_mw (v := (.int .i64 N.2)) rfl (by kernel_rfl) rfl (.inl rfl) (by kernel_rfl) ?_
            try (rw [set_lit]; dsimp only [List.set])
            refine mix_bin (p := (.int .i64 N.2)) (q := (.int .i64 N.2)) (v := .bool false) rfl (by kernel_rfl) rfl rfl (ne34 _ _ _) (by kernel_rfl) (by kernel_rfl) ?_
            try (rw [set_lit]; dsimp only [List.set])
            refine mix_pick false rfl (by kernel_rfl) rfl rfl (by kernel_rfl) (v := .bool false) (by kernel_rfl) ?_
            try (rw [set_lit]; dsimp only [List.set])
            refine mix_mw (v := (.bool false)) rfl (by kernel_rfl) rfl (.inl rfl) (by kernel_rfl) ?_
            try (rw [set_lit]; dsimp only [List.set])
            refine mix_mw (v := (.int .i64 S.2)) rfl (by kernel_rfl) rfl (.inl rfl) (by kernel_rfl) ?_
            try (rw [set_lit]; dsimp only [List.set])
            refine mix_mw (v := (.int .i64 S.2)) rfl (by kernel_rfl) rfl (.inl rfl) (by kernel_rfl) ?_
            try (rw [set_lit]; dsimp only [List.set])
            refine mix_bin (p := (.int .i64 S.2)) (q := (.int .i64 S.2)) (v := .bool false) rfl (by kernel_rfl) rfl rfl (ne34 _ _ _) (by kernel_rfl) (by kernel_rfl) ?_
            try (rw [set_lit]; dsimp only [List.set])
            refine mix_pick false rfl (by kernel_rfl) rfl rfl (by kernel_rfl) (v := .bool false) (by kernel_rfl) ?_
            try (rw [set_lit]; dsimp only [List.set])
            refine mix_mw (v := (.bool false)) rfl (by kernel_rfl) rfl (.inl rfl) (by kernel_rfl) ?_
            try (rw [set_lit]; dsimp only [List.set])
            refine mix_mw (v := (.int .i64 S.1.1)) rfl (by kernel_rfl) rfl (.inl rfl) (by kernel_rfl) ?_
            try (rw [set_lit]; dsimp only [List.set])
            refine mix_mw (v := (.int .i64 S.1.1)) rfl (by kernel_rfl) rfl (.inl rfl) (by kernel_rfl) ?_
            try (rw [set_lit]; dsimp only [List.set])
            refine mix_bin (p := (.int .i64 S.1.1)) (q := (.int .i64 S.1.1)) (v := .bool false) rfl (by kernel_rfl) rfl rfl (ne3 _ _ _) (by kernel_rfl) (by kernel_rfl) ?_
            try (rw [set_lit]; dsimp only [List.set])
            refine mix_pick false rfl (by kernel_rfl) rfl rfl (by kernel_rfl) (v := .bool false) (by kernel_rfl) ?_
            try (rw [set_lit]; dsimp only [List.set])
            refine mix_mw (v := (.bool false)) rfl (by kernel_rfl) rfl (.inl rfl) (by kernel_rfl) ?_
            try (rw [set_lit]; dsimp only [List.set])
            refine mix_mw (v := (.int .i64 S.1.2)) rfl (by kernel_rfl) rfl (.inl rfl) (by kernel_rfl) ?_
            try (rw [set_lit]; dsimp only [List.set])
            refine mix_mw (v := (.int .i64 S.1.2)) rfl (by kernel_rfl) rfl (.inl rfl) (by kernel_rfl) ?_
            try (rw [set_lit]; dsimp only [List.set])
            refine mix_bin (p := (.int .i64 S.1.2)) (q := (.int .i64 S.1.2)) (v := .bool false) rfl (by kernel_rfl) rfl rfl (ne3 _ _ _) (by kernel_rfl) (by kernel_rfl) ?_
            try (rw [set_lit]; dsimp only [List.set])
            refine mix_pick false rfl (by kernel_rfl) rfl rfl (by kernel_rfl) (v := .bool false) (by kernel_rfl) ?_
            try (rw [set_lit]; dsimp only [List.set])
            refine mix_mw (v := (.bool false)) rfl (by kernel_rfl) rfl (.inl rfl) (by kernel_rfl) ?_
            try (rw [set_lit]; dsimp only [List.set])
            refine mix_mw (v := u24) rfl (by kernel_rfl) rfl (.inl rfl) (by kernel_rfl) ?_
            try (rw [set_lit]; dsimp only [List.set])
            refine mix_mw (v := u26) rfl (by kernel_rfl) rfl (.inl rfl) (by kernel_rfl) ?_
            try (rw [set_lit]; dsimp only [List.set])
            refine mix_eff3 rfl false rfl (fun K hK => ?_)
            refine stw_fn (by kernel_rfl) rfl rfl ent31 rfl rfl (by kernel_rfl) (sameRanges_q (hR24.call z0) (hR26.call z0)) ?_
            rintro e' y1 ⟨⟨bb, rfl, hbb⟩, hq1⟩
            obtain rfl : bb = true := hbb.2 rfl
            have z1 := z0.trans ((hq1.below _).mono z0.size)
            refine ⟨_, rfl, ?_⟩
            refine hK _ _ (hG _ z1) ?_
            try (rw [set_lit]; dsimp only [List.set])
            clear hK K
            refine mix_not true rfl (by kernel_rfl) rfl rfl (by kernel_rfl) ?_
            try (rw [set_lit]; dsimp only [List.set])
            refine mix_pick false rfl (by kernel_rfl) rfl rfl (by kernel_rfl) (v := .bool false) (by kernel_rfl) ?_
            try (rw [set_lit]; dsimp only [List.set])
            refine mix_mw (v := (.bool false)) rfl (by kernel_rfl) rfl (.inl rfl) (by kernel_rfl) ?_
            try (rw [set_lit]; dsimp only [List.set])
            refine mix_mw (v := u28) rfl (by kernel_rfl) rfl (.inl rfl) (by kernel_rfl) ?_
            try (rw [set_lit]; dsimp only [List.set])
            refine mix_mw (v := u30) rfl (by kernel_rfl) rfl (.inl rfl) (by kernel_rfl) ?_
            try (rw [set_lit]; dsimp only [List.set])
            refine mix_eff3 rfl false rfl (fun K hK => ?_)
            refine stw_fn (by kernel_rfl) rfl rfl ent47 rfl rfl (by kernel_rfl) (sameInts_q (hR28.call z1) (hR30.call z1)) ?_
            rintro e' y2 ⟨rfl, hq2⟩
            rw [beq_self_eq_true]
            have z2 := z1.trans ((hq2.below _).mono z1.size)
            refine ⟨_, rfl, ?_⟩
            refine hK _ _ (hG _ z2) ?_
            try (rw [set_lit]; dsimp only [List.set])
            clear hK K
            refine mix_not true rfl (by kernel_rfl) rfl rfl (by kernel_rfl) ?_
            try (rw [set_lit]; dsimp only [List.set])
            refine mix_pick false rfl (by kernel_rfl) rfl rfl (by kernel_rfl) (v := .bool false) (by kernel_rfl) ?_
            try (rw [set_lit]; dsimp only [List.set])
            refine mix_mw (v := (.bool false)) rfl (by kernel_rfl) rfl (.inl rfl) (by kernel_rfl) ?_
            try (rw [set_lit]; dsimp only [List.set])
            refine mix_ld (p := ⟨b9, 0, none⟩) (v := (.agg #[.int .i64 y.points, .int .i64 y.bend, .slice ao y.claims.length co])) rfl (by kernel_rfl) rfl rfl (fun w' h => by have h : (RowU b9 y (.slice ao y.claims.length co) q1 i (.slice ay y.claims.length cy) q2 (.slice av g.length cv) q3 ir q4 ia) w' := h; have e0 := h.1.cell 0; have e1 := h.1.cell 1; have e2 := h.1.cell 2; go_simp) (by kernel_rfl) ?_
            try (rw [set_lit]; dsimp only [List.set])
            refine mix_mw (v := (.slice (some ⟨q1, 0, none⟩) 4 4)) rfl (by kernel_rfl) rfl (.inl rfl) (by kernel_rfl) ?_
            try (rw [set_lit]; dsimp only [List.set])
            refine mix_mw (v := (.int .i64 (i : Int))) rfl (by kernel_rfl) rfl (.inl rfl) (by kernel_rfl) ?_
            try (rw [set_lit]; dsimp only [List.set])
            refine mix_ix (p := (.slice (some ⟨q1, 0, none⟩) 4 4)) (q := (.int .i64 (i : Int))) (v := (.pointer (some ⟨q1, i * 3, none⟩))) rfl (by kernel_rfl) rfl rfl (fun w => ix29 hlt w) (by kernel_rfl) (by kernel_rfl) ?_
            try (rw [set_lit]; dsimp only [List.set])
            refine mix_ld (p := ⟨q1, i * 3, none⟩) (v := (.agg #[.int .i64 y.points, .int .i64 y.bend, .slice ay y.claims.length cy])) rfl (by kernel_rfl) rfl rfl (fun w' h => by have h : (RowU b9 y (.slice ao y.claims.length co) q1 i (.slice ay y.claims.length cy) q2 (.slice av g.length cv) q3 ir q4 ia) w' := h; have e0 := h.2.1.1; have e1 := h.2.1.2.1; have e2 := h.2.1.2.2; go_simp) (by kernel_rfl) ?_
            try (rw [set_lit]; dsimp only [List.set])
            refine mix_eff3 rfl false rfl (fun K hK => ?_)
            refine stw_fn (by kernel_rfl) rfl rfl ent32 rfl rfl (by kernel_rfl) (sameEdges_c (hO7.call z2) (hC4.call (bnx hBu7 z2))) ?_
            rintro e' y3 ⟨rfl, hy3⟩
            have z3 := z2.trans (hy3.mono z2.size)
            refine ⟨_, rfl, ?_⟩
            refine hK _ _ (hG _ z3) ?_
            try (rw [set_lit]; dsimp only [List.set])
            clear hK K
            refine mix_not true rfl (by kernel_rfl) rfl rfl (by kernel_rfl) ?_
            try (rw [set_lit]; dsimp only [List.set])
            refine mix_pick false rfl (by kernel_rfl) rfl rfl (by kernel_rfl) (v := .bool false) (by kernel_rfl) ?_
            try (rw [set_lit]; dsimp only [List.set])
            refine mix_mw (v := (.bool false)) rfl (by kernel_rfl) rfl (.inl rfl) (by kernel_rfl) ?_
            try (rw [set_lit]; dsimp only [List.set])
            refine mix_mw (v := (.slice ap g.length cp)) rfl (by kernel_rfl) rfl (.inl rfl) (by kernel_rfl) ?_
            try (rw [set_lit]; dsimp only [List.set])
            refine mix_mw (v := (.slice (some ⟨q2, 0, none⟩) 4 4)) rfl (by kernel_rfl) rfl (.inl rfl) (by kernel_rfl) ?_
            try (rw [set_lit]; dsimp only [List.set])
            refine mix_mw (v := (.int .i64 (i : Int))) rfl (by kernel_rfl) rfl (.inl rfl) (by kernel_rfl) ?_
            try (rw [set_lit]; dsimp only [List.set])
            refine mix_ix (p := (.slice (some ⟨q2, 0, none⟩) 4 4)) (q := (.int .i64 (i : Int))) (v := (.pointer (some ⟨q2, i, none⟩))) rfl (by kernel_rfl) rfl rfl (fun w => ix48 hlt w) (by kernel_rfl) (by kernel_rfl) ?_
            try (rw [set_lit]; dsimp only [List.set])
            refine mix_ld (p := ⟨q2, i, none⟩) (v := (.slice av g.length cv)) rfl (by kernel_rfl) rfl rfl (fun w' h => by have h : (RowU b9 y (.slice ao y.claims.length co) q1 i (.slice ay y.claims.length cy) q2 (.slice av g.length cv) q3 ir q4 ia) w' := h; have e0 := h.2.2.1; go_simp) (by kernel_rfl) ?_
            try (rw [set_lit]; dsimp only [List.set])
            refine mix_eff3 rfl false rfl (fun K hK => ?_)
            refine stw_fn (by kernel_rfl) rfl rfl ent40 rfl rfl (by kernel_rfl) (sameFurrows_q (hP7.call z3) (hG4.call (bnx hBu7 z3))) ?_
            rintro e' y4 ⟨⟨bb, rfl, hbb⟩, hq4⟩
            obtain rfl : bb = true := hbb.2 rfl
            have z4 := z3.trans ((hq4.below _).mono z3.size)
            refine ⟨_, rfl, ?_⟩
            refine hK _ _ (hG _ z4) ?_
            try (rw [set_lit]; dsimp only [List.set])
            clear hK K
            refine mix_not true rfl (by kernel_rfl) rfl rfl (by kernel_rfl) ?_
            try (rw [set_lit]; dsimp only [List.set])
            refine mix_pick false rfl (by kernel_rfl) rfl rfl (by kernel_rfl) (v := .bool false) (by kernel_rfl) ?_
            try (rw [set_lit]; dsimp only [List.set])
            refine mix_done2 ?_
            go_wp2_with fail
            go_meet
            case rel => exact ⟨rfl, z4⟩
          case rest =>
          obtain ⟨rfl, hz8⟩ := hcut
          go_wp2_with fail
          go_roundw
          case rel => exact ⟨i + 1, by omega, by go_num, hBu7.trans (hz8.mono hBu7.size)⟩
          case measure => simp [intOf]; omega
        · obtain rfl : i = 4 := by omega
          go_wp2_with fail
          refine (surveyed_c _).mono ?_
          rintro e u1 ⟨rfl, hU1⟩
          go_wp2_with fail
          go_ret
          exact ⟨rfl, bnx (bnx hBz hBr) hU1⟩

end Go.Proofs.Ytgdifckmjdjcpaa
