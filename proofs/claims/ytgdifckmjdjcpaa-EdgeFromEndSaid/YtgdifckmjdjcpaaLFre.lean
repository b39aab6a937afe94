/- EdgeFromEnd: what its walk hands back; conditions: the argument reads as a list of numbers. -/
import Derived.Test.YtgdifckmjdjcpaaStp
import Derived.Test.YtgdifckmjdjcpaaSur
import Derived.Test.YtgdifckmjdjcpaaFof
import Derived.Test.YtgdifckmjdjcpaaMir1
import Derived.Test.YtgdifckmjdjcpaaCpf
namespace Go.Proofs.Ytgdifckmjdjcpaa
open Go.RowKit

theorem own_shape2 {B : Nat} {w : World} {ao : Option Addr} {n m cap sz : Nat} {e : TypeId} {l : List Value} (h : Own B w e sz (.slice ao n cap) m l) (hn : 0 < m) : ∃ g, ao = some ⟨g, 0, none⟩ := by
  rcases h.2 with ⟨_, h0⟩ | ⟨g, cap, cur, hv, _, _, _⟩
  · omega
  · injection hv with h1
    exact ⟨g, h1⟩
/-- A list, some of it changed. -/
def mpK {α : Type} (f : α → α) (l : List α) (k : Nat) : List α := (l.take k).map f ++ l.drop k
theorem mpK_len {α : Type} (f : α → α) (l : List α) (k : Nat) : (mpK f l k).length = l.length := by
  unfold mpK
  rw [List.length_append, List.length_map, List.length_take, List.length_drop]
  omega
theorem mpK_zero {α : Type} (f : α → α) (l : List α) : mpK f l 0 = l := rfl
theorem mpK_all {α : Type} (f : α → α) (l : List α) : mpK f l l.length = l.map f := by
  unfold mpK
  rw [List.take_length, List.drop_length, List.append_nil]
theorem mpK_at {α : Type} {f : α → α} {l : List α} {k : Nat} (hk : k < l.length) : (mpK f l k)[k]'(by rw [mpK_len]; exact hk) = l[k] := by
  unfold mpK
  rw [List.getElem_append_right (by simp; omega)]
  simp only [List.length_map, List.length_take, List.getElem_drop]
  congr 1
  omega
theorem mpK_succ {α : Type} {f : α → α} {l : List α} {k : Nat} (hk : k < l.length) : (mpK f l k).set k (f l[k]) = mpK f l (k + 1) := by
  unfold mpK
  rw [List.set_append_right _ _ (by simp; omega), List.drop_eq_getElem_cons hk, List.take_succ_eq_append_getElem hk, List.map_append, List.append_assoc]
  congr 1
  rw [show k - (List.map f (List.take k l)).length = 0 by simp; omega]
  rfl
/-- Furrows in a row of the call's own. -/
def FR (N g n cap : Nat) (l : List Fu) (w : World) : Prop := Own N w 76 3 (.slice (some ⟨g, 0, none⟩) n cap) n (l.flatMap fcells)
theorem FR.len {N g n cap : Nat} {l : List Fu} {w : World} (h : FR N g n cap l w) : l.length = n := by
  have := (show World.ownsRow _ _ _ _ _ _ _ from h).1
  rw [flat_len fcells_len] at this
  omega
theorem FR.at {N g n cap : Nat} {l : List Fu} {w : World} (h : FR N g n cap l w) {k : Nat} (hk : k < l.length) : w.cell? ⟨g, k * 3, none⟩ = some (.int .i64 l[k].point) := by
  have hl := h.len
  have h0 := flat_at fcells_len l k hk 0 (by decide)
  rw [Nat.add_zero] at h0
  rw [World.ownsRow.cellAt h _ (by omega)]
  exact h0
theorem FR.free {N g n cap : Nat} {l : List Fu} {w : World} (h : FR N g n cap l w) (j : Nat) : w.frozen? ⟨g, j, none⟩ = false := own_free h j
theorem FR.set {N g n cap : Nat} {l : List Fu} {w : World} (h : FR N g n cap l w) {k : Nat} (hk : k < l.length) (v : Value) (c' : Fu) (hc : fcells c' = (fcells l[k]).set 0 v) : FR N g n cap (l.set k c') (w.setCell ⟨g, k * 3, none⟩ v) := by
  have h1 := (World.ownsRow.stored h (k * 3) v).1
  have h2 := flat_set1 fcells_len l k hk 0 (by decide) v c' hc
  rw [Nat.add_zero] at h2
  rw [h2] at h1
  exact h1
/-- What is read of the spans. -/
def R2 (g o : Nat) (V : Int × Int) (w : World) : Prop := w.cell? ⟨g, o, none⟩ = some (.int .i64 V.1) ∧ w.cell? ⟨g, o + 1, none⟩ = some (.int .i64 V.2)
def FeR (ga oa : Nat) (Va : Int × Int) (gb ob : Nat) (Vb : Int × Int) (gc oc : Nat) (Vc : Int × Int) (gd od : Nat) (Vd : Int × Int) (w : World) : Prop := R2 ga oa Va w ∧ R2 gb ob Vb w ∧ R2 gc oc Vc w ∧ R2 gd od Vd w
theorem bothX_ok {x : Edg} (hx : x.Ok) {l : List Fu} (hf : furX x.points l = 0) : bothX x l = 0 := by
  unfold bothX
  rw [if_neg (not_not_intro (checkX_zero.2 hx))]
  exact hf
theorem taken_no {x : Edg} (hx : x.Ok) {l : List Fu} (hf : furX x.points l = 0) (hb : bndF x = none) {y : Int} (hy : 0 ≤ y ∧ y ≤ 30) : takenX x l y = ([], 12) := by
  unfold takenX
  rw [if_neg (not_not_intro (bothX_ok hx hf)), btwB_iff.2 hy, if_neg (by decide), hb]
theorem taken_ok {x : Edg} (hx : x.Ok) {l : List Fu} (hf : furX x.points l = 0) {s : Bs} (hb : bndF x = some s) {y : Int} (hy : 0 ≤ y ∧ y ≤ 30) : takenX x l y = (tkL l s y x.n, 0) := by
  unfold takenX
  rw [if_neg (not_not_intro (bothX_ok hx hf)), btwB_iff.2 hy, if_neg (by decide), hb]
  rfl
/-- The law of points from the other end. -/
theorem end_law {x : Edg} (hx : x.Ok) {L : List Fu} (hf : furX x.points L = 0) {y : Int} (hy : 0 ≤ y ∧ y ≤ 30) : ∃ T : Int, 0 ≤ T ∧ countX x = (T, 0) ∧ countX (endX x) = (T, 0) ∧ wrongX (endX x) = wrongX x ∧ (wrongX x).2 = 0 ∧
    ((T = 0 ∧ takenX x L y = ([], 12) ∧ takenX (endX x) (L.map (endFu x.points)) y = ([], 12) ∧ boundsX x = ([], 12) ∧ boundsX (endX x) = ([], 12)) ∨
      T ≠ 0 ∧ ∃ (s s' : Bs) (A B : List (Int × Int)), takenX x L y = (A, 0) ∧ takenX (endX x) (L.map (endFu x.points)) y = (B, 0) ∧ boundsX x = (s, 0) ∧ boundsX (endX x) = (s', 0) ∧ A.length = x.n ∧ B.length = x.n ∧ s.length = x.n ∧ s'.length = x.n ∧
        ∀ (p q : Nat), p + q + 1 = x.n → ∀ (h1 : p < A.length) (h2 : q < B.length) (h3 : p < s.length) (h4 : q < s'.length), A[p] = B[q] ∧ s[p] = s'[q]) := by
  have hy2 := endX_ok hx
  have hck : ¬ checkX x ≠ 0 := not_not_intro (checkX_zero.2 hx)
  have hcy : ¬ checkX (endX x) ≠ 0 := not_not_intro (checkX_zero.2 hy2)
  have hfe := endFu_ok hf
  refine ⟨((truthsF x).length : Int), by omega, ?_, ?_, ?_, ?_, ?_⟩
  · unfold countX; rw [if_neg hck]
  · unfold countX; rw [if_neg hcy, ← end_count hx]
  · unfold wrongX; rw [if_neg hck, if_neg hcy, end_wrong hx]
  · unfold wrongX; rw [if_neg hck]
  · rcases bnd_cases hx with ⟨ht, hb, -⟩ | ⟨s, hs, hb, -⟩
    · have ht' : truthsF (endX x) = [] := by
        have := end_count hx
        rw [ht] at this
        exact List.length_eq_zero_iff.1 this.symm
      refine .inl ⟨by rw [ht]; rfl, taken_no hx hf hb hy, taken_no hy2 hfe (bndF_none.2 ht') hy, ?_, ?_⟩
      · unfold boundsX; rw [if_neg hck, hb]
      · unfold boundsX; rw [if_neg hcy, bndF_none.2 ht']
    · have hs' := end_bnd hx hs
      have hlen := hs.len
      have hn' : (endX x).n = x.n := rfl
      refine .inr ⟨?_, s, s.reverse, tkL L s y x.n, tkL (L.map (endFu x.points)) s.reverse y x.n, taken_ok hx hf hb hy, ?_, ?_, ?_, tkL_len _ _ _ _, tkL_len _ _ _ _, hlen, by rw [List.length_reverse]; exact hlen, fun p q hpq h1 h2 h3 h4 => ⟨?_, ?_⟩⟩
      · have := List.length_pos_iff.2 (bndF_some hb)
        omega
      · rw [← hn']
        exact taken_ok hy2 hfe hs'.eq hy
      · unfold boundsX; rw [if_neg hck, hb]
      · unfold boundsX; rw [if_neg hcy, hs'.eq]
      · have h := end_tkE hx hs L (p := p) (by omega) y
        rw [show x.n - 1 - p = q by omega] at h
        simp only [tkL, List.getElem_map, List.getElem_range]
        exact h.symm
      · rw [List.getElem_reverse]
        congr 1
        omega

set_option maxRecDepth 100000 in
set_option maxHeartbeats 100000000 in
theorem edgeFromEnd_c {A : Nat → Prop} {w : World} {v : Value} {l : List Int} (h : Ints A w v l) : Calls Try.prog 11 #[v] w fun e w' => e = .returned (.bool true) ∧ Below w.heap.size w w' := by
  obtain ⟨a0, c0, rfl, _, _⟩ := h.shape
  go_enter Try.func11, Try.ntmps11
  go_wp2_with fail
  refine (newHand_c h).mono ?_
  rintro e w1 ⟨rfl, hH1, hB1⟩
  have hsz1 := hH1.lt
  go_wp2_with fail
  refine (edgeOf_c hH1 (by omega) (pts := 4) (cl := 6) (by omega) (by omega)).mono ?_
  rintro e w2 ⟨⟨x, vx, rfl, hx, hx4, hx7, hO2⟩, ⟨k2, hk2, hH2⟩, hG2⟩
  have hB2 := bhand hB1 hG2 (Nat.le_refl _)
  obtain ⟨ax, cx, rfl⟩ := own_slice hO2
  obtain ⟨w3, hw3⟩ : ∃ w3, w3 = w2.alloc (.cells #[.int .i64 x.points, .int .i64 x.bend, .slice ax x.claims.length cx] 24) := ⟨_, rfl⟩
  obtain ⟨bx, hbx⟩ : ∃ b, b = w2.heap.size := ⟨_, rfl⟩
  have hX3 : Blk bx #[.int .i64 x.points, .int .i64 x.bend, .slice ax x.claims.length cx] 24 w3 := by rw [hw3, hbx]; exact Blk.new _ _ _
  have hB3 : Below w.heap.size w w3 := by rw [hw3]; exact bal2 hB2
  have hC3 : ClsM (fun q => w1.heap.size ≤ q) w3 (.slice ax x.claims.length cx) x.claims := by rw [hw3]; exact (hO2.cls).call ((Below.refl _ _).alloc (Nat.le_refl _) _)
  have hH3 : Hnd w3 w.heap.size k2 := by rw [hw3]; exact hH2.call ((Below.refl _ _).alloc (Nat.le_refl _) _)
  have hbw : w.heap.size < bx := by rw [hbx]; have := hG2.size; omega
  go_upto_region 3 with fail
  rw [← hw3, ← hbx]
  clear hw3 hbx hO2 hG2 hH1 hB1 hB2 hH2
  have c0 := hX3.cell 0
  have c1 := hX3.cell 1
  have c2 := hX3.cell 2
  go_wp2_with fail
  refine (furrowsOf_c hH3 (by omega) hx.p ax x.claims.length cx).mono ?_
  rintro e w4 ⟨⟨L, vf, rfl, hfx, hF4⟩, ⟨k4, hk4, hH4⟩, hG4⟩
  have hX4 := hX3.hand hG4 (by omega)
  have hC4 := Elems.only hC3 hG4 (by omega)
  have hB4 := bhand hB3 hG4 (Nat.le_refl _)
  obtain ⟨af, cf, rfl⟩ := own_slice hF4
  have hF4 : FusM (fun q => w3.heap.size ≤ q) w4 (.slice af L.length cf) L := hF4.fus
  have hz34 : w.heap.size < w3.heap.size := by have := hX3.lt; omega
  clear c0 c1 c2 hX3 hC3 hB3 hG4 hH3
  go_wp2_with fail
  refine (upto_c hH4 (by omega) 30 (by omega) (by omega)).mono ?_
  rintro e w5 ⟨⟨yr, rfl, hyr, hyrb⟩, ⟨k5, hk5, hH5⟩, hG5⟩
  have hX5 := hX4.hand hG5 (by omega)
  have hC5 := Elems.only hC4 hG5 (by omega)
  have hF5 := Elems.only hF4 hG5 (by omega)
  have hB5 := bhand hB4 hG5 (Nat.le_refl _)
  clear hX4 hC4 hF4 hB4 hG5 hH4
  have hL8 := (furX_facts hfx).1
  have hx6 : x.claims.length ≤ 6 := by omega
  have c0 := hX5.cell 0
  have c1 := hX5.cell 1
  have c2 := hX5.cell 2
  go_wp2_with fail
  refine (copyEdge_c hC5 (by omega)).mono ?_
  rintro e w6 ⟨vy, rfl, hOy6, hS6⟩
  obtain ⟨ay, cy, rfl⟩ := own_slice hOy6
  go_wp2_with fail
  refine (copyFurrows_c (hF5.call hS6) (by omega)).mono ?_
  rintro e w7 ⟨vk, rfl, hOk7, hS7⟩
  obtain ⟨ak, ck, rfl⟩ := own_slice hOk7
  obtain ⟨w8, hw8⟩ : ∃ w', w' = w7.alloc (.cells #[.int .i64 x.points, .int .i64 x.bend, .slice ay x.claims.length cy] 24) := ⟨_, rfl⟩
  obtain ⟨by0, hby0⟩ : ∃ b, b = w7.heap.size := ⟨_, rfl⟩
  obtain ⟨N1, hN1⟩ : ∃ N, N = w5.heap.size + 2 := ⟨_, rfl⟩
  obtain ⟨N2, hN2⟩ : ∃ N, N = w6.heap.size := ⟨_, rfl⟩
  have hY8 : Blk by0 #[.int .i64 x.points, .int .i64 x.bend, .slice ay x.claims.length cy] 24 w8 := by rw [hw8, hby0]; exact Blk.new _ _ _
  have hE8 : Below w7.heap.size w7 w8 := by rw [hw8]; exact (Below.refl _ _).alloc (Nat.le_refl _) _
  have hS58 := bnx (bnx hS6 hS7) hE8
  have hgy : ∀ g, ay = some ⟨g, 0, none⟩ → N1 ≤ g ∧ g < N2 := fun g e => by
    subst e
    have := World.ownsRow.lt hOy6 g rfl
    omega
  have hgk : ∀ g, ak = some ⟨g, 0, none⟩ → N2 ≤ g ∧ g < by0 := fun g e => by
    subst e
    have := World.ownsRow.lt hOk7 g rfl
    omega
  have hyb : ∀ q, Value.ownBlock (.slice ay x.claims.length cy) = some q → q < N2 := fun q e => by rw [hN2]; exact (World.ownsRow.lt hOy6 q e).2
  have hOy8 : Own N1 w8 26 5 (.slice ay x.claims.length cy) x.claims.length (x.claims.flatMap ccells) := by rw [hN1]; exact Own.call (Own.call hOy6 hS7) hE8
  have hOk8 : Own N2 w8 76 3 (.slice ak L.length ck) L.length (L.flatMap fcells) := by rw [hN2]; exact Own.call hOk7 hE8
  have hX8 := hX5.call hS58
  have hC8 := (hC5.wide (A' := fun q => q < w5.heap.size) fun q _ hq => hq).call hS58
  have hF8 := (hF5.wide (A' := fun q => q < w5.heap.size) fun q _ hq => hq).call hS58
  have hB8 := bnx hB5 hS58
  have hbx5 := hX5.lt
  have hz5 := hB5.size
  have hz6 := hS6.size
  have hz7 := hS7.size
  have hz8 := hY8.lt
  go_upto_region 5 with fail
  rw [← hw8, ← hby0]
  have hN1a : w5.heap.size + 2 ≤ N1 := by omega
  have hN1b : N1 ≤ w5.heap.size + 2 := by omega
  have hN2a : w6.heap.size ≤ N2 := by omega
  have hN2b : N2 ≤ w6.heap.size := by omega
  have hbya : w7.heap.size ≤ by0 := by omega
  have hbyb : by0 ≤ w7.heap.size := by omega
  clear hw8 hby0 hN1 hN2 hE8 hOy6 hOk7 hS6 hS7 hX5 hC5 hF5 hB5 c0 c1 c2 hS58 hH5
  have hpp := hx.p
  have bm1 : IntKind.i64.wrap (x.points - 1) = x.points - 1 := IntWalk.i64_in _ (by omega)
  have x0 := hX8.cell 0
  go_wp2_with fail
  clear x0
  go_loopw [10] (fun vi wr => ∃ k : Nat, k ≤ x.claims.length ∧ vi = .int .i64 k ∧ Own N1 wr 26 5 (.slice ay x.claims.length cy) x.claims.length ((mpK (endC x.points) x.claims k).flatMap ccells) ∧ Own N2 wr 76 3 (.slice ak L.length ck) L.length (L.flatMap fcells) ∧ Blk by0 #[.int .i64 x.points, .int .i64 x.bend, .slice ay x.claims.length cy] 24 wr ∧ Below N1 w8 wr) (fun vi _ => x.claims.length - (intOf vi).toNat)
  case atStart => exact ⟨0, Nat.zero_le _, rfl, hOy8, hOk8, hY8, Below.refl _ _⟩
  case round =>
    obtain ⟨k, hk, rfl, hOr, hKr, hYr, hBr⟩ := hrel
    have y2 := hYr.cell 2
    by_cases hltk : k < x.claims.length
    · obtain ⟨g, rfl⟩ := own_shape2 hOr (by omega)
      have hgb := hgy g rfl
      have hC : CO N1 g x.claims.length cy (mpK (endC x.points) x.claims k) wr := hOr
      have hkl : k < (mpK (endC x.points) x.claims k).length := by rw [mpK_len]; exact hltk
      have hok := hx.c _ (List.getElem_mem hltk)
      obtain ⟨c, hcc⟩ : ∃ c, c = x.claims[k] := ⟨_, rfl⟩
      have hat : (mpK (endC x.points) x.claims k)[k] = c := by rw [hcc]; exact mpK_at hltk
      have hsc := mpK_succ (f := endC x.points) hltk
      rw [← hcc] at hok hsc
      have HSC := Lib.hid hsc
      obtain ⟨d0, d1, d2, d3, d4⟩ := hC.at hkl
      rw [hat] at d1
      have f1 := hC.free (k * 5 + 1)
      have hpk := hok.p
      have bw1 : IntKind.i64.wrap (x.points - 1 - c.point) = x.points - 1 - c.point := IntWalk.i64_in _ (by omega)
      have hC1 := hC.set hkl 1 (by decide) (.int .i64 (x.points - 1 - c.point)) ⟨c.kind, x.points - 1 - c.point, c.other, c.off, c.err⟩ (by rw [hat]; rfl)
      have hY1 := hYr.other (a := ⟨g, k * 5 + 1, none⟩) (show by0 ≠ g by have := hgk; omega) (.int .i64 (x.points - 1 - c.point))
      have hK1 : Own N2 (wr.setCell ⟨g, k * 5 + 1, none⟩ (.int .i64 (x.points - 1 - c.point))) 76 3 (.slice ak L.length ck) L.length (L.flatMap fcells) := hKr.step fun q hq _ _ => Below.heap_setCell _ _ _ _ (fun e => by have e : q = g := e; have := (World.ownsRow.lt hKr q hq).1; omega)
      have hB1 := hBr.setCell (p := ⟨g, k * 5 + 1, none⟩) hgb.1 (.int .i64 (x.points - 1 - c.point))
      clear hcc hsc d0 d2 d3 d4
      go_upto_region 11 with fail
      generalize wr.setCell ⟨g, k * 5 + 1, none⟩ (.int .i64 (x.points - 1 - c.point)) = wq at hC1 hY1 hK1 hB1 ⊢
      have hkl1 : k < ((mpK (endC x.points) x.claims k).set k ⟨c.kind, x.points - 1 - c.point, c.other, c.off, c.err⟩).length := by rw [List.length_set]; exact hkl
      obtain ⟨d0, -, d2, -, -⟩ := hC1.at hkl1
      rw [List.getElem_set_self] at d0 d2
      clear d1 f1 y2
      simp only at d0 d2
      have ho := hok.o
      by_cases k5 : c.kind = 5
      · rw [if_pos k5] at ho
        have b5 : (c.kind == 5) = true := by rw [beq_iff_eq]; exact k5
        have bw2 : IntKind.i64.wrap (x.points - 1 - c.other) = x.points - 1 - c.other := IntWalk.i64_in _ (by omega)
        have f2 := hC1.free (k * 5 + 2)
        have hec : endC x.points c = ⟨c.kind, x.points - 1 - c.point, x.points - 1 - c.other, c.off, c.err⟩ := by unfold endC; rw [if_pos k5]
        have hC2 := hC1.set hkl1 2 (by decide) (.int .i64 (x.points - 1 - c.other)) ⟨c.kind, x.points - 1 - c.point, x.points - 1 - c.other, c.off, c.err⟩ (by rw [List.getElem_set_self]; rfl)
        rw [List.set_set, ← hec, HSC.out] at hC2
        have hY2 := hY1.other (a := ⟨g, k * 5 + 2, none⟩) (show by0 ≠ g by omega) (.int .i64 (x.points - 1 - c.other))
        have hK2 : Own N2 (wq.setCell ⟨g, k * 5 + 2, none⟩ (.int .i64 (x.points - 1 - c.other))) 76 3 (.slice ak L.length ck) L.length (L.flatMap fcells) := hK1.step fun q hq _ _ => Below.heap_setCell _ _ _ _ (fun e => by have e : q = g := e; have := (World.ownsRow.lt hK1 q hq).1; omega)
        have hB2 := hB1.setCell (p := ⟨g, k * 5 + 2, none⟩) hgb.1 (.int .i64 (x.points - 1 - c.other))
        clear hec
        go_wp2_with fail
        go_roundw
        case rel => exact ⟨k + 1, by omega, by go_num, hC2, hK2, hY2, hB2⟩
        case measure => simp [intOf]; omega
      · have b5 : (c.kind == 5) = false := by rw [beq_eq_false_iff_ne]; exact k5
        have hec : endC x.points c = ⟨c.kind, x.points - 1 - c.point, c.other, c.off, c.err⟩ := by unfold endC; rw [if_neg k5]
        rw [← hec, HSC.out] at hC1
        clear hec d2
        go_wp2_with fail
        go_roundw
        case rel => exact ⟨k + 1, by omega, by go_num, hC1, hK1, hY1, hB1⟩
        case measure => simp [intOf]; omega
    · obtain rfl : k = x.claims.length := by omega
      rw [mpK_all] at hOr
      clear hOy8 hOk8 hY8
      go_wp2_with fail
      go_loopw [12] (fun vi wq => ∃ k : Nat, k ≤ L.length ∧ vi = .int .i64 k ∧ Own N2 wq 76 3 (.slice ak L.length ck) L.length ((mpK (endFu x.points) L k).flatMap fcells) ∧ Blk by0 #[.int .i64 x.points, .int .i64 x.bend, .slice ay x.claims.length cy] 24 wq ∧ Below N2 wr wq) (fun vi _ => L.length - (intOf vi).toNat)
      case atStart => exact ⟨0, Nat.zero_le _, rfl, hKr, hYr, Below.refl _ _⟩
      case round =>
        rename World => wq
        obtain ⟨j, hj, rfl, hKq, hYq, hBq⟩ := hrel
        by_cases hltj : j < L.length
        · obtain ⟨g, rfl⟩ := own_shape2 hKq (by omega)
          have hgb := hgk g rfl
          have hO : FR N2 g L.length ck (mpK (endFu x.points) L j) wq := hKq
          have hkl : j < (mpK (endFu x.points) L j).length := by rw [mpK_len]; exact hltj
          have hfo := (furX_zero.1 hfx).2.1 _ (List.getElem_mem hltj)
          obtain ⟨c, hcc⟩ : ∃ c, c = L[j] := ⟨_, rfl⟩
          have hat : (mpK (endFu x.points) L j)[j] = c := by rw [hcc]; exact mpK_at hltj
          have hsc := mpK_succ (f := endFu x.points) hltj
          rw [← hcc] at hfo hsc
          have d0 := hO.at hkl
          rw [hat] at d0
          have f0 := hO.free (j * 3)
          have hpk := hfo.1
          have bw1 : IntKind.i64.wrap (x.points - 1 - c.point) = x.points - 1 - c.point := IntWalk.i64_in _ (by omega)
          have hO1 := hO.set hkl (.int .i64 (x.points - 1 - c.point)) (endFu x.points c) (by rw [hat]; rfl)
          rw [hsc] at hO1
          have hB1 := hBq.setCell (p := ⟨g, j * 3, none⟩) hgb.1 (.int .i64 (x.points - 1 - c.point))
          clear hcc hsc hat
          go_wp2_with fail
          go_roundw
          case rel => exact ⟨j + 1, by omega, by go_num, hO1, hYq.other (a := ⟨g, j * 3, none⟩) (show by0 ≠ g by omega) _, hB1⟩
          case measure => simp [intOf]; omega
        · obtain rfl : j = L.length := by omega
          rw [mpK_all] at hKq
          have hBz := (hBr.mono (show w5.heap.size ≤ N1 by omega)).trans (hBq.mono (show w5.heap.size ≤ N2 by omega))
          have hX0 := hX8.below hBz (by omega)
          have hC0 := (hC8.below hBz fun q hq _ => by omega).wide (A' := fun _ => True) fun _ _ _ => trivial
          have hF0 := (hF8.below hBz fun q hq _ => by omega).wide (A' := fun _ => True) fun _ _ _ => trivial
          have hB0 := hB8.trans (hBz.mono (by omega))
          have hO0 : Own N1 wq 26 5 (.slice ay x.claims.length cy) x.claims.length ((x.claims.map (endC x.points)).flatMap ccells) := hOr.step fun q hq _ _ => hBq.block q (hyb q hq)
          have hD0 : ClsM (fun _ => True) wq (.slice ay x.claims.length cy) (endX x).claims := by
            have e : (endX x).claims.length = x.claims.length := List.length_map ..
            have h1 := Own.cls (l := (endX x).claims) (B := N1) (w := wq) (v := .slice ay x.claims.length cy) (by rw [e]; exact hO0)
            exact h1.wide fun _ _ _ => trivial
          have hG0 : FusM (fun _ => True) wq (.slice ak L.length ck) (L.map (endFu x.points)) := by
            have e : (L.map (endFu x.points)).length = L.length := List.length_map ..
            have h1 := Own.fus (l := L.map (endFu x.points)) (B := N2) (w := wq) (v := .slice ak L.length ck) (by rw [e]; exact hKq)
            exact h1.wide fun _ _ _ => trivial
          have hY0 := hYq
          clear hOr hKr hYr hBr hKq hYq hBq hBz hX8 hC8 hF8 hB8 hO0 y2 hgy hgk
          obtain ⟨T, hT0, l1, l2, l3, l4, hlaw⟩ := end_law hx hfx (y := yr) (by omega)
          obtain ⟨W, hW⟩ : ∃ W, wrongX x = (W, 0) := ⟨(wrongX x).1, Prod.ext rfl l4⟩
          rw [hW] at l3
          clear l4
          obtain ⟨w0, hw0⟩ : ∃ u, u = wq := ⟨_, rfl⟩
          rw [← hw0] at hX0 hC0 hF0 hB0 hD0 hG0 hY0 ⊢
          clear hw0
          have hcon := count25_c hC0
          rw [l1] at hcon
          have HCON := Lib.hid hcon
          clear hcon
          have x0 := hX0.cell 0
          have x1 := hX0.cell 1
          have x2 := hX0.cell 2
          go_wp2_with fail
          refine HCON.out.mono ?_
          rintro e w1 ⟨rfl, hS1⟩
          have hX1 := hX0.call hS1
          have hC1 := hC0.call hS1
          have hF1 := hF0.call hS1
          have hY1 := hY0.call hS1
          have hD1 := hD0.call hS1
          have hG1 := hG0.call hS1
          have hB1 := bnx hB0 hS1
          clear HCON x0 x1 x2 hX0 hC0 hF0 hY0 hD0 hG0 hB0
          have hcon := count25_c (x := endX x) hD1
          rw [show (endX x).points = x.points from rfl, show (endX x).bend = x.bend from rfl, l2] at hcon
          have HCON := Lib.hid hcon
          clear hcon
          have y0 := hY1.cell 0
          have y1 := hY1.cell 1
          have y2 := hY1.cell 2
          go_wp2_with fail
          refine HCON.out.mono ?_
          rintro e w2 ⟨rfl, hS2⟩
          have hX2 := hX1.call hS2
          have hC2 := hC1.call hS2
          have hF2 := hF1.call hS2
          have hY2 := hY1.call hS2
          have hD2 := hD1.call hS2
          have hG2 := hG1.call hS2
          have hB2 := bnx hB1 hS2
          clear HCON y0 y1 y2 hX1 hC1 hF1 hY1 hD1 hG1 hB1
          have hcon := wrong_c hC2
          rw [hW] at hcon
          have HCON := Lib.hid hcon
          clear hcon
          have x0 := hX2.cell 0
          have x1 := hX2.cell 1
          have x2 := hX2.cell 2
          go_wp2_with fail
          refine HCON.out.mono ?_
          rintro e w3 ⟨v3, rfl, hV3, hS3⟩
          have hX3 := hX2.call hS3
          have hC3 := hC2.call hS3
          have hF3 := hF2.call hS3
          have hY3 := hY2.call hS3
          have hD3 := hD2.call hS3
          have hG3 := hG2.call hS3
          have hB3 := bnx hB2 hS3
          clear HCON x0 x1 x2 hX2 hC2 hF2 hY2 hD2 hG2 hB2
          have hcon := wrong_c (x := endX x) hD3
          rw [show (endX x).points = x.points from rfl, show (endX x).bend = x.bend from rfl, l3] at hcon
          have HCON := Lib.hid hcon
          clear hcon
          have y0 := hY3.cell 0
          have y1 := hY3.cell 1
          have y2 := hY3.cell 2
          go_wp2_with fail
          refine HCON.out.mono ?_
          rintro e w4 ⟨v4, rfl, hU4, hS4⟩
          have hX4 := hX3.call hS4
          have hC4 := hC3.call hS4
          have hF4 := hF3.call hS4
          have hY4 := hY3.call hS4
          have hD4 := hD3.call hS4
          have hG4 := hG3.call hS4
          have hV4 := hV3.call hS4
          have hB4 := bnx hB3 hS4
          clear HCON y0 y1 y2 hX3 hC3 hF3 hY3 hD3 hG3 hV3 hB3
          have hcon := sameInts_q hV4 hU4
          rw [beq_self_eq_true] at hcon
          have HCON := Lib.hid hcon
          clear hcon
          go_wp2_with fail
          refine HCON.out.mono ?_
          rintro e w5' ⟨rfl, hq5⟩
          obtain ⟨w5, hw5⟩ : ∃ u, u = w5' := ⟨_, rfl⟩
          rw [← hw5] at hq5 ⊢
          clear hw5
          have hX5 := hX4.qt hq5
          have hC5 := hC4.qt hq5
          have hF5 := hF4.qt hq5
          have hY5 := hY4.qt hq5
          have hD5 := hD4.qt hq5
          have hG5 := hG4.qt hq5
          have hB5 := hB4.trans (hq5.below _)
          clear HCON hq5 hV4 hU4 hB4 hX4 hC4 hF4 hY4 hD4 hG4
          rcases hlaw with ⟨rfl, t1, t2, t3, t4⟩ | ⟨hTn, s, s', A', B', t1, t2, t3, t4, a1, a2, a3, a4, hat⟩
          · have hcon := takens_c hC5 hF5 yr
            rw [t1] at hcon
            have HCON := Lib.hid hcon
            clear hcon
            have x0 := hX5.cell 0
            have x1 := hX5.cell 1
            have x2 := hX5.cell 2
            go_wp2_with fail
            refine HCON.out.mono ?_
            rintro e w6 ⟨v6, rfl, hP6, hS6⟩
            have hX6 := hX5.call hS6
            have hC6 := hC5.call hS6
            have hF6 := hF5.call hS6
            have hY6 := hY5.call hS6
            have hD6 := hD5.call hS6
            have hG6 := hG5.call hS6
            have hB6 := bnx hB5 hS6
            clear HCON x0 x1 x2 hX5 hC5 hF5 hY5 hD5 hG5 hB5
            have hcon := takens_c (x := endX x) hD6 hG6 yr
            rw [show (endX x).points = x.points from rfl, show (endX x).bend = x.bend from rfl, t2] at hcon
            have HCON := Lib.hid hcon
            clear hcon
            have y0 := hY6.cell 0
            have y1 := hY6.cell 1
            have y2 := hY6.cell 2
            go_wp2_with fail
            refine HCON.out.mono ?_
            rintro e w7 ⟨v7, rfl, hQ7, hS7⟩
            have hX7 := hX6.call hS7
            have hC7 := hC6.call hS7
            have hF7 := hF6.call hS7
            have hY7 := hY6.call hS7
            have hD7 := hD6.call hS7
            have hG7 := hG6.call hS7
            have hB7 := bnx hB6 hS7
            clear HCON y0 y1 y2 hX6 hC6 hF6 hY6 hD6 hG6 hB6
            have hcon := bounds27_c hC7
            rw [t3] at hcon
            have HCON := Lib.hid hcon
            clear hcon
            have x0 := hX7.cell 0
            have x1 := hX7.cell 1
            have x2 := hX7.cell 2
            go_wp2_with fail
            refine HCON.out.mono ?_
            rintro e w8 ⟨v8, rfl, hR8, hS8⟩
            have hX8 := hX7.call hS8
            have hC8 := hC7.call hS8
            have hF8 := hF7.call hS8
            have hY8 := hY7.call hS8
            have hD8 := hD7.call hS8
            have hG8 := hG7.call hS8
            have hB8 := bnx hB7 hS8
            clear HCON x0 x1 x2 hX7 hC7 hF7 hY7 hD7 hG7 hB7
            have hcon := bounds27_c (x := endX x) hD8
            rw [show (endX x).points = x.points from rfl, show (endX x).bend = x.bend from rfl, t4] at hcon
            have HCON := Lib.hid hcon
            clear hcon
            have y0 := hY8.cell 0
            have y1 := hY8.cell 1
            have y2 := hY8.cell 2
            go_wp2_with fail
            refine HCON.out.mono ?_
            rintro e w9 ⟨v9, rfl, hM9, hS9⟩
            have hX9 := hX8.call hS9
            have hC9 := hC8.call hS9
            have hF9 := hF8.call hS9
            have hY9 := hY8.call hS9
            have hD9 := hD8.call hS9
            have hG9 := hG8.call hS9
            have hB9 := bnx hB8 hS9
            clear HCON y0 y1 y2 hX8 hC8 hF8 hY8 hD8 hG8 hB8
            go_wp2_with fail
            refine (surveyed_c _).mono ?_
            rintro e w10 ⟨rfl, hS10⟩
            go_wp2_with fail
            go_ret
            exact ⟨rfl, bnx hB9 hS10⟩
          · have hcon := takens_c hC5 hF5 yr
            rw [t1] at hcon
            have HCON := Lib.hid hcon
            clear hcon
            have x0 := hX5.cell 0
            have x1 := hX5.cell 1
            have x2 := hX5.cell 2
            go_wp2_with fail
            refine HCON.out.mono ?_
            rintro e w6 ⟨v6, rfl, hP6, hS6⟩
            have hX6 := hX5.call hS6
            have hC6 := hC5.call hS6
            have hF6 := hF5.call hS6
            have hY6 := hY5.call hS6
            have hD6 := hD5.call hS6
            have hG6 := hG5.call hS6
            have hB6 := bnx hB5 hS6
            clear HCON x0 x1 x2 hX5 hC5 hF5 hY5 hD5 hG5 hB5
            have hcon := takens_c (x := endX x) hD6 hG6 yr
            rw [show (endX x).points = x.points from rfl, show (endX x).bend = x.bend from rfl, t2] at hcon
            have HCON := Lib.hid hcon
            clear hcon
            have y0 := hY6.cell 0
            have y1 := hY6.cell 1
            have y2 := hY6.cell 2
            go_wp2_with fail
            refine HCON.out.mono ?_
            rintro e w7 ⟨v7, rfl, hQ7, hS7⟩
            have hX7 := hX6.call hS7
            have hC7 := hC6.call hS7
            have hF7 := hF6.call hS7
            have hY7 := hY6.call hS7
            have hD7 := hD6.call hS7
            have hG7 := hG6.call hS7
            have hP7 := hP6.call hS7
            have hB7 := bnx hB6 hS7
            clear HCON y0 y1 y2 hX6 hC6 hF6 hY6 hD6 hG6 hP6 hB6
            have hcon := bounds27_c hC7
            rw [t3] at hcon
            have HCON := Lib.hid hcon
            clear hcon
            have x0 := hX7.cell 0
            have x1 := hX7.cell 1
            have x2 := hX7.cell 2
            go_wp2_with fail
            refine HCON.out.mono ?_
            rintro e w8 ⟨v8, rfl, hR8, hS8⟩
            have hX8 := hX7.call hS8
            have hC8 := hC7.call hS8
            have hF8 := hF7.call hS8
            have hY8 := hY7.call hS8
            have hD8 := hD7.call hS8
            have hG8 := hG7.call hS8
            have hP8 := hP7.call hS8
            have hQ8 := hQ7.call hS8
            have hB8 := bnx hB7 hS8
            clear HCON x0 x1 x2 hX7 hC7 hF7 hY7 hD7 hG7 hP7 hQ7 hB7
            have hcon := bounds27_c (x := endX x) hD8
            rw [show (endX x).points = x.points from rfl, show (endX x).bend = x.bend from rfl, t4] at hcon
            have HCON := Lib.hid hcon
            clear hcon
            have y0 := hY8.cell 0
            have y1 := hY8.cell 1
            have y2 := hY8.cell 2
            go_wp2_with fail
            refine HCON.out.mono ?_
            rintro e w9 ⟨v9, rfl, hM9, hS9⟩
            have hX9 := hX8.call hS9
            have hP9 := hP8.call hS9
            have hQ9 := hQ8.call hS9
            have hR9 := hR8.call hS9
            have hB9 := bnx hB8 hS9
            clear HCON y0 y1 y2 hX8 hP8 hQ8 hR8 hB8
            clear hC8 hF8 hY8 hD8 hG8
            obtain ⟨ga0, ca, rfl, -, -⟩ := hP9.shape
            obtain ⟨gb0, cb, rfl, -, -⟩ := hQ9.shape
            obtain ⟨gc0, cc, rfl, -, -⟩ := hR9.shape
            obtain ⟨gd0, cd, rfl, -, -⟩ := hM9.shape
            have hTz : (T == 0) = false := by rw [beq_eq_false_iff_ne]; exact hTn
            obtain ⟨n, hn⟩ : ∃ n, n = x.n := ⟨_, rfl⟩
            have hpn : x.points = (n : Int) := by rw [hn]; unfold Edg.n; omega
            rw [← hn] at a1 a2 a3 a4 hat
            have HAT := Lib.hid hat
            clear hn hat
            go_upto_region 29 with fail
            go_cut [225] from 184 to 225 (fun s225 wx => s225 = .bool false ∧ Qt w9 wx)
            case first =>
              have x0 := hX9.cell 0
              have b1 : ((A'.length : Int) != x.points) = false := by rw [bne_eq_false_iff_eq]; omega
              have b2 : ((B'.length : Int) != x.points) = false := by rw [bne_eq_false_iff_eq]; omega
              have b3 : ((s.length : Int) != x.points) = false := by rw [bne_eq_false_iff_eq]; omega
              have b4 : ((s'.length : Int) != x.points) = false := by rw [bne_eq_false_iff_eq]; omega
              go_wp2_with fail
              go_meet
              case rel => exact ⟨rfl, Qt.refl _⟩
            case rest =>
            obtain ⟨rfl, hq9⟩ := hcut
            rename World => w10
            have hX10 := hX9.qt hq9
            have hP10 := hP9.qt hq9
            have hQ10 := hQ9.qt hq9
            have hR10 := hR9.qt hq9
            have hM10 := hM9.qt hq9
            have hB10 := hB9.trans (hq9.below _)
            clear hq9 hX9 hP9 hQ9 hR9 hM9 hB9
            have HPN := Lib.hid hpn
            go_wp2_with fail
            go_loopw [25] (fun vi wr => ∃ p : Nat, p ≤ n ∧ vi = .int .i64 p ∧ Qt w10 wr) (fun vi _ => n - (intOf vi).toNat)
            case atStart => exact ⟨0, Nat.zero_le _, rfl, Qt.refl _⟩
            case round =>
              obtain ⟨p, hp, rfl, hqr⟩ := hrel
              have hXr := hX10.qt hqr
              have x0 := hXr.cell 0
              rw [HPN.out] at x0
              by_cases hlp : p < n
              · obtain ⟨q, hq⟩ : ∃ q, q = n - 1 - p := ⟨_, rfl⟩
                have bq : IntKind.i64.wrap ((n : Int) - 1 - (p : Int)) = (q : Int) := by rw [IntWalk.i64_in _ (by omega)]; omega
                obtain ⟨ga, oa, rfl, -, -⟩ := rgs_addr hP10 (by omega)
                obtain ⟨gb, ob, rfl, -, -⟩ := rgs_addr hQ10 (by omega)
                obtain ⟨gc, oc, rfl, -, -⟩ := rgs_addr hR10 (by omega)
                obtain ⟨gd, od, rfl, -, -⟩ := rgs_addr hM10 (by omega)
                have hv := HAT.out p q (by omega) (by omega) (by omega) (by omega) (by omega)
                have hfe0 : ∀ w', Qt w10 w' → FeR ga (oa + p * 2) (A'[p]'(by omega)) gb (ob + q * 2) (B'[q]'(by omega)) gc (oc + p * 2) (s[p]'(by omega)) gd (od + q * 2) (s'[q]'(by omega)) w' := fun w' hb => ⟨rgs_at (hP10.qt hb) p (by omega), rgs_at (hQ10.qt hb) q (by omega), rgs_at (hR10.qt hb) p (by omega), rgs_at (hM10.qt hb) q (by omega)⟩
                rw [← hv.1, ← hv.2] at hfe0
                generalize (A'[p]'(by omega)) = V1 at hfe0
                generalize (s[p]'(by omega)) = V2 at hfe0
                have hfe : ∀ w', Qt _ w' → (FeR ga (oa + p * 2) V1 gb (ob + q * 2) V1 gc (oc + p * 2) V2 gd (od + q * 2) V2) w' := fun w' hb => hfe0 w' (hqr.trans hb)
                have HFE := Lib.hid hfe
                have hqn : q < n := by omega
                clear hq hv hfe0 hfe
                go_upto_region 34 with fail
                refine wp_region_mix2 (.pur 0 (.pur 1 (.pur 2 (.one 3 (.pur 4 (.pur 5 (.pur 6 (.pur 7 (.pur 8 (.one 9 (.pur 10 (.pur 11 (.pur 12 (.pur 13 (.pur 14 (.one 15 (.pur 16 (.pur 17 (.pur 18 (.pur 19 (.pur 20 (.one 21 (.pur 22 (.pur 23 .fin)))))))))))))))))))))))) 99 (FeR ga (oa + p * 2) V1 gb (ob + q * 2) V1 gc (oc + p * 2) V2 gd (od + q * 2) V2) (fun _ => True) (by kernel_rfl) (by kernel_rfl) rfl (by kernel_rfl) (HFE.out _ ((Qt.refl _).drewN 1)) (fun wd hqd _ => ?_)
                refine mix_pur2 rfl (fun K hK => ?_)
                go_simp
                first | refine ⟨_, fun _ => rfl, hK _ ?_⟩ | refine hK _ ?_
                clear hK K
                refine mix_pur2 rfl (fun K hK => ?_)
                go_simp
                first | refine ⟨_, fun _ => rfl, hK _ ?_⟩ | refine hK _ ?_
                clear hK K
                refine mix_pur2 rfl (fun K hK => ?_)
                go_simp
                first | refine ⟨_, fun _ => rfl, hK _ ?_⟩ | refine hK _ ?_
                clear hK K
                refine mix_load2 rfl rfl rfl (.agg #[.int .i64 V1.1, .int .i64 V1.2]) (fun w' h => by have h : (FeR ga (oa + p * 2) V1 gb (ob + q * 2) V1 gc (oc + p * 2) V2 gd (od + q * 2) V2) w' := h; have e0 := h.1.1; have e1 := h.1.2; go_simp) rfl ?_
                refine mix_pur2 rfl (fun K hK => ?_)
                go_simp
                first | refine ⟨_, fun _ => rfl, hK _ ?_⟩ | refine hK _ ?_
                clear hK K
                refine mix_pur2 rfl (fun K hK => ?_)
                go_simp
                first | refine ⟨_, fun _ => rfl, hK _ ?_⟩ | refine hK _ ?_
                clear hK K
                refine mix_pur2 rfl (fun K hK => ?_)
                go_simp
                first | refine ⟨_, fun _ => rfl, hK _ ?_⟩ | refine hK _ ?_
                clear hK K
                refine mix_pur2 rfl (fun K hK => ?_)
                go_simp
                first | refine ⟨_, fun _ => rfl, hK _ ?_⟩ | refine hK _ ?_
                clear hK K
                refine mix_pur2 rfl (fun K hK => ?_)
                go_simp
                first | refine ⟨_, fun _ => rfl, hK _ ?_⟩ | refine hK _ ?_
                clear hK K
                refine mix_load2 rfl rfl rfl (.agg #[.int .i64 V1.1, .int .i64 V1.2]) (fun w' h => by have h : (FeR ga (oa + p * 2) V1 gb (ob + q * 2) V1 gc (oc + p * 2) V2 gd (od + q * 2) V2) w' := h; have e0 := h.2.1.1; have e1 := h.2.1.2; go_simp) rfl ?_
                refine mix_pur2 rfl (fun K hK => ?_)
                go_simp
                first | refine ⟨_, fun _ => rfl, hK _ ?_⟩ | refine hK _ ?_
                clear hK K
                refine mix_pur2 rfl (fun K hK => ?_)
                go_simp
                first | refine ⟨_, fun _ => rfl, hK _ ?_⟩ | refine hK _ ?_
                clear hK K
                refine mix_pur2 rfl (fun K hK => ?_)
                go_simp
                first | refine ⟨_, fun _ => rfl, hK _ ?_⟩ | refine hK _ ?_
                clear hK K
                refine mix_pur2 rfl (fun K hK => ?_)
                go_simp
                first | refine ⟨_, fun _ => rfl, hK _ ?_⟩ | refine hK _ ?_
                clear hK K
                refine mix_pur2 rfl (fun K hK => ?_)
                go_simp
                first | refine ⟨_, fun _ => rfl, hK _ ?_⟩ | refine hK _ ?_
                clear hK K
                refine mix_loadg2 rfl rfl (.agg #[.int .i64 V2.1, .int .i64 V2.2]) (by go_simp) (fun w' h => by have h : (FeR ga (oa + p * 2) V1 gb (ob + q * 2) V1 gc (oc + p * 2) V2 gd (od + q * 2) V2) w' := h; have e0 := h.2.2.1.1; have e1 := h.2.2.1.2; go_simp) rfl ?_
                refine mix_pur2 rfl (fun K hK => ?_)
                go_simp
                first | refine ⟨_, fun _ => rfl, hK _ ?_⟩ | refine hK _ ?_
                clear hK K
                refine mix_pur2 rfl (fun K hK => ?_)
                go_simp
                first | refine ⟨_, fun _ => rfl, hK _ ?_⟩ | refine hK _ ?_
                clear hK K
                refine mix_pur2 rfl (fun K hK => ?_)
                go_simp
                first | refine ⟨_, fun _ => rfl, hK _ ?_⟩ | refine hK _ ?_
                clear hK K
                refine mix_pur2 rfl (fun K hK => ?_)
                go_simp
                first | refine ⟨_, fun _ => rfl, hK _ ?_⟩ | refine hK _ ?_
                clear hK K
                refine mix_pur2 rfl (fun K hK => ?_)
                go_simp
                first | refine ⟨_, fun _ => rfl, hK _ ?_⟩ | refine hK _ ?_
                clear hK K
                refine mix_loadg2 rfl rfl (.agg #[.int .i64 V2.1, .int .i64 V2.2]) (by go_simp) (fun w' h => by have h : (FeR ga (oa + p * 2) V1 gb (ob + q * 2) V1 gc (oc + p * 2) V2 gd (od + q * 2) V2) w' := h; have e0 := h.2.2.2.1; have e1 := h.2.2.2.2; go_simp) rfl ?_
                refine mix_pur2 rfl (fun K hK => ?_)
                go_simp
                first | refine ⟨_, fun _ => rfl, hK _ ?_⟩ | refine hK _ ?_
                clear hK K
                refine mix_pur2 rfl (fun K hK => ?_)
                go_simp
                first | refine ⟨_, fun _ => rfl, hK _ ?_⟩ | refine hK _ ?_
                clear hK K
                refine mix_done2 ?_
                go_wp2_with fail
                go_roundw
                case rel => exact ⟨p + 1, by omega, by go_num, hqr.trans hqd⟩
                case measure => simp [intOf]; omega
              · obtain rfl : p = n := by omega
                go_wp2_with fail
                refine (surveyed_c _).mono ?_
                rintro e w11 ⟨rfl, hS11⟩
                go_wp2_with fail
                go_ret
                exact ⟨rfl, bnx (hB10.trans (hqr.below _)) hS11⟩

end Go.Proofs.Ytgdifckmjdjcpaa
