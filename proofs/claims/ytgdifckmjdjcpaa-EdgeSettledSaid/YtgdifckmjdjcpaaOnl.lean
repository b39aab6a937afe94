/- Contract of only, an edge that has the claims of a group alone (edge); conditions: the claims read as a list, at most sixteen. -/
import Derived.Test.YtgdifckmjdjcpaaGrp1
import Derived.Test.YtgdifckmjdjcpaaEdgD
import Derived.Test.YtgdifckmjdjcpaaEdgT9
namespace Go.Proofs.Ytgdifckmjdjcpaa
open Go.RowKit

theorem Try.info26 : (Try.prog.info? 26).map (fun i => (i.zero, i.size, i.bytes)) = some (some (.agg #[.int .i64 0, .int .i64 0, .int .i64 0, .int .i64 0, .int .i64 0]), 5, 40) := by kernel_rfl
theorem ccells_one (c : Cl) : ∀ u ∈ ccells c, u.oneCell' = true := by
  intro u hu
  simp only [ccells, List.mem_cons, List.not_mem_nil, or_false] at hu
  rcases hu with rfl | rfl | rfl | rfl | rfl <;> rfl
theorem Own.cls {B : Nat} {w : World} {v : Value} {l : List Cl} (h : Own B w 26 5 v l.length (l.flatMap ccells)) : ClsM (fun k => B ≤ k) w v l := Own.arr h
theorem own_slice {B : Nat} {w : World} {e : TypeId} {sz n : Nat} {v : Value} {xs : List Value} (h : Own B w e sz v n xs) : ∃ ao cap, v = .slice ao n cap := by
  rcases h.2 with ⟨rfl, rfl⟩ | ⟨g, cap, cur, rfl, _⟩
  · exact ⟨none, 0, rfl⟩
  · exact ⟨_, cap, rfl⟩
theorem keepL_take {keep : Nat → Bool} {l : List Cl} {k : Nat} (hk : k < l.length) : keepL keep (l.take (k + 1)) 0 = keepL keep (l.take k) 0 ++ if keep k = true then [l[k]] else [] := by
  rw [List.take_succ_eq_append_getElem hk, keepL_snoc, List.length_take, Nat.zero_add, Nat.min_eq_left (by omega)]
theorem cls_snoc (l : List Cl) (c : Cl) : (l ++ [c]).flatMap ccells = l.flatMap ccells ++ ccells c := by simp

/-- An edge in the making: its block, and its claims, which the call owns. -/
structure EM (N b : Nat) (P B : Int) (l : List Cl) (vl : Value) (w : World) : Prop where
  blk : Blk b #[.int .i64 P, .int .i64 B, vl] 24 w
  own : Own N w 26 5 vl l.length (l.flatMap ccells)
  low : b < N
theorem EM.call {N b : Nat} {P B : Int} {l : List Cl} {vl : Value} {w w' : World} (h : EM N b P B l vl w) (hB : Below w.heap.size w w') : EM N b P B l vl w' := ⟨h.blk.call hB, h.own.call hB, h.low⟩
theorem EM.old {N b : Nat} {P B : Int} {l : List Cl} {vl v' : Value} {w w' : World} (h : EM N b P B l vl w) (hT : Turned w w' vl v') : Blk b #[.int .i64 P, .int .i64 B, vl] 24 w' := h.blk.keep (hT.block b h.blk.lt (fun e => by have := (World.ownsRow.lt h.own b e).1; have := h.low; omega))
theorem EM.put {N b : Nat} {P B : Int} {l l' : List Cl} {vl v' : Value} {w w' : World} (h : EM N b P B l vl w) (ho : Own N w' 26 5 v' l'.length (l'.flatMap ccells)) (hT : Turned w w' vl v') : EM N b P B l' v' (w'.setCell ⟨b, 2, none⟩ v') := by
  have h1 : Blk b #[.int .i64 P, .int .i64 B, vl] 24 w' := h.blk.keep (hT.block b h.blk.lt (fun e => by have := (World.ownsRow.lt h.own b e).1; have := h.low; omega))
  exact ⟨h1.set 2 v', ho.step fun k hk _ hl => Below.heap_setCell w' _ v' k (by have := h.low; show k ≠ b; omega), h.low⟩

set_option maxRecDepth 100000 in
set_option maxHeartbeats 1000000 in
theorem only_c {g : Nat} (hg : g < 128) {A : Nat → Prop} {w : World} {x : Edg} {v : Value} (h : ClsM A w v x.claims) (hm : x.claims.length ≤ 16) :
    Calls Try.prog 91 #[.agg #[.int .i64 x.points, .int .i64 x.bend, v], .int .u16 g] w fun e w' => ∃ v', e = .returned (.agg #[.int .i64 x.points, .int .i64 x.bend, v']) ∧ ClsM (fun k => w.heap.size ≤ k) w' v' (partF x fun i => g.testBit i).claims ∧ Below w.heap.size w w' := by
  obtain ⟨a1, c1, rfl, hc1, hm1⟩ := h.shape
  have n1 := h.len
  obtain ⟨w1, hw1⟩ : ∃ w1, w1 = (w.alloc (.cells #[.int .i64 x.points, .int .i64 x.bend, .slice none 0 0] 24)).alloc (.cells #[.int .i64 0, .int .i64 0, .slice none 0 0] 24) := ⟨_, rfl⟩
  obtain ⟨b0, hb0⟩ : ∃ b, b = w.heap.size := ⟨_, rfl⟩
  have hX : EM (b0 + 2) b0 x.points x.bend [] (.slice none 0 0) w1 := by
    rw [hw1, hb0]
    exact ⟨(Blk.new w _ _).alloc _, Own.nil, by omega⟩
  have hR : Blk (b0 + 1) #[.int .i64 0, .int .i64 0, .slice none 0 0] 24 w1 := by
    rw [hw1, hb0]
    exact blk_at (by simp) _ _
  have hB1 : Below w.heap.size w w1 := by rw [hw1]; exact ((Below.refl _ w).alloc (Nat.le_refl _) _).alloc (by simp) _
  have hz1 : b0 + 2 ≤ w1.heap.size := by rw [hw1, hb0]; simp
  have hC1 : ClsM (fun k => k < w.heap.size) w1 (.slice a1 x.claims.length c1) x.claims := (h.wide fun k _ hk => hk).below hB1 fun k hk _ => hk
  go_enter Try.func91, Try.ntmps91
  go_upto_region 3 with fail
  rw [← hw1, ← hb0]
  have hbw : w.heap.size ≤ b0 := Nat.le_of_eq hb0.symm
  have hbw2 : b0 ≤ w.heap.size := Nat.le_of_eq hb0
  clear hw1 hb0
  go_wp2_with fail
  go_loopw [13] (fun i wr => ∃ (k : Nat) (vl : Value), k ≤ x.claims.length ∧ i = .int .i64 k ∧ EM (b0 + 2) b0 x.points x.bend (keepL (fun i => g.testBit i) (x.claims.take k) 0) vl wr ∧ Blk (b0 + 1) #[.int .i64 0, .int .i64 0, .slice none 0 0] 24 wr ∧ Below w.heap.size w wr) (fun i _ => x.claims.length - (intOf i).toNat)
  case atStart => exact ⟨0, _, Nat.zero_le _, rfl, hX, hR, hB1⟩
  case round =>
    obtain ⟨k, vl, hk, rfl, hE, hRr, hB⟩ := hrel
    clear hX hR hB1 hz1
    have hCr : ClsM (fun k => k < w.heap.size) wr (.slice a1 x.claims.length c1) x.claims := (h.wide fun k _ hk => hk).below hB fun k hk _ => hk
    have hbl := hE.blk.lt
    have hrl := hRr.lt
    by_cases hlt : k < x.claims.length
    · obtain ⟨gc, o, rfl, hA, hgc⟩ := cls_addr hCr (by omega)
      obtain ⟨d0, d1, d2, d3, d4⟩ := cls_at hCr k hlt
      have HT := Lib.hid (keepL_take (keep := fun i => g.testBit i) hlt)
      have hBw := hB.alloc (by omega) (.cells #[.int .i64 x.claims[k].kind, .int .i64 x.claims[k].point, .int .i64 x.claims[k].other, .int .i64 x.claims[k].off, .int .i64 x.claims[k].err] 26)
      have hBx := (Below.refl wr.heap.size wr).alloc (Nat.le_refl _) (.cells #[.int .i64 x.claims[k].kind, .int .i64 x.claims[k].point, .int .i64 x.claims[k].other, .int .i64 x.claims[k].off, .int .i64 x.claims[k].err] 26)
      have hE2 := hE.call hBx
      have hR2 := hRr.call hBx
      cases hb : g.testBit k with
      | true =>
        have hkl := keepL_len (keep := fun i => g.testBit i) (x.claims.take k) 0
        rw [List.length_take] at hkl
        obtain ⟨av, cv, rfl⟩ := own_slice hE.own
        have c2 := hE.blk.cell 2
        have f2 := hE.blk.free 2
        go_upto_region 7 with (go_at_call 117; refine (has_c hg (by omega) _).mono ?_; rintro e w' ⟨rfl, rfl⟩)
        obtain ⟨L, hL⟩ : ∃ L, L = keepL (fun i => g.testBit i) (x.claims.take k) 0 := ⟨_, rfl⟩
        rw [← hL] at hE hE2 hkl c2
        have HL := Lib.hid hL
        clear hL
        have hE3 := hE2.call ((Below.refl _ _).alloc (Nat.le_refl _) (.cells #[.int .i64 x.claims[k].kind, .int .i64 x.claims[k].point, .int .i64 x.claims[k].other, .int .i64 x.claims[k].off, .int .i64 x.claims[k].err] 26))
        have hR3 := hR2.call ((Below.refl _ _).alloc (Nat.le_refl _) (.cells #[.int .i64 x.claims[k].kind, .int .i64 x.claims[k].point, .int .i64 x.claims[k].other, .int .i64 x.claims[k].off, .int .i64 x.claims[k].err] 26))
        have hB3 := hBw.alloc (by simp; omega) (.cells #[.int .i64 x.claims[k].kind, .int .i64 x.claims[k].point, .int .i64 x.claims[k].other, .int .i64 x.claims[k].off, .int .i64 x.claims[k].err] 26)
        have ha := Own.arr (own_lit (wr.alloc (.cells #[.int .i64 x.claims[k].kind, .int .i64 x.claims[k].point, .int .i64 x.claims[k].other, .int .i64 x.claims[k].off, .int .i64 x.claims[k].err] 26)) 26 5 #[.int .i64 x.claims[k].kind, .int .i64 x.claims[k].point, .int .i64 x.claims[k].other, .int .i64 x.claims[k].off, .int .i64 x.claims[k].err] 1 rfl (by omega))
        rw [World.size_alloc] at ha
        go_wp2_with (at_builtin; go_loud (refine wpList_append_arr rfl _ _ 22 rfl 26 _ 5 40 Try.underlying22 Try.info26 rfl (by decide) (by decide) (by simp; omega) hE3.own rfl ha rfl rfl (ccells_one _) (by omega) ?_; intro v' w4 hown hT; obtain ⟨a4, c4, rfl⟩ := own_slice hown; have hb4 := EM.old hE3 hT; have e4 := hb4.cell 2; have f4 := hb4.free 2))
        have hE5 := hE3.put (l' := L ++ [x.claims[k]]) (by rw [List.length_append, List.length_singleton, cls_snoc]; exact hown) hT
        have hR5 := hR3.keep ((Below.heap_setCell w4 ⟨b0, 2, none⟩ (.slice a4 (L.length + 1) c4) (b0 + 1) (by simp)).trans (hT.block _ hR3.lt (fun e => by have := (World.ownsRow.lt hE3.own _ e).1; omega)))
        have hB5 := (hT.below2 hE3.own hB3 (by simp; omega) (by omega)).setCell (p := ⟨b0, 2, none⟩) hbw (.slice a4 (L.length + 1) c4)
        clear hown hT hb4 e4 f4 ha hE3 hR3 hB3 hE2 hR2
        generalize w4.setCell ⟨b0, 2, none⟩ (.slice a4 (L.length + 1) c4) = w5 at hE5 hR5 hB5 ⊢
        go_wp2
        go_roundw
        case rel => exact ⟨k + 1, _, by omega, by go_num, by rw [HT.out, if_pos hb, ← HL.out]; exact hE5, hR5, hB5⟩
        case measure => simp [intOf]; omega
      | false =>
        go_wp2_with (go_at_call 117; refine (has_c hg (by omega) _).mono ?_; rintro e w' ⟨rfl, rfl⟩)
        go_roundw
        case rel => exact ⟨k + 1, vl, by omega, by go_num, by rw [HT.out, hb]; simpa using hE2, hR2, hBw⟩
        case measure => simp [intOf]; omega
    · obtain rfl : k = x.claims.length := by omega
      rw [List.take_length] at hE
      obtain ⟨L, hL⟩ : ∃ L, L = keepL (fun i => g.testBit i) x.claims 0 := ⟨_, rfl⟩
      rw [← hL] at hE
      have HL := Lib.hid hL
      clear hL
      obtain ⟨av, cv, rfl⟩ := own_slice hE.own
      have c0 := hE.blk.cell 0
      have c1' := hE.blk.cell 1
      have c2 := hE.blk.cell 2
      have d0 := hRr.cell 0
      have d1 := hRr.cell 1
      have d2 := hRr.cell 2
      have f0 := hRr.free 0
      have f1 := hRr.free 1
      have f2 := hRr.free 2
      go_wp2
      have hR4 := hRr.set3 (x' := .int .i64 x.points) (y' := .int .i64 x.bend) (z' := .slice av L.length cv)
      have hB4 := ((hB.setCell (p := ⟨b0 + 1, 0, none⟩) (by show w.heap.size ≤ b0 + 1; omega) (.int .i64 x.points)).setCell (p := ⟨b0 + 1, 1, none⟩) (by show w.heap.size ≤ b0 + 1; omega) (.int .i64 x.bend)).setCell (p := ⟨b0 + 1, 2, none⟩) (by show w.heap.size ≤ b0 + 1; omega) (.slice av L.length cv)
      have hO4 : ClsM (fun q => b0 + 2 ≤ q) (((wr.setCell ⟨b0 + 1, 0, none⟩ (.int .i64 x.points)).setCell ⟨b0 + 1, 1, none⟩ (.int .i64 x.bend)).setCell ⟨b0 + 1, 2, none⟩ (.slice av L.length cv)) (.slice av L.length cv) L :=
        hE.own.cls.step (by simp [World.setCell]) fun q hq _ => (Below.heap_setCell _ _ _ _ (show q ≠ b0 + 1 by omega)).trans ((Below.heap_setCell _ _ _ _ (show q ≠ b0 + 1 by omega)).trans (Below.heap_setCell _ _ _ _ (show q ≠ b0 + 1 by omega)))
      generalize ((wr.setCell ⟨b0 + 1, 0, none⟩ (.int .i64 x.points)).setCell ⟨b0 + 1, 1, none⟩ (.int .i64 x.bend)).setCell ⟨b0 + 1, 2, none⟩ (.slice av L.length cv) = wf at hR4 hB4 hO4 ⊢
      have x0 := hR4.cell 0
      have x1 := hR4.cell 1
      have x2 := hR4.cell 2
      exact bodyPost_ret (v := .agg #[.int .i64 x.points, .int .i64 x.bend, .slice av L.length cv]) (by simp [results, Try.results91, go_sem, x0, x1, x2]) rfl ⟨_, rfl, by show ClsM _ _ _ (keepL _ _ _); rw [← HL.out]; exact hO4.wide fun q hq _ => by omega, hB4⟩

end Go.Proofs.Ytgdifckmjdjcpaa
