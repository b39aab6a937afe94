/- EdgeOf of mestakit (edge): a valid edge; conditions: as said. -/
import Derived.Test.YtbpfhoihfoojfaaGreatDoorClm
import Derived.Test.YtbpfhoihfoojfaaGreatDoorGp
namespace Go.Proofs.YtbpfhoihfoojfaaGreatDoor
open Go.RowKit

theorem own_from {B B' : Nat} {w : World} {e : TypeId} {sz n : Nat} {v : Value} {xs : List Value} (h : Own B w e sz v n xs) (hB : B' ≤ B) : Own B' w e sz v n xs := by
  refine ⟨h.1, ?_⟩
  rcases h.2 with hn | ⟨g, cap, cur, rfl, h0, hg, rest⟩
  · exact .inl hn
  · exact .inr ⟨g, cap, cur, rfl, Nat.le_trans hB h0, hg, rest⟩

/-- An edge in the making, with the hand. -/
structure XS (w0 : World) (hb b6 b7 : Nat) (k : Nat) (c : Array Value) (w : World) : Prop where
  o : Blk b6 #[.int .i64 0, .int .i64 0, .slice none 0 0] 24 w
  x : Blk b7 c 24 w
  h : Hnd w hb k
  g : w0.grownBy w (some hb)
  lt : w0.heap.size ≤ b6 ∧ w0.heap.size ≤ b7 ∧ b6 < b7
  hl : hb < w0.heap.size
section
variable {w0 w w' : World} {hb b6 b7 k k' : Nat} {c : Array Value}
theorem XS.hand (h : XS w0 hb b6 b7 k c w) (hH : Hnd w' hb k') (ho : w.grownBy w' (some hb)) : XS w0 hb b6 b7 k' c w' := by
  have h1 := h.lt; have h3 := h.hl
  exact ⟨h.o.hand ho (by omega), h.x.hand ho (by omega), hH, only_trans h.g ho, h.lt, h.hl⟩
theorem XS.call (h : XS w0 hb b6 b7 k c w) (hB : Below w.heap.size w w') : XS w0 hb b6 b7 k c w' := h.hand (h.h.call hB) (only_below hB)
theorem XS.qt (h : XS w0 hb b6 b7 k c w) (q : Qt w w') : XS w0 hb b6 b7 k c w' := h.call (q.below _)
theorem XS.set (h : XS w0 hb b6 b7 k c w) (j : Nat) (v : Value) : XS w0 hb b6 b7 k (c.setIfInBounds j v) (w.setCell ⟨b7, j, none⟩ v) := by
  have h1 := h.lt; have h3 := h.hl
  exact ⟨h.o.other (by show b6 ≠ b7; omega) _, h.x.set j v, h.h.setCell (by show hb < b7; omega) v, only_setCell h.g (by show _ ≤ b7; omega) v, h.lt, h.hl⟩
theorem XS.far (h : XS w0 hb b6 b7 k c w) (hB : Below (b7 + 1) w w') : XS w0 hb b6 b7 k c w' := by
  have h1 := h.lt; have h3 := h.hl; have h4 := h.g
  exact ⟨h.o.below hB (by omega), h.x.below hB (by omega), h.h.below hB (by omega), ⟨hB.os.trans h4.os, hB.tape.trans h4.tape, hB.output.trans h4.output, Nat.le_trans h4.size hB.size, fun i hi hn => (hB.block i (by omega)).trans (h4.block i hi hn)⟩, h.lt, h.hl⟩
end
def lenOf : Value → Nat
  | .slice _ n _ => n
  | _ => 0

theorem edge_fin {w0 w : World} {hb b6 b7 k k0 N : Nat} {vc : Value} {x : Edg} {pts cl : Int} (h : XS w0 hb b6 b7 k #[.int .i64 x.points, .int .i64 x.bend, vc] w) (hok : x.Ok) (h1 : x.points ≤ pts) (h2 : (x.claims.length : Int) ≤ cl) (hO : Own N w 54 5 vc x.claims.length (x.claims.flatMap ccells)) (hN : b7 < N) (hk : k ≤ k0 + 100) {a : Act} (hd : a.defers = []) (h6 : a.tmps[6]? = some (.pointer (some ⟨b6, 0, none⟩))) {W : World}
    (hW : W = ((w.setCell ⟨b6, 0, none⟩ (.int .i64 x.points)).setCell ⟨b6, 1, none⟩ (.int .i64 x.bend)).setCell ⟨b6, 2, none⟩ vc) :
    bodyPost Tryz.prog Tryz.f7 (fun e w' => (∃ (x : Edg) (v : Value), e = .returned (.agg #[.int .i64 x.points, .int .i64 x.bend, v]) ∧ x.Ok ∧ x.points ≤ pts ∧ (x.claims.length : Int) ≤ cl ∧ Own w0.heap.size w' 54 5 v x.claims.length (x.claims.flatMap ccells)) ∧ (∃ k', k' ≤ k0 + 100 ∧ Hnd w' hb k') ∧ w0.grownBy w' (some hb)) .ret a W := by
  subst hW
  have hl := h.lt
  have h3 := h.hl
  obtain ⟨av, cv, rfl⟩ := own_slice hO
  have hO3 := ((h.o.set 0 (.int .i64 x.points)).set 1 (.int .i64 x.bend)).set 2 (.slice av x.claims.length cv)
  have hH := ((h.h.setCell (a := ⟨b6, 0, none⟩) (by show hb < b6; omega) (.int .i64 x.points)).setCell (a := ⟨b6, 1, none⟩) (by show hb < b6; omega) (.int .i64 x.bend)).setCell (a := ⟨b6, 2, none⟩) (by show hb < b6; omega) (.slice av x.claims.length cv)
  have hG := only_setCell (only_setCell (only_setCell h.g (p := ⟨b6, 0, none⟩) hl.1 (.int .i64 x.points)) (p := ⟨b6, 1, none⟩) hl.1 (.int .i64 x.bend)) (p := ⟨b6, 2, none⟩) hl.1 (.slice av x.claims.length cv)
  have hR := hO.step (w' := ((w.setCell ⟨b6, 0, none⟩ (.int .i64 x.points)).setCell ⟨b6, 1, none⟩ (.int .i64 x.bend)).setCell ⟨b6, 2, none⟩ (.slice av x.claims.length cv)) fun q hq2 hq hq3 => (Below.heap_setCell _ _ _ _ (show q ≠ b6 by omega)).trans ((Below.heap_setCell _ _ _ _ (show q ≠ b6 by omega)).trans (Below.heap_setCell _ _ _ _ (show q ≠ b6 by omega)))
  generalize ((w.setCell ⟨b6, 0, none⟩ (.int .i64 x.points)).setCell ⟨b6, 1, none⟩ (.int .i64 x.bend)).setCell ⟨b6, 2, none⟩ (.slice av x.claims.length cv) = wf at hO3 hH hG hR ⊢
  have x0 := hO3.cell 0
  have x1 := hO3.cell 1
  have x2 := hO3.cell 2
  exact bodyPost_ret (v := .agg #[.int .i64 x.points, .int .i64 x.bend, .slice av x.claims.length cv]) (by simp [results, Tryz.results7, go_sem, h6, x0, x1, x2]) hd ⟨⟨x, _, rfl, hok, h1, h2, own_from hR (by omega)⟩, ⟨k, hk, hH⟩, hG⟩

set_option maxRecDepth 100000 in
set_option maxHeartbeats 4000000 in
theorem edgeOf_c {w : World} {hb k : Nat} (hH : Hnd w hb k) (hk : k < 800000) {pts cl : Int} (hp : 1 ≤ pts ∧ pts ≤ 4) (hc : 0 ≤ cl ∧ cl ≤ 7) :
    Calls Tryz.prog 7 #[.pointer (some ⟨hb, 0, none⟩), .int .i64 pts, .int .i64 cl] w fun e w' => (∃ (x : Edg) (v : Value), e = .returned (.agg #[.int .i64 x.points, .int .i64 x.bend, v]) ∧ x.Ok ∧ x.points ≤ pts ∧ (x.claims.length : Int) ≤ cl ∧ Own w.heap.size w' 54 5 v x.claims.length (x.claims.flatMap ccells)) ∧ (∃ k', k' ≤ k + 100 ∧ Hnd w' hb k') ∧ w.grownBy w' (some hb) := by
  have hhb := hH.lt
  obtain ⟨w1, hw1⟩ : ∃ w1, w1 = w.alloc (.cells #[.int .i64 0, .int .i64 0, .slice none 0 0] 24) := ⟨_, rfl⟩
  obtain ⟨b6, hb6⟩ : ∃ b, b = w.heap.size := ⟨_, rfl⟩
  have hO1 : Blk b6 #[.int .i64 0, .int .i64 0, .slice none 0 0] 24 w1 := by rw [hw1, hb6]; exact Blk.new _ _ _
  have hB1 : Below w.heap.size w w1 := by rw [hw1]; exact (Below.refl _ w).alloc (Nat.le_refl _) _
  have hH1 := hH.call hB1
  go_enter Tryz.func7, Tryz.ntmps7
  go_upto_region 1 with fail
  rw [← hw1, ← hb6]
  have hzb : w.heap.size ≤ b6 := Nat.le_of_eq hb6.symm
  clear hw1 hb6
  go_wp2_with fail
  refine (among_c hH1 (by omega) 1 pts (by omega) (by omega) (by omega) (by omega)).mono ?_
  rintro e w2 ⟨⟨up, rfl, hup, hupb⟩, ⟨k2, hk2, hH2⟩, hG2⟩
  have hO2 := hO1.hand hG2 (by omega)
  have hG02 := only_trans (only_below hB1) hG2
  obtain ⟨n, rfl⟩ : ∃ n : Nat, up = (n : Int) := ⟨up.toNat, by omega⟩
  have hn : 1 ≤ n ∧ n ≤ 4 ∧ (n : Int) ≤ pts := by omega
  clear hup hupb hG2 hO1 hH1
  go_wp2_with fail
  refine (upto_c hH2 (by omega) 9 (by omega) (by omega)).mono ?_
  rintro e w3 ⟨⟨u, rfl, hu, hub⟩, ⟨k3, hk3, hH3⟩, hG3⟩
  have hO3 := hO2.hand hG3 (by omega)
  have hG03 := only_trans hG02 hG3
  clear hG3 hG02 hO2 hH2
  go_wp2_with fail
  have hB4 := (Below.refl w3.heap.size w3).alloc (Nat.le_refl _) (.cells #[.int .i64 2, .int .i64 u] 3)
  have hls : Ints (fun q => w3.heap.size ≤ q) (w3.alloc (.cells #[.int .i64 2, .int .i64 u] 3)) (.slice (some ⟨w3.heap.size, 0, none⟩) 2 2) [2, u] := Own.ints (n := 2) (own_lit w3 3 1 #[.int .i64 2, .int .i64 u] 2 rfl (by omega))
  refine (of_c (hH3.call hB4) (by omega) 1 hls (by have := hH3.lt; omega) (by simp)).mono ?_
  rintro e w4 ⟨⟨B, rfl, hBB⟩, ⟨k4, hk4, hH4⟩, hG4⟩
  have hB9 : 0 ≤ B ∧ B ≤ 9 := by
    simp only [List.mem_cons, List.not_mem_nil, or_false] at hBB
    omega
  have hO4 := (hO3.call hB4).hand hG4 (by omega)
  have hG04 := only_trans (only_then hG03 hB4) hG4
  clear hG4 hG03 hO3 hH3 hls hB4 hBB
  obtain ⟨b7, hb7⟩ : ∃ b, b = w4.heap.size := ⟨_, rfl⟩
  obtain ⟨w5, hw5⟩ : ∃ w5, w5 = w4.alloc (.cells #[.int .i64 (n : Int), .int .i64 B, .slice none 0 0] 24) := ⟨_, rfl⟩
  have hX5 : XS w hb b6 b7 k4 #[.int .i64 (n : Int), .int .i64 B, .slice none 0 0] w5 := by
    rw [hw5, hb7]
    have hs := hG04.size
    have hs6 := hO4.lt
    exact ⟨hO4.alloc _, Blk.new _ _ _, hH4.call ((Below.refl _ _).alloc (Nat.le_refl _) _), only_then hG04 ((Below.refl _ _).alloc (Nat.le_refl _) _), ⟨hzb, hs, hs6⟩, hhb⟩
  have hz5 : b7 + 1 ≤ w5.heap.size := hX5.x.lt
  have hbb : hb < b7 + 1 := by have := hX5.lt; have := hX5.hl; omega
  have hb67 : b6 < b7 ∧ w.heap.size ≤ b7 := ⟨hX5.lt.2.2, hX5.lt.2.1⟩
  go_upto_region 2 with fail
  rw [← hw5, ← hb7]
  clear hw5 hb7 hO4 hG04 hH4 hB1 hH
  go_wp2_with fail
  refine (upto_c hX5.h (by omega) 9 (by omega) (by omega)).mono ?_
  rintro e w6 ⟨⟨u0, rfl, hu0, hu0b⟩, ⟨k6, hk6, hH6⟩, hG6⟩
  have hX6 := hX5.hand hH6 hG6
  have hz6 : b7 + 1 ≤ w6.heap.size := hX6.x.lt
  clear hX5 hH6 hG6
  have hX7 := hX6.call ((Below.refl w6.heap.size w6).alloc (Nat.le_refl _) (.cells #[.int .i64 u0] 3))
  have hO7 : Own (b7 + 1) (w6.alloc (.cells #[.int .i64 u0] 3)) 3 1 (.slice (some ⟨w6.heap.size, 0, none⟩) 1 1) 1 (I64 [u0]) := own_from (own_lit w6 3 1 #[.int .i64 u0] 1 rfl (by omega)) hz6
  go_upto_region 3 with fail
  clear hX6 hz6
  generalize w6.alloc (.cells #[.int .i64 u0] 3) = w7 at hX7 hO7 ⊢
  generalize w6.heap.size = g0 at hO7 ⊢
  go_loopw [8] (fun vl wr => ∃ (m : Nat) (l : List Int) (kr : Nat), 1 ≤ m ∧ m ≤ n ∧ kr ≤ k + 10 + m ∧ lenOf vl = m ∧ Own (b7 + 1) wr 3 1 vl m (I64 l) ∧ (∀ u ∈ l, 0 ≤ u ∧ u ≤ 9) ∧ XS w hb b6 b7 kr #[.int .i64 (n : Int), .int .i64 B, .slice none 0 0] wr) (fun vl _ => n - lenOf vl)
  case atStart => exact ⟨1, [u0], k6, Nat.le_refl _, hn.1, by omega, rfl, hO7, by simp; omega, hX7⟩
  case round =>
    obtain ⟨m, l, kr, hm1, hmn, hkr, hlen, hO4, hl9, hX4⟩ := hrel
    clear hX7 hO7
    have hll := own_len hO4
    obtain ⟨g, cp, rfl, hgN, hgl⟩ := own_shape hO4 hm1
    have x0 := hX4.x.cell 0
    have x1 := hX4.x.cell 1
    by_cases hlt : m < n
    · obtain ⟨m1, hm⟩ : ∃ m1, m1 = m - 1 := ⟨_, rfl⟩
      have bm : IntKind.i64.wrap ((m : Int) - 1) = (m1 : Int) := by rw [IntWalk.i64_in _ (by omega)]; omega
      have hm1l : m1 < l.length := by omega
      obtain ⟨la, hla⟩ : ∃ la, la = l[m1] := ⟨_, rfl⟩
      have hla9 : 0 ≤ la ∧ la ≤ 9 := by rw [hla]; exact hl9 _ (List.getElem_mem _)
      have hcl := own_cell hO4 m1 hm1l
      rw [← hla] at hcl
      have bn : IntKind.i64.wrap (-B) = -B := IntWalk.i64_in _ (by omega)
      have hm1n : m1 < m := by omega
      have HLA := Lib.hid hla
      have HM1 := Lib.hid hm
      have HL9 := Lib.hid hl9
      have hll1 : l.length ≤ m := by omega
      have hll2 : m ≤ l.length := by omega
      clear hla hm hl9 hll
      go_wp2_with fail
      refine wp_region_mix2 (.pur 0 (.pur 1 (.pur 2 (.pur 3 (.pur 4 (.pur 5 (.one 6 (.pur 7 (.pur 8 (.one 9 (.pur 10 (.pur 11 (.one 12 (.act 13 (.pur 14 (.pur 15 (.pur 16 (.act 17 (.act 18 (.pur 19 .fin)))))))))))))))))))) 18 (fun w => Blk b7 #[.int .i64 (n : Int), .int .i64 B, .slice none 0 0] 24 w ∧ w.cell? ⟨g, m1, none⟩ = some (.int .i64 la)) (fun _ => True) (by kernel_rfl) (by kernel_rfl) rfl (by kernel_rfl) ⟨hX4.x.qt ((Qt.refl _).drewN 1), hcl⟩ (fun wd hqd _ => ?_)
      have hXd := hX4.qt hqd
      have hOd := hO4.qt hqd
      refine mix_pur2 rfl (fun K hK => ?_)
      go_simp
      first | refine ⟨_, fun _ => rfl, hK _ ?_⟩ | refine hK _ ?_
      clear hK K
      refine mix_pur2 rfl (fun K hK => ?_)
      go_simp
      first | refine ⟨_, fun _ => rfl, hK _ ?_⟩ | refine hK _ ?_
      clear hK K
      refine mix_pur2 rfl (fun K hK => ?_)
      go_simp
      first | refine ⟨_, fun _ => rfl, hK _ ?_⟩ | refine hK _ ?_
      clear hK K
      refine mix_pur2 rfl (fun K hK => ?_)
      go_simp
      first | refine ⟨_, fun _ => rfl, hK _ ?_⟩ | refine hK _ ?_
      clear hK K
      refine mix_pur2 rfl (fun K hK => ?_)
      go_simp
      first | refine ⟨_, fun _ => rfl, hK _ ?_⟩ | refine hK _ ?_
      clear hK K
      refine mix_pur2 rfl (fun K hK => ?_)
      go_simp
      first | refine ⟨_, fun _ => rfl, hK _ ?_⟩ | refine hK _ ?_
      clear hK K
      refine mix_load2 rfl rfl rfl (.int .i64 la) (fun w' h => by have h : (fun w => Blk b7 #[.int .i64 (n : Int), .int .i64 B, .slice none 0 0] 24 w ∧ w.cell? ⟨g, m1, none⟩ = some (.int .i64 la)) w' := h; have h0 := h.2; go_simp) rfl ?_
      refine mix_pur2 rfl (fun K hK => ?_)
      go_simp
      first | refine ⟨_, fun _ => rfl, hK _ ?_⟩ | refine hK _ ?_
      clear hK K
      refine mix_pur2 rfl (fun K hK => ?_)
      go_simp
      first | refine ⟨_, fun _ => rfl, hK _ ?_⟩ | refine hK _ ?_
      clear hK K
      refine mix_load2 rfl rfl rfl (.int .i64 B) (fun w' h => by have h : (fun w => Blk b7 #[.int .i64 (n : Int), .int .i64 B, .slice none 0 0] 24 w ∧ w.cell? ⟨g, m1, none⟩ = some (.int .i64 la)) w' := h; have h0 := h.1.cell 1; go_simp) rfl ?_
      refine mix_pur2 rfl (fun K hK => ?_)
      go_simp
      first | refine ⟨_, fun _ => rfl, hK _ ?_⟩ | refine hK _ ?_
      clear hK K
      refine mix_pur2 rfl (fun K hK => ?_)
      go_simp
      first | refine ⟨_, fun _ => rfl, hK _ ?_⟩ | refine hK _ ?_
      clear hK K
      refine mix_load2 rfl rfl rfl (.int .i64 B) (fun w' h => by have h : (fun w => Blk b7 #[.int .i64 (n : Int), .int .i64 B, .slice none 0 0] 24 w ∧ w.cell? ⟨g, m1, none⟩ = some (.int .i64 la)) w' := h; have h0 := h.1.cell 1; go_simp) rfl ?_
      refine mix_eff2 rfl false rfl (fun K hK => ?_)
      go_simp
      refine (among_c hXd.h (by omega) (-B) B (by omega) (by omega) (by omega) (by omega)).mono ?_
      rintro e w5 ⟨⟨r, rfl, hr, hrb⟩, ⟨k5, hk5, hH5⟩, hG5⟩
      have hX5 := hXd.hand hH5 hG5
      have hO5 := hOd.only hG5 (by omega)
      have bw : IntKind.i64.wrap (la + r) = la + r := IntWalk.i64_in _ (by omega)
      refine hK _ _ ⟨hX5.x, by have := own_cell hO5 m1 (by omega); rw [← HLA.out] at this; exact this⟩ ?_
      clear hK K hH5 hG5
      refine mix_pur2 rfl (fun K hK => ?_)
      go_simp
      first | refine ⟨_, fun _ => rfl, hK _ ?_⟩ | refine hK _ ?_
      clear hK K
      refine mix_pur2 rfl (fun K hK => ?_)
      go_simp
      first | refine ⟨_, fun _ => rfl, hK _ ?_⟩ | refine hK _ ?_
      clear hK K
      refine mix_pur2 rfl (fun K hK => ?_)
      go_simp
      first | refine ⟨_, fun _ => rfl, hK _ ?_⟩ | refine hK _ ?_
      clear hK K
      refine mix_eff2 rfl false rfl (fun K hK => ?_)
      go_simp
      obtain ⟨mx, hmx⟩ : ∃ m, m = (if 0 < la + r then la + r else 0) := ⟨_, rfl⟩
      rw [← hmx]
      obtain ⟨z1, hz1⟩ : ∃ z, z = (if mx < 9 then mx else 9) := ⟨_, rfl⟩
      rw [← hz1]
      have hz9 : 0 ≤ z1 ∧ z1 ≤ 9 := by rw [hz1, hmx]; (repeat' split) <;> omega
      have HMX := Lib.hid hmx
      have HZ1 := Lib.hid hz1
      clear hmx hz1
      refine hK _ _ ⟨hX5.x.alloc _, by have := own_cell (hO5.alloc (.cells #[.int .i64 z1] 3)) m1 (by omega); rw [← HLA.out] at this; exact this⟩ ?_
      clear hK K
      refine mix_eff2 rfl true rfl (fun K hK => ?_)
      refine step_append_arr rfl _ _ 26 rfl 3 (.int .i64 0) 1 8 Tryz.underlying26 Tryz.info3 rfl (by decide) (by decide) (by have := hX5.x.lt; simp; omega) (hO5.alloc _) rfl (arr_one w5 3 (.int .i64 z1)) rfl rfl (one_int _) (by omega) ?_
      intro v8 w8 hown hT
      refine hK _ _ trivial ?_
      clear hK K
      refine mix_pur2 rfl (fun K hK => ?_)
      go_simp
      first | refine ⟨_, fun _ => rfl, hK _ ?_⟩ | refine hK _ ?_
      clear hK K
      refine mix_done2 ?_
      obtain ⟨a8, c8, rfl⟩ := own_slice hown
      have hX8 := (hX5.call ((Below.refl _ w5).alloc (Nat.le_refl _) (.cells #[.int .i64 z1] 3))).far (hT.below2 (B' := b7 + 1) (hO5.alloc _) (Below.refl _ _) (by have := hX5.x.lt; simp; omega) (Nat.le_refl _))
      go_wp2_with fail
      go_roundw
      case rel => exact ⟨m + 1, l ++ [z1], k5, by omega, by omega, by omega, rfl, by rw [I64_append]; exact hown, fun u hu => by rcases List.mem_append.1 hu with h | h; exact HL9.out u h; rw [List.mem_singleton] at h; rw [h]; exact hz9, hX8⟩
      case measure => simp [lenOf]; omega
    · obtain rfl : n = m := by omega
      have HL9 := Lib.hid hl9
      have hll1 : l.length ≤ n := by omega
      have hll2 : n ≤ l.length := by omega
      clear hl9 hll hlen
      go_wp2_with fail
      clear x0 x1
      refine (upto_c hX4.h (by omega) cl (by omega) (by omega)).mono ?_
      rintro e w5 ⟨⟨q, rfl, hq, hqb⟩, ⟨k5, hk5, hH5⟩, hG5⟩
      have hX5 := hX4.hand hH5 hG5
      have hL5 := hO4.only hG5 (by omega)
      obtain ⟨c0, rfl⟩ : ∃ c : Nat, q = (c : Int) := ⟨q.toNat, by omega⟩
      have hc7 : c0 ≤ 7 ∧ (c0 : Int) ≤ cl := by omega
      obtain ⟨N2, hN2⟩ : ∃ N, N = w5.heap.size := ⟨_, rfl⟩
      have hgN2 : g < N2 := by rw [hN2]; have := hG5.size; omega
      have hbN2 : b7 + 1 ≤ N2 := by rw [hN2]; exact hX5.x.lt
      have hz5 : N2 ≤ w5.heap.size := Nat.le_of_eq hN2
      have hgq : ∀ q, Value.ownBlock (.slice (some ⟨g, 0, none⟩) n cp) = some q → q < N2 := fun q hq => by
        have : g = q := by simpa [Value.ownBlock] using hq
        omega
      clear hX4 hO4 hH5 hG5 hN2 hq hqb
      go_wp2_with fail
      go_loopw [9] (fun vi wr => ∃ (j : Nat) (cs : List Cl) (vc : Value) (kr : Nat), j + cs.length ≤ c0 ∧ vi = .int .i64 j ∧ kr ≤ k + 20 + 10 * cs.length ∧ Hid (∀ c ∈ cs, c.Ok n) ∧ Own N2 wr 54 5 vc cs.length (cs.flatMap ccells) ∧ Own (b7 + 1) wr 3 1 (.slice (some ⟨g, 0, none⟩) n cp) n (I64 l) ∧ XS w hb b6 b7 kr #[.int .i64 (n : Int), .int .i64 B, vc] wr ∧ N2 ≤ wr.heap.size) (fun vi _ => (intOf vi).toNat)
      case atStart => exact ⟨c0, [], _, k5, by simp, rfl, by simp; omega, Lib.hid (by simp), Own.nil, hL5, hX5, hz5⟩
      case round =>
        rename World => wr2
        obtain ⟨j, cs, vc, kr2, hjc, rfl, hkr2, HOK, hO, hL, hX, hz⟩ := hrel
        clear hX5 hL5
        obtain ⟨av, cv, rfl⟩ := own_slice hO
        by_cases hj : 0 < j
        · obtain ⟨j1, rfl⟩ : ∃ j1, j = j1 + 1 := ⟨j - 1, by omega⟩
          have bj : IntKind.i64.wrap (((j1 + 1 : Nat) : Int) - 1) = (j1 : Int) := by rw [IntWalk.i64_in _ (by omega)]; omega
          go_wp2_with fail
          refine wp_region_mix2 (.pur 0 (.one 1 (.pur 2 (.pur 3 (.one 4 (.pur 5 (.act 6 (.act 7 (.act 8 (.pur 9 (.act 10 .fin))))))))))) 8 (fun w => Blk b7 #[.int .i64 (n : Int), .int .i64 B, .slice av cs.length cv] 24 w) (fun _ => True) (by kernel_rfl) (by kernel_rfl) rfl (by kernel_rfl) (hX.x.qt ((Qt.refl _).drewN 1)) (fun wd hqd _ => ?_)
          have hXd := hX.qt hqd
          have hOd := hO.qt hqd
          have hLd := hL.qt hqd
          have hzd := hqd.size
          refine mix_pur2 rfl (fun K hK => ?_)
          go_simp
          first | refine ⟨_, fun _ => rfl, hK _ ?_⟩ | refine hK _ ?_
          clear hK K
          refine mix_load2 rfl rfl rfl (.slice av cs.length cv) (fun w' h => by have h : (fun w => Blk b7 #[.int .i64 (n : Int), .int .i64 B, .slice av cs.length cv] 24 w) w' := h; have h0 := h.cell 2; go_simp) rfl ?_
          refine mix_pur2 rfl (fun K hK => ?_)
          go_simp
          first | refine ⟨_, fun _ => rfl, hK _ ?_⟩ | refine hK _ ?_
          clear hK K
          refine mix_pur2 rfl (fun K hK => ?_)
          go_simp
          first | refine ⟨_, fun _ => rfl, hK _ ?_⟩ | refine hK _ ?_
          clear hK K
          refine mix_load2 rfl rfl rfl (.int .i64 (n : Int)) (fun w' h => by have h : (fun w => Blk b7 #[.int .i64 (n : Int), .int .i64 B, .slice av cs.length cv] 24 w) w' := h; have h0 := h.cell 0; go_simp) rfl ?_
          refine mix_pur2 rfl (fun K hK => ?_)
          go_simp
          first | refine ⟨_, fun _ => rfl, hK _ ?_⟩ | refine hK _ ?_
          clear hK K
          refine mix_eff2 rfl false rfl (fun K hK => ?_)
          go_simp
          refine (claimOf_c hXd.h (by omega) (n := n) ⟨by omega, by omega⟩ (Own.ints hLd) (by omega) hll2 HL9.out).mono ?_
          rintro e w6 ⟨⟨c, rfl, hcok⟩, ⟨k6, hk6, hH6⟩, hG6⟩
          unfold Cl.val
          have hX6 := hXd.hand hH6 hG6
          have hO6 := hOd.only hG6 (by omega)
          have hL6 := hLd.only hG6 (by omega)
          have hz6 := hG6.size
          refine hK _ _ hX6.x ?_
          clear hK K hH6 hG6
          refine mix_eff2 rfl false rfl (fun K hK => ?_)
          go_simp
          refine hK _ _ (hX6.x.alloc _) ?_
          clear hK K
          refine mix_eff2 rfl true rfl (fun K hK => ?_)
          refine step_append_arr rfl _ _ 22 rfl 54 _ 5 40 Tryz.underlying22 Tryz.info54 rfl (by decide) (by decide) (by simp; omega) (hO6.alloc _) rfl (Own.arr (own_lit w6 54 5 #[.int .i64 c.kind, .int .i64 c.point, .int .i64 c.other, .int .i64 c.off, .int .i64 c.err] 1 rfl (by omega))) rfl rfl (ccells_one c) (by omega) ?_
          intro v8 w8 hown hT
          obtain ⟨a8, c8, rfl⟩ := own_slice hown
          have hX8 := (hX6.call ((Below.refl _ w6).alloc (Nat.le_refl _) (.cells #[.int .i64 c.kind, .int .i64 c.point, .int .i64 c.other, .int .i64 c.off, .int .i64 c.err] 54))).far (hT.below2 (B' := b7 + 1) (hO6.alloc _) (Below.refl _ _) (by simp; omega) (by omega))
          have hL8 := (hL6.alloc (.cells #[.int .i64 c.kind, .int .i64 c.point, .int .i64 c.other, .int .i64 c.off, .int .i64 c.err] 54)).step fun q hq hq2 hq3 => hT.block q hq3 (fun e => by have := (World.ownsRow.lt (hO6.alloc (.cells #[.int .i64 c.kind, .int .i64 c.point, .int .i64 c.other, .int .i64 c.off, .int .i64 c.err] 54)) _ e).1; have := hgq q hq; omega)
          have e2 := hX8.x.cell 2
          have f2 := hX8.x.free 2
          refine hK _ _ trivial ?_
          clear hK K
          refine mix_pur2 rfl (fun K hK => ?_)
          go_simp
          first | refine ⟨_, fun _ => rfl, hK _ ?_⟩ | refine hK _ ?_
          clear hK K
          refine mix_eff2 rfl true rfl (fun K hK => ?_)
          go_simp
          refine hK _ _ trivial ?_
          clear hK K
          refine mix_done2 ?_
          have hX9 := hX8.set 2 (.slice a8 (cs.length + 1) c8)
          have hO9 : Own N2 (w8.setCell ⟨b7, 2, none⟩ (.slice a8 (cs.length + 1) c8)) 54 5 (.slice a8 (cs.length + 1) c8) (cs ++ [c]).length ((cs ++ [c]).flatMap ccells) := by
            rw [List.length_append, List.length_singleton, cls_snoc]
            exact hown.step fun q hq2 hq hq3 => Below.heap_setCell _ _ _ _ (show q ≠ b7 by omega)
          have hL9 := hL8.step (w' := w8.setCell ⟨b7, 2, none⟩ (.slice a8 (cs.length + 1) c8)) fun q hq hq2 hq3 => Below.heap_setCell _ _ _ _ (show q ≠ b7 by omega)
          have hz9 : N2 ≤ (w8.setCell ⟨b7, 2, none⟩ (.slice a8 (cs.length + 1) c8)).heap.size := by have := hT.size; simp [World.setCell] at this ⊢; omega
          clear hX8 hown hL8 e2 f2 hT
          generalize w8.setCell ⟨b7, 2, none⟩ (.slice a8 (cs.length + 1) c8) = w9 at hX9 hO9 hL9 hz9 ⊢
          go_wp2_with fail
          go_roundw
          case rel => exact ⟨j1, cs ++ [c], _, k6, by simp; omega, rfl, by simp; omega, Lib.hid (fun d hd => by rcases List.mem_append.1 hd with h | h; exact HOK.out d h; rw [List.mem_singleton] at h; rw [h]; exact hcok), hO9, hL9, hX9, hz9⟩
          case measure => simp [intOf]
        · obtain rfl : j = 0 := by omega
          have x0 := hX.x.cell 0
          have x1 := hX.x.cell 1
          have x2 := hX.x.cell 2
          have o0 := hX.o.cell 0
          have o1 := hX.o.cell 1
          have o2 := hX.o.cell 2
          have g0 := hX.o.free 0
          have g1 := hX.o.free 1
          have g2 := hX.o.free 2
          go_wp2_with fail
          exact edge_fin (x := ⟨(n : Int), B, cs⟩) hX ⟨⟨by show (1 : Int) ≤ n; omega, by show (n : Int) ≤ 4; omega⟩, hB9, by show cs.length ≤ 7; omega, HOK.out⟩ (by show (n : Int) ≤ pts; omega) (by show (cs.length : Int) ≤ cl; omega) hO (by omega) (by omega) rfl rfl rfl

end Go.Proofs.YtbpfhoihfoojfaaGreatDoor
