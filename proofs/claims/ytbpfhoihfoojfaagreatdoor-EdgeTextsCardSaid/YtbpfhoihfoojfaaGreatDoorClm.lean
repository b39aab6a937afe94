/- ClaimOf of mestakit (edge): a valid claim; conditions: as said. -/
import Derived.Test.YtbpfhoihfoojfaaGreatDoorCk
namespace Go.Proofs.YtbpfhoihfoojfaaGreatDoor
open Go.RowKit

theorem odds_c {w : World} {hb k : Nat} (h : Hnd w hb k) (hk : k < 1000000) (sm all : Int) (hm : all ≤ 1000000) (hm0 : -100000 ≤ all) (_h : all ≤ 500000) :
    Calls Tryz.prog 54 #[.pointer (some ⟨hb, 0, none⟩), .int .i64 sm, .int .i64 all] w fun e w' => (∃ b : Bool, e = .returned (.bool b)) ∧ (∃ k', k' ≤ k + 1 ∧ Hnd w' hb k') ∧ w.grownBy w' (some hb) := by
  have bw : IntKind.i64.wrap (all - 1) = all - 1 := IntWalk.i64_in _ (by omega)
  go_enter Tryz.func54, Tryz.ntmps54
  go_wp2_with fail
  refine (upto_c h hk (all - 1) (by omega) (by omega)).mono ?_
  rintro e w' ⟨⟨u, rfl, hu0, hu1⟩, hh, ho⟩
  by_cases hlt : u < sm
  · go_wp2_with fail
    go_ret
    exact ⟨⟨_, rfl⟩, hh, ho⟩
  · go_wp2_with fail
    go_ret
    exact ⟨⟨_, rfl⟩, hh, ho⟩

theorem okA {P p a kd : Int} (hk : kd = 1 ∨ kd = 3 ∨ kd = 4) (hp : 0 ≤ p ∧ p ≤ P - 1) (ha : 0 ≤ a ∧ a ≤ 9) : Cl.Ok P ⟨kd, p, 0, a, 0⟩ :=
  ⟨by show 1 ≤ kd ∧ kd ≤ 5; omega, hp, by show if kd = 5 then _ else _; rw [if_neg (by omega)], by show if kd = 5 then _ else _; rw [if_neg (by omega)]; exact ha, by show if kd = 2 then _ else _; rw [if_neg (by omega)]⟩
theorem okB {P p a e : Int} (hp : 0 ≤ p ∧ p ≤ P - 1) (ha : 0 ≤ a ∧ a ≤ 9) (he : 0 ≤ e ∧ e ≤ 9) : Cl.Ok P ⟨2, p, 0, a, e⟩ :=
  ⟨by show (1 : Int) ≤ 2 ∧ (2 : Int) ≤ 5; omega, hp, rfl, ha, he⟩
theorem okE {P p q a : Int} (hp : 0 ≤ p ∧ p ≤ P - 1) (hq : 0 ≤ q ∧ q ≤ P - 1) (hn : q ≠ p) (ha : -9 ≤ a ∧ a ≤ 9) : Cl.Ok P ⟨5, p, q, a, 0⟩ :=
  ⟨by show (1 : Int) ≤ 5 ∧ (5 : Int) ≤ 5; omega, hp, ⟨hq, hn⟩, ha, rfl⟩
theorem other_ok {p n : Nat} {r : Int} (hp : p < n) (hr : 1 ≤ r ∧ r ≤ (n : Int) - 1) : (0 ≤ ((p : Int) + r).tmod n ∧ ((p : Int) + r).tmod n ≤ (n : Int) - 1) ∧ ((p : Int) + r).tmod n ≠ p := by
  rw [Int.tmod_eq_emod_of_nonneg (by omega)]
  by_cases h : (p : Int) + r < n
  · rw [Int.emod_eq_of_lt (by omega) h]; omega
  · have e : ((p : Int) + r) % n = (p : Int) + r - n := by
      rw [← Int.sub_emod_right, Int.emod_eq_of_lt (by omega) (by omega)]
    rw [e]; omega
/-- A claim in the making. -/
structure KS (w0 : World) (hb b6 b7 gl off : Nat) (l : List Int) (k : Nat) (c : Array Value) (w : World) : Prop where
  o : Blk b6 #[.int .i64 0, .int .i64 0, .int .i64 0, .int .i64 0, .int .i64 0] 54 w
  x : Blk b7 c 54 w
  h : Hnd w hb k
  g : w0.grownBy w (some hb)
  li : ∀ j (hj : j < l.length), w.cell? ⟨gl, off + j, none⟩ = some (.int .i64 l[j])
  lo : gl < w0.heap.size ∧ gl ≠ hb
  lt : w0.heap.size ≤ b6 ∧ w0.heap.size ≤ b7 ∧ b6 ≠ b7
  hl : hb < w0.heap.size
theorem cell_same {w w' : World} {b i : Nat} (h : w'.heap[b]? = w.heap[b]?) : w'.cell? ⟨b, i, none⟩ = w.cell? ⟨b, i, none⟩ := by rw [World.cell?, World.cell?, h]
section
variable {w0 w w' : World} {hb b6 b7 gl off k k' : Nat} {l : List Int} {c : Array Value}
theorem KS.hand (h : KS w0 hb b6 b7 gl off l k c w) (hH : Hnd w' hb k') (ho : w.grownBy w' (some hb)) : KS w0 hb b6 b7 gl off l k' c w' := by
  have h1 := h.lt; have h2 := h.lo; have h3 := h.hl; have h4 := h.g.size
  exact ⟨h.o.hand ho (by omega), h.x.hand ho (by omega), hH, only_trans h.g ho, fun j hj => (cell_same (ho.block gl (by omega) (fun e => by injection e with e; omega))).trans (h.li j hj), h.lo, h.lt, h.hl⟩
theorem KS.qt (h : KS w0 hb b6 b7 gl off l k c w) (q : Qt w w') : KS w0 hb b6 b7 gl off l k c w' := h.hand (h.h.qt q) (only_below (q.below _))
theorem KS.set (h : KS w0 hb b6 b7 gl off l k c w) (j : Nat) (v : Value) : KS w0 hb b6 b7 gl off l k (c.setIfInBounds j v) (w.setCell ⟨b7, j, none⟩ v) := by
  have h1 := h.lt; have h2 := h.lo; have h3 := h.hl
  exact ⟨h.o.other (by show b6 ≠ b7; omega) _, h.x.set j v, h.h.setCell (by show hb < b7; omega) v, only_setCell h.g (by show _ ≤ b7; omega) v, fun i hi => (cell_same (Below.heap_setCell w _ v gl (by show gl ≠ b7; omega))).trans (h.li i hi), h.lo, h.lt, h.hl⟩
end
theorem claim_fin {w0 w : World} {hb b6 b7 gl off k k0 : Nat} {l : List Int} {c : Cl} {P : Int} (h : KS w0 hb b6 b7 gl off l k (ccells c).toArray w) (hok : c.Ok P) (hk : k ≤ k0 + 10) {a : Act} (hd : a.defers = []) (h6 : a.tmps[6]? = some (.pointer (some ⟨b6, 0, none⟩))) {W : World}
    (hW : W = ((((w.setCell ⟨b6, 0, none⟩ (.int .i64 c.kind)).setCell ⟨b6, 1, none⟩ (.int .i64 c.point)).setCell ⟨b6, 2, none⟩ (.int .i64 c.other)).setCell ⟨b6, 3, none⟩ (.int .i64 c.off)).setCell ⟨b6, 4, none⟩ (.int .i64 c.err)) :
    bodyPost Tryz.prog Tryz.f30 (fun e w' => (∃ c : Cl, e = .returned c.val ∧ c.Ok P) ∧ (∃ k', k' ≤ k0 + 10 ∧ Hnd w' hb k') ∧ w0.grownBy w' (some hb)) .ret a W := by
  subst hW
  have h1 := h.lt
  have h3 := h.hl
  have hO := ((((h.o.set 0 (.int .i64 c.kind)).set 1 (.int .i64 c.point)).set 2 (.int .i64 c.other)).set 3 (.int .i64 c.off)).set 4 (.int .i64 c.err)
  have hH := ((((h.h.setCell (a := ⟨b6, 0, none⟩) (by show hb < b6; omega) (.int .i64 c.kind)).setCell (a := ⟨b6, 1, none⟩) (by show hb < b6; omega) (.int .i64 c.point)).setCell (a := ⟨b6, 2, none⟩) (by show hb < b6; omega) (.int .i64 c.other)).setCell (a := ⟨b6, 3, none⟩) (by show hb < b6; omega) (.int .i64 c.off)).setCell (a := ⟨b6, 4, none⟩) (by show hb < b6; omega) (.int .i64 c.err)
  have hG := only_setCell (only_setCell (only_setCell (only_setCell (only_setCell h.g (p := ⟨b6, 0, none⟩) h1.1 (.int .i64 c.kind)) (p := ⟨b6, 1, none⟩) h1.1 (.int .i64 c.point)) (p := ⟨b6, 2, none⟩) h1.1 (.int .i64 c.other)) (p := ⟨b6, 3, none⟩) h1.1 (.int .i64 c.off)) (p := ⟨b6, 4, none⟩) h1.1 (.int .i64 c.err)
  generalize ((((w.setCell ⟨b6, 0, none⟩ (.int .i64 c.kind)).setCell ⟨b6, 1, none⟩ (.int .i64 c.point)).setCell ⟨b6, 2, none⟩ (.int .i64 c.other)).setCell ⟨b6, 3, none⟩ (.int .i64 c.off)).setCell ⟨b6, 4, none⟩ (.int .i64 c.err) = wf at hO hH hG ⊢
  have x0 := hO.cell 0
  have x1 := hO.cell 1
  have x2 := hO.cell 2
  have x3 := hO.cell 3
  have x4 := hO.cell 4
  exact bodyPost_ret (v := c.val) (by simp [results, Tryz.results30, go_sem, h6, x0, x1, x2, x3, x4, Cl.val]) hd ⟨⟨c, rfl, hok⟩, ⟨k, hk, hH⟩, hG⟩

set_option maxRecDepth 100000 in
set_option maxHeartbeats 4000000 in
theorem claimOf_c {A : Nat → Prop} {w : World} {hb k : Nat} (hH : Hnd w hb k) (hk : k < 900000) {n : Nat} (hn : 1 ≤ n ∧ n ≤ 4) {v : Value} {l : List Int} (hl : Ints A w v l) (hA : ¬ A hb) (hll : n ≤ l.length) (hl9 : ∀ u ∈ l, 0 ≤ u ∧ u ≤ 9) :
    Calls Tryz.prog 30 #[.pointer (some ⟨hb, 0, none⟩), .int .i64 (n : Int), v] w fun e w' => (∃ c : Cl, e = .returned c.val ∧ c.Ok n) ∧ (∃ k', k' ≤ k + 10 ∧ Hnd w' hb k') ∧ w.grownBy w' (some hb) := by
  obtain ⟨a1, cp, rfl, hcp, _⟩ := hl.shape
  have hll0 : 0 < l.length := by omega
  obtain ⟨gl, off, rfl, hAg, hgl, hcells⟩ := hl.addr hll0
  have hlen := hl.len
  have hne : gl ≠ hb := fun e => hA (e ▸ hAg)
  have hhb := hH.lt
  obtain ⟨w1, hw1⟩ : ∃ w1, w1 = w.alloc (.cells #[.int .i64 0, .int .i64 0, .int .i64 0, .int .i64 0, .int .i64 0] 54) := ⟨_, rfl⟩
  obtain ⟨b6, hb6⟩ : ∃ b, b = w.heap.size := ⟨_, rfl⟩
  have hO1 : Blk b6 #[.int .i64 0, .int .i64 0, .int .i64 0, .int .i64 0, .int .i64 0] 54 w1 := by rw [hw1, hb6]; exact Blk.new _ _ _
  have hB1 : Below w.heap.size w w1 := by rw [hw1]; exact (Below.refl _ w).alloc (Nat.le_refl _) _
  have hH1 := hH.call hB1
  have hl1 := hl.call hB1
  have bn1 : IntKind.i64.wrap ((n : Int) - 1) = (n : Int) - 1 := IntWalk.i64_in _ (by omega)
  go_enter Tryz.func30, Tryz.ntmps30
  go_upto_region 1 with fail
  rw [← hw1, ← hb6]
  have hzb : w.heap.size ≤ b6 := Nat.le_of_eq hb6.symm
  clear hw1 hb6
  go_wp2_with fail
  have hB2 := (Below.refl w1.heap.size w1).alloc (Nat.le_refl _) (.cells #[.int .i64 2, .int .i64 3, .int .i64 4, .int .i64 5] 3)
  have hls : Ints (fun q => w1.heap.size ≤ q) (w1.alloc (.cells #[.int .i64 2, .int .i64 3, .int .i64 4, .int .i64 5] 3)) (.slice (some ⟨w1.heap.size, 0, none⟩) 4 4) [2, 3, 4, 5] := Own.ints (n := 4) (own_lit w1 3 1 #[.int .i64 2, .int .i64 3, .int .i64 4, .int .i64 5] 4 rfl (by omega))
  refine (of_c (hH1.call hB2) (by omega) 1 hls (by have := hH1.lt; omega) (by simp)).mono ?_
  rintro e w3 ⟨⟨kd, rfl, hkd⟩, ⟨k3, hk3, hH3⟩, hG3⟩
  have hG03 := only_trans (only_below (bnx hB1 hB2)) hG3
  have hO3 := (hO1.call hB2).hand hG3 (by omega)
  clear hls
  go_wp2_with fail
  refine (upto_c hH3 (by omega) ((n : Int) - 1) (by omega) (by omega)).mono ?_
  rintro e w4 ⟨⟨up, rfl, hup, hupb⟩, ⟨k4, hk4, hH4⟩, hG4⟩
  have hG04 := only_trans hG03 hG4
  have hO4 := hO3.hand hG4 (by omega)
  obtain ⟨pt, rfl⟩ : ∃ pt : Nat, up = (pt : Int) := ⟨up.toNat, by omega⟩
  have hpn : pt < n := by omega
  have hpl : pt < l.length := by omega
  obtain ⟨b7, hb7⟩ : ∃ b, b = w4.heap.size := ⟨_, rfl⟩
  obtain ⟨w5, hw5⟩ : ∃ w5, w5 = w4.alloc (.cells #[.int .i64 kd, .int .i64 (pt : Int), .int .i64 0, .int .i64 0, .int .i64 0] 54) := ⟨_, rfl⟩
  have hK5 : KS w hb b6 b7 gl off l k4 #[.int .i64 kd, .int .i64 (pt : Int), .int .i64 0, .int .i64 0, .int .i64 0] w5 := by
    rw [hw5, hb7]
    have hs := hG04.size
    have hs6 := hO4.lt
    refine ⟨hO4.alloc _, Blk.new _ _ _, hH4.call ((Below.refl _ _).alloc (Nat.le_refl _) _), only_then hG04 ((Below.refl _ _).alloc (Nat.le_refl _) _), fun j hj => ?_, ⟨hgl, hne⟩, ⟨hzb, hs, by omega⟩, hhb⟩
    exact (cell_same (Below.heap_alloc w4 _ gl (by omega))).trans ((cell_same (hG04.block gl hgl (fun e => by injection e with e; omega))).trans (hl.cell j hj))
  go_upto_region 2 with fail
  rw [← hw5, ← hb7]
  clear hw5 hb7 hO1 hO3 hO4 hG3 hG4 hG03 hG04 hH1 hH3 hH4 hB1 hB2 hl1 hH
  obtain ⟨a0, ha0⟩ : ∃ a, a = l[pt] := ⟨_, rfl⟩
  have ha9 : 0 ≤ a0 ∧ a0 ≤ 9 := by rw [ha0]; exact hl9 _ (List.getElem_mem _)
  have HA0 := Lib.hid ha0
  have HL9 := Lib.hid hl9
  clear ha0 hl9
  have hkk : (kd = 1 ∧ n = 1) ∨ (kd = 1 ∧ 2 ≤ n) ∨ (kd = 2 ∧ n = 1) ∨ (kd = 2 ∧ 2 ≤ n) ∨ (kd = 3 ∧ n = 1) ∨ (kd = 3 ∧ 2 ≤ n) ∨ (kd = 4 ∧ n = 1) ∨ (kd = 4 ∧ 2 ≤ n) ∨ (kd = 5 ∧ n = 1) ∨ (kd = 5 ∧ 2 ≤ n) := by
    simp only [List.mem_cons, List.not_mem_nil, or_false] at hkd
    omega
  clear hkd
  rcases hkk with ⟨rfl, hn1⟩ | ⟨rfl, hn1⟩ | ⟨rfl, hn1⟩ | ⟨rfl, hn1⟩ | ⟨rfl, hn1⟩ | ⟨rfl, hn1⟩ | ⟨rfl, hn1⟩ | ⟨rfl, hn1⟩ | ⟨rfl, hn1⟩ | ⟨rfl, hn1⟩
  · have hK6 := hK5
    obtain ⟨w6, hw6⟩ : ∃ w6, w6 = w5 := ⟨_, rfl⟩
    rw [← hw6] at hK6 ⊢
    clear hK5 hw6
    have hc1 : ((n : Int) == 1) = true := by rw [hn1]; rfl
    have hn1l : n ≤ 1 := Nat.le_of_eq hn1
    clear hn1
    have e0 := hK6.x.cell 0
    have e1 := hK6.x.cell 1
    have e2 := hK6.x.cell 2
    have e3 := hK6.x.cell 3
    have e4 := hK6.x.cell 4
    have f3 := hK6.x.free 3
    have hc := hK6.li pt hpl
    rw [← HA0.out] at hc
    go_upto_region 5 with fail
    have hK7 := hK6.set 3 (.int .i64 (a0))
    generalize w6.setCell ⟨b7, 3, none⟩ (.int .i64 (a0)) = w7 at hK7 ⊢
    clear e0 e1 e2 e3 e4
    clear f3 hc
    have e0 := hK7.x.cell 0
    have e1 := hK7.x.cell 1
    have e2 := hK7.x.cell 2
    have e3 := hK7.x.cell 3
    have e4 := hK7.x.cell 4
    go_wp2_with fail
    refine (odds_c hK7.h (by omega) 1 5 (by omega) (by omega) (by omega)).mono ?_
    rintro e w50 ⟨⟨b, rfl⟩, ⟨k50, hk50, hH50⟩, hG50⟩
    have hK50 := hK7.hand hH50 hG50
    clear hH50 hG50
    clear e0 e1 e2 e3 e4
    have e0 := hK50.x.cell 0
    have e1 := hK50.x.cell 1
    have e2 := hK50.x.cell 2
    have e3 := hK50.x.cell 3
    have e4 := hK50.x.cell 4
    cases b with
    | false =>
      have o0 := hK50.o.cell 0
      have o1 := hK50.o.cell 1
      have o2 := hK50.o.cell 2
      have o3 := hK50.o.cell 3
      have o4 := hK50.o.cell 4
      have g0 := hK50.o.free 0
      have g1 := hK50.o.free 1
      have g2 := hK50.o.free 2
      have g3 := hK50.o.free 3
      have g4 := hK50.o.free 4
      go_wp2_with fail
      exact claim_fin hK50 (c := ⟨1, pt, 0, a0, 0⟩) (by exact okA (by omega) (by omega) (by omega)) (by omega) rfl rfl rfl
    | true =>
      go_wp2_with fail
      refine (upto_c hK50.h (by omega) 9 (by omega) (by omega)).mono ?_
      rintro e w51 ⟨⟨z, rfl, hz, hzb⟩, ⟨k51, hk51, hH51⟩, hG51⟩
      have hK51 := hK50.hand hH51 hG51
      clear hH51 hG51
      clear e0 e1 e2 e3 e4
      have e0 := hK51.x.cell 0
      have e1 := hK51.x.cell 1
      have e2 := hK51.x.cell 2
      have e3 := hK51.x.cell 3
      have e4 := hK51.x.cell 4
      have f3 := hK51.x.free 3
      go_upto_region 18 with fail
      have hK52 := hK51.set 3 (.int .i64 (z))
      generalize w51.setCell ⟨b7, 3, none⟩ (.int .i64 (z)) = w52 at hK52 ⊢
      clear e0 e1 e2 e3 e4 f3
      have e0 := hK52.x.cell 0
      have e1 := hK52.x.cell 1
      have e2 := hK52.x.cell 2
      have e3 := hK52.x.cell 3
      have e4 := hK52.x.cell 4
      have o0 := hK52.o.cell 0
      have o1 := hK52.o.cell 1
      have o2 := hK52.o.cell 2
      have o3 := hK52.o.cell 3
      have o4 := hK52.o.cell 4
      have g0 := hK52.o.free 0
      have g1 := hK52.o.free 1
      have g2 := hK52.o.free 2
      have g3 := hK52.o.free 3
      have g4 := hK52.o.free 4
      go_wp2_with fail
      exact claim_fin hK52 (c := ⟨1, pt, 0, z, 0⟩) (by exact okA (by omega) (by omega) (by omega)) (by omega) rfl rfl rfl
  · have hK6 := hK5
    obtain ⟨w6, hw6⟩ : ∃ w6, w6 = w5 := ⟨_, rfl⟩
    rw [← hw6] at hK6 ⊢
    clear hK5 hw6
    have hc1 : ((n : Int) == 1) = false := by simp; omega
    have e0 := hK6.x.cell 0
    have e1 := hK6.x.cell 1
    have e2 := hK6.x.cell 2
    have e3 := hK6.x.cell 3
    have e4 := hK6.x.cell 4
    have f3 := hK6.x.free 3
    have hc := hK6.li pt hpl
    rw [← HA0.out] at hc
    go_upto_region 5 with fail
    have hK7 := hK6.set 3 (.int .i64 (a0))
    generalize w6.setCell ⟨b7, 3, none⟩ (.int .i64 (a0)) = w7 at hK7 ⊢
    clear e0 e1 e2 e3 e4
    clear f3 hc
    have e0 := hK7.x.cell 0
    have e1 := hK7.x.cell 1
    have e2 := hK7.x.cell 2
    have e3 := hK7.x.cell 3
    have e4 := hK7.x.cell 4
    go_wp2_with fail
    refine (odds_c hK7.h (by omega) 1 5 (by omega) (by omega) (by omega)).mono ?_
    rintro e w50 ⟨⟨b, rfl⟩, ⟨k50, hk50, hH50⟩, hG50⟩
    have hK50 := hK7.hand hH50 hG50
    clear hH50 hG50
    clear e0 e1 e2 e3 e4
    have e0 := hK50.x.cell 0
    have e1 := hK50.x.cell 1
    have e2 := hK50.x.cell 2
    have e3 := hK50.x.cell 3
    have e4 := hK50.x.cell 4
    cases b with
    | false =>
      have o0 := hK50.o.cell 0
      have o1 := hK50.o.cell 1
      have o2 := hK50.o.cell 2
      have o3 := hK50.o.cell 3
      have o4 := hK50.o.cell 4
      have g0 := hK50.o.free 0
      have g1 := hK50.o.free 1
      have g2 := hK50.o.free 2
      have g3 := hK50.o.free 3
      have g4 := hK50.o.free 4
      go_wp2_with fail
      exact claim_fin hK50 (c := ⟨1, pt, 0, a0, 0⟩) (by exact okA (by omega) (by omega) (by omega)) (by omega) rfl rfl rfl
    | true =>
      go_wp2_with fail
      refine (upto_c hK50.h (by omega) 9 (by omega) (by omega)).mono ?_
      rintro e w51 ⟨⟨z, rfl, hz, hzb⟩, ⟨k51, hk51, hH51⟩, hG51⟩
      have hK51 := hK50.hand hH51 hG51
      clear hH51 hG51
      clear e0 e1 e2 e3 e4
      have e0 := hK51.x.cell 0
      have e1 := hK51.x.cell 1
      have e2 := hK51.x.cell 2
      have e3 := hK51.x.cell 3
      have e4 := hK51.x.cell 4
      have f3 := hK51.x.free 3
      go_upto_region 18 with fail
      have hK52 := hK51.set 3 (.int .i64 (z))
      generalize w51.setCell ⟨b7, 3, none⟩ (.int .i64 (z)) = w52 at hK52 ⊢
      clear e0 e1 e2 e3 e4 f3
      have e0 := hK52.x.cell 0
      have e1 := hK52.x.cell 1
      have e2 := hK52.x.cell 2
      have e3 := hK52.x.cell 3
      have e4 := hK52.x.cell 4
      have o0 := hK52.o.cell 0
      have o1 := hK52.o.cell 1
      have o2 := hK52.o.cell 2
      have o3 := hK52.o.cell 3
      have o4 := hK52.o.cell 4
      have g0 := hK52.o.free 0
      have g1 := hK52.o.free 1
      have g2 := hK52.o.free 2
      have g3 := hK52.o.free 3
      have g4 := hK52.o.free 4
      go_wp2_with fail
      exact claim_fin hK52 (c := ⟨1, pt, 0, z, 0⟩) (by exact okA (by omega) (by omega) (by omega)) (by omega) rfl rfl rfl
  · have hK6 := hK5
    obtain ⟨w6, hw6⟩ : ∃ w6, w6 = w5 := ⟨_, rfl⟩
    rw [← hw6] at hK6 ⊢
    clear hK5 hw6
    have hc1 : ((n : Int) == 1) = true := by rw [hn1]; rfl
    have hn1l : n ≤ 1 := Nat.le_of_eq hn1
    clear hn1
    have e0 := hK6.x.cell 0
    have e1 := hK6.x.cell 1
    have e2 := hK6.x.cell 2
    have e3 := hK6.x.cell 3
    have e4 := hK6.x.cell 4
    have f3 := hK6.x.free 3
    have hc := hK6.li pt hpl
    rw [← HA0.out] at hc
    go_upto_region 5 with fail
    have hK7 := hK6.set 3 (.int .i64 (a0))
    generalize w6.setCell ⟨b7, 3, none⟩ (.int .i64 (a0)) = w7 at hK7 ⊢
    clear e0 e1 e2 e3 e4
    clear f3 hc
    have e0 := hK7.x.cell 0
    have e1 := hK7.x.cell 1
    have e2 := hK7.x.cell 2
    have e3 := hK7.x.cell 3
    have e4 := hK7.x.cell 4
    go_wp2_with fail
    refine (upto_c hK7.h (by omega) 2 (by omega) (by omega)).mono ?_
    rintro e w8 ⟨⟨er, rfl, her, herb⟩, ⟨k8, hk8, hH8⟩, hG8⟩
    have hK8 := hK7.hand hH8 hG8
    clear hH8 hG8
    clear e0 e1 e2 e3 e4
    have e0 := hK8.x.cell 0
    have e1 := hK8.x.cell 1
    have e2 := hK8.x.cell 2
    have e3 := hK8.x.cell 3
    have e4 := hK8.x.cell 4
    have f4 := hK8.x.free 4
    go_upto_region 8 with fail
    have hK9 := hK8.set 4 (.int .i64 (er))
    generalize w8.setCell ⟨b7, 4, none⟩ (.int .i64 (er)) = w9 at hK9 ⊢
    clear e0 e1 e2 e3 e4
    clear f4
    have bn : IntKind.i64.wrap (-er) = -er := IntWalk.i64_in _ (by omega)
    go_wp2_with fail
    refine wp_region_mix2 (.pur 0 (.pur 2 (.pur 3 (.pur 6 (.one 1 (.one 4 (.pur 5 (.one 7 (.act 8 (.pur 9 (.pur 10 (.pur 11 (.pur 12 (.act 13 .fin)))))))))))))) 13 (fun w => Blk b7 #[.int .i64 2, .int .i64 (pt : Int), .int .i64 0, .int .i64 a0, .int .i64 er] 54 w) (fun _ => True) (by kernel_rfl) (by kernel_rfl) rfl (by kernel_rfl) (hK9.x.qt ((Qt.refl _).drewN 1)) (fun wd hqd _ => ?_)
    have hKd := hK9.qt hqd
    refine mix_pur2 rfl (fun K hK => ?_)
    go_simp
    first | refine ⟨_, fun _ => rfl, hK _ ?_⟩ | refine hK _ ?_
    clear hK K
    refine mix_pur2 rfl (fun K hK => ?_)
    go_simp
    first | refine ⟨_, fun _ => rfl, hK _ ?_⟩ | refine hK _ ?_
    clear hK K
    refine mix_pur2 rfl (fun K hK => ?_)
    go_simp
    first | refine ⟨_, fun _ => rfl, hK _ ?_⟩ | refine hK _ ?_
    clear hK K
    refine mix_pur2 rfl (fun K hK => ?_)
    go_simp
    first | refine ⟨_, fun _ => rfl, hK _ ?_⟩ | refine hK _ ?_
    clear hK K
    refine mix_load2 rfl rfl rfl (.int .i64 a0) (fun w' h => by have h : (fun w => Blk b7 #[.int .i64 2, .int .i64 (pt : Int), .int .i64 0, .int .i64 a0, .int .i64 er] 54 w) w' := h; have h0 := h.cell 3; go_simp) rfl ?_
    refine mix_load2 rfl rfl rfl (.int .i64 er) (fun w' h => by have h : (fun w => Blk b7 #[.int .i64 2, .int .i64 (pt : Int), .int .i64 0, .int .i64 a0, .int .i64 er] 54 w) w' := h; have h0 := h.cell 4; go_simp) rfl ?_
    refine mix_pur2 rfl (fun K hK => ?_)
    go_simp
    first | refine ⟨_, fun _ => rfl, hK _ ?_⟩ | refine hK _ ?_
    clear hK K
    refine mix_load2 rfl rfl rfl (.int .i64 er) (fun w' h => by have h : (fun w => Blk b7 #[.int .i64 2, .int .i64 (pt : Int), .int .i64 0, .int .i64 a0, .int .i64 er] 54 w) w' := h; have h0 := h.cell 4; go_simp) rfl ?_
    refine mix_eff2 rfl false rfl (fun K hK => ?_)
    go_simp
    refine (among_c hKd.h (by omega) (-er) er (by omega) (by omega) (by omega) (by omega)).mono ?_
    rintro e w10 ⟨⟨r, rfl, hr, hrb⟩, ⟨k10, hk10, hH10⟩, hG10⟩
    have hK10 := hKd.hand hH10 hG10
    have bw : IntKind.i64.wrap (a0 + r) = a0 + r := IntWalk.i64_in _ (by omega)
    have f3 := hK10.x.free 3
    have e3 := hK10.x.cell 3
    refine hK _ _ hK10.x ?_
    clear hK K hH10 hG10
    refine mix_pur2 rfl (fun K hK => ?_)
    go_simp
    first | refine ⟨_, fun _ => rfl, hK _ ?_⟩ | refine hK _ ?_
    clear hK K
    refine mix_pur2 rfl (fun K hK => ?_)
    go_simp
    first | refine ⟨_, fun _ => rfl, hK _ ?_⟩ | refine hK _ ?_
    clear hK K
    refine mix_pur2 rfl (fun K hK => ?_)
    go_simp
    first | refine ⟨_, fun _ => rfl, hK _ ?_⟩ | refine hK _ ?_
    clear hK K
    refine mix_pur2 rfl (fun K hK => ?_)
    go_simp
    first | refine ⟨_, fun _ => rfl, hK _ ?_⟩ | refine hK _ ?_
    clear hK K
    refine mix_eff2 rfl true rfl (fun K hK => ?_)
    go_simp
    obtain ⟨mx, hmx⟩ : ∃ m, m = (if 0 < a0 + r then a0 + r else 0) := ⟨_, rfl⟩
    rw [← hmx]
    obtain ⟨z1, hz1⟩ : ∃ z, z = (if mx < 9 then mx else 9) := ⟨_, rfl⟩
    rw [← hz1]
    have hz9 : 0 ≤ z1 ∧ z1 ≤ 9 := by rw [hz1, hmx]; (repeat' split) <;> omega
    have HMX := Lib.hid hmx
    have HZ1 := Lib.hid hz1
    clear hmx hz1
    refine hK _ _ trivial ?_
    clear hK K
    refine mix_done2 ?_
    clear e3 f3 bw bn
    have hK11 := hK10.set 3 (.int .i64 (z1))
    generalize w10.setCell ⟨b7, 3, none⟩ (.int .i64 (z1)) = w11 at hK11 ⊢
    have e0 := hK11.x.cell 0
    have e1 := hK11.x.cell 1
    have e2 := hK11.x.cell 2
    have e3 := hK11.x.cell 3
    have e4 := hK11.x.cell 4
    go_wp2_with fail
    refine (odds_c hK11.h (by omega) 1 5 (by omega) (by omega) (by omega)).mono ?_
    rintro e w50 ⟨⟨b, rfl⟩, ⟨k50, hk50, hH50⟩, hG50⟩
    have hK50 := hK11.hand hH50 hG50
    clear hH50 hG50
    clear e0 e1 e2 e3 e4
    have e0 := hK50.x.cell 0
    have e1 := hK50.x.cell 1
    have e2 := hK50.x.cell 2
    have e3 := hK50.x.cell 3
    have e4 := hK50.x.cell 4
    cases b with
    | false =>
      have o0 := hK50.o.cell 0
      have o1 := hK50.o.cell 1
      have o2 := hK50.o.cell 2
      have o3 := hK50.o.cell 3
      have o4 := hK50.o.cell 4
      have g0 := hK50.o.free 0
      have g1 := hK50.o.free 1
      have g2 := hK50.o.free 2
      have g3 := hK50.o.free 3
      have g4 := hK50.o.free 4
      go_wp2_with fail
      exact claim_fin hK50 (c := ⟨2, pt, 0, z1, er⟩) (by exact okB (by omega) (by omega) (by omega)) (by omega) rfl rfl rfl
    | true =>
      go_wp2_with fail
      refine (upto_c hK50.h (by omega) 9 (by omega) (by omega)).mono ?_
      rintro e w51 ⟨⟨z, rfl, hz, hzb⟩, ⟨k51, hk51, hH51⟩, hG51⟩
      have hK51 := hK50.hand hH51 hG51
      clear hH51 hG51
      clear e0 e1 e2 e3 e4
      have e0 := hK51.x.cell 0
      have e1 := hK51.x.cell 1
      have e2 := hK51.x.cell 2
      have e3 := hK51.x.cell 3
      have e4 := hK51.x.cell 4
      have f3 := hK51.x.free 3
      go_upto_region 18 with fail
      have hK52 := hK51.set 3 (.int .i64 (z))
      generalize w51.setCell ⟨b7, 3, none⟩ (.int .i64 (z)) = w52 at hK52 ⊢
      clear e0 e1 e2 e3 e4 f3
      have e0 := hK52.x.cell 0
      have e1 := hK52.x.cell 1
      have e2 := hK52.x.cell 2
      have e3 := hK52.x.cell 3
      have e4 := hK52.x.cell 4
      have o0 := hK52.o.cell 0
      have o1 := hK52.o.cell 1
      have o2 := hK52.o.cell 2
      have o3 := hK52.o.cell 3
      have o4 := hK52.o.cell 4
      have g0 := hK52.o.free 0
      have g1 := hK52.o.free 1
      have g2 := hK52.o.free 2
      have g3 := hK52.o.free 3
      have g4 := hK52.o.free 4
      go_wp2_with fail
      exact claim_fin hK52 (c := ⟨2, pt, 0, z, er⟩) (by exact okB (by omega) (by omega) (by omega)) (by omega) rfl rfl rfl
  · have hK6 := hK5
    obtain ⟨w6, hw6⟩ : ∃ w6, w6 = w5 := ⟨_, rfl⟩
    rw [← hw6] at hK6 ⊢
    clear hK5 hw6
    have hc1 : ((n : Int) == 1) = false := by simp; omega
    have e0 := hK6.x.cell 0
    have e1 := hK6.x.cell 1
    have e2 := hK6.x.cell 2
    have e3 := hK6.x.cell 3
    have e4 := hK6.x.cell 4
    have f3 := hK6.x.free 3
    have hc := hK6.li pt hpl
    rw [← HA0.out] at hc
    go_upto_region 5 with fail
    have hK7 := hK6.set 3 (.int .i64 (a0))
    generalize w6.setCell ⟨b7, 3, none⟩ (.int .i64 (a0)) = w7 at hK7 ⊢
    clear e0 e1 e2 e3 e4
    clear f3 hc
    have e0 := hK7.x.cell 0
    have e1 := hK7.x.cell 1
    have e2 := hK7.x.cell 2
    have e3 := hK7.x.cell 3
    have e4 := hK7.x.cell 4
    go_wp2_with fail
    refine (upto_c hK7.h (by omega) 2 (by omega) (by omega)).mono ?_
    rintro e w8 ⟨⟨er, rfl, her, herb⟩, ⟨k8, hk8, hH8⟩, hG8⟩
    have hK8 := hK7.hand hH8 hG8
    clear hH8 hG8
    clear e0 e1 e2 e3 e4
    have e0 := hK8.x.cell 0
    have e1 := hK8.x.cell 1
    have e2 := hK8.x.cell 2
    have e3 := hK8.x.cell 3
    have e4 := hK8.x.cell 4
    have f4 := hK8.x.free 4
    go_upto_region 8 with fail
    have hK9 := hK8.set 4 (.int .i64 (er))
    generalize w8.setCell ⟨b7, 4, none⟩ (.int .i64 (er)) = w9 at hK9 ⊢
    clear e0 e1 e2 e3 e4
    clear f4
    have bn : IntKind.i64.wrap (-er) = -er := IntWalk.i64_in _ (by omega)
    go_wp2_with fail
    refine wp_region_mix2 (.pur 0 (.pur 2 (.pur 3 (.pur 6 (.one 1 (.one 4 (.pur 5 (.one 7 (.act 8 (.pur 9 (.pur 10 (.pur 11 (.pur 12 (.act 13 .fin)))))))))))))) 13 (fun w => Blk b7 #[.int .i64 2, .int .i64 (pt : Int), .int .i64 0, .int .i64 a0, .int .i64 er] 54 w) (fun _ => True) (by kernel_rfl) (by kernel_rfl) rfl (by kernel_rfl) (hK9.x.qt ((Qt.refl _).drewN 1)) (fun wd hqd _ => ?_)
    have hKd := hK9.qt hqd
    refine mix_pur2 rfl (fun K hK => ?_)
    go_simp
    first | refine ⟨_, fun _ => rfl, hK _ ?_⟩ | refine hK _ ?_
    clear hK K
    refine mix_pur2 rfl (fun K hK => ?_)
    go_simp
    first | refine ⟨_, fun _ => rfl, hK _ ?_⟩ | refine hK _ ?_
    clear hK K
    refine mix_pur2 rfl (fun K hK => ?_)
    go_simp
    first | refine ⟨_, fun _ => rfl, hK _ ?_⟩ | refine hK _ ?_
    clear hK K
    refine mix_pur2 rfl (fun K hK => ?_)
    go_simp
    first | refine ⟨_, fun _ => rfl, hK _ ?_⟩ | refine hK _ ?_
    clear hK K
    refine mix_load2 rfl rfl rfl (.int .i64 a0) (fun w' h => by have h : (fun w => Blk b7 #[.int .i64 2, .int .i64 (pt : Int), .int .i64 0, .int .i64 a0, .int .i64 er] 54 w) w' := h; have h0 := h.cell 3; go_simp) rfl ?_
    refine mix_load2 rfl rfl rfl (.int .i64 er) (fun w' h => by have h : (fun w => Blk b7 #[.int .i64 2, .int .i64 (pt : Int), .int .i64 0, .int .i64 a0, .int .i64 er] 54 w) w' := h; have h0 := h.cell 4; go_simp) rfl ?_
    refine mix_pur2 rfl (fun K hK => ?_)
    go_simp
    first | refine ⟨_, fun _ => rfl, hK _ ?_⟩ | refine hK _ ?_
    clear hK K
    refine mix_load2 rfl rfl rfl (.int .i64 er) (fun w' h => by have h : (fun w => Blk b7 #[.int .i64 2, .int .i64 (pt : Int), .int .i64 0, .int .i64 a0, .int .i64 er] 54 w) w' := h; have h0 := h.cell 4; go_simp) rfl ?_
    refine mix_eff2 rfl false rfl (fun K hK => ?_)
    go_simp
    refine (among_c hKd.h (by omega) (-er) er (by omega) (by omega) (by omega) (by omega)).mono ?_
    rintro e w10 ⟨⟨r, rfl, hr, hrb⟩, ⟨k10, hk10, hH10⟩, hG10⟩
    have hK10 := hKd.hand hH10 hG10
    have bw : IntKind.i64.wrap (a0 + r) = a0 + r := IntWalk.i64_in _ (by omega)
    have f3 := hK10.x.free 3
    have e3 := hK10.x.cell 3
    refine hK _ _ hK10.x ?_
    clear hK K hH10 hG10
    refine mix_pur2 rfl (fun K hK => ?_)
    go_simp
    first | refine ⟨_, fun _ => rfl, hK _ ?_⟩ | refine hK _ ?_
    clear hK K
    refine mix_pur2 rfl (fun K hK => ?_)
    go_simp
    first | refine ⟨_, fun _ => rfl, hK _ ?_⟩ | refine hK _ ?_
    clear hK K
    refine mix_pur2 rfl (fun K hK => ?_)
    go_simp
    first | refine ⟨_, fun _ => rfl, hK _ ?_⟩ | refine hK _ ?_
    clear hK K
    refine mix_pur2 rfl (fun K hK => ?_)
    go_simp
    first | refine ⟨_, fun _ => rfl, hK _ ?_⟩ | refine hK _ ?_
    clear hK K
    refine mix_eff2 rfl true rfl (fun K hK => ?_)
    go_simp
    obtain ⟨mx, hmx⟩ : ∃ m, m = (if 0 < a0 + r then a0 + r else 0) := ⟨_, rfl⟩
    rw [← hmx]
    obtain ⟨z1, hz1⟩ : ∃ z, z = (if mx < 9 then mx else 9) := ⟨_, rfl⟩
    rw [← hz1]
    have hz9 : 0 ≤ z1 ∧ z1 ≤ 9 := by rw [hz1, hmx]; (repeat' split) <;> omega
    have HMX := Lib.hid hmx
    have HZ1 := Lib.hid hz1
    clear hmx hz1
    refine hK _ _ trivial ?_
    clear hK K
    refine mix_done2 ?_
    clear e3 f3 bw bn
    have hK11 := hK10.set 3 (.int .i64 (z1))
    generalize w10.setCell ⟨b7, 3, none⟩ (.int .i64 (z1)) = w11 at hK11 ⊢
    have e0 := hK11.x.cell 0
    have e1 := hK11.x.cell 1
    have e2 := hK11.x.cell 2
    have e3 := hK11.x.cell 3
    have e4 := hK11.x.cell 4
    go_wp2_with fail
    refine (odds_c hK11.h (by omega) 1 5 (by omega) (by omega) (by omega)).mono ?_
    rintro e w50 ⟨⟨b, rfl⟩, ⟨k50, hk50, hH50⟩, hG50⟩
    have hK50 := hK11.hand hH50 hG50
    clear hH50 hG50
    clear e0 e1 e2 e3 e4
    have e0 := hK50.x.cell 0
    have e1 := hK50.x.cell 1
    have e2 := hK50.x.cell 2
    have e3 := hK50.x.cell 3
    have e4 := hK50.x.cell 4
    cases b with
    | false =>
      have o0 := hK50.o.cell 0
      have o1 := hK50.o.cell 1
      have o2 := hK50.o.cell 2
      have o3 := hK50.o.cell 3
      have o4 := hK50.o.cell 4
      have g0 := hK50.o.free 0
      have g1 := hK50.o.free 1
      have g2 := hK50.o.free 2
      have g3 := hK50.o.free 3
      have g4 := hK50.o.free 4
      go_wp2_with fail
      exact claim_fin hK50 (c := ⟨2, pt, 0, z1, er⟩) (by exact okB (by omega) (by omega) (by omega)) (by omega) rfl rfl rfl
    | true =>
      go_wp2_with fail
      refine (upto_c hK50.h (by omega) 9 (by omega) (by omega)).mono ?_
      rintro e w51 ⟨⟨z, rfl, hz, hzb⟩, ⟨k51, hk51, hH51⟩, hG51⟩
      have hK51 := hK50.hand hH51 hG51
      clear hH51 hG51
      clear e0 e1 e2 e3 e4
      have e0 := hK51.x.cell 0
      have e1 := hK51.x.cell 1
      have e2 := hK51.x.cell 2
      have e3 := hK51.x.cell 3
      have e4 := hK51.x.cell 4
      have f3 := hK51.x.free 3
      go_upto_region 18 with fail
      have hK52 := hK51.set 3 (.int .i64 (z))
      generalize w51.setCell ⟨b7, 3, none⟩ (.int .i64 (z)) = w52 at hK52 ⊢
      clear e0 e1 e2 e3 e4 f3
      have e0 := hK52.x.cell 0
      have e1 := hK52.x.cell 1
      have e2 := hK52.x.cell 2
      have e3 := hK52.x.cell 3
      have e4 := hK52.x.cell 4
      have o0 := hK52.o.cell 0
      have o1 := hK52.o.cell 1
      have o2 := hK52.o.cell 2
      have o3 := hK52.o.cell 3
      have o4 := hK52.o.cell 4
      have g0 := hK52.o.free 0
      have g1 := hK52.o.free 1
      have g2 := hK52.o.free 2
      have g3 := hK52.o.free 3
      have g4 := hK52.o.free 4
      go_wp2_with fail
      exact claim_fin hK52 (c := ⟨2, pt, 0, z, er⟩) (by exact okB (by omega) (by omega) (by omega)) (by omega) rfl rfl rfl
  · have hK6 := hK5
    obtain ⟨w6, hw6⟩ : ∃ w6, w6 = w5 := ⟨_, rfl⟩
    rw [← hw6] at hK6 ⊢
    clear hK5 hw6
    have hc1 : ((n : Int) == 1) = true := by rw [hn1]; rfl
    have hn1l : n ≤ 1 := Nat.le_of_eq hn1
    clear hn1
    have e0 := hK6.x.cell 0
    have e1 := hK6.x.cell 1
    have e2 := hK6.x.cell 2
    have e3 := hK6.x.cell 3
    have e4 := hK6.x.cell 4
    have f3 := hK6.x.free 3
    have hc := hK6.li pt hpl
    rw [← HA0.out] at hc
    go_upto_region 5 with fail
    have hK7 := hK6.set 3 (.int .i64 (a0))
    generalize w6.setCell ⟨b7, 3, none⟩ (.int .i64 (a0)) = w7 at hK7 ⊢
    clear e0 e1 e2 e3 e4
    clear f3 hc
    have e0 := hK7.x.cell 0
    have e1 := hK7.x.cell 1
    have e2 := hK7.x.cell 2
    have e3 := hK7.x.cell 3
    have e4 := hK7.x.cell 4
    go_wp2_with fail
    refine (among_c hK7.h (by omega) a0 9 (by omega) (by omega) (by omega) (by omega)).mono ?_
    rintro e w8 ⟨⟨r, rfl, hr, hrb⟩, ⟨k8, hk8, hH8⟩, hG8⟩
    have hK8 := hK7.hand hH8 hG8
    clear hH8 hG8
    clear e0 e1 e2 e3 e4
    have e0 := hK8.x.cell 0
    have e1 := hK8.x.cell 1
    have e2 := hK8.x.cell 2
    have e3 := hK8.x.cell 3
    have e4 := hK8.x.cell 4
    have f3 := hK8.x.free 3
    go_upto_region 16 with fail
    have hK9 := hK8.set 3 (.int .i64 (r))
    generalize w8.setCell ⟨b7, 3, none⟩ (.int .i64 (r)) = w9 at hK9 ⊢
    clear e0 e1 e2 e3 e4
    clear f3
    have e0 := hK9.x.cell 0
    have e1 := hK9.x.cell 1
    have e2 := hK9.x.cell 2
    have e3 := hK9.x.cell 3
    have e4 := hK9.x.cell 4
    go_wp2_with fail
    refine (odds_c hK9.h (by omega) 1 5 (by omega) (by omega) (by omega)).mono ?_
    rintro e w50 ⟨⟨b, rfl⟩, ⟨k50, hk50, hH50⟩, hG50⟩
    have hK50 := hK9.hand hH50 hG50
    clear hH50 hG50
    clear e0 e1 e2 e3 e4
    have e0 := hK50.x.cell 0
    have e1 := hK50.x.cell 1
    have e2 := hK50.x.cell 2
    have e3 := hK50.x.cell 3
    have e4 := hK50.x.cell 4
    cases b with
    | false =>
      have o0 := hK50.o.cell 0
      have o1 := hK50.o.cell 1
      have o2 := hK50.o.cell 2
      have o3 := hK50.o.cell 3
      have o4 := hK50.o.cell 4
      have g0 := hK50.o.free 0
      have g1 := hK50.o.free 1
      have g2 := hK50.o.free 2
      have g3 := hK50.o.free 3
      have g4 := hK50.o.free 4
      go_wp2_with fail
      exact claim_fin hK50 (c := ⟨3, pt, 0, r, 0⟩) (by exact okA (by omega) (by omega) (by omega)) (by omega) rfl rfl rfl
    | true =>
      go_wp2_with fail
      refine (upto_c hK50.h (by omega) 9 (by omega) (by omega)).mono ?_
      rintro e w51 ⟨⟨z, rfl, hz, hzb⟩, ⟨k51, hk51, hH51⟩, hG51⟩
      have hK51 := hK50.hand hH51 hG51
      clear hH51 hG51
      clear e0 e1 e2 e3 e4
      have e0 := hK51.x.cell 0
      have e1 := hK51.x.cell 1
      have e2 := hK51.x.cell 2
      have e3 := hK51.x.cell 3
      have e4 := hK51.x.cell 4
      have f3 := hK51.x.free 3
      go_upto_region 18 with fail
      have hK52 := hK51.set 3 (.int .i64 (z))
      generalize w51.setCell ⟨b7, 3, none⟩ (.int .i64 (z)) = w52 at hK52 ⊢
      clear e0 e1 e2 e3 e4 f3
      have e0 := hK52.x.cell 0
      have e1 := hK52.x.cell 1
      have e2 := hK52.x.cell 2
      have e3 := hK52.x.cell 3
      have e4 := hK52.x.cell 4
      have o0 := hK52.o.cell 0
      have o1 := hK52.o.cell 1
      have o2 := hK52.o.cell 2
      have o3 := hK52.o.cell 3
      have o4 := hK52.o.cell 4
      have g0 := hK52.o.free 0
      have g1 := hK52.o.free 1
      have g2 := hK52.o.free 2
      have g3 := hK52.o.free 3
      have g4 := hK52.o.free 4
      go_wp2_with fail
      exact claim_fin hK52 (c := ⟨3, pt, 0, z, 0⟩) (by exact okA (by omega) (by omega) (by omega)) (by omega) rfl rfl rfl
  · have hK6 := hK5
    obtain ⟨w6, hw6⟩ : ∃ w6, w6 = w5 := ⟨_, rfl⟩
    rw [← hw6] at hK6 ⊢
    clear hK5 hw6
    have hc1 : ((n : Int) == 1) = false := by simp; omega
    have e0 := hK6.x.cell 0
    have e1 := hK6.x.cell 1
    have e2 := hK6.x.cell 2
    have e3 := hK6.x.cell 3
    have e4 := hK6.x.cell 4
    have f3 := hK6.x.free 3
    have hc := hK6.li pt hpl
    rw [← HA0.out] at hc
    go_upto_region 5 with fail
    have hK7 := hK6.set 3 (.int .i64 (a0))
    generalize w6.setCell ⟨b7, 3, none⟩ (.int .i64 (a0)) = w7 at hK7 ⊢
    clear e0 e1 e2 e3 e4
    clear f3 hc
    have e0 := hK7.x.cell 0
    have e1 := hK7.x.cell 1
    have e2 := hK7.x.cell 2
    have e3 := hK7.x.cell 3
    have e4 := hK7.x.cell 4
    go_wp2_with fail
    refine (among_c hK7.h (by omega) a0 9 (by omega) (by omega) (by omega) (by omega)).mono ?_
    rintro e w8 ⟨⟨r, rfl, hr, hrb⟩, ⟨k8, hk8, hH8⟩, hG8⟩
    have hK8 := hK7.hand hH8 hG8
    clear hH8 hG8
    clear e0 e1 e2 e3 e4
    have e0 := hK8.x.cell 0
    have e1 := hK8.x.cell 1
    have e2 := hK8.x.cell 2
    have e3 := hK8.x.cell 3
    have e4 := hK8.x.cell 4
    have f3 := hK8.x.free 3
    go_upto_region 16 with fail
    have hK9 := hK8.set 3 (.int .i64 (r))
    generalize w8.setCell ⟨b7, 3, none⟩ (.int .i64 (r)) = w9 at hK9 ⊢
    clear e0 e1 e2 e3 e4
    clear f3
    have e0 := hK9.x.cell 0
    have e1 := hK9.x.cell 1
    have e2 := hK9.x.cell 2
    have e3 := hK9.x.cell 3
    have e4 := hK9.x.cell 4
    go_wp2_with fail
    refine (odds_c hK9.h (by omega) 1 5 (by omega) (by omega) (by omega)).mono ?_
    rintro e w50 ⟨⟨b, rfl⟩, ⟨k50, hk50, hH50⟩, hG50⟩
    have hK50 := hK9.hand hH50 hG50
    clear hH50 hG50
    clear e0 e1 e2 e3 e4
    have e0 := hK50.x.cell 0
    have e1 := hK50.x.cell 1
    have e2 := hK50.x.cell 2
    have e3 := hK50.x.cell 3
    have e4 := hK50.x.cell 4
    cases b with
    | false =>
      have o0 := hK50.o.cell 0
      have o1 := hK50.o.cell 1
      have o2 := hK50.o.cell 2
      have o3 := hK50.o.cell 3
      have o4 := hK50.o.cell 4
      have g0 := hK50.o.free 0
      have g1 := hK50.o.free 1
      have g2 := hK50.o.free 2
      have g3 := hK50.o.free 3
      have g4 := hK50.o.free 4
      go_wp2_with fail
      exact claim_fin hK50 (c := ⟨3, pt, 0, r, 0⟩) (by exact okA (by omega) (by omega) (by omega)) (by omega) rfl rfl rfl
    | true =>
      go_wp2_with fail
      refine (upto_c hK50.h (by omega) 9 (by omega) (by omega)).mono ?_
      rintro e w51 ⟨⟨z, rfl, hz, hzb⟩, ⟨k51, hk51, hH51⟩, hG51⟩
      have hK51 := hK50.hand hH51 hG51
      clear hH51 hG51
      clear e0 e1 e2 e3 e4
      have e0 := hK51.x.cell 0
      have e1 := hK51.x.cell 1
      have e2 := hK51.x.cell 2
      have e3 := hK51.x.cell 3
      have e4 := hK51.x.cell 4
      have f3 := hK51.x.free 3
      go_upto_region 18 with fail
      have hK52 := hK51.set 3 (.int .i64 (z))
      generalize w51.setCell ⟨b7, 3, none⟩ (.int .i64 (z)) = w52 at hK52 ⊢
      clear e0 e1 e2 e3 e4 f3
      have e0 := hK52.x.cell 0
      have e1 := hK52.x.cell 1
      have e2 := hK52.x.cell 2
      have e3 := hK52.x.cell 3
      have e4 := hK52.x.cell 4
      have o0 := hK52.o.cell 0
      have o1 := hK52.o.cell 1
      have o2 := hK52.o.cell 2
      have o3 := hK52.o.cell 3
      have o4 := hK52.o.cell 4
      have g0 := hK52.o.free 0
      have g1 := hK52.o.free 1
      have g2 := hK52.o.free 2
      have g3 := hK52.o.free 3
      have g4 := hK52.o.free 4
      go_wp2_with fail
      exact claim_fin hK52 (c := ⟨3, pt, 0, z, 0⟩) (by exact okA (by omega) (by omega) (by omega)) (by omega) rfl rfl rfl
  · have hK6 := hK5
    obtain ⟨w6, hw6⟩ : ∃ w6, w6 = w5 := ⟨_, rfl⟩
    rw [← hw6] at hK6 ⊢
    clear hK5 hw6
    have hc1 : ((n : Int) == 1) = true := by rw [hn1]; rfl
    have hn1l : n ≤ 1 := Nat.le_of_eq hn1
    clear hn1
    have e0 := hK6.x.cell 0
    have e1 := hK6.x.cell 1
    have e2 := hK6.x.cell 2
    have e3 := hK6.x.cell 3
    have e4 := hK6.x.cell 4
    have f3 := hK6.x.free 3
    have hc := hK6.li pt hpl
    rw [← HA0.out] at hc
    go_upto_region 5 with fail
    have hK7 := hK6.set 3 (.int .i64 (a0))
    generalize w6.setCell ⟨b7, 3, none⟩ (.int .i64 (a0)) = w7 at hK7 ⊢
    clear e0 e1 e2 e3 e4
    clear f3 hc
    have e0 := hK7.x.cell 0
    have e1 := hK7.x.cell 1
    have e2 := hK7.x.cell 2
    have e3 := hK7.x.cell 3
    have e4 := hK7.x.cell 4
    go_wp2_with fail
    refine (among_c hK7.h (by omega) 0 a0 (by omega) (by omega) (by omega) (by omega)).mono ?_
    rintro e w8 ⟨⟨r, rfl, hr, hrb⟩, ⟨k8, hk8, hH8⟩, hG8⟩
    have hK8 := hK7.hand hH8 hG8
    clear hH8 hG8
    clear e0 e1 e2 e3 e4
    have e0 := hK8.x.cell 0
    have e1 := hK8.x.cell 1
    have e2 := hK8.x.cell 2
    have e3 := hK8.x.cell 3
    have e4 := hK8.x.cell 4
    have f3 := hK8.x.free 3
    go_upto_region 16 with fail
    have hK9 := hK8.set 3 (.int .i64 (r))
    generalize w8.setCell ⟨b7, 3, none⟩ (.int .i64 (r)) = w9 at hK9 ⊢
    clear e0 e1 e2 e3 e4
    clear f3
    have e0 := hK9.x.cell 0
    have e1 := hK9.x.cell 1
    have e2 := hK9.x.cell 2
    have e3 := hK9.x.cell 3
    have e4 := hK9.x.cell 4
    go_wp2_with fail
    refine (odds_c hK9.h (by omega) 1 5 (by omega) (by omega) (by omega)).mono ?_
    rintro e w50 ⟨⟨b, rfl⟩, ⟨k50, hk50, hH50⟩, hG50⟩
    have hK50 := hK9.hand hH50 hG50
    clear hH50 hG50
    clear e0 e1 e2 e3 e4
    have e0 := hK50.x.cell 0
    have e1 := hK50.x.cell 1
    have e2 := hK50.x.cell 2
    have e3 := hK50.x.cell 3
    have e4 := hK50.x.cell 4
    cases b with
    | false =>
      have o0 := hK50.o.cell 0
      have o1 := hK50.o.cell 1
      have o2 := hK50.o.cell 2
      have o3 := hK50.o.cell 3
      have o4 := hK50.o.cell 4
      have g0 := hK50.o.free 0
      have g1 := hK50.o.free 1
      have g2 := hK50.o.free 2
      have g3 := hK50.o.free 3
      have g4 := hK50.o.free 4
      go_wp2_with fail
      exact claim_fin hK50 (c := ⟨4, pt, 0, r, 0⟩) (by exact okA (by omega) (by omega) (by omega)) (by omega) rfl rfl rfl
    | true =>
      go_wp2_with fail
      refine (upto_c hK50.h (by omega) 9 (by omega) (by omega)).mono ?_
      rintro e w51 ⟨⟨z, rfl, hz, hzb⟩, ⟨k51, hk51, hH51⟩, hG51⟩
      have hK51 := hK50.hand hH51 hG51
      clear hH51 hG51
      clear e0 e1 e2 e3 e4
      have e0 := hK51.x.cell 0
      have e1 := hK51.x.cell 1
      have e2 := hK51.x.cell 2
      have e3 := hK51.x.cell 3
      have e4 := hK51.x.cell 4
      have f3 := hK51.x.free 3
      go_upto_region 18 with fail
      have hK52 := hK51.set 3 (.int .i64 (z))
      generalize w51.setCell ⟨b7, 3, none⟩ (.int .i64 (z)) = w52 at hK52 ⊢
      clear e0 e1 e2 e3 e4 f3
      have e0 := hK52.x.cell 0
      have e1 := hK52.x.cell 1
      have e2 := hK52.x.cell 2
      have e3 := hK52.x.cell 3
      have e4 := hK52.x.cell 4
      have o0 := hK52.o.cell 0
      have o1 := hK52.o.cell 1
      have o2 := hK52.o.cell 2
      have o3 := hK52.o.cell 3
      have o4 := hK52.o.cell 4
      have g0 := hK52.o.free 0
      have g1 := hK52.o.free 1
      have g2 := hK52.o.free 2
      have g3 := hK52.o.free 3
      have g4 := hK52.o.free 4
      go_wp2_with fail
      exact claim_fin hK52 (c := ⟨4, pt, 0, z, 0⟩) (by exact okA (by omega) (by omega) (by omega)) (by omega) rfl rfl rfl
  · have hK6 := hK5
    obtain ⟨w6, hw6⟩ : ∃ w6, w6 = w5 := ⟨_, rfl⟩
    rw [← hw6] at hK6 ⊢
    clear hK5 hw6
    have hc1 : ((n : Int) == 1) = false := by simp; omega
    have e0 := hK6.x.cell 0
    have e1 := hK6.x.cell 1
    have e2 := hK6.x.cell 2
    have e3 := hK6.x.cell 3
    have e4 := hK6.x.cell 4
    have f3 := hK6.x.free 3
    have hc := hK6.li pt hpl
    rw [← HA0.out] at hc
    go_upto_region 5 with fail
    have hK7 := hK6.set 3 (.int .i64 (a0))
    generalize w6.setCell ⟨b7, 3, none⟩ (.int .i64 (a0)) = w7 at hK7 ⊢
    clear e0 e1 e2 e3 e4
    clear f3 hc
    have e0 := hK7.x.cell 0
    have e1 := hK7.x.cell 1
    have e2 := hK7.x.cell 2
    have e3 := hK7.x.cell 3
    have e4 := hK7.x.cell 4
    go_wp2_with fail
    refine (among_c hK7.h (by omega) 0 a0 (by omega) (by omega) (by omega) (by omega)).mono ?_
    rintro e w8 ⟨⟨r, rfl, hr, hrb⟩, ⟨k8, hk8, hH8⟩, hG8⟩
    have hK8 := hK7.hand hH8 hG8
    clear hH8 hG8
    clear e0 e1 e2 e3 e4
    have e0 := hK8.x.cell 0
    have e1 := hK8.x.cell 1
    have e2 := hK8.x.cell 2
    have e3 := hK8.x.cell 3
    have e4 := hK8.x.cell 4
    have f3 := hK8.x.free 3
    go_upto_region 16 with fail
    have hK9 := hK8.set 3 (.int .i64 (r))
    generalize w8.setCell ⟨b7, 3, none⟩ (.int .i64 (r)) = w9 at hK9 ⊢
    clear e0 e1 e2 e3 e4
    clear f3
    have e0 := hK9.x.cell 0
    have e1 := hK9.x.cell 1
    have e2 := hK9.x.cell 2
    have e3 := hK9.x.cell 3
    have e4 := hK9.x.cell 4
    go_wp2_with fail
    refine (odds_c hK9.h (by omega) 1 5 (by omega) (by omega) (by omega)).mono ?_
    rintro e w50 ⟨⟨b, rfl⟩, ⟨k50, hk50, hH50⟩, hG50⟩
    have hK50 := hK9.hand hH50 hG50
    clear hH50 hG50
    clear e0 e1 e2 e3 e4
    have e0 := hK50.x.cell 0
    have e1 := hK50.x.cell 1
    have e2 := hK50.x.cell 2
    have e3 := hK50.x.cell 3
    have e4 := hK50.x.cell 4
    cases b with
    | false =>
      have o0 := hK50.o.cell 0
      have o1 := hK50.o.cell 1
      have o2 := hK50.o.cell 2
      have o3 := hK50.o.cell 3
      have o4 := hK50.o.cell 4
      have g0 := hK50.o.free 0
      have g1 := hK50.o.free 1
      have g2 := hK50.o.free 2
      have g3 := hK50.o.free 3
      have g4 := hK50.o.free 4
      go_wp2_with fail
      exact claim_fin hK50 (c := ⟨4, pt, 0, r, 0⟩) (by exact okA (by omega) (by omega) (by omega)) (by omega) rfl rfl rfl
    | true =>
      go_wp2_with fail
      refine (upto_c hK50.h (by omega) 9 (by omega) (by omega)).mono ?_
      rintro e w51 ⟨⟨z, rfl, hz, hzb⟩, ⟨k51, hk51, hH51⟩, hG51⟩
      have hK51 := hK50.hand hH51 hG51
      clear hH51 hG51
      clear e0 e1 e2 e3 e4
      have e0 := hK51.x.cell 0
      have e1 := hK51.x.cell 1
      have e2 := hK51.x.cell 2
      have e3 := hK51.x.cell 3
      have e4 := hK51.x.cell 4
      have f3 := hK51.x.free 3
      go_upto_region 18 with fail
      have hK52 := hK51.set 3 (.int .i64 (z))
      generalize w51.setCell ⟨b7, 3, none⟩ (.int .i64 (z)) = w52 at hK52 ⊢
      clear e0 e1 e2 e3 e4 f3
      have e0 := hK52.x.cell 0
      have e1 := hK52.x.cell 1
      have e2 := hK52.x.cell 2
      have e3 := hK52.x.cell 3
      have e4 := hK52.x.cell 4
      have o0 := hK52.o.cell 0
      have o1 := hK52.o.cell 1
      have o2 := hK52.o.cell 2
      have o3 := hK52.o.cell 3
      have o4 := hK52.o.cell 4
      have g0 := hK52.o.free 0
      have g1 := hK52.o.free 1
      have g2 := hK52.o.free 2
      have g3 := hK52.o.free 3
      have g4 := hK52.o.free 4
      go_wp2_with fail
      exact claim_fin hK52 (c := ⟨4, pt, 0, z, 0⟩) (by exact okA (by omega) (by omega) (by omega)) (by omega) rfl rfl rfl
  · have hc1 : ((n : Int) == 1) = true := by rw [hn1]; rfl
    have hn1l : n ≤ 1 := Nat.le_of_eq hn1
    clear hn1
    have e0 := hK5.x.cell 0
    have e1 := hK5.x.cell 1
    have e2 := hK5.x.cell 2
    have e3 := hK5.x.cell 3
    have e4 := hK5.x.cell 4
    have f0 := hK5.x.free 0
    go_upto_region 4 with fail
    have hK6 := hK5.set 0 (.int .i64 (2))
    generalize w5.setCell ⟨b7, 0, none⟩ (.int .i64 (2)) = w6 at hK6 ⊢
    clear e0 e1 e2 e3 e4
    clear f0
    have e0 := hK6.x.cell 0
    have e1 := hK6.x.cell 1
    have e2 := hK6.x.cell 2
    have e3 := hK6.x.cell 3
    have e4 := hK6.x.cell 4
    have f3 := hK6.x.free 3
    have hc := hK6.li pt hpl
    rw [← HA0.out] at hc
    go_upto_region 5 with fail
    have hK7 := hK6.set 3 (.int .i64 (a0))
    generalize w6.setCell ⟨b7, 3, none⟩ (.int .i64 (a0)) = w7 at hK7 ⊢
    clear e0 e1 e2 e3 e4
    clear f3 hc
    have e0 := hK7.x.cell 0
    have e1 := hK7.x.cell 1
    have e2 := hK7.x.cell 2
    have e3 := hK7.x.cell 3
    have e4 := hK7.x.cell 4
    go_wp2_with fail
    refine (upto_c hK7.h (by omega) 2 (by omega) (by omega)).mono ?_
    rintro e w8 ⟨⟨er, rfl, her, herb⟩, ⟨k8, hk8, hH8⟩, hG8⟩
    have hK8 := hK7.hand hH8 hG8
    clear hH8 hG8
    clear e0 e1 e2 e3 e4
    have e0 := hK8.x.cell 0
    have e1 := hK8.x.cell 1
    have e2 := hK8.x.cell 2
    have e3 := hK8.x.cell 3
    have e4 := hK8.x.cell 4
    have f4 := hK8.x.free 4
    go_upto_region 8 with fail
    have hK9 := hK8.set 4 (.int .i64 (er))
    generalize w8.setCell ⟨b7, 4, none⟩ (.int .i64 (er)) = w9 at hK9 ⊢
    clear e0 e1 e2 e3 e4
    clear f4
    have bn : IntKind.i64.wrap (-er) = -er := IntWalk.i64_in _ (by omega)
    go_wp2_with fail
    refine wp_region_mix2 (.pur 0 (.pur 2 (.pur 3 (.pur 6 (.one 1 (.one 4 (.pur 5 (.one 7 (.act 8 (.pur 9 (.pur 10 (.pur 11 (.pur 12 (.act 13 .fin)))))))))))))) 13 (fun w => Blk b7 #[.int .i64 2, .int .i64 (pt : Int), .int .i64 0, .int .i64 a0, .int .i64 er] 54 w) (fun _ => True) (by kernel_rfl) (by kernel_rfl) rfl (by kernel_rfl) (hK9.x.qt ((Qt.refl _).drewN 1)) (fun wd hqd _ => ?_)
    have hKd := hK9.qt hqd
    refine mix_pur2 rfl (fun K hK => ?_)
    go_simp
    first | refine ⟨_, fun _ => rfl, hK _ ?_⟩ | refine hK _ ?_
    clear hK K
    refine mix_pur2 rfl (fun K hK => ?_)
    go_simp
    first | refine ⟨_, fun _ => rfl, hK _ ?_⟩ | refine hK _ ?_
    clear hK K
    refine mix_pur2 rfl (fun K hK => ?_)
    go_simp
    first | refine ⟨_, fun _ => rfl, hK _ ?_⟩ | refine hK _ ?_
    clear hK K
    refine mix_pur2 rfl (fun K hK => ?_)
    go_simp
    first | refine ⟨_, fun _ => rfl, hK _ ?_⟩ | refine hK _ ?_
    clear hK K
    refine mix_load2 rfl rfl rfl (.int .i64 a0) (fun w' h => by have h : (fun w => Blk b7 #[.int .i64 2, .int .i64 (pt : Int), .int .i64 0, .int .i64 a0, .int .i64 er] 54 w) w' := h; have h0 := h.cell 3; go_simp) rfl ?_
    refine mix_load2 rfl rfl rfl (.int .i64 er) (fun w' h => by have h : (fun w => Blk b7 #[.int .i64 2, .int .i64 (pt : Int), .int .i64 0, .int .i64 a0, .int .i64 er] 54 w) w' := h; have h0 := h.cell 4; go_simp) rfl ?_
    refine mix_pur2 rfl (fun K hK => ?_)
    go_simp
    first | refine ⟨_, fun _ => rfl, hK _ ?_⟩ | refine hK _ ?_
    clear hK K
    refine mix_load2 rfl rfl rfl (.int .i64 er) (fun w' h => by have h : (fun w => Blk b7 #[.int .i64 2, .int .i64 (pt : Int), .int .i64 0, .int .i64 a0, .int .i64 er] 54 w) w' := h; have h0 := h.cell 4; go_simp) rfl ?_
    refine mix_eff2 rfl false rfl (fun K hK => ?_)
    go_simp
    refine (among_c hKd.h (by omega) (-er) er (by omega) (by omega) (by omega) (by omega)).mono ?_
    rintro e w10 ⟨⟨r, rfl, hr, hrb⟩, ⟨k10, hk10, hH10⟩, hG10⟩
    have hK10 := hKd.hand hH10 hG10
    have bw : IntKind.i64.wrap (a0 + r) = a0 + r := IntWalk.i64_in _ (by omega)
    have f3 := hK10.x.free 3
    have e3 := hK10.x.cell 3
    refine hK _ _ hK10.x ?_
    clear hK K hH10 hG10
    refine mix_pur2 rfl (fun K hK => ?_)
    go_simp
    first | refine ⟨_, fun _ => rfl, hK _ ?_⟩ | refine hK _ ?_
    clear hK K
    refine mix_pur2 rfl (fun K hK => ?_)
    go_simp
    first | refine ⟨_, fun _ => rfl, hK _ ?_⟩ | refine hK _ ?_
    clear hK K
    refine mix_pur2 rfl (fun K hK => ?_)
    go_simp
    first | refine ⟨_, fun _ => rfl, hK _ ?_⟩ | refine hK _ ?_
    clear hK K
    refine mix_pur2 rfl (fun K hK => ?_)
    go_simp
    first | refine ⟨_, fun _ => rfl, hK _ ?_⟩ | refine hK _ ?_
    clear hK K
    refine mix_eff2 rfl true rfl (fun K hK => ?_)
    go_simp
    obtain ⟨mx, hmx⟩ : ∃ m, m = (if 0 < a0 + r then a0 + r else 0) := ⟨_, rfl⟩
    rw [← hmx]
    obtain ⟨z1, hz1⟩ : ∃ z, z = (if mx < 9 then mx else 9) := ⟨_, rfl⟩
    rw [← hz1]
    have hz9 : 0 ≤ z1 ∧ z1 ≤ 9 := by rw [hz1, hmx]; (repeat' split) <;> omega
    have HMX := Lib.hid hmx
    have HZ1 := Lib.hid hz1
    clear hmx hz1
    refine hK _ _ trivial ?_
    clear hK K
    refine mix_done2 ?_
    clear e3 f3 bw bn
    have hK11 := hK10.set 3 (.int .i64 (z1))
    generalize w10.setCell ⟨b7, 3, none⟩ (.int .i64 (z1)) = w11 at hK11 ⊢
    have e0 := hK11.x.cell 0
    have e1 := hK11.x.cell 1
    have e2 := hK11.x.cell 2
    have e3 := hK11.x.cell 3
    have e4 := hK11.x.cell 4
    go_wp2_with fail
    refine (odds_c hK11.h (by omega) 1 5 (by omega) (by omega) (by omega)).mono ?_
    rintro e w50 ⟨⟨b, rfl⟩, ⟨k50, hk50, hH50⟩, hG50⟩
    have hK50 := hK11.hand hH50 hG50
    clear hH50 hG50
    clear e0 e1 e2 e3 e4
    have e0 := hK50.x.cell 0
    have e1 := hK50.x.cell 1
    have e2 := hK50.x.cell 2
    have e3 := hK50.x.cell 3
    have e4 := hK50.x.cell 4
    cases b with
    | false =>
      have o0 := hK50.o.cell 0
      have o1 := hK50.o.cell 1
      have o2 := hK50.o.cell 2
      have o3 := hK50.o.cell 3
      have o4 := hK50.o.cell 4
      have g0 := hK50.o.free 0
      have g1 := hK50.o.free 1
      have g2 := hK50.o.free 2
      have g3 := hK50.o.free 3
      have g4 := hK50.o.free 4
      go_wp2_with fail
      exact claim_fin hK50 (c := ⟨2, pt, 0, z1, er⟩) (by exact okB (by omega) (by omega) (by omega)) (by omega) rfl rfl rfl
    | true =>
      go_wp2_with fail
      refine (upto_c hK50.h (by omega) 9 (by omega) (by omega)).mono ?_
      rintro e w51 ⟨⟨z, rfl, hz, hzb⟩, ⟨k51, hk51, hH51⟩, hG51⟩
      have hK51 := hK50.hand hH51 hG51
      clear hH51 hG51
      clear e0 e1 e2 e3 e4
      have e0 := hK51.x.cell 0
      have e1 := hK51.x.cell 1
      have e2 := hK51.x.cell 2
      have e3 := hK51.x.cell 3
      have e4 := hK51.x.cell 4
      have f3 := hK51.x.free 3
      go_upto_region 18 with fail
      have hK52 := hK51.set 3 (.int .i64 (z))
      generalize w51.setCell ⟨b7, 3, none⟩ (.int .i64 (z)) = w52 at hK52 ⊢
      clear e0 e1 e2 e3 e4 f3
      have e0 := hK52.x.cell 0
      have e1 := hK52.x.cell 1
      have e2 := hK52.x.cell 2
      have e3 := hK52.x.cell 3
      have e4 := hK52.x.cell 4
      have o0 := hK52.o.cell 0
      have o1 := hK52.o.cell 1
      have o2 := hK52.o.cell 2
      have o3 := hK52.o.cell 3
      have o4 := hK52.o.cell 4
      have g0 := hK52.o.free 0
      have g1 := hK52.o.free 1
      have g2 := hK52.o.free 2
      have g3 := hK52.o.free 3
      have g4 := hK52.o.free 4
      go_wp2_with fail
      exact claim_fin hK52 (c := ⟨2, pt, 0, z, er⟩) (by exact okB (by omega) (by omega) (by omega)) (by omega) rfl rfl rfl
  · have hK6 := hK5
    obtain ⟨w6, hw6⟩ : ∃ w6, w6 = w5 := ⟨_, rfl⟩
    rw [← hw6] at hK6 ⊢
    clear hK5 hw6
    have hc1 : ((n : Int) == 1) = false := by simp; omega
    have e0 := hK6.x.cell 0
    have e1 := hK6.x.cell 1
    have e2 := hK6.x.cell 2
    have e3 := hK6.x.cell 3
    have e4 := hK6.x.cell 4
    have f3 := hK6.x.free 3
    have hc := hK6.li pt hpl
    rw [← HA0.out] at hc
    go_upto_region 5 with fail
    have hK7 := hK6.set 3 (.int .i64 (a0))
    generalize w6.setCell ⟨b7, 3, none⟩ (.int .i64 (a0)) = w7 at hK7 ⊢
    clear e0 e1 e2 e3 e4
    clear f3 hc
    have e0 := hK7.x.cell 0
    have e1 := hK7.x.cell 1
    have e2 := hK7.x.cell 2
    have e3 := hK7.x.cell 3
    have e4 := hK7.x.cell 4
    have hn0 : ¬ n = 0 := by omega
    go_wp2_with fail
    refine wp_region_mix2 (.pur 0 (.one 1 (.pur 2 (.pur 3 (.pur 4 (.pur 7 (.act 5 (.pur 6 (.pur 8 (.pur 9 (.act 10 .fin))))))))))) 10 (fun w => Blk b7 #[.int .i64 5, .int .i64 (pt : Int), .int .i64 0, .int .i64 a0, .int .i64 0] 54 w) (fun _ => True) (by kernel_rfl) (by kernel_rfl) rfl (by kernel_rfl) (hK7.x.qt ((Qt.refl _).drewN 1)) (fun wd hqd _ => ?_)
    have hKd := hK7.qt hqd
    refine mix_pur2 rfl (fun K hK => ?_)
    go_simp
    first | refine ⟨_, fun _ => rfl, hK _ ?_⟩ | refine hK _ ?_
    clear hK K
    refine mix_load2 rfl rfl rfl (.int .i64 (pt : Int)) (fun w' h => by have h : (fun w => Blk b7 #[.int .i64 5, .int .i64 (pt : Int), .int .i64 0, .int .i64 a0, .int .i64 0] 54 w) w' := h; have h0 := h.cell 1; go_simp) rfl ?_
    refine mix_pur2 rfl (fun K hK => ?_)
    go_simp
    first | refine ⟨_, fun _ => rfl, hK _ ?_⟩ | refine hK _ ?_
    clear hK K
    refine mix_pur2 rfl (fun K hK => ?_)
    go_simp
    first | refine ⟨_, fun _ => rfl, hK _ ?_⟩ | refine hK _ ?_
    clear hK K
    refine mix_pur2 rfl (fun K hK => ?_)
    go_simp
    first | refine ⟨_, fun _ => rfl, hK _ ?_⟩ | refine hK _ ?_
    clear hK K
    refine mix_pur2 rfl (fun K hK => ?_)
    go_simp
    first | refine ⟨_, fun _ => rfl, hK _ ?_⟩ | refine hK _ ?_
    clear hK K
    refine mix_eff2 rfl false rfl (fun K hK => ?_)
    go_simp
    refine (among_c hKd.h (by omega) 1 ((n : Int) - 1) (by omega) (by omega) (by omega) (by omega)).mono ?_
    rintro e w8 ⟨⟨r, rfl, hr, hrb⟩, ⟨k8, hk8, hH8⟩, hG8⟩
    have hK8 := hKd.hand hH8 hG8
    have bw : IntKind.i64.wrap ((pt : Int) + r) = (pt : Int) + r := IntWalk.i64_in _ (by omega)
    have f2 := hK8.x.free 2
    have e2 := hK8.x.cell 2
    refine hK _ _ hK8.x ?_
    clear hK K hH8 hG8
    refine mix_pur2 rfl (fun K hK => ?_)
    go_simp
    first | refine ⟨_, fun _ => rfl, hK _ ?_⟩ | refine hK _ ?_
    clear hK K
    refine mix_pur2 rfl (fun K hK => ?_)
    go_simp
    first | refine ⟨_, fun _ => rfl, hK _ ?_⟩ | refine hK _ ?_
    clear hK K
    refine mix_pur2 rfl (fun K hK => ?_)
    go_simp
    first | refine ⟨_, fun _ => rfl, hK _ ?_⟩ | refine hK _ ?_
    clear hK K
    refine mix_eff2 rfl true rfl (fun K hK => ?_)
    go_simp
    obtain ⟨qi, hqi⟩ : ∃ q, q = ((pt : Int) + r).tmod n := ⟨_, rfl⟩
    have hqo := other_ok hpn (r := r) ⟨hr, by omega⟩
    rw [← hqi] at hqo ⊢
    obtain ⟨qt, rfl⟩ : ∃ q : Nat, qi = (q : Int) := ⟨qi.toNat, by omega⟩
    have HQI := Lib.hid hqi
    clear hqi
    refine hK _ _ trivial ?_
    clear hK K
    refine mix_done2 ?_
    clear e0 e1 e2 e3 e4 f2 bw
    have hK9 := hK8.set 2 (.int .i64 ((qt : Int)))
    generalize w8.setCell ⟨b7, 2, none⟩ (.int .i64 ((qt : Int))) = w9 at hK9 ⊢
    have hql : qt < l.length := by omega
    obtain ⟨d0, hd0⟩ : ∃ a, a = l[qt] := ⟨_, rfl⟩
    have hd9 : 0 ≤ d0 ∧ d0 ≤ 9 := by rw [hd0]; exact HL9.out _ (List.getElem_mem _)
    have HD0 := Lib.hid hd0
    clear hd0
    have bs : IntKind.i64.wrap (a0 - d0) = a0 - d0 := IntWalk.i64_in _ (by omega)
    go_wp2_with fail
    refine wp_region_mix2 (.pur 0 (.pur 1 (.one 2 (.pur 3 (.one 4 (.pur 5 (.pur 6 (.one 7 (.pur 8 (.one 9 (.pur 10 (.pur 11 (.act 12 (.pur 13 (.pur 14 (.pur 15 (.act 16 .fin))))))))))))))))) 16 (fun w => Blk b7 #[.int .i64 5, .int .i64 (pt : Int), .int .i64 (qt : Int), .int .i64 a0, .int .i64 0] 54 w ∧ ∀ j (hj : j < l.length), w.cell? ⟨gl, off + j, none⟩ = some (.int .i64 l[j])) (fun _ => True) (by kernel_rfl) (by kernel_rfl) rfl (by kernel_rfl) ⟨hK9.x.qt ((Qt.refl _).drewN 1), fun j hj => hK9.li j hj⟩ (fun we hqe _ => ?_)
    have hKe := hK9.qt hqe
    refine mix_pur2 rfl (fun K hK => ?_)
    go_simp
    first | refine ⟨_, fun _ => rfl, hK _ ?_⟩ | refine hK _ ?_
    clear hK K
    refine mix_pur2 rfl (fun K hK => ?_)
    go_simp
    first | refine ⟨_, fun _ => rfl, hK _ ?_⟩ | refine hK _ ?_
    clear hK K
    refine mix_load2 rfl rfl rfl (.int .i64 (pt : Int)) (fun w' h => by have h : (fun w => Blk b7 #[.int .i64 5, .int .i64 (pt : Int), .int .i64 (qt : Int), .int .i64 a0, .int .i64 0] 54 w ∧ ∀ j (hj : j < l.length), w.cell? ⟨gl, off + j, none⟩ = some (.int .i64 l[j])) w' := h; have h0 := h.1.cell 1; go_simp) rfl ?_
    refine mix_pur2 rfl (fun K hK => ?_)
    go_simp
    first | refine ⟨_, fun _ => rfl, hK _ ?_⟩ | refine hK _ ?_
    clear hK K
    refine mix_load2 rfl rfl rfl (.int .i64 a0) (fun w' h => by have h : (fun w => Blk b7 #[.int .i64 5, .int .i64 (pt : Int), .int .i64 (qt : Int), .int .i64 a0, .int .i64 0] 54 w ∧ ∀ j (hj : j < l.length), w.cell? ⟨gl, off + j, none⟩ = some (.int .i64 l[j])) w' := h; have h0 := h.2 pt hpl; go_simp; exact HA0.out.symm) rfl ?_
    refine mix_pur2 rfl (fun K hK => ?_)
    go_simp
    first | refine ⟨_, fun _ => rfl, hK _ ?_⟩ | refine hK _ ?_
    clear hK K
    refine mix_pur2 rfl (fun K hK => ?_)
    go_simp
    first | refine ⟨_, fun _ => rfl, hK _ ?_⟩ | refine hK _ ?_
    clear hK K
    refine mix_load2 rfl rfl rfl (.int .i64 (qt : Int)) (fun w' h => by have h : (fun w => Blk b7 #[.int .i64 5, .int .i64 (pt : Int), .int .i64 (qt : Int), .int .i64 a0, .int .i64 0] 54 w ∧ ∀ j (hj : j < l.length), w.cell? ⟨gl, off + j, none⟩ = some (.int .i64 l[j])) w' := h; have h0 := h.1.cell 2; go_simp) rfl ?_
    refine mix_pur2 rfl (fun K hK => ?_)
    go_simp
    first | refine ⟨_, fun _ => rfl, hK _ ?_⟩ | refine hK _ ?_
    clear hK K
    refine mix_load2 rfl rfl rfl (.int .i64 d0) (fun w' h => by have h : (fun w => Blk b7 #[.int .i64 5, .int .i64 (pt : Int), .int .i64 (qt : Int), .int .i64 a0, .int .i64 0] 54 w ∧ ∀ j (hj : j < l.length), w.cell? ⟨gl, off + j, none⟩ = some (.int .i64 l[j])) w' := h; have h0 := h.2 qt hql; go_simp; exact HD0.out.symm) rfl ?_
    refine mix_pur2 rfl (fun K hK => ?_)
    go_simp
    first | refine ⟨_, fun _ => rfl, hK _ ?_⟩ | refine hK _ ?_
    clear hK K
    refine mix_pur2 rfl (fun K hK => ?_)
    go_simp
    first | refine ⟨_, fun _ => rfl, hK _ ?_⟩ | refine hK _ ?_
    clear hK K
    refine mix_eff2 rfl false rfl (fun K hK => ?_)
    go_simp
    refine (upto_c hKe.h (by omega) 2 (by omega) (by omega)).mono ?_
    rintro e w10 ⟨⟨r2, rfl, hr2, hr2b⟩, ⟨k10, hk10, hH10⟩, hG10⟩
    have hK10 := hKe.hand hH10 hG10
    have bw : IntKind.i64.wrap (a0 - d0 + r2) = a0 - d0 + r2 := IntWalk.i64_in _ (by omega)
    have f3 := hK10.x.free 3
    have e3 := hK10.x.cell 3
    refine hK _ _ ⟨hK10.x, hK10.li⟩ ?_
    clear hK K hH10 hG10
    refine mix_pur2 rfl (fun K hK => ?_)
    go_simp
    first | refine ⟨_, fun _ => rfl, hK _ ?_⟩ | refine hK _ ?_
    clear hK K
    refine mix_pur2 rfl (fun K hK => ?_)
    go_simp
    first | refine ⟨_, fun _ => rfl, hK _ ?_⟩ | refine hK _ ?_
    clear hK K
    refine mix_pur2 rfl (fun K hK => ?_)
    go_simp
    first | refine ⟨_, fun _ => rfl, hK _ ?_⟩ | refine hK _ ?_
    clear hK K
    refine mix_eff2 rfl true rfl (fun K hK => ?_)
    go_simp
    obtain ⟨z1, hz1⟩ : ∃ z, z = (if a0 - d0 + r2 < 9 then a0 - d0 + r2 else 9) := ⟨_, rfl⟩
    rw [← hz1]
    have hz9 : -9 ≤ z1 ∧ z1 ≤ 9 := by rw [hz1]; split <;> omega
    have HZ1 := Lib.hid hz1
    clear hz1
    refine hK _ _ trivial ?_
    clear hK K
    refine mix_done2 ?_
    clear e3 f3 bw bs
    have hK11 := hK10.set 3 (.int .i64 (z1))
    generalize w10.setCell ⟨b7, 3, none⟩ (.int .i64 (z1)) = w11 at hK11 ⊢
    have e0 := hK11.x.cell 0
    have e1 := hK11.x.cell 1
    have e2 := hK11.x.cell 2
    have e3 := hK11.x.cell 3
    have e4 := hK11.x.cell 4
    go_wp2_with fail
    refine (odds_c hK11.h (by omega) 1 5 (by omega) (by omega) (by omega)).mono ?_
    rintro e w50 ⟨⟨b, rfl⟩, ⟨k50, hk50, hH50⟩, hG50⟩
    have hK50 := hK11.hand hH50 hG50
    clear hH50 hG50
    clear e0 e1 e2 e3 e4
    have e0 := hK50.x.cell 0
    have e1 := hK50.x.cell 1
    have e2 := hK50.x.cell 2
    have e3 := hK50.x.cell 3
    have e4 := hK50.x.cell 4
    cases b with
    | true =>
      have o0 := hK50.o.cell 0
      have o1 := hK50.o.cell 1
      have o2 := hK50.o.cell 2
      have o3 := hK50.o.cell 3
      have o4 := hK50.o.cell 4
      have g0 := hK50.o.free 0
      have g1 := hK50.o.free 1
      have g2 := hK50.o.free 2
      have g3 := hK50.o.free 3
      have g4 := hK50.o.free 4
      go_wp2_with fail
      exact claim_fin hK50 (c := ⟨5, pt, qt, z1, 0⟩) (by exact okE (by omega) (by omega) (by omega) (by omega)) (by omega) rfl rfl rfl
    | false =>
      have o0 := hK50.o.cell 0
      have o1 := hK50.o.cell 1
      have o2 := hK50.o.cell 2
      have o3 := hK50.o.cell 3
      have o4 := hK50.o.cell 4
      have g0 := hK50.o.free 0
      have g1 := hK50.o.free 1
      have g2 := hK50.o.free 2
      have g3 := hK50.o.free 3
      have g4 := hK50.o.free 4
      go_wp2_with fail
      exact claim_fin hK50 (c := ⟨5, pt, qt, z1, 0⟩) (by exact okE (by omega) (by omega) (by omega) (by omega)) (by omega) rfl rfl rfl

end Go.Proofs.YtbpfhoihfoojfaaGreatDoor
