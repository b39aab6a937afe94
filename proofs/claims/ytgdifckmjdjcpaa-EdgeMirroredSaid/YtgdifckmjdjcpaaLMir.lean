/- EdgeMirrored: what its walk hands back; conditions: the argument reads as a list of numbers. -/
import Derived.Test.YtgdifckmjdjcpaaMir1
namespace Go.Proofs.Ytgdifckmjdjcpaa
open Go.RowKit

theorem rg_gm {s : Bs} {p : Nat} (hp : p < s.length) : s[p].1 = gl s p ∧ s[p].2 = gh s p := by
  have e : s.getD p (0, 0) = s[p] := by rw [List.getD_eq_getElem?_getD, List.getElem?_eq_getElem hp]; rfl
  unfold gl gh
  rw [e]
  exact ⟨rfl, rfl⟩
theorem own_shape2 {B : Nat} {w : World} {ao : Option Addr} {n m cap sz : Nat} {e : TypeId} {l : List Value} (h : Own B w e sz (.slice ao n cap) m l) (hn : 0 < m) : ∃ g, ao = some ⟨g, 0, none⟩ := by
  rcases h.2 with ⟨_, h0⟩ | ⟨g, cap, cur, hv, _, _, _⟩
  · omega
  · injection hv with h1
    exact ⟨g, h1⟩
theorem flat_set2 {α : Type} {f : α → List Value} {m : Nat} (hf : ∀ a, (f a).length = m) : ∀ (l : List α) (k : Nat) (hk : k < l.length) (i j : Nat), i < m → j < m → ∀ (u v : Value) (c' : α), f c' = ((f l[k]).set i u).set j v → ((l.flatMap f).set (k * m + i) u).set (k * m + j) v = (l.set k c').flatMap f
  | [], k, hk, _, _, _, _, _, _, _, _ => by simp at hk
  | a :: l, 0, _, i, j, hi, hj, u, v, c', h => by
    have h : f c' = ((f a).set i u).set j v := h
    simp only [List.flatMap_cons, List.set_cons_zero, Nat.zero_mul, Nat.zero_add]
    rw [List.set_append_left _ _ (by rw [hf]; exact hi), List.set_append_left _ _ (by rw [List.length_set, hf]; exact hj), h]
  | a :: l, k + 1, hk, i, j, hi, hj, u, v, c', h => by
    have hk' : k < l.length := by simpa using hk
    have ih := flat_set2 hf l k hk' i j hi hj u v c' (by simpa using h)
    simp only [List.flatMap_cons, List.set_cons_succ]
    rw [List.set_append_right _ _ (by rw [hf, Nat.succ_mul]; omega), hf, show (k + 1) * m + i - m = k * m + i by rw [Nat.succ_mul]; omega, List.set_append_right _ _ (by rw [hf, Nat.succ_mul]; omega), hf, show (k + 1) * m + j - m = k * m + j by rw [Nat.succ_mul]; omega, ih]
theorem CO.set2 {N g n cap : Nat} {l : List Cl} {w : World} (h : CO N g n cap l w) {k : Nat} (hk : k < l.length) (i j : Nat) (hi : i < 5) (hj : j < 5) (u v : Value) (c' : Cl) (hc : ccells c' = ((ccells l[k]).set i u).set j v) : CO N g n cap (l.set k c') ((w.setCell ⟨g, k * 5 + i, none⟩ u).setCell ⟨g, k * 5 + j, none⟩ v) := by
  have h1 := (World.ownsRow.stored (World.ownsRow.stored h (k * 5 + i) u).1 (k * 5 + j) v).1
  rw [flat_set2 ccells_len l k hk i j hi hj u v c' hc] at h1
  exact h1

set_option maxRecDepth 100000 in
set_option maxHeartbeats 4000000 in
theorem edgeMirrored_c {A : Nat → Prop} {w : World} {v : Value} {l : List Int} (h : Ints A w v l) : Calls Try.prog 12 #[v] w fun e w' => e = .returned (.bool true) ∧ Below w.heap.size w w' := by
  obtain ⟨a0, c0, rfl, _, _⟩ := h.shape
  go_enter Try.func12, Try.ntmps12
  go_wp2_with fail
  refine (newHand_c h).mono ?_
  rintro e w1 ⟨rfl, hH1, hB1⟩
  go_wp2_with fail
  refine (edgeOf_c hH1 (by omega) (pts := 4) (cl := 6) (by omega) (by omega)).mono ?_
  rintro e w2 ⟨⟨x, vx, rfl, hx, hx4, hx7, hO2⟩, -, hG2⟩
  have hB2 := bhand hB1 hG2 (Nat.le_refl _)
  obtain ⟨ax, cx, rfl⟩ := own_slice hO2
  obtain ⟨w3, hw3⟩ : ∃ w3, w3 = w2.alloc (.cells #[.int .i64 x.points, .int .i64 x.bend, .slice ax x.claims.length cx] 24) := ⟨_, rfl⟩
  obtain ⟨bx, hbx⟩ : ∃ b, b = w2.heap.size := ⟨_, rfl⟩
  have hX3 : Blk bx #[.int .i64 x.points, .int .i64 x.bend, .slice ax x.claims.length cx] 24 w3 := by rw [hw3, hbx]; exact Blk.new _ _ _
  have hB3 : Below w.heap.size w w3 := by rw [hw3]; exact bal2 hB2
  have h3 : ClsM (fun q => w1.heap.size ≤ q) w3 (.slice ax x.claims.length cx) x.claims := by rw [hw3]; exact (hO2.cls).call ((Below.refl _ _).alloc (Nat.le_refl _) _)
  go_upto_region 2 with fail
  rw [← hw3, ← hbx]
  clear hw3 hbx hO2 hG2 hH1 hB1 hB2
  have hm6 := hx.m
  have h3 : ClsM (fun q => q < w3.heap.size) w3 (.slice ax x.claims.length cx) x.claims := h3.wide fun _ _ hq => hq
  have c0 := hX3.cell 0
  have c1 := hX3.cell 1
  have c2 := hX3.cell 2
  go_wp2_with fail
  refine (copyEdge_c h3 (by omega)).mono ?_
  rintro e w4 ⟨v', rfl, hO4, hB4⟩
  obtain ⟨ay, cy, rfl⟩ := own_slice hO4
  have hgo := World.ownsRow.lt hO4
  obtain ⟨w5, hw5⟩ : ∃ w5, w5 = w4.alloc (.cells #[.int .i64 x.points, .int .i64 x.bend, .slice ay x.claims.length cy] 24) := ⟨_, rfl⟩
  obtain ⟨by0, hby⟩ : ∃ b, b = w4.heap.size := ⟨_, rfl⟩
  have hY5 : Blk by0 #[.int .i64 x.points, .int .i64 x.bend, .slice ay x.claims.length cy] 24 w5 := by rw [hw5, hby]; exact Blk.new _ _ _
  have hO5 : Own (w3.heap.size + 2) w5 26 5 (.slice ay x.claims.length cy) x.claims.length (x.claims.flatMap ccells) := by rw [hw5]; exact hO4.alloc _
  have hB35 : Below w3.heap.size w3 w5 := by rw [hw5]; exact bal2 hB4
  obtain ⟨N, hN⟩ : ∃ N, N = w3.heap.size + 2 := ⟨_, rfl⟩
  have hN3 : w3.heap.size ≤ N := by omega
  have hww3 : w.heap.size ≤ w3.heap.size := hB3.size
  rw [← hN] at hO5 hgo
  rw [← hby] at hgo
  have hX5 := hX3.call hB35
  have h5 := h3.call hB35
  have hBw5 := bnx hB3 hB35
  have hz35 := hB35.size
  have hzby : by0 < w5.heap.size := hY5.lt
  clear c0 c1 c2
  go_upto_region 3 with fail
  rw [← hw5, ← hby]
  clear hw5 hby hN hO4 hB4
  have hbx3 : bx < w3.heap.size := hX3.lt
  clear hX3 h3 hB3
  go_wp2_with fail
  go_loopw [5] (fun vi wr => ∃ k : Nat, k ≤ x.claims.length ∧ vi = .int .i64 k ∧ Own N wr 26 5 (.slice ay x.claims.length cy) x.claims.length ((mirK x.claims k).flatMap ccells) ∧ Blk by0 #[.int .i64 x.points, .int .i64 x.bend, .slice ay x.claims.length cy] 24 wr ∧ Below N w5 wr) (fun vi _ => x.claims.length - (intOf vi).toNat)
  case atStart => exact ⟨0, Nat.zero_le _, rfl, hO5, hY5, Below.refl _ _⟩
  case round =>
    obtain ⟨k, hk, rfl, hOr, hYr, hBr⟩ := hrel
    have c2 := hYr.cell 2
    by_cases hltk : k < x.claims.length
    · obtain ⟨g, rfl⟩ := own_shape2 hOr (by omega)
      have hgb := hgo g rfl
      have hC : CO N g x.claims.length cy (mirK x.claims k) wr := hOr
      have hkl : k < (mirK x.claims k).length := by rw [mirK_len]; exact hltk
      have hok := hx.c _ (List.getElem_mem hltk)
      obtain ⟨c, hcc⟩ : ∃ c, c = x.claims[k] := ⟨_, rfl⟩
      have hat : (mirK x.claims k)[k] = c := by rw [hcc]; exact mirK_at hltk
      rw [← hcc] at hok
      obtain ⟨d0, d1, d2, d3, d4⟩ := hC.at hkl
      rw [hat] at d0 d1 d2 d3 d4
      have f0 := hC.free (k * 5)
      have f1 := hC.free (k * 5 + 1)
      have f2 := hC.free (k * 5 + 2)
      have f3 := hC.free (k * 5 + 3)
      obtain ⟨kd, pt, ot, off, er⟩ := c
      obtain ⟨hk1, hp1, ho1, ha1, he1⟩ := hok
      simp only at hk1 hp1 ho1 ha1 he1 d0 d1 d2 d3 d4
      by_cases k5 : kd = 5
      · subst k5
        have hmc : mirC ⟨5, pt, ot, off, er⟩ = ⟨5, ot, pt, off, er⟩ := rfl
        go_wp2_with fail
        go_quiet (fail)
        have hq8 : Qt wr (wr.drewN nq) := ⟨nq, rfl⟩
        generalize wr.drewN nq = wq at hq8 ⊢
        have hCq : CO N g x.claims.length cy (mirK x.claims k) wq := Own.qt hC hq8
        have hYr := hYr.qt hq8
        have hBr := hBr.trans (hq8.below _)
        have f1 := hCq.free (k * 5 + 1)
        have f2 := hCq.free (k * 5 + 2)
        obtain ⟨e0, e1, e2, e3, e4⟩ := hCq.at hkl
        rw [hat] at e0 e1 e2 e3 e4
        clear d0 d1 d2 d3 d4
        go_wp2_with fail
        go_roundw
        case rel =>
          refine ⟨k + 1, by omega, by go_num, ?_, ?_, ?_⟩
          · rw [← mirK_succ hltk, ← hcc, hmc]
            exact hCq.set2 hkl 1 2 (by omega) (by omega) _ _ _ (by rw [hat]; rfl)
          · first | exact (hYr.other (a := ⟨g, _, none⟩) (show by0 ≠ g by omega) _).other (a := ⟨g, _, none⟩) (show by0 ≠ g by omega) _ | exact hYr.other (a := ⟨g, _, none⟩) (show by0 ≠ g by omega) _
          · first | exact (hBr.setCell (p := ⟨g, _, none⟩) hgb.1 _).setCell (p := ⟨g, _, none⟩) hgb.1 _ | exact hBr.setCell (p := ⟨g, _, none⟩) hgb.1 _
        case measure => simp [intOf]; omega
      · rw [if_neg k5] at ha1
        have w9 : IntKind.i64.wrap (9 - off) = 9 - off := IntWalk.i64_in _ (by omega)
        by_cases k3 : kd = 3
        · subst k3
          have hmc : mirC ⟨3, pt, ot, off, er⟩ = ⟨4, pt, ot, 9 - off, er⟩ := rfl
          go_wp2_with fail
          go_roundw
          case rel =>
            refine ⟨k + 1, by omega, by go_num, ?_, ?_, ?_⟩
            · rw [← mirK_succ hltk, ← hcc, hmc]
              exact hC.set2 hkl 0 3 (by omega) (by omega) _ _ _ (by rw [hat]; rfl)
            · first | exact (hYr.other (a := ⟨g, _, none⟩) (show by0 ≠ g by omega) _).other (a := ⟨g, _, none⟩) (show by0 ≠ g by omega) _ | exact hYr.other (a := ⟨g, _, none⟩) (show by0 ≠ g by omega) _
            · first | exact (hBr.setCell (p := ⟨g, _, none⟩) hgb.1 _).setCell (p := ⟨g, _, none⟩) hgb.1 _ | exact hBr.setCell (p := ⟨g, _, none⟩) hgb.1 _
          case measure => simp [intOf]; omega
        · by_cases k4 : kd = 4
          · subst k4
            have hmc : mirC ⟨4, pt, ot, off, er⟩ = ⟨3, pt, ot, 9 - off, er⟩ := rfl
            go_wp2_with fail
            go_roundw
            case rel =>
              refine ⟨k + 1, by omega, by go_num, ?_, ?_, ?_⟩
              · rw [← mirK_succ hltk, ← hcc, hmc]
                exact hC.set2 hkl 0 3 (by omega) (by omega) _ _ _ (by rw [hat]; rfl)
              · first | exact (hYr.other (a := ⟨g, _, none⟩) (show by0 ≠ g by omega) _).other (a := ⟨g, _, none⟩) (show by0 ≠ g by omega) _ | exact hYr.other (a := ⟨g, _, none⟩) (show by0 ≠ g by omega) _
              · first | exact (hBr.setCell (p := ⟨g, _, none⟩) hgb.1 _).setCell (p := ⟨g, _, none⟩) hgb.1 _ | exact hBr.setCell (p := ⟨g, _, none⟩) hgb.1 _
            case measure => simp [intOf]; omega
          · have hmc : mirC ⟨kd, pt, ot, off, er⟩ = ⟨kd, pt, ot, 9 - off, er⟩ := by unfold mirC; simp only [if_neg k5, if_neg k3, if_neg k4]
            have b5 : (kd == 5) = false := beq_eq_false_iff_ne.2 k5
            have b3 : (kd == 3) = false := beq_eq_false_iff_ne.2 k3
            have b4 : (kd == 4) = false := beq_eq_false_iff_ne.2 k4
            go_wp2_with fail
            go_roundw
            case rel =>
              refine ⟨k + 1, by omega, by go_num, ?_, ?_, ?_⟩
              · rw [← mirK_succ hltk, ← hcc, hmc]
                exact hC.set hkl 3 (by omega) _ _ (by rw [hat]; rfl)
              · first | exact (hYr.other (a := ⟨g, _, none⟩) (show by0 ≠ g by omega) _).other (a := ⟨g, _, none⟩) (show by0 ≠ g by omega) _ | exact hYr.other (a := ⟨g, _, none⟩) (show by0 ≠ g by omega) _
              · first | exact (hBr.setCell (p := ⟨g, _, none⟩) hgb.1 _).setCell (p := ⟨g, _, none⟩) hgb.1 _ | exact hBr.setCell (p := ⟨g, _, none⟩) hgb.1 _
            case measure => simp [intOf]; omega
    · obtain rfl : k = x.claims.length := by omega
      rw [mirK_all] at hOr
      have h6 := h5.below (hBr.mono hN3) (fun _ hq _ => hq)
      have hX6 := hX5.below hBr (by omega)
      have hY6 : ClsM (fun q => N ≤ q) wr (.slice ay x.claims.length cy) (mirX x).claims := by
        have e : (mirX x).claims.length = x.claims.length := List.length_map ..
        rw [← e]
        exact Own.cls (l := (mirX x).claims) (by rw [e]; exact hOr)
      have hBwr := hBw5.trans (hBr.mono (by omega))
      clear hOr hX5 h5 hY5 hO5 hBr hgo hBw5 hB35
      obtain ⟨l1, l2, l3, l4, hbd⟩ := mirror_law hx
      have HBD := Lib.hid hbd
      clear c2
      have c0 := hX6.cell 0
      have c1 := hX6.cell 1
      have c2 := hX6.cell 2
      have c3 := hYr.cell 0
      have c4 := hYr.cell 1
      have c5 := hYr.cell 2
      have hc0 := count25_c (x := x) h6
      have HC0 := Lib.hid hc0
      clear hc0
      go_wp2_with fail
      refine HC0.out.mono ?_
      rintro e u0 ⟨rfl, hE0⟩
      have h6 := h6.call hE0
      have hY6 := hY6.call hE0
      have hX6 := hX6.call hE0
      have hYr := hYr.call hE0
      have hBu0 := bnx hBwr hE0
      clear c0 c1 c2 c3 c4 c5 HC0
      have c0 := hX6.cell 0
      have c1 := hX6.cell 1
      have c2 := hX6.cell 2
      have c3 := hYr.cell 0
      have c4 := hYr.cell 1
      have c5 := hYr.cell 2
      have hc1 := count25_c (x := mirX x) hY6
      rw [show (mirX x).points = x.points from rfl, show (mirX x).bend = x.bend from rfl] at hc1
      have HC1 := Lib.hid hc1
      clear hc1
      go_wp2_with fail
      refine HC1.out.mono ?_
      rintro e u1 ⟨rfl, hE1⟩
      have h6 := h6.call hE1
      have hY6 := hY6.call hE1
      have hX6 := hX6.call hE1
      have hYr := hYr.call hE1
      have hBu1 := bnx hBu0 hE1
      clear c0 c1 c2 c3 c4 c5 HC1
      have c0 := hX6.cell 0
      have c1 := hX6.cell 1
      have c2 := hX6.cell 2
      have c3 := hYr.cell 0
      have c4 := hYr.cell 1
      have c5 := hYr.cell 2
      have hc2 := wrong_c (x := x) h6
      have HC2 := Lib.hid hc2
      clear hc2
      go_wp2_with fail
      refine HC2.out.mono ?_
      rintro e u2 ⟨v2, rfl, hV2, hE2⟩
      have h6 := h6.call hE2
      have hY6 := hY6.call hE2
      have hX6 := hX6.call hE2
      have hYr := hYr.call hE2
      have hBu2 := bnx hBu1 hE2
      clear c0 c1 c2 c3 c4 c5 HC2
      have c0 := hX6.cell 0
      have c1 := hX6.cell 1
      have c2 := hX6.cell 2
      have c3 := hYr.cell 0
      have c4 := hYr.cell 1
      have c5 := hYr.cell 2
      have hc3 := wrong_c (x := mirX x) hY6
      rw [show (mirX x).points = x.points from rfl, show (mirX x).bend = x.bend from rfl] at hc3
      have HC3 := Lib.hid hc3
      clear hc3
      go_wp2_with fail
      refine HC3.out.mono ?_
      rintro e u3 ⟨v3, rfl, hV3, hE3⟩
      have hV2 := hV2.call hE3
      have h6 := h6.call hE3
      have hY6 := hY6.call hE3
      have hX6 := hX6.call hE3
      have hYr := hYr.call hE3
      have hBu3 := bnx hBu2 hE3
      clear c0 c1 c2 c3 c4 c5 HC3
      have c0 := hX6.cell 0
      have c1 := hX6.cell 1
      have c2 := hX6.cell 2
      have c3 := hYr.cell 0
      have c4 := hYr.cell 1
      have c5 := hYr.cell 2
      have hc4 := bounds27_c (x := x) h6
      have HC4 := Lib.hid hc4
      clear hc4
      go_wp2_with fail
      refine HC4.out.mono ?_
      rintro e u4 ⟨v4, rfl, hV4, hE4⟩
      have hV2 := hV2.call hE4
      have hV3 := hV3.call hE4
      have h6 := h6.call hE4
      have hY6 := hY6.call hE4
      have hX6 := hX6.call hE4
      have hYr := hYr.call hE4
      have hBu4 := bnx hBu3 hE4
      clear c0 c1 c2 c3 c4 c5 HC4
      have c0 := hX6.cell 0
      have c1 := hX6.cell 1
      have c2 := hX6.cell 2
      have c3 := hYr.cell 0
      have c4 := hYr.cell 1
      have c5 := hYr.cell 2
      have hc5 := bounds27_c (x := mirX x) hY6
      rw [show (mirX x).points = x.points from rfl, show (mirX x).bend = x.bend from rfl] at hc5
      have HC5 := Lib.hid hc5
      clear hc5
      go_wp2_with fail
      refine HC5.out.mono ?_
      rintro e u5 ⟨v5, rfl, hV5, hE5⟩
      have hV2 := hV2.call hE5
      have hV3 := hV3.call hE5
      have hV4 := hV4.call hE5
      have h6 := h6.call hE5
      have hY6 := hY6.call hE5
      have hX6 := hX6.call hE5
      have hYr := hYr.call hE5
      have hBu5 := bnx hBu4 hE5
      clear c0 c1 c2 c3 c4 c5 HC5
      have c0 := hX6.cell 0
      have c1 := hX6.cell 1
      have c2 := hX6.cell 2
      have c3 := hYr.cell 0
      have c4 := hYr.cell 1
      have c5 := hYr.cell 2
      rw [l3] at hV3
      obtain ⟨a2, q2, rfl, _, _⟩ := hV2.shape
      obtain ⟨a3, q3, rfl, _, _⟩ := hV3.shape
      have hsm := sameInts_q hV2 hV3
      rw [beq_self_eq_true] at hsm
      have HSM := Lib.hid hsm
      clear hsm l1 l2 l3 l4
      rcases HBD.out with ⟨e1, e2, e3⟩ | ⟨s, hsl, e1, e2, hb⟩
      · rw [e1] at hV4 ⊢
        rw [e2] at hV5 ⊢
        rw [e3]
        obtain ⟨a4, q4, rfl, _, _⟩ := hV4.shape
        obtain ⟨a5, q5, rfl, _, _⟩ := hV5.shape
        clear e1 e2 e3
        go_wp2_with fail
        refine HSM.out.mono ?_
        rintro e u6 ⟨rfl, hq6⟩
        go_wp2_with fail
        refine (surveyed_c _).mono ?_
        rintro e w9 ⟨rfl, hS9⟩
        go_wp2_with fail
        go_ret
        exact ⟨rfl, bnx (bnx hBu5 (hq6.below _)) hS9⟩
      · obtain ⟨z, hz⟩ : ∃ z, z = s.map fun b => (9 - b.2, 9 - b.1) := ⟨_, rfl⟩
        rw [e1] at hV4 ⊢
        rw [e2] at hV5 ⊢
        rw [← hz] at hV5 ⊢
        have hzl : z.length = s.length := by rw [hz, List.length_map]
        have hz1 : z.length ≤ s.length := Nat.le_of_eq hzl
        have hz2 : s.length ≤ z.length := Nat.le_of_eq hzl.symm
        have HZ := Lib.hid hz
        have HSL := Lib.hid hsl
        have hd0 : ((s.length : Int) != (z.length : Int)) = false := by simp; omega
        have hd1 : ((s.length : Int) == x.points) = true := by rw [beq_iff_eq]; have := hx.p; unfold Edg.n at hsl; omega
        have hs4 : s.length ≤ 4 := by have := hx.p; unfold Edg.n at hsl; omega
        clear hz hzl hsl e1 e2
        obtain ⟨a4, q4, rfl, _, _⟩ := hV4.shape
        obtain ⟨a5, q5, rfl, _, _⟩ := hV5.shape
        clear c0 c1 c2 c3 c4 c5
        go_wp2_with fail
        refine HSM.out.mono ?_
        rintro e u6 ⟨rfl, hq6⟩
        have hV4 := hV4.qt hq6
        have hV5 := hV5.qt hq6
        have hX6 := hX6.qt hq6
        have hBu6 := bnx hBu5 (hq6.below _)
        go_wp2_with fail
        go_loopw [21] (fun vp wp => ∃ p : Nat, p ≤ s.length ∧ vp = .int .i64 p ∧ Qt u6 wp) (fun vp _ => s.length - (intOf vp).toNat)
        case atStart => exact ⟨0, Nat.zero_le _, rfl, Qt.refl _⟩
        case round =>
          rename World => wp
          obtain ⟨p, hp, rfl, hQ⟩ := hrel
          by_cases hltp : p < s.length
          · have hRa := hV4.qt hQ
            have hRb := hV5.qt hQ
            obtain ⟨ga, oa, rfl, _, _⟩ := rgs_addr hRa (by omega)
            obtain ⟨gb, ob, rfl, _, _⟩ := rgs_addr hRb (by omega)
            obtain ⟨d0, d1⟩ := rgs_at hRa p (by omega)
            obtain ⟨d2, d3⟩ := rgs_at hRb p (by omega)
            have hzp : z[p]'(by omega) = (9 - s[p].2, 9 - s[p].1) := by have := HZ.out; subst this; rw [List.getElem_map]
            rw [hzp] at d2 d3
            have hbp := hb p hltp
            obtain ⟨g1, g2⟩ := rg_gm hltp
            rw [g1] at d0 d3
            rw [g2] at d1 d2
            obtain ⟨a, ha⟩ : ∃ a, a = gl s p := ⟨_, rfl⟩
            obtain ⟨b, hb'⟩ : ∃ b, b = gh s p := ⟨_, rfl⟩
            rw [← ha] at d0 d3 hbp
            rw [← hb'] at d1 d2 hbp
            obtain ⟨c, hc⟩ : ∃ c, c = 9 - b := ⟨_, rfl⟩
            obtain ⟨d, hd⟩ : ∃ d, d = 9 - a := ⟨_, rfl⟩
            rw [← hc] at d2
            rw [← hd] at d3
            have v1 : IntKind.i64.wrap (9 - d) = a := by rw [IntWalk.i64_in _ (by omega)]; omega
            have v2 : IntKind.i64.wrap (9 - c) = b := by rw [IntWalk.i64_in _ (by omega)]; omega
            clear hc hd ha hb' g1 g2 hzp
            go_wp2_with fail
            go_quiet (fail)
            have hq8 : Qt wp (wp.drewN nq) := ⟨nq, rfl⟩
            generalize wp.drewN nq = wq at hq8 ⊢
            go_wp2_with fail
            go_roundw
            case rel => exact ⟨p + 1, by omega, by go_num, hQ.trans hq8⟩
            case measure => simp [intOf]; omega
          · obtain rfl : p = s.length := by omega
            have hXp := hX6.qt hQ
            have x0 := hXp.cell 0
            go_wp2_with fail
            refine (surveyed_c _).mono ?_
            rintro e w9 ⟨rfl, hS9⟩
            go_wp2_with fail
            go_ret
            exact ⟨rfl, bnx (bnx hBu6 (hQ.below _)) hS9⟩

end Go.Proofs.Ytgdifckmjdjcpaa
