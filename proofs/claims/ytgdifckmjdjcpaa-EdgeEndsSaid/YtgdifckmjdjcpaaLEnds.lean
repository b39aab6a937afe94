/- EdgeEnds: what its walk hands back; conditions: the argument reads as a list of numbers. -/
import Derived.Test.YtgdifckmjdjcpaaSur
import Derived.Test.YtgdifckmjdjcpaaEof
import Derived.Test.YtgdifckmjdjcpaaSo
namespace Go.Proofs.Ytgdifckmjdjcpaa
open Go.RowKit

/-- One end of all bounds. -/
def endL (s : Bs) (side : Nat) : List Int := if side = 1 then s.map Prod.snd else s.map Prod.fst
theorem endL_len (s : Bs) (side : Nat) : (endL s side).length = s.length := by unfold endL; split <;> simp
theorem endL_at (s : Bs) (side : Nat) (p : Nat) : atL (endL s side) p = if side = 1 then gh s p else gl s p := by
  unfold endL
  split
  · exact atL_snd s p
  · exact atL_fst s p
theorem endL_truth {x : Edg} {s : Bs} (h : IsBnd x s) (side : Nat) : IsT x (endL s side) := by
  unfold endL
  split
  · exact h.hi
  · exact h.lo
theorem rg_gl {s : Bs} {p : Nat} (hp : p < s.length) : s[p].1 = gl s p ∧ s[p].2 = gh s p := by
  have e : s.getD p (0, 0) = s[p] := by rw [List.getD_eq_getElem?_getD, List.getElem?_eq_getElem hp]; rfl
  unfold gl gh
  rw [e]
  exact ⟨rfl, rfl⟩
theorem known_none {x : Edg} (hx : x.Ok) (h : truthsF x = []) : boundsX x = ([], 12) ∧ countX x = (0, 0) := by
  have hck : ¬ checkX x ≠ 0 := not_not_intro (checkX_zero.2 hx)
  constructor
  · unfold boundsX; rw [if_neg hck, bndF_none.2 h]
  · unfold countX; rw [if_neg hck, h]; rfl
theorem known_some {x : Edg} (hx : x.Ok) {s : Bs} (h : IsBnd x s) : boundsX x = (s, 0) := by
  have hck : ¬ checkX x ≠ 0 := not_not_intro (checkX_zero.2 hx)
  unfold boundsX; rw [if_neg hck, h.eq]

set_option maxRecDepth 100000 in
set_option maxHeartbeats 4000000 in
theorem edgeEnds_c {A : Nat → Prop} {w : World} {v : Value} {l : List Int} (h : Ints A w v l) : Calls Try.prog 5 #[v] w fun e w' => e = .returned (.bool true) ∧ Below w.heap.size w w' := by
  obtain ⟨a0, c0, rfl, _, _⟩ := h.shape
  go_enter Try.func5, Try.ntmps5
  go_wp2_with fail
  refine (newHand_c h).mono ?_
  rintro e w1 ⟨rfl, hH1, hB1⟩
  go_wp2_with fail
  refine (edgeOf_c hH1 (by omega) (pts := 4) (cl := 7) (by omega) (by omega)).mono ?_
  rintro e w2 ⟨⟨x, vx, rfl, hx, hx4, hx7, hO2⟩, -, hG2⟩
  have hB2 := bhand hB1 hG2 (Nat.le_refl _)
  obtain ⟨ax, cx, rfl⟩ := own_slice hO2
  obtain ⟨w3, hw3⟩ : ∃ w3, w3 = w2.alloc (.cells #[.int .i64 x.points, .int .i64 x.bend, .slice ax x.claims.length cx] 24) := ⟨_, rfl⟩
  obtain ⟨bx, hbx⟩ : ∃ b, b = w2.heap.size := ⟨_, rfl⟩
  have hX3 : Blk bx #[.int .i64 x.points, .int .i64 x.bend, .slice ax x.claims.length cx] 24 w3 := by rw [hw3, hbx]; exact Blk.new _ _ _
  have hB3 : Below w.heap.size w w3 := by rw [hw3]; exact bal2 hB2
  have h3 : ClsM (fun q => w1.heap.size ≤ q) w3 (.slice ax x.claims.length cx) x.claims := by rw [hw3]; exact (hO2.cls).call ((Below.refl _ _).alloc (Nat.le_refl _) _)
  go_upto_region 2 with fail
  rw [← hw3, ← hbx]
  clear hw3 hbx hO2 hG2 hH1 hB1 hB2
  have c0 := hX3.cell 0
  have c1 := hX3.cell 1
  have c2 := hX3.cell 2
  have hb := bounds27_c h3
  have HBN := Lib.hid hb
  clear hb
  go_wp2_with fail
  refine HBN.out.mono ?_
  rintro e w4 ⟨vl, rfl, hR4, hB4⟩
  have hX4 := hX3.call hB4
  have h4 := h3.call hB4
  have hBw4 := bnx hB3 hB4
  clear c0 c1 c2 HBN hX3 h3 hB4 hB3
  have c0 := hX4.cell 0
  have c1 := hX4.cell 1
  have c2 := hX4.cell 2
  obtain ⟨al, cl, rfl, _, _⟩ := hR4.shape
  rcases bnd_cases hx with ⟨ht, -, -⟩ | ⟨s, hs, -, -⟩
  · obtain ⟨e1, e2⟩ := known_none hx ht
    rw [e1] at hR4 ⊢
    have hcn := count25_c h4
    rw [e2] at hcn
    have HCN := Lib.hid hcn
    clear hcn
    go_wp2_with fail
    refine HCN.out.mono ?_
    rintro e w5 ⟨rfl, hB5⟩
    have hBw5 := bnx hBw4 hB5
    go_wp2_with fail
    refine (surveyed_c _).mono ?_
    rintro e w6 ⟨rfl, hB6⟩
    go_wp2_with fail
    go_ret
    exact ⟨rfl, bnx hBw5 hB6⟩
  · rw [known_some hx hs] at hR4 ⊢
    have hsl := hs.len
    obtain ⟨n, hn⟩ : ∃ n : Nat, x.points = (n : Int) := ⟨x.points.toNat, by have := hx.p; omega⟩
    have hxn : x.n = n := by unfold Edg.n; omega
    have hn4 : 1 ≤ n ∧ n ≤ 4 := by have := hx.p; omega
    rw [hxn] at hsl
    have hbend := hx.b
    have hd0 : ((s.length : Int) != (n : Int)) = false := by simp; omega
    rw [hn] at hX4 c0 ⊢
    have HN := Lib.hid hn
    have HXN := Lib.hid hxn
    have HSL := Lib.hid hsl
    have hs1 : s.length ≤ n := Nat.le_of_eq hsl
    have hs2 : n ≤ s.length := Nat.le_of_eq hsl.symm
    clear hn hxn hsl
    go_wp2_with fail
    go_loopw [8] (fun vi wr => ∃ side : Nat, side ≤ 2 ∧ vi = .int .i64 side ∧ Below w4.heap.size w4 wr) (fun vi _ => 2 - (intOf vi).toNat)
    case atStart => exact ⟨0, by omega, rfl, Below.refl _ _⟩
    case round =>
      obtain ⟨side, hsd, rfl, hB⟩ := hrel
      by_cases hlt : side < 2
      · have hT := endL_truth hs side
        have hLl := endL_len s side
        obtain ⟨L, hL⟩ : ∃ L, L = endL s side := ⟨_, rfl⟩
        rw [← hL] at hT hLl
        have HL := Lib.hid hL
        have hL1 : L.length ≤ n := by omega
        have hL2 : n ≤ L.length := by omega
        have hre : ∀ p < n, 0 ≤ atL L p ∧ atL L p ≤ 9 := fun p hp => hT.reach p (by rw [HXN.out]; exact hp)
        clear hL hLl
        obtain ⟨N, hN⟩ : ∃ N, N = wr.heap.size := ⟨_, rfl⟩
        have hNz : N ≤ wr.heap.size := Nat.le_of_eq hN
        have hN4 : w4.heap.size ≤ N := by rw [hN]; exact hB.size
        clear hN
        go_wp2_with fail
        rw [show decide ((side : Int) < 2) = true from decide_eq_true (by omega)]
        go_loopw [9, 10] (fun vo vp wp => ∃ p : Nat, p ≤ n ∧ vp = .int .i64 p ∧ Own N wp 3 1 vo p (I64 (L.take p)) ∧ Below N wr wp ∧ N ≤ wp.heap.size) (fun _ vp _ => n - (intOf vp).toNat)
        case atStart => exact ⟨0, Nat.zero_le _, rfl, Own.nil, Below.refl _ _, hNz⟩
        case round =>
          rename World => wp
          obtain ⟨p, hp, rfl, hO, hBp, hzp⟩ := hrel
          have hB4p := hB.trans (hBp.mono hN4)
          have hXp := hX4.call hB4p
          have hRp := hR4.call hB4p
          clear c0 c1 c2
          have c0 := hXp.cell 0
          have c1 := hXp.cell 1
          by_cases hltp : p < n
          · obtain ⟨gr, orr, rfl, _, _⟩ := rgs_addr hRp (by omega)
            obtain ⟨d0, d1⟩ := rgs_at hRp p (by omega)
            have hps : p < s.length := by omega
            obtain ⟨g1, g2⟩ := rg_gl hps
            rw [g1] at d0
            rw [g2] at d1
            obtain ⟨av, cv, rfl⟩ := own_slice hO
            have hap := HL.out
            have hav : atL L p = if side = 1 then gh s p else gl s p := by rw [HL.out]; exact endL_at s side p
            have hrp := hre p hltp
            obtain ⟨a, ha⟩ : ∃ a, a = atL L p := ⟨_, rfl⟩
            rw [← ha] at hav hrp
            have HA := Lib.hid ha
            clear g1 g2 hap ha
            by_cases hs1 : side = 1
            · by_cases hp0 : 0 < p
              · have hb1 : ((side : Int) == 1) = true := by rw [hs1]; rfl
                have ha1 : a = gh s p := by rw [hav, if_pos hs1]
                rw [← ha1] at d1
                clear hs1 hav ha1
                obtain ⟨q, hq⟩ : ∃ q, q = p - 1 := ⟨_, rfl⟩
                have bq : IntKind.i64.wrap ((p : Int) - 1) = (q : Int) := by rw [IntWalk.i64_in _ (by omega)]; omega
                have hqp : q < p := by omega
                have hqn : q < n := by omega
                have hbn := hT.bend q (by rw [HXN.out]; omega)
                have hb9 := hre q hqn
                obtain ⟨g9, cp9, e9, -, -⟩ := own_shape hO hp0
                injection e9 with e9a e9b e9c
                subst e9a
                subst e9c
                clear e9b
                have hcq := own_cell hO q (by rw [List.length_take]; omega)
                rw [List.getElem_take] at hcq
                obtain ⟨b0, hb0⟩ : ∃ b, b = atL L q := ⟨_, rfl⟩
                have hbq : L[q]'(by omega) = b0 := by rw [hb0]; exact (atL_at (by omega)).symm
                rw [hbq] at hcq
                rw [show q + 1 = p by omega, ← hb0, ← HA.out] at hbn
                rw [← hb0] at hb9
                have k3 : decide (0 < p) = true := decide_eq_true hp0
                have k4 : decide (x.bend < a - b0) = false := decide_eq_false (by omega)
                have k5 : decide (x.bend < b0 - a) = false := decide_eq_false (by omega)
                have bw1 : IntKind.i64.wrap (a - b0) = a - b0 := IntWalk.i64_in _ (by omega)
                have bw2 : IntKind.i64.wrap (b0 - a) = b0 - a := IntWalk.i64_in _ (by omega)
                clear hb0 hbq hq
                have k1 : decide (a < 0) = false := decide_eq_false (by omega)
                have k2 : decide (9 < a) = false := decide_eq_false (by omega)
                go_wp2_with fail
                go_quiet (fail)
                have hq8 : Qt wp (wp.drewN nq) := ⟨nq, rfl⟩
                generalize wp.drewN nq = wq at hq8 ⊢
                have ho8 := (hO.qt hq8).alloc (.cells #[.int .i64 a] 3)
                have hz8 : N ≤ wq.heap.size := by rw [hq8.size]; exact hzp
                go_wp2_with (at_builtin; refine wpList_append_arr rfl _ _ 27 rfl 3 (.int .i64 0) 1 8 Try.underlying27 Try.info3 rfl (by decide) (by decide) (by simp; omega) ho8 rfl (arr_one wq 3 (.int .i64 a)) rfl rfl (one_int _) (by omega) ?_; intro v9 w9 hown hT9)
                have hB9 := hT9.below2 (B' := N) ho8 ((hBp.trans (hq8.below _)).alloc hz8 _) (by simp; omega) (Nat.le_refl _)
                have hz9 := hT9.size
                go_roundw
                case rel =>
                  refine ⟨p + 1, by omega, by go_num, ?_, hB9, by simp at hz9; omega⟩
                  rw [List.take_succ_eq_append_getElem (by omega), I64_append, ← atL_at (by omega), ← HA.out]
                  exact hown
                case measure => simp [intOf]; omega
              · have hb1 : ((side : Int) == 1) = true := by rw [hs1]; rfl
                have ha1 : a = gh s p := by rw [hav, if_pos hs1]
                rw [← ha1] at d1
                clear hs1 hav ha1
                have k3 : decide (0 < p) = false := decide_eq_false hp0
                have k1 : decide (a < 0) = false := decide_eq_false (by omega)
                have k2 : decide (9 < a) = false := decide_eq_false (by omega)
                go_wp2_with fail
                go_quiet (fail)
                have hq8 : Qt wp (wp.drewN nq) := ⟨nq, rfl⟩
                generalize wp.drewN nq = wq at hq8 ⊢
                have ho8 := (hO.qt hq8).alloc (.cells #[.int .i64 a] 3)
                have hz8 : N ≤ wq.heap.size := by rw [hq8.size]; exact hzp
                go_wp2_with (at_builtin; refine wpList_append_arr rfl _ _ 27 rfl 3 (.int .i64 0) 1 8 Try.underlying27 Try.info3 rfl (by decide) (by decide) (by simp; omega) ho8 rfl (arr_one wq 3 (.int .i64 a)) rfl rfl (one_int _) (by omega) ?_; intro v9 w9 hown hT9)
                have hB9 := hT9.below2 (B' := N) ho8 ((hBp.trans (hq8.below _)).alloc hz8 _) (by simp; omega) (Nat.le_refl _)
                have hz9 := hT9.size
                go_roundw
                case rel =>
                  refine ⟨p + 1, by omega, by go_num, ?_, hB9, by simp at hz9; omega⟩
                  rw [List.take_succ_eq_append_getElem (by omega), I64_append, ← atL_at (by omega), ← HA.out]
                  exact hown
                case measure => simp [intOf]; omega
            · by_cases hp0 : 0 < p
              · have hb1 : ((side : Int) == 1) = false := by rw [beq_eq_false_iff_ne]; omega
                have ha1 : a = gl s p := by rw [hav, if_neg hs1]
                rw [← ha1] at d0
                clear hs1 hav ha1
                obtain ⟨q, hq⟩ : ∃ q, q = p - 1 := ⟨_, rfl⟩
                have bq : IntKind.i64.wrap ((p : Int) - 1) = (q : Int) := by rw [IntWalk.i64_in _ (by omega)]; omega
                have hqp : q < p := by omega
                have hqn : q < n := by omega
                have hbn := hT.bend q (by rw [HXN.out]; omega)
                have hb9 := hre q hqn
                obtain ⟨g9, cp9, e9, -, -⟩ := own_shape hO hp0
                injection e9 with e9a e9b e9c
                subst e9a
                subst e9c
                clear e9b
                have hcq := own_cell hO q (by rw [List.length_take]; omega)
                rw [List.getElem_take] at hcq
                obtain ⟨b0, hb0⟩ : ∃ b, b = atL L q := ⟨_, rfl⟩
                have hbq : L[q]'(by omega) = b0 := by rw [hb0]; exact (atL_at (by omega)).symm
                rw [hbq] at hcq
                rw [show q + 1 = p by omega, ← hb0, ← HA.out] at hbn
                rw [← hb0] at hb9
                have k3 : decide (0 < p) = true := decide_eq_true hp0
                have k4 : decide (x.bend < a - b0) = false := decide_eq_false (by omega)
                have k5 : decide (x.bend < b0 - a) = false := decide_eq_false (by omega)
                have bw1 : IntKind.i64.wrap (a - b0) = a - b0 := IntWalk.i64_in _ (by omega)
                have bw2 : IntKind.i64.wrap (b0 - a) = b0 - a := IntWalk.i64_in _ (by omega)
                clear hb0 hbq hq
                have k1 : decide (a < 0) = false := decide_eq_false (by omega)
                have k2 : decide (9 < a) = false := decide_eq_false (by omega)
                go_wp2_with fail
                go_quiet (fail)
                have hq8 : Qt wp (wp.drewN nq) := ⟨nq, rfl⟩
                generalize wp.drewN nq = wq at hq8 ⊢
                have ho8 := (hO.qt hq8).alloc (.cells #[.int .i64 a] 3)
                have hz8 : N ≤ wq.heap.size := by rw [hq8.size]; exact hzp
                go_wp2_with (at_builtin; refine wpList_append_arr rfl _ _ 27 rfl 3 (.int .i64 0) 1 8 Try.underlying27 Try.info3 rfl (by decide) (by decide) (by simp; omega) ho8 rfl (arr_one wq 3 (.int .i64 a)) rfl rfl (one_int _) (by omega) ?_; intro v9 w9 hown hT9)
                have hB9 := hT9.below2 (B' := N) ho8 ((hBp.trans (hq8.below _)).alloc hz8 _) (by simp; omega) (Nat.le_refl _)
                have hz9 := hT9.size
                go_roundw
                case rel =>
                  refine ⟨p + 1, by omega, by go_num, ?_, hB9, by simp at hz9; omega⟩
                  rw [List.take_succ_eq_append_getElem (by omega), I64_append, ← atL_at (by omega), ← HA.out]
                  exact hown
                case measure => simp [intOf]; omega
              · have hb1 : ((side : Int) == 1) = false := by rw [beq_eq_false_iff_ne]; omega
                have ha1 : a = gl s p := by rw [hav, if_neg hs1]
                rw [← ha1] at d0
                clear hs1 hav ha1
                have k3 : decide (0 < p) = false := decide_eq_false hp0
                have k1 : decide (a < 0) = false := decide_eq_false (by omega)
                have k2 : decide (9 < a) = false := decide_eq_false (by omega)
                go_wp2_with fail
                go_quiet (fail)
                have hq8 : Qt wp (wp.drewN nq) := ⟨nq, rfl⟩
                generalize wp.drewN nq = wq at hq8 ⊢
                have ho8 := (hO.qt hq8).alloc (.cells #[.int .i64 a] 3)
                have hz8 : N ≤ wq.heap.size := by rw [hq8.size]; exact hzp
                go_wp2_with (at_builtin; refine wpList_append_arr rfl _ _ 27 rfl 3 (.int .i64 0) 1 8 Try.underlying27 Try.info3 rfl (by decide) (by decide) (by simp; omega) ho8 rfl (arr_one wq 3 (.int .i64 a)) rfl rfl (one_int _) (by omega) ?_; intro v9 w9 hown hT9)
                have hB9 := hT9.below2 (B' := N) ho8 ((hBp.trans (hq8.below _)).alloc hz8 _) (by simp; omega) (Nat.le_refl _)
                have hz9 := hT9.size
                go_roundw
                case rel =>
                  refine ⟨p + 1, by omega, by go_num, ?_, hB9, by simp at hz9; omega⟩
                  rw [List.take_succ_eq_append_getElem (by omega), I64_append, ← atL_at (by omega), ← HA.out]
                  exact hown
                case measure => simp [intOf]; omega
          · obtain rfl : n = p := by omega
            rw [List.take_of_length_le hL1] at hO
            obtain ⟨av, cv, rfl⟩ := own_slice hO
            have hLO : Ints (fun q => N ≤ q) wp (.slice av n cv) L := by have := Own.arr hO; show Arr _ _ _ L.length _; rw [show L.length = n by omega]; exact this
            go_wp2_with fail
            go_loopw [12] (fun vk wk => ∃ k : Nat, k ≤ x.claims.length ∧ vk = .int .i64 k ∧ Below wp.heap.size wp wk) (fun vk _ => x.claims.length - (intOf vk).toNat)
            case atStart => exact ⟨0, Nat.zero_le _, rfl, Below.refl _ _⟩
            case round =>
              rename World => wk
              obtain ⟨k, hk, rfl, hBk⟩ := hrel
              have hB4k := hB4p.trans (hBk.mono (by have := hB4p.size; omega))
              have hXk := hX4.call hB4k
              have hck := h4.call hB4k
              have hLk := hLO.call hBk
              clear c0 c1
              have c2 := hXk.cell 2
              by_cases hltk : k < x.claims.length
              · obtain ⟨gc, o, rfl, hA, hgc⟩ := cls_addr hck (by omega)
                obtain ⟨d0, d1, d2, d3, d4⟩ := cls_at hck k hltk
                have hso := so_c (c := x.claims[k]) hLk (P := x.points) (by rw [HN.out]; omega) (hx.c _ (List.getElem_mem _)) (fun u hu => by
                  obtain ⟨i, hi, rfl⟩ := List.getElem_of_mem hu
                  have := hre i (by omega)
                  rwa [atL_at hi] at this)
                rw [hT.claims _ (List.getElem_mem _)] at hso
                have HSO := Lib.hid hso
                clear hso
                go_wp2_with fail
                refine HSO.out.mono ?_
                rintro e w9 ⟨rfl, hB9⟩
                go_wp2_with fail
                go_roundw
                case rel => exact ⟨k + 1, by omega, by go_num, bnx hBk hB9⟩
                case measure => simp [intOf]; omega
              · obtain rfl : k = x.claims.length := by omega
                go_wp2_with fail
                go_roundw
                case rel => exact ⟨side + 1, by omega, by go_num, hB4k⟩
                case measure => simp [intOf]; omega
      · obtain rfl : side = 2 := by omega
        go_wp2_with fail
        refine (surveyed_c _).mono ?_
        rintro e w6 ⟨rfl, hB6⟩
        go_wp2_with fail
        go_ret
        exact ⟨rfl, bnx (bnx hBw4 hB) hB6⟩

end Go.Proofs.Ytgdifckmjdjcpaa
