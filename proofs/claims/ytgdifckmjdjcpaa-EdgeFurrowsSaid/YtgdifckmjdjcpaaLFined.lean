/- EdgeFined: what its walk hands back; conditions: the argument reads as a list of numbers. -/
import Derived.Test.YtgdifckmjdjcpaaSur
import Derived.Test.YtgdifckmjdjcpaaFof
namespace Go.Proofs.Ytgdifckmjdjcpaa
open Go.RowKit

theorem both_ok {x : Edg} (hx : x.Ok) {l : List Fu} (hf : furX x.points l = 0) : bothX x l = 0 := by
  unfold bothX
  rw [if_neg (not_not_intro (checkX_zero.2 hx))]
  exact hf
theorem fine_none {x : Edg} (hx : x.Ok) {l : List Fu} (hf : furX x.points l = 0) (hb : bndF x = none) {r a b : Int} (hr : 1 ≤ r ∧ r ≤ 9) (ha : 0 ≤ a ∧ a ≤ b) (hb30 : b ≤ 30) : fineX x l r a b = ((0, 0), 12) := by
  unfold fineX
  rw [if_neg (not_not_intro (both_ok hx hf)), if_neg (not_not_intro ⟨btwB_iff.2 hr, btwB_iff.2 ⟨ha.1, by omega⟩, btwB_iff.2 ⟨by omega, hb30⟩⟩), if_neg (by omega), hb]
theorem fine_some {x : Edg} (hx : x.Ok) {l : List Fu} (hf : furX x.points l = 0) {s : Bs} (hb : bndF x = some s) {r a b : Int} (hr : 1 ≤ r ∧ r ≤ 9) (ha : 0 ≤ a ∧ a ≤ b) (hb30 : b ≤ 30) : fineX x l r a b = ((fineF r x.n (fL l s) a b, fineF r x.n (fM l s) a b), 0) := by
  unfold fineX
  rw [if_neg (not_not_intro (both_ok hx hf)), if_neg (not_not_intro ⟨btwB_iff.2 hr, btwB_iff.2 ⟨ha.1, by omega⟩, btwB_iff.2 ⟨by omega, hb30⟩⟩), if_neg (by omega), hb]
  rfl
theorem taken_none {x : Edg} (hx : x.Ok) {l : List Fu} (hf : furX x.points l = 0) (hb : bndF x = none) {y : Int} (hy : 0 ≤ y ∧ y ≤ 30) : takenX x l y = ([], 12) := by
  unfold takenX
  rw [if_neg (not_not_intro (both_ok hx hf)), btwB_iff.2 hy, if_neg (by decide), hb]
theorem taken_some {x : Edg} (hx : x.Ok) {l : List Fu} (hf : furX x.points l = 0) {s : Bs} (hb : bndF x = some s) {y : Int} (hy : 0 ≤ y ∧ y ≤ 30) : takenX x l y = (tkL l s y x.n, 0) := by
  unfold takenX
  rw [if_neg (not_not_intro (both_ok hx hf)), btwB_iff.2 hy, if_neg (by decide), hb]
  rfl

theorem sum_bd {α : Type} {f : α → Int} {M : Int} : ∀ l : List α, (∀ a ∈ l, 0 ≤ f a ∧ f a ≤ M) → 0 ≤ (l.map f).sum ∧ (l.map f).sum ≤ M * l.length
  | [], _ => by simp
  | a :: l, h => by
    have h1 := h a (List.mem_cons_self ..)
    have h2 := sum_bd l fun b hb => h b (List.mem_cons_of_mem _ hb)
    rw [List.map_cons, List.sum_cons, List.length_cons]
    have e : M * ((l.length + 1 : Nat) : Int) = M * (l.length : Int) + M := by rw [Int.natCast_succ, Int.mul_add, Int.mul_one]
    rw [e]
    omega
theorem fineP_bd {r : Int} (hr : 1 ≤ r ∧ r ≤ 9) {g : Int → Nat → Int} {y : Int} (hg : ∀ p, 0 ≤ g y p ∧ g y p ≤ 9) (n : Nat) : 0 ≤ fineP r n g y ∧ fineP r n g y ≤ 81 * n := by
  have := sum_bd (f := fun p => r * g y p) (M := 81) (List.range n) fun p _ => by
    have := hg p
    refine ⟨Int.mul_nonneg (by omega) this.1, ?_⟩
    have := Int.mul_le_mul hr.2 this.2 this.1 (by decide)
    omega
  rw [List.length_range] at this
  exact this
theorem fineF_bd {r : Int} (hr : 1 ≤ r ∧ r ≤ 9) {g : Int → Nat → Int} (hg : ∀ y p, 0 ≤ g y p ∧ g y p ≤ 9) {n : Nat} (hn : n ≤ 4) {a b : Int} (ha : 0 ≤ a) (hb : b ≤ 30) : 0 ≤ fineF r n g a b ∧ fineF r n g a b ≤ 20000 := by
  have := sum_bd (f := fineY r n g) (M := 324) (rng a b) fun y _ => by
    have := fineP_bd hr (y := y) (hg y) n
    have e : fineY r n g y = fineP r n g y := rfl
    rw [e]
    omega
  have hl : (rng a b).length ≤ 31 := by simp [rng]; omega
  unfold fineF
  omega
/-- What the ranges read. -/
def FdS (bP bQ bR bT : Nat) (a b c d e f : Int) (w : World) : Prop := Blk bP #[.int .i64 (a + c), .int .i64 (b + d)] 52 w ∧ Blk bQ #[.int .i64 a, .int .i64 b] 52 w ∧ Blk bR #[.int .i64 c, .int .i64 d] 52 w ∧ Blk bT #[.int .i64 e, .int .i64 f] 52 w
theorem FdS.call {bP bQ bR bT : Nat} {a b c d e f : Int} {w w' : World} (h : FdS bP bQ bR bT a b c d e f w) (hB : Below w.heap.size w w') : FdS bP bQ bR bT a b c d e f w' := ⟨h.1.call hB, h.2.1.call hB, h.2.2.1.call hB, h.2.2.2.call hB⟩

set_option maxRecDepth 100000 in
set_option maxHeartbeats 4000000 in
theorem edgeFined_c {A : Nat → Prop} {w : World} {v : Value} {l : List Int} (h : Ints A w v l) : Calls Try.prog 8 #[v] w fun e w' => e = .returned (.bool true) ∧ Below w.heap.size w w' := by
  obtain ⟨a0, c0, rfl, _, _⟩ := h.shape
  go_enter Try.func8, Try.ntmps8
  go_wp2_with fail
  refine (newHand_c h).mono ?_
  rintro e w1 ⟨rfl, hH1, hB1⟩
  have hsz1 := hH1.lt
  go_wp2_with fail
  refine (edgeOf_c hH1 (by omega) (pts := 3) (cl := 3) (by omega) (by omega)).mono ?_
  rintro e w2 ⟨⟨x, vx, rfl, hx, hx4, hx7, hO2⟩, ⟨k2, hk2, hH2⟩, hG2⟩
  have hB2 := bhand hB1 hG2 (Nat.le_refl _)
  obtain ⟨ax, cx, rfl⟩ := own_slice hO2
  obtain ⟨w3, hw3⟩ : ∃ w3, w3 = w2.alloc (.cells #[.int .i64 x.points, .int .i64 x.bend, .slice ax x.claims.length cx] 24) := ⟨_, rfl⟩
  obtain ⟨bx, hbx⟩ : ∃ b, b = w2.heap.size := ⟨_, rfl⟩
  have hX3 : Blk bx #[.int .i64 x.points, .int .i64 x.bend, .slice ax x.claims.length cx] 24 w3 := by rw [hw3, hbx]; exact Blk.new _ _ _
  have hB3 : Below w.heap.size w w3 := by rw [hw3]; exact bal2 hB2
  have hC3 : ClsM (fun q => w1.heap.size ≤ q) w3 (.slice ax x.claims.length cx) x.claims := by rw [hw3]; exact (hO2.cls).call ((Below.refl _ _).alloc (Nat.le_refl _) _)
  have hH3 : Hnd w3 w.heap.size k2 := by rw [hw3]; exact hH2.call ((Below.refl _ _).alloc (Nat.le_refl _) _)
  have hbw : w.heap.size < bx := by rw [hbx]; have := hG2.size; omega
  go_upto_region 3 with fail
  rw [← hw3, ← hbx]
  clear hw3 hbx hO2 hG2 hH1 hB1 hB2 hH2
  have c0 := hX3.cell 0
  have c1 := hX3.cell 1
  have c2 := hX3.cell 2
  go_wp2_with fail
  refine (furrowsOf_c hH3 (by omega) hx.p ax x.claims.length cx).mono ?_
  rintro e w4 ⟨⟨L, vf, rfl, hfx, hF4⟩, ⟨k4, hk4, hH4⟩, hG4⟩
  have hX4 := hX3.hand hG4 (by omega)
  have hC4 := Elems.only hC3 hG4 (by omega)
  have hB4 := bhand hB3 hG4 (Nat.le_refl _)
  obtain ⟨af, cf, rfl⟩ := own_slice hF4
  have hF4 : FusM (fun q => w3.heap.size ≤ q) w4 (.slice af L.length cf) L := hF4.fus
  have hz34 : w.heap.size < w3.heap.size := by have := hX3.lt; omega
  clear c0 c1 c2 hX3 hC3 hB3 hG4 hH3
  go_wp2_with fail
  refine (among_c hH4 (by omega) 1 9 (by omega) (by omega) (by omega) (by omega)).mono ?_
  rintro e w5 ⟨⟨rt, rfl, hrt, hrtb⟩, ⟨k5, hk5, hH5⟩, hG5⟩
  have hX5 := hX4.hand hG5 (by omega)
  have hC5 := Elems.only hC4 hG5 (by omega)
  have hF5 := Elems.only hF4 hG5 (by omega)
  have hB5 := bhand hB4 hG5 (Nat.le_refl _)
  clear hX4 hC4 hF4 hB4 hG5 hH4
  go_wp2_with fail
  refine (upto_c hH5 (by omega) 29 (by omega) (by omega)).mono ?_
  rintro e w6 ⟨⟨lo, rfl, hlo, hlob⟩, ⟨k6, hk6, hH6⟩, hG6⟩
  have hX6 := hX5.hand hG6 (by omega)
  have hC6 := Elems.only hC5 hG6 (by omega)
  have hF6 := Elems.only hF5 hG6 (by omega)
  have hB6 := bhand hB5 hG6 (Nat.le_refl _)
  clear hX5 hC5 hF5 hB5 hG6 hH5
  have bl1 : IntKind.i64.wrap (lo + 1) = lo + 1 := IntWalk.i64_in _ (by omega)
  go_wp2_with fail
  refine (among_c hH6 (by omega) (lo + 1) 30 (by omega) (by omega) (by omega) (by omega)).mono ?_
  rintro e w7 ⟨⟨hi, rfl, hhi, hhib⟩, ⟨k7, hk7, hH7⟩, hG7⟩
  have hX7 := hX6.hand hG7 (by omega)
  have hC7 := Elems.only hC6 hG7 (by omega)
  have hF7 := Elems.only hF6 hG7 (by omega)
  have hB7 := bhand hB6 hG7 (Nat.le_refl _)
  clear hX6 hC6 hF6 hB6 hG7 hH6
  have bh1 : IntKind.i64.wrap (hi - 1) = hi - 1 := IntWalk.i64_in _ (by omega)
  go_wp2_with fail
  refine (among_c hH7 (by omega) lo (hi - 1) (by omega) (by omega) (by omega) (by omega)).mono ?_
  rintro e w8 ⟨⟨ct, rfl, hct, hctb⟩, ⟨k8, hk8, hH8⟩, hG8⟩
  have hX8 := hX7.hand hG8 (by omega)
  have hC8 := Elems.only hC7 hG8 (by omega)
  have hF8 := Elems.only hF7 hG8 (by omega)
  have hB8 := bhand hB7 hG8 (Nat.le_refl _)
  clear hX7 hC7 hF7 hB7 hG8 hH7
  have bc1 : IntKind.i64.wrap (ct + 1) = ct + 1 := IntWalk.i64_in _ (by omega)
  have hrt9 : 1 ≤ rt ∧ rt ≤ 9 := by omega
  have hlo9 : 0 ≤ lo ∧ lo ≤ 29 := by omega
  have hhi9 : lo + 1 ≤ hi ∧ hi ≤ 30 := by omega
  have hct9 : lo ≤ ct ∧ ct ≤ hi - 1 := by omega
  clear hrt hrtb hlo hlob hhi hhib hct hctb hH8
  rcases bnd_cases hx with ⟨-, hbn, -⟩ | ⟨s, hs, hbn, -⟩
  · have HE := Lib.hid (fine_none hx hfx hbn hrt9 (a := lo) (b := hi) (by omega) (by omega))
    have HE2 := Lib.hid (fine_none hx hfx hbn hrt9 (a := lo) (b := ct) (by omega) (by omega))
    have HE3 := Lib.hid (fine_none hx hfx hbn hrt9 (a := ct + 1) (b := hi) (by omega) (by omega))
    have HE4 := Lib.hid (fine_none hx hfx hbn hrt9 (a := lo) (b := lo) (by omega) (by omega))
    have HT := Lib.hid (taken_none hx hfx hbn (y := lo) (by omega))
    have c0 := hX8.cell 0
    have c1 := hX8.cell 1
    have c2 := hX8.cell 2
    have hcon := by have := fine_c hC8 hF8 rt (lo) (hi); rw [HE.out] at this; exact this
    have HCON := Lib.hid hcon
    clear hcon
    go_wp2_with fail
    refine HCON.out.mono ?_
    rintro e w9 ⟨rfl, hS9⟩
    have hX9 := hX8.call hS9
    have hC9 := hC8.call hS9
    have hF9 := hF8.call hS9
    have hB9 := bnx hB8 hS9
    clear c0 c1 c2 HCON hX8 hC8 hF8 hB8 
    obtain ⟨w10, hw10⟩ : ∃ w', w' = w9.alloc (.cells #[.int .i64 (0), .int .i64 (0)] 52) := ⟨_, rfl⟩
    obtain ⟨bP, hbP⟩ : ∃ b, b = w9.heap.size := ⟨_, rfl⟩
    have hP10 : Blk bP #[.int .i64 (0), .int .i64 (0)] 52 w10 := by rw [hw10, hbP]; exact Blk.new _ _ _
    have hS10 : Below w9.heap.size w9 w10 := by rw [hw10]; exact (Below.refl _ _).alloc (Nat.le_refl _) _
    have hX10 := hX9.call hS10
    have hC10 := hC9.call hS10
    have hF10 := hF9.call hS10
    have hB10 := bnx hB9 hS10
    go_upto_region 8 with fail
    rw [← hw10, ← hbP]
    clear hw10 hbP hS10 hX9 hC9 hF9 hB9 
    have c0 := hX10.cell 0
    have c1 := hX10.cell 1
    have c2 := hX10.cell 2
    have hcon := by have := fine_c hC10 hF10 rt (lo) (ct); rw [HE2.out] at this; exact this
    have HCON := Lib.hid hcon
    clear hcon
    go_wp2_with fail
    refine HCON.out.mono ?_
    rintro e w11 ⟨rfl, hS11⟩
    have hX11 := hX10.call hS11
    have hC11 := hC10.call hS11
    have hF11 := hF10.call hS11
    have hB11 := bnx hB10 hS11
    have hP11 := hP10.call hS11
    clear c0 c1 c2 HCON hX10 hC10 hF10 hB10 hP10
    obtain ⟨w12, hw12⟩ : ∃ w', w' = w11.alloc (.cells #[.int .i64 (0), .int .i64 (0)] 52) := ⟨_, rfl⟩
    obtain ⟨bQ, hbQ⟩ : ∃ b, b = w11.heap.size := ⟨_, rfl⟩
    have hQ12 : Blk bQ #[.int .i64 (0), .int .i64 (0)] 52 w12 := by rw [hw12, hbQ]; exact Blk.new _ _ _
    have hS12 : Below w11.heap.size w11 w12 := by rw [hw12]; exact (Below.refl _ _).alloc (Nat.le_refl _) _
    have hX12 := hX11.call hS12
    have hC12 := hC11.call hS12
    have hF12 := hF11.call hS12
    have hB12 := bnx hB11 hS12
    have hP12 := hP11.call hS12
    go_upto_region 9 with fail
    rw [← hw12, ← hbQ]
    clear hw12 hbQ hS12 hX11 hC11 hF11 hB11 hP11
    have c0 := hX12.cell 0
    have c1 := hX12.cell 1
    have c2 := hX12.cell 2
    have hcon := by have := fine_c hC12 hF12 rt (ct + 1) (hi); rw [HE3.out] at this; exact this
    have HCON := Lib.hid hcon
    clear hcon
    go_wp2_with fail
    refine HCON.out.mono ?_
    rintro e w13 ⟨rfl, hS13⟩
    have hX13 := hX12.call hS13
    have hC13 := hC12.call hS13
    have hF13 := hF12.call hS13
    have hB13 := bnx hB12 hS13
    have hP13 := hP12.call hS13
    have hQ13 := hQ12.call hS13
    clear c0 c1 c2 HCON hX12 hC12 hF12 hB12 hP12 hQ12
    obtain ⟨w14, hw14⟩ : ∃ w', w' = w13.alloc (.cells #[.int .i64 (0), .int .i64 (0)] 52) := ⟨_, rfl⟩
    obtain ⟨bR, hbR⟩ : ∃ b, b = w13.heap.size := ⟨_, rfl⟩
    have hR14 : Blk bR #[.int .i64 (0), .int .i64 (0)] 52 w14 := by rw [hw14, hbR]; exact Blk.new _ _ _
    have hS14 : Below w13.heap.size w13 w14 := by rw [hw14]; exact (Below.refl _ _).alloc (Nat.le_refl _) _
    have hX14 := hX13.call hS14
    have hC14 := hC13.call hS14
    have hF14 := hF13.call hS14
    have hB14 := bnx hB13 hS14
    have hP14 := hP13.call hS14
    have hQ14 := hQ13.call hS14
    go_upto_region 10 with fail
    rw [← hw14, ← hbR]
    clear hw14 hbR hS14 hX13 hC13 hF13 hB13 hP13 hQ13
    have c0 := hX14.cell 0
    have c1 := hX14.cell 1
    have c2 := hX14.cell 2
    have hcon := by have := fine_c hC14 hF14 rt (lo) (lo); rw [HE4.out] at this; exact this
    have HCON := Lib.hid hcon
    clear hcon
    go_wp2_with fail
    refine HCON.out.mono ?_
    rintro e w15 ⟨rfl, hS15⟩
    have hX15 := hX14.call hS15
    have hC15 := hC14.call hS15
    have hF15 := hF14.call hS15
    have hB15 := bnx hB14 hS15
    have hP15 := hP14.call hS15
    have hQ15 := hQ14.call hS15
    have hR15 := hR14.call hS15
    clear c0 c1 c2 HCON hX14 hC14 hF14 hB14 hP14 hQ14 hR14
    obtain ⟨w16, hw16⟩ : ∃ w', w' = w15.alloc (.cells #[.int .i64 (0), .int .i64 (0)] 52) := ⟨_, rfl⟩
    obtain ⟨bT, hbT⟩ : ∃ b, b = w15.heap.size := ⟨_, rfl⟩
    have hT16 : Blk bT #[.int .i64 (0), .int .i64 (0)] 52 w16 := by rw [hw16, hbT]; exact Blk.new _ _ _
    have hS16 : Below w15.heap.size w15 w16 := by rw [hw16]; exact (Below.refl _ _).alloc (Nat.le_refl _) _
    have hX16 := hX15.call hS16
    have hC16 := hC15.call hS16
    have hF16 := hF15.call hS16
    have hB16 := bnx hB15 hS16
    have hP16 := hP15.call hS16
    have hQ16 := hQ15.call hS16
    have hR16 := hR15.call hS16
    go_upto_region 11 with fail
    rw [← hw16, ← hbT]
    clear hw16 hbT hS16 hX15 hC15 hF15 hB15 hP15 hQ15 hR15
    have c0 := hX16.cell 0
    have c1 := hX16.cell 1
    have c2 := hX16.cell 2
    have hcon := by have := takens_c hC16 hF16 lo; rw [HT.out] at this; exact this
    have HCON := Lib.hid hcon
    clear hcon
    go_wp2_with fail
    refine HCON.out.mono ?_
    rintro e w17 ⟨vt, rfl, hV17, hS17⟩
    have hX17 := hX16.call hS17
    have hC17 := hC16.call hS17
    have hF17 := hF16.call hS17
    have hB17 := bnx hB16 hS17
    have hP17 := hP16.call hS17
    have hQ17 := hQ16.call hS17
    have hR17 := hR16.call hS17
    have hT17 := hT16.call hS17
    clear c0 c1 c2 HCON hX16 hC16 hF16 hB16 hP16 hQ16 hR16 hT16
    obtain ⟨at1, ct1, rfl, _, _⟩ := hV17.shape
    go_wp2_with fail
    refine (surveyed_c _).mono ?_
    rintro e w18 ⟨rfl, hB18⟩
    go_wp2_with fail
    go_ret
    exact ⟨rfl, bnx hB17 hB18⟩
  · obtain ⟨hf8, hf1, hfo⟩ := furX_facts hfx
    obtain ⟨n, hn⟩ : ∃ n, n = x.n := ⟨_, rfl⟩
    have hn4 : n ≤ 4 := by have := hx.p; rw [hn]; unfold Edg.n; omega
    have hpn : x.points = (n : Int) := by have := hx.p; rw [hn]; unfold Edg.n; omega
    have hreach : ∀ p < n, 0 ≤ gl s p ∧ gl s p ≤ gh s p ∧ gh s p ≤ 9 := fun p hp => bnd_reach hs (by rw [← hn]; exact hp)
    have hsl := hs.len
    have hz9 : ∀ p, (0 ≤ gl s p ∧ gl s p ≤ 9) ∧ (0 ≤ gh s p ∧ gh s p ≤ 9) := fun p => by
      by_cases hp : p < n
      · have := hreach p hp; omega
      · have e : s.getD p (0, 0) = (0, 0) := by rw [List.getD_eq_getElem?_getD, List.getElem?_eq_none (by omega)]; rfl
        unfold gl gh
        rw [e]
        exact ⟨⟨by decide, by decide⟩, ⟨by decide, by decide⟩⟩
    have hgL : ∀ y (p : Nat), 0 ≤ fL L s y p ∧ fL L s y p ≤ 9 := fun y p => tk_le hfo (hz9 p).1
    have hgM : ∀ y (p : Nat), 0 ≤ fM L s y p ∧ fM L s y p ≤ 9 := fun y p => tk_le hfo (hz9 p).2
    obtain ⟨B1, hB1⟩ : ∃ a, a = fineF rt n (fL L s) lo ct := ⟨_, rfl⟩
    obtain ⟨B2, hB2⟩ : ∃ a, a = fineF rt n (fM L s) lo ct := ⟨_, rfl⟩
    obtain ⟨C1, hC1⟩ : ∃ a, a = fineF rt n (fL L s) (ct + 1) hi := ⟨_, rfl⟩
    obtain ⟨C2, hC2⟩ : ∃ a, a = fineF rt n (fM L s) (ct + 1) hi := ⟨_, rfl⟩
    obtain ⟨D1, hD1⟩ : ∃ a, a = fineP rt n (fL L s) lo := ⟨_, rfl⟩
    obtain ⟨D2, hD2⟩ : ∃ a, a = fineP rt n (fM L s) lo := ⟨_, rfl⟩
    have hb1 : 0 ≤ B1 ∧ B1 ≤ 20000 := by rw [hB1]; exact fineF_bd hrt9 hgL hn4 hlo9.1 (by omega)
    have hb2 : 0 ≤ B2 ∧ B2 ≤ 20000 := by rw [hB2]; exact fineF_bd hrt9 hgM hn4 hlo9.1 (by omega)
    have hc1 : 0 ≤ C1 ∧ C1 ≤ 20000 := by rw [hC1]; exact fineF_bd hrt9 hgL hn4 (by omega) hhi9.2
    have hc2 : 0 ≤ C2 ∧ C2 ≤ 20000 := by rw [hC2]; exact fineF_bd hrt9 hgM hn4 (by omega) hhi9.2
    have HE := Lib.hid (show fineX x L rt lo hi = ((B1 + C1, B2 + C2), 0) by rw [fine_some hx hfx hbn hrt9 (by omega) (by omega), ← hn, fine_cut (g := fL L s) (lo := lo) (cut := ct) (hi := hi) (by omega) (by omega), fine_cut (g := fM L s) (lo := lo) (cut := ct) (hi := hi) (by omega) (by omega), hB1, hB2, hC1, hC2])
    have HE2 := Lib.hid (show fineX x L rt lo ct = ((B1, B2), 0) by rw [fine_some hx hfx hbn hrt9 (by omega) (by omega), ← hn, hB1, hB2])
    have HE3 := Lib.hid (show fineX x L rt (ct + 1) hi = ((C1, C2), 0) by rw [fine_some hx hfx hbn hrt9 (by omega) (by omega), ← hn, hC1, hC2])
    have HE4 := Lib.hid (show fineX x L rt lo lo = ((D1, D2), 0) by rw [fine_some hx hfx hbn hrt9 (by omega) (by omega), ← hn, fine_one, fine_one, hD1, hD2]; rfl)
    have HT := Lib.hid (show takenX x L lo = (tkL L s lo n, 0) by rw [taken_some hx hfx hbn (by omega), ← hn])
    have HD1 := Lib.hid hD1
    have HD2 := Lib.hid hD2
    have HPN := Lib.hid hpn
    clear hB1 hB2 hC1 hC2 hD1 hD2 hn hpn hsl
    have c0 := hX8.cell 0
    have c1 := hX8.cell 1
    have c2 := hX8.cell 2
    have hcon := by have := fine_c hC8 hF8 rt (lo) (hi); rw [HE.out] at this; exact this
    have HCON := Lib.hid hcon
    clear hcon
    go_wp2_with fail
    refine HCON.out.mono ?_
    rintro e w9 ⟨rfl, hS9⟩
    have hX9 := hX8.call hS9
    have hC9 := hC8.call hS9
    have hF9 := hF8.call hS9
    have hB9 := bnx hB8 hS9
    clear c0 c1 c2 HCON hX8 hC8 hF8 hB8 
    obtain ⟨w10, hw10⟩ : ∃ w', w' = w9.alloc (.cells #[.int .i64 (B1 + C1), .int .i64 (B2 + C2)] 52) := ⟨_, rfl⟩
    obtain ⟨bP, hbP⟩ : ∃ b, b = w9.heap.size := ⟨_, rfl⟩
    have hP10 : Blk bP #[.int .i64 (B1 + C1), .int .i64 (B2 + C2)] 52 w10 := by rw [hw10, hbP]; exact Blk.new _ _ _
    have hS10 : Below w9.heap.size w9 w10 := by rw [hw10]; exact (Below.refl _ _).alloc (Nat.le_refl _) _
    have hX10 := hX9.call hS10
    have hC10 := hC9.call hS10
    have hF10 := hF9.call hS10
    have hB10 := bnx hB9 hS10
    go_upto_region 8 with fail
    rw [← hw10, ← hbP]
    clear hw10 hbP hS10 hX9 hC9 hF9 hB9 
    have c0 := hX10.cell 0
    have c1 := hX10.cell 1
    have c2 := hX10.cell 2
    have hcon := by have := fine_c hC10 hF10 rt (lo) (ct); rw [HE2.out] at this; exact this
    have HCON := Lib.hid hcon
    clear hcon
    go_wp2_with fail
    refine HCON.out.mono ?_
    rintro e w11 ⟨rfl, hS11⟩
    have hX11 := hX10.call hS11
    have hC11 := hC10.call hS11
    have hF11 := hF10.call hS11
    have hB11 := bnx hB10 hS11
    have hP11 := hP10.call hS11
    clear c0 c1 c2 HCON hX10 hC10 hF10 hB10 hP10
    obtain ⟨w12, hw12⟩ : ∃ w', w' = w11.alloc (.cells #[.int .i64 (B1), .int .i64 (B2)] 52) := ⟨_, rfl⟩
    obtain ⟨bQ, hbQ⟩ : ∃ b, b = w11.heap.size := ⟨_, rfl⟩
    have hQ12 : Blk bQ #[.int .i64 (B1), .int .i64 (B2)] 52 w12 := by rw [hw12, hbQ]; exact Blk.new _ _ _
    have hS12 : Below w11.heap.size w11 w12 := by rw [hw12]; exact (Below.refl _ _).alloc (Nat.le_refl _) _
    have hX12 := hX11.call hS12
    have hC12 := hC11.call hS12
    have hF12 := hF11.call hS12
    have hB12 := bnx hB11 hS12
    have hP12 := hP11.call hS12
    go_upto_region 9 with fail
    rw [← hw12, ← hbQ]
    clear hw12 hbQ hS12 hX11 hC11 hF11 hB11 hP11
    have c0 := hX12.cell 0
    have c1 := hX12.cell 1
    have c2 := hX12.cell 2
    have hcon := by have := fine_c hC12 hF12 rt (ct + 1) (hi); rw [HE3.out] at this; exact this
    have HCON := Lib.hid hcon
    clear hcon
    go_wp2_with fail
    refine HCON.out.mono ?_
    rintro e w13 ⟨rfl, hS13⟩
    have hX13 := hX12.call hS13
    have hC13 := hC12.call hS13
    have hF13 := hF12.call hS13
    have hB13 := bnx hB12 hS13
    have hP13 := hP12.call hS13
    have hQ13 := hQ12.call hS13
    clear c0 c1 c2 HCON hX12 hC12 hF12 hB12 hP12 hQ12
    obtain ⟨w14, hw14⟩ : ∃ w', w' = w13.alloc (.cells #[.int .i64 (C1), .int .i64 (C2)] 52) := ⟨_, rfl⟩
    obtain ⟨bR, hbR⟩ : ∃ b, b = w13.heap.size := ⟨_, rfl⟩
    have hR14 : Blk bR #[.int .i64 (C1), .int .i64 (C2)] 52 w14 := by rw [hw14, hbR]; exact Blk.new _ _ _
    have hS14 : Below w13.heap.size w13 w14 := by rw [hw14]; exact (Below.refl _ _).alloc (Nat.le_refl _) _
    have hX14 := hX13.call hS14
    have hC14 := hC13.call hS14
    have hF14 := hF13.call hS14
    have hB14 := bnx hB13 hS14
    have hP14 := hP13.call hS14
    have hQ14 := hQ13.call hS14
    go_upto_region 10 with fail
    rw [← hw14, ← hbR]
    clear hw14 hbR hS14 hX13 hC13 hF13 hB13 hP13 hQ13
    have c0 := hX14.cell 0
    have c1 := hX14.cell 1
    have c2 := hX14.cell 2
    have hcon := by have := fine_c hC14 hF14 rt (lo) (lo); rw [HE4.out] at this; exact this
    have HCON := Lib.hid hcon
    clear hcon
    go_wp2_with fail
    refine HCON.out.mono ?_
    rintro e w15 ⟨rfl, hS15⟩
    have hX15 := hX14.call hS15
    have hC15 := hC14.call hS15
    have hF15 := hF14.call hS15
    have hB15 := bnx hB14 hS15
    have hP15 := hP14.call hS15
    have hQ15 := hQ14.call hS15
    have hR15 := hR14.call hS15
    clear c0 c1 c2 HCON hX14 hC14 hF14 hB14 hP14 hQ14 hR14
    obtain ⟨w16, hw16⟩ : ∃ w', w' = w15.alloc (.cells #[.int .i64 (D1), .int .i64 (D2)] 52) := ⟨_, rfl⟩
    obtain ⟨bT, hbT⟩ : ∃ b, b = w15.heap.size := ⟨_, rfl⟩
    have hT16 : Blk bT #[.int .i64 (D1), .int .i64 (D2)] 52 w16 := by rw [hw16, hbT]; exact Blk.new _ _ _
    have hS16 : Below w15.heap.size w15 w16 := by rw [hw16]; exact (Below.refl _ _).alloc (Nat.le_refl _) _
    have hX16 := hX15.call hS16
    have hC16 := hC15.call hS16
    have hF16 := hF15.call hS16
    have hB16 := bnx hB15 hS16
    have hP16 := hP15.call hS16
    have hQ16 := hQ15.call hS16
    have hR16 := hR15.call hS16
    go_upto_region 11 with fail
    rw [← hw16, ← hbT]
    clear hw16 hbT hS16 hX15 hC15 hF15 hB15 hP15 hQ15 hR15
    have c0 := hX16.cell 0
    have c1 := hX16.cell 1
    have c2 := hX16.cell 2
    have hcon := by have := takens_c hC16 hF16 lo; rw [HT.out] at this; exact this
    have HCON := Lib.hid hcon
    clear hcon
    go_wp2_with fail
    refine HCON.out.mono ?_
    rintro e w17 ⟨vt, rfl, hV17, hS17⟩
    have hX17 := hX16.call hS17
    have hC17 := hC16.call hS17
    have hF17 := hF16.call hS17
    have hB17 := bnx hB16 hS17
    have hP17 := hP16.call hS17
    have hQ17 := hQ16.call hS17
    have hR17 := hR16.call hS17
    have hT17 := hT16.call hS17
    clear c0 c1 c2 HCON hX16 hC16 hF16 hB16 hP16 hQ16 hR16 hT16
    rw [HPN.out] at hX17
    obtain ⟨at1, ct1, rfl, _, _⟩ := hV17.shape
    have htl : (tkL L s lo n).length = n := tkL_len L s lo n
    have ht1 : (tkL L s lo n).length ≤ n := Nat.le_of_eq htl
    have ht2 : n ≤ (tkL L s lo n).length := Nat.le_of_eq htl.symm
    have htat : ∀ p, p < n → (tkL L s lo n)[p]? = some (fL L s lo p, fM L s lo p) := fun p hp => by simp [tkL, hp]; rfl
    obtain ⟨TL, hTL⟩ : ∃ t, t = tkL L s lo n := ⟨_, rfl⟩
    simp only [← hTL] at hV17 ht1 ht2 htat ⊢
    have hd0 : ((TL.length : Int) != (n : Int)) = false := by simp; omega
    have HTA := Lib.hid htat
    clear hTL htl htat
    have c0 := hX17.cell 0
    go_wp2_with fail
    go_loopw [20, 21, 22] (fun va vb vi wr => ∃ (p : Nat) (C D : Int), p ≤ n ∧ vi = .int .i64 p ∧ va = .int .i64 C ∧ vb = .int .i64 D ∧ Hid (C = fineP rt p (fL L s) lo) ∧ Hid (D = fineP rt p (fM L s) lo) ∧ (0 ≤ C ∧ C ≤ 81 * p) ∧ (0 ≤ D ∧ D ≤ 81 * p) ∧ Qt w17 wr) (fun _ _ vi _ => n - (intOf vi).toNat)
    case atStart => exact ⟨0, 0, 0, Nat.zero_le _, rfl, rfl, rfl, Lib.hid rfl, Lib.hid rfl, by omega, by omega, Qt.refl _⟩
    case round =>
      obtain ⟨p, C, D, hp, rfl, rfl, rfl, HC, HD, hC, hD, hQ⟩ := hrel
      clear c0
      have c0 := (hX17.qt hQ).cell 0
      by_cases hlt : p < n
      · obtain ⟨gr, o, rfl, _, _⟩ := rgs_addr hV17 (by omega)
        obtain ⟨d0, d1⟩ := rgs_at (hV17.qt hQ) p (by omega)
        have e := HTA.out p hlt
        rw [List.getElem?_eq_getElem (by omega)] at e
        injection e with e
        rw [e] at d0 d1
        clear e
        simp only at d0 d1
        have hu := hgL lo p
        have hz := hgM lo p
        have HSL := Lib.hid (fineP_succ rt p (fL L s) lo)
        have HSM := Lib.hid (fineP_succ rt p (fM L s) lo)
        generalize fL L s lo p = u at d0 hu HSL
        generalize fM L s lo p = z at d1 hz HSM
        have hm1 : 0 ≤ rt * u ∧ rt * u ≤ 81 := ⟨Int.mul_nonneg (by omega) hu.1, by have := Int.mul_le_mul hrt9.2 hu.2 hu.1 (by decide); omega⟩
        have hm2 : 0 ≤ rt * z ∧ rt * z ≤ 81 := ⟨Int.mul_nonneg (by omega) hz.1, by have := Int.mul_le_mul hrt9.2 hz.2 hz.1 (by decide); omega⟩
        have bw1 : IntKind.i64.wrap (rt * u) = rt * u := IntWalk.i64_in _ (by omega)
        have bw2 : IntKind.i64.wrap (rt * z) = rt * z := IntWalk.i64_in _ (by omega)
        have bw3 : IntKind.i64.wrap (C + rt * u) = C + rt * u := IntWalk.i64_in _ (by omega)
        have bw4 : IntKind.i64.wrap (D + rt * z) = D + rt * z := IntWalk.i64_in _ (by omega)
        go_wp2_with fail
        go_quiet (fail)
        have hq8 : Qt wr (wr.drewN nq) := ⟨nq, rfl⟩
        go_wp2_with fail
        go_roundw
        case rel => exact ⟨p + 1, C + rt * u, D + rt * z, by omega, by go_num, rfl, rfl, Lib.hid (by rw [HSL.out, HC.out]), Lib.hid (by rw [HSM.out, HD.out]), by omega, by omega, hQ.trans hq8⟩
        case measure => simp [intOf]; omega
      · obtain rfl : n = p := by omega
        obtain rfl : C = D1 := by rw [HC.out, HD1.out]
        obtain rfl : D = D2 := by rw [HD.out, HD2.out]
        have hS0 : FdS bP bQ bR bT B1 B2 C1 C2 C D wr := FdS.call (w := w17) ⟨hP17, hQ17, hR17, hT17⟩ (hQ.below _)
        have bs1 : IntKind.i64.wrap (B1 + C1) = B1 + C1 := IntWalk.i64_in _ (by omega)
        have bs2 : IntKind.i64.wrap (B2 + C2) = B2 + C2 := IntWalk.i64_in _ (by omega)
        go_wp2_with fail
        refine wp_region_mix2 (.one 0 (.pur 1 (.one 2 (.pur 3 (.one 4 (.pur 5 (.pur 6 (.one 7 (.pur 8 (.one 9 (.pur 10 (.act 11 (.pur 12 (.pur 13 (.one 14 (.pur 15 (.pur 16 (.act 17 (.pur 18 (.pur 19 (.pur 20 (.act 21 (.pur 22 (.pur 23 .fin)))))))))))))))))))))))) 21 (FdS bP bQ bR bT B1 B2 C1 C2 C D) (fun _ => True) (by kernel_rfl) (by kernel_rfl) rfl (by kernel_rfl) (hS0.call (((Qt.refl _).drewN 1).below _)) (fun wd hqd _ => ?_)
        have hSd := hS0.call (hqd.below _)
        refine mix_load2 rfl rfl rfl (.agg #[.int .i64 (B1 + C1), .int .i64 (B2 + C2)]) (fun w' h => by have h : (FdS bP bQ bR bT B1 B2 C1 C2 C D) w' := h; have h0 := h.1.cell 0; have h1 := h.1.cell 1; go_simp) rfl ?_
        refine mix_pur2 rfl (fun K hK => ?_)
        go_simp
        first | refine ⟨_, fun _ => rfl, hK _ ?_⟩ | refine hK _ ?_
        clear hK K
        refine mix_load2 rfl rfl rfl (.int .i64 B1) (fun w' h => by have h : (FdS bP bQ bR bT B1 B2 C1 C2 C D) w' := h; have h0 := h.2.1.cell 0; go_simp) rfl ?_
        refine mix_pur2 rfl (fun K hK => ?_)
        go_simp
        first | refine ⟨_, fun _ => rfl, hK _ ?_⟩ | refine hK _ ?_
        clear hK K
        refine mix_load2 rfl rfl rfl (.int .i64 C1) (fun w' h => by have h : (FdS bP bQ bR bT B1 B2 C1 C2 C D) w' := h; have h0 := h.2.2.1.cell 0; go_simp) rfl ?_
        refine mix_pur2 rfl (fun K hK => ?_)
        go_simp
        first | refine ⟨_, fun _ => rfl, hK _ ?_⟩ | refine hK _ ?_
        clear hK K
        refine mix_pur2 rfl (fun K hK => ?_)
        go_simp
        first | refine ⟨_, fun _ => rfl, hK _ ?_⟩ | refine hK _ ?_
        clear hK K
        refine mix_load2 rfl rfl rfl (.int .i64 B2) (fun w' h => by have h : (FdS bP bQ bR bT B1 B2 C1 C2 C D) w' := h; have h0 := h.2.1.cell 1; go_simp) rfl ?_
        refine mix_pur2 rfl (fun K hK => ?_)
        go_simp
        first | refine ⟨_, fun _ => rfl, hK _ ?_⟩ | refine hK _ ?_
        clear hK K
        refine mix_load2 rfl rfl rfl (.int .i64 C2) (fun w' h => by have h : (FdS bP bQ bR bT B1 B2 C1 C2 C D) w' := h; have h0 := h.2.2.1.cell 1; go_simp) rfl ?_
        refine mix_pur2 rfl (fun K hK => ?_)
        go_simp
        first | refine ⟨_, fun _ => rfl, hK _ ?_⟩ | refine hK _ ?_
        clear hK K
        refine mix_eff2 rfl false rfl (fun K hK => ?_)
        go_simp
        refine (ofr_c (B1 + C1) (B2 + C2) _).mono ?_
        rintro e u11 ⟨rfl, hB11⟩
        have hS11 := hSd.call hB11
        refine hK _ _ hS11 ?_
        clear hK K
        refine mix_pur2 rfl (fun K hK => ?_)
        go_simp
        first | refine ⟨_, fun _ => rfl, hK _ ?_⟩ | refine hK _ ?_
        clear hK K
        refine mix_pur2 rfl (fun K hK => ?_)
        go_simp
        first | refine ⟨_, fun _ => rfl, hK _ ?_⟩ | refine hK _ ?_
        clear hK K
        refine mix_loadg2 rfl rfl (.agg #[.int .i64 C, .int .i64 D]) (by go_simp) (fun w' h => by have h : (FdS bP bQ bR bT B1 B2 C1 C2 C D) w' := h; have h0 := h.2.2.2.cell 0; have h1 := h.2.2.2.cell 1; go_simp) rfl ?_
        refine mix_pur2 rfl (fun K hK => ?_)
        go_simp
        first | refine ⟨_, fun _ => rfl, hK _ ?_⟩ | refine hK _ ?_
        clear hK K
        refine mix_pur2 rfl (fun K hK => ?_)
        go_simp
        first | refine ⟨_, fun _ => rfl, hK _ ?_⟩ | refine hK _ ?_
        clear hK K
        refine mix_eff2 rfl false rfl (fun K hK => ?_)
        go_simp
        refine (ofr_c C D _).mono ?_
        rintro e u17 ⟨rfl, hB17b⟩
        have hS17 := hS11.call hB17b
        refine hK _ _ hS17 ?_
        clear hK K
        refine mix_pur2 rfl (fun K hK => ?_)
        go_simp
        first | refine ⟨_, fun _ => rfl, hK _ ?_⟩ | refine hK _ ?_
        clear hK K
        refine mix_pur2 rfl (fun K hK => ?_)
        go_simp
        first | refine ⟨_, fun _ => rfl, hK _ ?_⟩ | refine hK _ ?_
        clear hK K
        refine mix_pur2 rfl (fun K hK => ?_)
        go_simp
        first | refine ⟨_, fun _ => rfl, hK _ ?_⟩ | refine hK _ ?_
        clear hK K
        refine mix_eff2 rfl true rfl (fun K hK => ?_)
        go_simp
        refine (surveyed_c _).mono ?_
        rintro e u21 ⟨rfl, hB21⟩
        refine hK _ _ trivial ?_
        clear hK K
        refine mix_pur2 rfl (fun K hK => ?_)
        go_simp
        first | refine ⟨_, fun _ => rfl, hK _ ?_⟩ | refine hK _ ?_
        clear hK K
        refine mix_pur2 rfl (fun K hK => ?_)
        go_simp
        first | refine ⟨_, fun _ => rfl, hK _ ?_⟩ | refine hK _ ?_
        clear hK K
        refine mix_done2 ?_
        go_wp2
        go_ret
        exact ⟨rfl, bnx (bnx (bnx (bnx (bnx hB17 (hQ.below _)) (hqd.below _)) hB11) hB17b) hB21⟩

end Go.Proofs.Ytgdifckmjdjcpaa
