/- Contract of Apart (edge); conditions: the claims read as a list. -/
import Derived.Test.YtgljiabmfcobiaaDoorFol
namespace Go.Proofs.YtgljiabmfcobiaaDoor
open Go.RowKit
attribute [local go_sem] Oper.semAt_some

/-- The span of a difference over the first truths. -/
def spK (x : Edg) (a b : Nat) (k : Nat) : Int × Int := spanF (((truthsF x).take k).map fun t => atL t a - atL t b)
theorem spK_succ {x : Edg} {a b k : Nat} (hk : k < (truthsF x).length) (h0 : 0 < k) : spK x a b (k + 1) = (min (spK x a b k).1 (atL (truthsF x)[k] a - atL (truthsF x)[k] b), max (spK x a b k).2 (atL (truthsF x)[k] a - atL (truthsF x)[k] b)) := by
  unfold spK
  rw [List.take_succ_eq_append_getElem hk, List.map_append]
  refine spanF_snoc ?_
  intro e
  have := congrArg List.length e
  simp at this
  rcases this with h | h
  · omega
  · rw [h] at hk; simp at hk
theorem spK_one {x : Edg} {a b : Nat} (hk : 0 < (truthsF x).length) : spK x a b 1 = (atL (truthsF x)[0] a - atL (truthsF x)[0] b, atL (truthsF x)[0] a - atL (truthsF x)[0] b) := by
  unfold spK
  rw [List.take_succ_eq_append_getElem hk]
  rfl
/-- What the region that takes two offsets reads. -/
def ApS (b1 b p q : Nat) (r : List Int) (w : World) : Prop := Blk (b1 + 1) #[.int .i64 (p : Int)] 3 w ∧ Blk (b1 + 2) #[.int .i64 (q : Int)] 3 w ∧ Blk b (tvA r) 66 w
theorem ApS.tp {b1 b p q : Nat} {r : List Int} {w : World} (h : ApS b1 b p q r w) (hp : p < 4) : w.cell? ⟨b, p, none⟩ = some (.int .i64 (atL r p)) := (h.2.2.cell p).trans (tvA_at r hp)
theorem ApS.tq {b1 b p q : Nat} {r : List Int} {w : World} (h : ApS b1 b p q r w) (hq : q < 4) : w.cell? ⟨b, q, none⟩ = some (.int .i64 (atL r q)) := (h.2.2.cell q).trans (tvA_at r hq)
/-- What Apart has found. -/
def AG (x : Edg) (a b bs bb : Nat) (k : Nat) (W : World) : Prop := Blk bs #[.int .i64 (spK x a b k).1, .int .i64 (spK x a b k).2] 32 W ∧ Blk bb #[.bool (decide (0 < k))] 4 W
theorem apart_fin {x : Edg} {a b bs : Nat} {W0 : World} {nb : Nat} {own : Nat → Prop} {h k : Nat} {W : World} (hF : ∀ q, (q = bs ∨ q = bs + 1) → q < W0.heap.size ∧ q ≠ nb) (hI : RI W0 nb (fun q => q = bs ∨ q = bs + 1) (AG x a b bs (bs + 1)) own k W) {W1 : World} (hK : Keep (fun q => q = bs ∨ q = bs + 1) W W1) {u0 z0 u z : Int} {c : Bool}
    (hS : Blk bs #[.int .i64 u0, .int .i64 z0] 32 W1) (hT : Blk (bs + 1) #[.bool c] 4 W1) (hu : u = (spK x a b (k + 1)).1) (hz : z = (spK x a b (k + 1)).2) {ac : Act} :
    BodyEndN (RI W0 nb (fun q => q = bs ∨ q = bs + 1) (AG x a b bs (bs + 1))) own h (k + 1) W .normal ac (((W1.setCell ⟨bs, 0, none⟩ (.int .i64 u)).setCell ⟨bs, 1, none⟩ (.int .i64 z)).setCell ⟨bs + 1, 0, none⟩ (.bool true)) := by
  subst hu
  subst hz
  have h12 : bs ≠ bs + 1 := by omega
  have h21 : bs + 1 ≠ bs := by omega
  have hA := ((hS.set 0 (.int .i64 (spK x a b (k + 1)).1)).set 1 (.int .i64 (spK x a b (k + 1)).2)).other (a := ⟨bs + 1, 0, none⟩) h12 (.bool true)
  have hB := ((hT.other (a := ⟨bs, 0, none⟩) h21 (.int .i64 (spK x a b (k + 1)).1)).other (a := ⟨bs, 1, none⟩) h21 (.int .i64 (spK x a b (k + 1)).2)).set 0 (.bool true)
  have hKp := ((hK.trans (Keep.setCell _ ⟨bs, 0, none⟩ (.int .i64 (spK x a b (k + 1)).1) (.inl rfl))).trans (Keep.setCell _ ⟨bs, 1, none⟩ (.int .i64 (spK x a b (k + 1)).2) (.inl rfl))).trans (Keep.setCell _ ⟨bs + 1, 0, none⟩ (.bool true) (.inr rfl))
  obtain ⟨k1, k2⟩ := RI.next (G' := AG x a b bs (bs + 1)) hF hI (pre' := k + 1) hKp ⟨by simpa using hA, by simpa using hB⟩
  exact ⟨own, fun q _ h => h, k1, rfl, k2⟩

set_option maxRecDepth 100000 in
set_option maxHeartbeats 2000000 in
theorem apart_c {A : Nat → Prop} {w : World} {x : Edg} {v : Value} (h : ClsM A w v x.claims) (pa pb : Int) :
    Calls Tryd.prog 7 #[.agg #[.int .i64 x.points, .int .i64 x.bend, v], .int .i64 pa, .int .i64 pb] w fun e w' => e = .returned (.tuple #[.agg #[.int .i64 (apartX x pa pb).1.1, .int .i64 (apartX x pa pb).1.2], .int .i64 (apartX x pa pb).2]) ∧ Below w.heap.size w w' := by
  obtain ⟨a1, c1, rfl, _, _⟩ := h.shape
  obtain ⟨w1, hw1⟩ : ∃ w1, w1 = (((w.alloc (.cells #[.int .i64 x.points, .int .i64 x.bend, .slice a1 x.claims.length c1] 24)).alloc (.cells #[.int .i64 pa] 3)).alloc (.cells #[.int .i64 pb] 3)).alloc (.cells #[.int .i64 0, .int .i64 0] 32) := ⟨_, rfl⟩
  obtain ⟨b1, hb1⟩ : ∃ b, b = w.heap.size := ⟨_, rfl⟩
  have hX1 : Blk b1 #[.int .i64 x.points, .int .i64 x.bend, .slice a1 x.claims.length c1] 24 w1 := by rw [hw1, hb1]; exact (((Blk.new w _ _).alloc _).alloc _).alloc _
  have hP1 : Blk (b1 + 1) #[.int .i64 pa] 3 w1 := by rw [hw1, hb1]; exact ((blk_at (by simp) _ _).alloc _).alloc _
  have hQ1 : Blk (b1 + 2) #[.int .i64 pb] 3 w1 := by rw [hw1, hb1]; exact (blk_at (by simp) _ _).alloc _
  have hR1 : Blk (b1 + 3) #[.int .i64 0, .int .i64 0] 32 w1 := by rw [hw1, hb1]; exact blk_at (by simp) _ _
  have hB1 : Below w.heap.size w w1 := by rw [hw1]; exact bal2 (bal2 (bal2 ((Below.refl _ w).alloc (Nat.le_refl _) _)))
  have h1 := h.call hB1
  refine (callsIn_wide (n := 9)).1 (callsIn_of_wp_marks Tryd.func7 rfl trivial (wpIn_wide.2 ?_))
  simp only [Tryd.ntmps7, List.size_toArray, List.length_cons, List.length_nil, Nat.reduceAdd, Nat.reduceSub, Array.replicate_succ, Array.replicate_zero, List.push_toArray, List.append_toArray, List.nil_append, List.cons_append]
  go_upto_region 1 with fail
  rw [← hw1, ← hb1]
  simp only [show b1 + 1 + 1 + 1 = b1 + 3 from rfl, show b1 + 1 + 1 = b1 + 2 from rfl]
  have hbw : w.heap.size ≤ b1 := Nat.le_of_eq hb1.symm
  clear hw1 hb1
  have c0 := hX1.cell 0
  have c1' := hX1.cell 1
  have c2 := hX1.cell 2
  go_wp2_with fail
  refine (check_c h1).mono ?_
  rintro e w2 ⟨rfl, hB2⟩
  have hX2 := hX1.call hB2
  have hP2 := hP1.call hB2
  have hQ2 := hQ1.call hB2
  have hR2 := hR1.call hB2
  have h2 := h1.call hB2
  have hBw2 := bnx hB1 hB2
  clear c0 c1' c2 hX1 hP1 hQ1 hR1 h1 hB1 hB2
  have r0 := hR2.cell 0
  have r1 := hR2.cell 1
  have fr0 := hR2.free 0
  have fr1 := hR2.free 1
  have hR9 := (hR2.set 0 (.int .i64 0)).set 1 (.int .i64 0)
  have hB9 := (hBw2.setCell (p := ⟨b1 + 3, 0, none⟩) (by show w.heap.size ≤ b1 + 3; omega) (.int .i64 0)).setCell (p := ⟨b1 + 3, 1, none⟩) (by show w.heap.size ≤ b1 + 3; omega) (.int .i64 0)
  by_cases hck : checkX x = 0
  · have hx := checkX_zero.1 hck
    have hb : (checkX x != 0) = false := by rw [hck]; rfl
    have hxp := hx.p
    have bp : IntKind.i64.wrap (x.points - 1) = x.points - 1 := IntWalk.i64_in _ (by omega)
    have c0 := hX2.cell 0
    have p0 := hP2.cell 0
    have q0 := hQ2.cell 0
    have HCK := Lib.hid hck
    clear hck
    cases hra : btwB pa 0 (x.points - 1) with
    | false =>
      have he : apartX x pa pb = ((0, 0), 3) := by unfold apartX; rw [if_neg (not_not_intro HCK.out), if_pos (by unfold ptB; rw [hra]; simp)]
      have HE := Lib.hid he
      clear he
      go_wp2_with (go_at_call 25; refine (between_c _ _ _ _).mono ?_; rintro e w' ⟨rfl, rfl⟩)
      generalize (w2.setCell ⟨b1 + 3, 0, none⟩ (.int .i64 0)).setCell ⟨b1 + 3, 1, none⟩ (.int .i64 0) = w9 at hR9 hB9 ⊢
      have y0 := hR9.cell 0
      have y1 := hR9.cell 1
      rw [HE.out]
      exact ⟨.tuple #[.agg #[.int .i64 0, .int .i64 0], .int .i64 3], by simp [results, Tryd.results7, go_sem, y0, y1], rfl, hB9⟩
    | true =>
      cases hrb : btwB pb 0 (x.points - 1) with
      | false =>
        have he : apartX x pa pb = ((0, 0), 3) := by unfold apartX; rw [if_neg (not_not_intro HCK.out), if_pos (by unfold ptB; rw [hrb]; simp)]
        have HE := Lib.hid he
        clear he
        go_wp2_with (go_at_call 25; refine (between_c _ _ _ _).mono ?_; rintro e w' ⟨rfl, rfl⟩)
        generalize (w2.setCell ⟨b1 + 3, 0, none⟩ (.int .i64 0)).setCell ⟨b1 + 3, 1, none⟩ (.int .i64 0) = w9 at hR9 hB9 ⊢
        have y0 := hR9.cell 0
        have y1 := hR9.cell 1
        rw [HE.out]
        exact ⟨.tuple #[.agg #[.int .i64 0, .int .i64 0], .int .i64 3], by simp [results, Tryd.results7, go_sem, y0, y1], rfl, hB9⟩
      | true =>
        have hfo : apartX x pa pb = if hasT x = false then ((0, 0), 12) else (spanF ((truthsF x).map fun t => atL t pa.toNat - atL t pb.toNat), 0) := by
          unfold apartX; rw [if_neg (not_not_intro HCK.out), if_neg (by unfold ptB; rw [hra, hrb]; simp)]
        have HFO := Lib.hid hfo
        have ha4 := btwB_iff.1 hra
        have hb4 := btwB_iff.1 hrb
        clear hfo
        obtain ⟨w3, hw3⟩ : ∃ w3, w3 = (w2.alloc (.cells #[.int .i64 0, .int .i64 0] 32)).alloc (.cells #[.bool false] 4) := ⟨_, rfl⟩
        obtain ⟨bs, hbs⟩ : ∃ b, b = w2.heap.size := ⟨_, rfl⟩
        have hS3 : Blk bs #[.int .i64 0, .int .i64 0] 32 w3 := by rw [hw3, hbs]; exact (Blk.new w2 _ _).alloc _
        have hT3 : Blk (bs + 1) #[.bool false] 4 w3 := by rw [hw3, hbs]; exact blk_at (by simp) _ _
        have hB3 : Below w2.heap.size w2 w3 := by rw [hw3]; exact bal2 ((Below.refl _ w2).alloc (Nat.le_refl _) _)
        have hz3 : bs + 2 ≤ w3.heap.size := by rw [hw3, hbs]; simp
        have hX3 := hX2.call hB3
        have hP3 := hP2.call hB3
        have hQ3 := hQ2.call hB3
        have hR3 := hR2.call hB3
        have h3 := h2.call hB3
        have hBw3 := bnx hBw2 hB3
        have hrl := hR2.lt
        go_upto_region 7 with (go_at_call 25; refine (between_c _ _ _ _).mono ?_; rintro e w' ⟨rfl, rfl⟩)
        rw [← hw3, ← hbs]
        have hbsw : w2.heap.size ≤ bs := Nat.le_of_eq hbs.symm
        clear hw3 hbs r0 r1 fr0 fr1 hR9 hB9 c0 p0 q0 hX2 hP2 hQ2 hR2 h2 hBw2 hB3 hra hrb
        have c0 := hX3.cell 0
        have c1' := hX3.cell 1
        have c2 := hX3.cell 2
        go_wp2_with (go_at_call 27; refine truths_c.mono ?_; rintro e wz ⟨rfl, rfl⟩)
        clear c0 c1' c2
        obtain ⟨W0, hW0⟩ : ∃ W0, W0 = w3.alloc (.cells #[.int .i64 x.points, .int .i64 x.bend, .slice a1 x.claims.length c1] 24) := ⟨_, rfl⟩
        obtain ⟨nb, hnb⟩ : ∃ nb, nb = w3.heap.size := ⟨_, rfl⟩
        have hNb : Blk nb #[.int .i64 x.points, .int .i64 x.bend, .slice a1 x.claims.length c1] 24 W0 := by rw [hW0, hnb]; exact Blk.new _ _ _
        have hzn : bs + 2 ≤ nb := by omega
        have hB0 : Below w3.heap.size w3 W0 := by rw [hW0]; exact (Below.refl _ w3).alloc (Nat.le_refl _) _
        rw [← hW0, ← hnb]
        have hS0 := hS3.call hB0
        have hT0 := hT3.call hB0
        have hP0 := hP3.call hB0
        have hQ0 := hQ3.call hB0
        have hR0 := hR3.call hB0
        have h0 := h3.call hB0
        have hBw := bnx hBw3 hB0
        have hnl := hNb.lt
        clear hW0 hnb hX3 hP3 hQ3 hR3 hS3 hT3 h3 hBw3 hB0
        have hF : ∀ q, (q = bs ∨ q = bs + 1) → q < W0.heap.size ∧ q ≠ nb := fun q h => by omega
        obtain ⟨p, rfl⟩ : ∃ p : Nat, pa = p := ⟨pa.toNat, by omega⟩
        obtain ⟨q, rfl⟩ : ∃ q : Nat, pb = q := ⟨pb.toNat, by omega⟩
        have hp4 : p < 4 := by omega
        have hq4 : q < 4 := by omega
        have hp4i : (p : Int) < 4 := by omega
        have hq4i : (q : Int) < 4 := by omega
        have hG : ∀ pre (W W' : World), AG x p q bs (bs + 1) pre W → W.heap.size ≤ W'.heap.size → (∀ k, (k = bs ∨ k = bs + 1) → W'.heap[k]? = W.heap[k]?) → AG x p q bs (bs + 1) pre W' :=
          fun pre W W' h _ hk => ⟨h.1.keep (hk _ (.inl rfl)), h.2.keep (hk _ (.inr rfl))⟩
        have hI0 : RI W0 nb (fun k => k = bs ∨ k = bs + 1) (AG x p q bs (bs + 1)) (fun k => k < W0.heap.size ∧ k ≠ nb) 0 W0 :=
          ⟨Keep.refl _ _, fun k h1 h2 => ⟨h1, h2⟩, fun k h => h.1, hS0, hT0⟩
        have hfn : ∀ args w, (callFunc 41 args).run Tryd.prog w = .ok (.enter 41 args) w := fun args w => by go_simp
        refine wp_rangeA (f := 41) (nb := nb) (f₀ := tv) (L := truthsF x) (a₁ := ?a1) (o₁ := fun r => .cells (tvA r) 66) rfl rfl hfn hNb.lt (truths_it hx h0 hNb) (RI W0 nb (fun k => k = bs ∨ k = bs + 1) (AG x p q bs (bs + 1))) (RI.side hF hG) (fun h => h.2 rfl) hI0 ?assign ?body ?done
        case assign =>
          intro l r W b K hb hK
          unfold tvA at hK
          unfold tv
          gi_wp2
          rw [← hb]
          exact hK
        case body =>
          intro l own k hk W h b hI hoh hh hob hbk
          refine wpIn_block ?_
          have hT : Blk b (tvA (truthsF x)[k]) 66 W := hbk
          have hCs := hI.g.1
          have hCt := hI.g.2
          have hPo : Blk (b1 + 1) #[.int .i64 (p : Int)] 3 W := hP0.keep (hI.keep.block _ (by have := hP0.lt; omega) (by omega))
          have hQo : Blk (b1 + 2) #[.int .i64 (q : Int)] 3 W := hQ0.keep (hI.keep.block _ (by have := hQ0.lt; omega) (by omega))
          have hu9 := truth_nine (List.getElem_mem hk)
          have hs0 : k = 0 → spK x p q (k + 1) = (atL (truthsF x)[k] p - atL (truthsF x)[k] q, atL (truthsF x)[k] p - atL (truthsF x)[k] q) := by
            intro h; subst h; exact spK_one hk
          have hs1 := fun h => spK_succ (x := x) (a := p) (b := q) hk h
          obtain ⟨r, hr⟩ : ∃ r, r = (truthsF x)[k] := ⟨_, rfl⟩
          rw [← hr] at hT hu9 hs0 hs1 ⊢
          have hup := hu9 p hp4
          have huq := hu9 q hq4
          obtain ⟨n, hn⟩ : ∃ n, n = atL r p - atL r q := ⟨_, rfl⟩
          rw [← hn] at hs0 hs1
          have bn : IntKind.i64.wrap (atL r p - atL r q) = n := by rw [IntWalk.i64_in _ (by omega), hn]
          have HS0 := Lib.hid hs0
          have HS1 := Lib.hid hs1
          obtain ⟨sk, hsk⟩ : ∃ sk, sk = spK x p q k := ⟨_, rfl⟩
          rw [← hsk] at hCs HS1
          clear hr hs0 hs1 hn hsk hu9 hup huq
          gi_wp2_with fail
          refine wpIn_region_mix2 (.one 0 (.pur 1 (.one 2 (.one 3 (.pur 4 (.one 5 (.pur 6 (.pur 7 .fin)))))))) 99 (ApS b1 b p q r) (fun _ => True) (by kernel_rfl) (by kernel_rfl) (by kernel_rfl) (fun a w h => by obtain ⟨o, _, _, h⟩ := h; cases h.1) rfl (by kernel_rfl) ⟨hPo.qt ((Qt.refl _).drewN 1), hQo.qt ((Qt.refl _).drewN 1), hT.qt ((Qt.refl _).drewN 1)⟩ (fun wd hqd _ => ?_)
          refine mix_load2 rfl rfl rfl (.int .i64 (p : Int)) (fun w' h => by have h : (ApS b1 b p q r) w' := h; have h2 := h.1.cell 0; go_simp) rfl ?_
          refine mix_pur2 rfl (fun K hK => ?_)
          go_simp
          try simp only [if_pos hp4i]
          first | refine ⟨_, fun _ => rfl, hK _ ?_⟩ | refine hK _ ?_
          clear hK K
          refine mix_load2 rfl rfl rfl (.int .i64 (atL r p)) (fun w' h => by have h : (ApS b1 b p q r) w' := h; have h2 := ApS.tp h hp4; go_simp) rfl ?_
          refine mix_load2 rfl rfl rfl (.int .i64 (q : Int)) (fun w' h => by have h : (ApS b1 b p q r) w' := h; have h2 := h.2.1.cell 0; go_simp) rfl ?_
          refine mix_pur2 rfl (fun K hK => ?_)
          go_simp
          try simp only [if_pos hq4i]
          first | refine ⟨_, fun _ => rfl, hK _ ?_⟩ | refine hK _ ?_
          clear hK K
          refine mix_load2 rfl rfl rfl (.int .i64 (atL r q)) (fun w' h => by have h : (ApS b1 b p q r) w' := h; have h2 := ApS.tq h hq4; go_simp) rfl ?_
          refine mix_pur2 rfl (fun K hK => ?_)
          go_simp
          first | refine ⟨_, fun _ => rfl, hK _ ?_⟩ | refine hK _ ?_
          clear hK K
          refine mix_pur2 rfl (fun K hK => ?_)
          go_simp
          first | refine ⟨_, fun _ => rfl, hK _ ?_⟩ | refine hK _ ?_
          clear hK K
          refine mix_done2 ?_
          have hCs := hCs.qt hqd
          have hCt := hCt.qt hqd
          have hKq : Keep (fun k => k = bs ∨ k = bs + 1) W wd := Keep.qt hqd
          have s0 := hCs.cell 0
          have s1 := hCs.cell 1
          have g0 := hCt.cell 0
          have fs0 := hCs.free 0
          have fs1 := hCs.free 1
          have fg0 := hCt.free 0
          by_cases hk0 : k = 0
          · have g0' : wd.cell? ⟨bs + 1, 0, none⟩ = some (.bool false) := by rw [g0, hk0]; rfl
            have hCs1 := (hCs.set 0 (.int .i64 n)).set 1 (.int .i64 n)
            have hCt1 := (hCt.other (a := ⟨bs, 0, none⟩) (by show bs + 1 ≠ bs; omega) (.int .i64 n)).other (a := ⟨bs, 1, none⟩) (by show bs + 1 ≠ bs; omega) (.int .i64 n)
            have hK1 := (hKq.trans (Keep.setCell _ ⟨bs, 0, none⟩ (.int .i64 n) (.inl rfl))).trans (Keep.setCell _ ⟨bs, 1, none⟩ (.int .i64 n) (.inl rfl))
            have hs0 := HS0.out hk0
            have HS2 := Lib.hid hs0
            clear g0 hk0 hs0
            gi_wp2_with fail
            exact apart_fin hF hI hK1 (by simpa using hCs1) hCt1 (by rw [HS2.out]) (by rw [HS2.out])
          · have g0' : wd.cell? ⟨bs + 1, 0, none⟩ = some (.bool true) := by rw [g0, decide_eq_true (by omega)]; rfl
            have hs1 := HS1.out (by omega)
            have HS2 := Lib.hid hs1
            clear g0 hk0 hs1
            gi_wp2_with fail
            all_goals exact apart_fin hF hI hKq hCs hCt (by rw [HS2.out]; simp only []; omega) (by rw [HS2.out]; simp only []; omega)
        case done =>
          intro D own W hI hD hDl hDo
          obtain ⟨g1, g2⟩ := hI.g
          have hBW : Below w.heap.size w W := hBw.trans ⟨hI.keep.os, hI.keep.tape, hI.keep.output, hI.keep.size, fun k hk => hI.keep.block k (by omega) (by omega)⟩
          have hrl0 := hR0.lt
          have hRW : Blk (b1 + 3) #[.int .i64 0, .int .i64 0] 32 W := hR0.keep (hI.keep.block _ (by omega) (by omega))
          have hsp : spK x p q (truthsF x).length = spanF ((truthsF x).map fun t => atL t p - atL t q) := by unfold spK; rw [List.take_length]
          rw [hsp] at g1
          have hht : hasT x = decide (0 < (truthsF x).length) := by unfold hasT; cases truthsF x <;> simp
          rw [← hht] at g2
          have HF := HFO.out
          rw [Int.toNat_natCast, Int.toNat_natCast] at HF
          obtain ⟨sp, hspn⟩ : ∃ sp, sp = spanF ((truthsF x).map fun t => atL t p - atL t q) := ⟨_, rfl⟩
          rw [← hspn] at g1 HF
          have HFF := Lib.hid HF
          clear HF hht hsp hspn
          have s0 := g1.cell 0
          have s1 := g1.cell 1
          have t0 := g2.cell 0
          have f0 := hRW.free 0
          have f1 := hRW.free 1
          have r0 := hRW.cell 0
          have r1 := hRW.cell 1
          have fin : ∀ (u z : Int) (a : Act) (er : Int), apartX x p q = ((u, z), er) → a.defers = [{ target := .collected D, args := #[] }] → a.tmps[6]? = some (.pointer (some ⟨b1 + 3, 0, none⟩)) → a.tmps[7]? = some (.int .i64 er) →
              bodyPostM Fence.wide 9 Tryd.prog Tryd.f7 (fun e w' => e = .returned (.tuple #[.agg #[.int .i64 (apartX x p q).1.1, .int .i64 (apartX x p q).1.2], .int .i64 (apartX x p q).2]) ∧ Below w.heap.size w w') .ret a ((W.setCell ⟨b1 + 3, 0, none⟩ (.int .i64 u)).setCell ⟨b1 + 3, 1, none⟩ (.int .i64 z)) := by
            rintro u z a er he hdf h6 h7
            have hRf := (hRW.set 0 (.int .i64 u)).set 1 (.int .i64 z)
            have hBf := (hBW.setCell (p := ⟨b1 + 3, 0, none⟩) (by show w.heap.size ≤ b1 + 3; omega) (.int .i64 u)).setCell (p := ⟨b1 + 3, 1, none⟩) (by show w.heap.size ≤ b1 + 3; omega) (.int .i64 z)
            have hDf : ((W.setCell ⟨b1 + 3, 0, none⟩ (.int .i64 u)).setCell ⟨b1 + 3, 1, none⟩ (.int .i64 z)).heap[D]? = some (.deferred (some [])) := (Below.heap_setCell _ _ _ D (by show D ≠ b1 + 3; omega)).trans ((Below.heap_setCell _ _ _ D (by show D ≠ b1 + 3; omega)).trans hD)
            generalize (W.setCell ⟨b1 + 3, 0, none⟩ (.int .i64 u)).setCell ⟨b1 + 3, 1, none⟩ (.int .i64 z) = wf at hRf hBf hDf ⊢
            have hRz : Blk (b1 + 3) #[.int .i64 u, .int .i64 z] 32 (wf.putObj D (.deferred none)) := hRf.keep (World.putObj_heap_other (by omega))
            have hBE : Below w.heap.size w (wf.putObj D (.deferred none)) := hBf.trans ⟨rfl, rfl, rfl, by simp, fun k hk => World.putObj_heap_other (by omega)⟩
            have y0 := hRz.cell 0
            have y1 := hRz.cell 1
            obtain ⟨tm, df⟩ := a
            simp only at hdf h6 h7
            subst hdf
            refine ⟨by simp, .inl ⟨_, _, rfl, run_takeDeferred hDf, ?_⟩⟩
            rw [he]
            exact ⟨.tuple #[.agg #[.int .i64 u, .int .i64 z], .int .i64 er], by rw [results, Tryd.results7]; simp [go_sem, h6, h7, y0, y1], rfl, hBE⟩
          have FIN := Lib.hid fin
          clear fin
          cases hh : hasT x with
          | false =>
            rw [hh] at t0
            have he : apartX x p q = ((0, 0), 12) := by rw [HFF.out, if_pos hh]
            have HE := Lib.hid he
            clear he hh
            go_wp2_with fail
            refine FIN.out _ _ _ _ HE.out ?_ ?_ ?_ <;> rfl
          | true =>
            rw [hh] at t0
            have he : apartX x p q = (sp, 0) := by rw [HFF.out, if_neg (by rw [hh]; decide)]
            have HE := Lib.hid he
            clear he hh
            go_wp2_with fail
            refine FIN.out _ _ _ _ HE.out ?_ ?_ ?_ <;> rfl
  · have hb : (checkX x != 0) = true := by simpa using hck
    have he : apartX x pa pb = ((0, 0), checkX x) := by unfold apartX; rw [if_pos hck]
    have HE := Lib.hid he
    clear he hck
    go_wp2_with fail
    generalize (w2.setCell ⟨b1 + 3, 0, none⟩ (.int .i64 0)).setCell ⟨b1 + 3, 1, none⟩ (.int .i64 0) = w9 at hR9 hB9 ⊢
    have y0 := hR9.cell 0
    have y1 := hR9.cell 1
    rw [HE.out]
    exact ⟨.tuple #[.agg #[.int .i64 0, .int .i64 0], .int .i64 (checkX x)], by simp [results, Tryd.results7, go_sem, y0, y1], rfl, hB9⟩

end Go.Proofs.YtgljiabmfcobiaaDoor
