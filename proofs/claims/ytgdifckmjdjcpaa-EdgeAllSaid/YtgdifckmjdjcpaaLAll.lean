/- EdgeAll: what its walk hands back; conditions: the argument reads as a list of numbers. -/
import Derived.Test.YtgdifckmjdjcpaaStk
import Derived.Test.YtgdifckmjdjcpaaMoc
import Derived.Test.YtgdifckmjdjcpaaTrm
import Derived.Test.YtgdifckmjdjcpaaSev
import Derived.Test.YtgdifckmjdjcpaaFol
import Derived.Test.YtgdifckmjdjcpaaApa
import Derived.Test.YtgdifckmjdjcpaaSur
namespace Go.Proofs.Ytgdifckmjdjcpaa
open Go.RowKit

theorem MoC.put1 {w u : World} {bx N2 K : Nat} {x : Edg} {vx vl : Value} {L : List Int} {ba : Nat} {cs : Array Value} (h : MoC w bx x vx N2 vl L K u) (hA : Blk ba cs 26 u) (hN : N2 ≤ ba) (hcs : cs = #[.int .i64 0, .int .i64 0, .int .i64 0, .int .i64 0, .int .i64 0]) (d : Cl) :
    MoC w bx x vx N2 vl L K (((((u.setCell ⟨ba, 0, none⟩ (.int .i64 d.kind)).setCell ⟨ba, 1, none⟩ (.int .i64 d.point)).setCell ⟨ba, 2, none⟩ (.int .i64 d.other)).setCell ⟨ba, 3, none⟩ (.int .i64 d.off)).setCell ⟨ba, 4, none⟩ (.int .i64 d.err)) ∧
    Blk ba #[.int .i64 d.kind, .int .i64 d.point, .int .i64 d.other, .int .i64 d.off, .int .i64 d.err] 26 (((((u.setCell ⟨ba, 0, none⟩ (.int .i64 d.kind)).setCell ⟨ba, 1, none⟩ (.int .i64 d.point)).setCell ⟨ba, 2, none⟩ (.int .i64 d.other)).setCell ⟨ba, 3, none⟩ (.int .i64 d.off)).setCell ⟨ba, 4, none⟩ (.int .i64 d.err)) := by
  subst hcs
  exact ⟨h.far (((((((Below.refl _ u).setCell (p := ⟨ba, 0, none⟩) hN _).setCell (p := ⟨ba, 1, none⟩) hN _).setCell (p := ⟨ba, 2, none⟩) hN _).setCell (p := ⟨ba, 3, none⟩) hN _).setCell (p := ⟨ba, 4, none⟩) hN _)), ((((hA.set 0 _).set 1 _).set 2 _).set 3 _).set 4 _⟩
theorem put52 {u : World} {q1 q2 : Nat} {z0 z1 : Value} {ds : Array Value} (hA : Blk q1 #[z0, z1] 52 u) (hD : Blk q2 ds 52 u) (hne : q1 ≠ q2) (a b : Int) :
    Blk q1 #[.int .i64 a, .int .i64 b] 52 ((u.setCell ⟨q1, 0, none⟩ (.int .i64 a)).setCell ⟨q1, 1, none⟩ (.int .i64 b)) ∧ Blk q2 ds 52 ((u.setCell ⟨q1, 0, none⟩ (.int .i64 a)).setCell ⟨q1, 1, none⟩ (.int .i64 b)) := by
  refine ⟨(hA.set 0 _).set 1 _, ?_⟩
  have go : ∀ (j : Nat) (v : Value) (u : World), Blk q2 ds 52 u → Blk q2 ds 52 (u.setCell ⟨q1, j, none⟩ v) := fun j v u h => h.keep (Below.heap_setCell _ _ _ _ (fun e => hne e.symm))
  exact go _ _ _ (go _ _ _ hD)
/-- What the regions of the loops read. -/
def AlC (ba : Nat) (c : Cl) (br p : Nat) (vr : Value) (w : World) : Prop := Blk ba #[.int .i64 c.kind, .int .i64 c.point, .int .i64 c.other, .int .i64 c.off, .int .i64 c.err] 26 w ∧ w.cell? ⟨br, p, none⟩ = some vr
def AlR (br p : Nat) (vr : Value) (bw pa : Nat) (va : Int) (pb : Nat) (vb : Int) (w : World) : Prop := w.cell? ⟨br, p, none⟩ = some vr ∧ w.cell? ⟨bw, pa, none⟩ = some (.int .i64 va) ∧ w.cell? ⟨bw, pb, none⟩ = some (.int .i64 vb)
def AlQ (q1 : Nat) (U : Int × Int) (q2 : Nat) (V : Int × Int) (w : World) : Prop := Blk q1 #[.int .i64 U.1, .int .i64 U.2] 52 w ∧ Blk q2 #[.int .i64 V.1, .int .i64 V.2] 52 w
def AlE (q3 q2 q1 : Nat) (F : Int × Int) (gs os : Nat) (O : Int × Int) (w : World) : Prop := Blk q3 #[.int .i64 F.1, .int .i64 F.2] 52 w ∧ Blk q2 #[.int .i64 F.1, .int .i64 F.2] 52 w ∧ Blk q1 #[.int .i64 O.1, .int .i64 O.2] 52 w ∧ w.cell? ⟨gs, os, none⟩ = some (.int .i64 O.1) ∧ w.cell? ⟨gs, os + 1, none⟩ = some (.int .i64 O.2)
def cntC (c : Cl) (l : List (List Int)) : Nat := (l.filter fun t => c.holds (atL t)).length
theorem cntC_succ (c : Cl) (T : List (List Int)) (i : Nat) (hi : i < T.length) : cntC c (T.take (i + 1)) = if c.holds (atL T[i]) then cntC c (T.take i) + 1 else cntC c (T.take i) := by
  unfold cntC
  rw [List.take_succ_eq_append_getElem hi, List.filter_append, List.length_append]
  by_cases h : c.holds (atL T[i]) = true <;> simp [h]
theorem cntC_le (c : Cl) (l : List (List Int)) : cntC c l ≤ l.length := List.length_filter_le _ _
theorem verdM_eq {s a : Nat} (ha : 0 < a) : verdM (s : Int) (a : Int) = verdF s a := by
  unfold verdM verdF
  by_cases h1 : s = 0
  · subst h1
    rw [if_pos (by simp), if_neg (by omega), if_pos rfl]
  · rw [if_neg (by omega)]
    by_cases h2 : s = a
    · rw [if_pos (by omega), if_pos h2]
    · rw [if_neg (by omega), if_neg h2, if_neg h1]
theorem span_one (f : List Int → Int) (T : List (List Int)) (h : 0 < T.length) : spanF ((T.take 1).map f) = (f T[0], f T[0]) := by
  cases T with
  | nil => simp at h
  | cons t T => rfl
theorem span_more (f : List Int → Int) (T : List (List Int)) (i : Nat) (h0 : 0 < i) (h : i < T.length) : spanF ((T.take (i + 1)).map f) = (min (spanF ((T.take i).map f)).1 (f T[i]), max (spanF ((T.take i).map f)).2 (f T[i])) := by
  rw [List.take_succ_eq_append_getElem h, List.map_append]
  exact spanF_snoc (by
    intro e
    rw [List.map_eq_nil_iff, List.take_eq_nil_iff] at e
    rcases e with rfl | rfl
    · omega
    · simp at h)
theorem ent52 : Ent 52 := ⟨_, Try.func52, rfl, by kernel_rfl⟩
theorem ent35 : Ent 35 := ⟨_, Try.func35, rfl, by kernel_rfl⟩

set_option maxRecDepth 100000 in
set_option maxHeartbeats 100000000 in
theorem edgeAll_c {A : Nat → Prop} {w : World} {v : Value} {l : List Int} (h : Ints A w v l) : Calls Try.prog 19 #[v] w fun e w' => e = .returned (.bool true) ∧ Below w.heap.size w w' := by
  obtain ⟨a0, c0, rfl, _, _⟩ := h.shape
  go_enter Try.func19, Try.ntmps19
  go_wp2_with fail
  refine (newHand_c h).mono ?_
  rintro e w1 ⟨rfl, hH1, hB1⟩
  have hsz1 := hH1.lt
  go_wp2_with fail
  refine (edgeOf_c hH1 (by omega) (pts := 3) (cl := 5) (by omega) (by omega)).mono ?_
  rintro e w2 ⟨⟨x, vx, rfl, hx, hx4, hx7, hO2⟩, ⟨k2, hk2, hH2⟩, hG2⟩
  have hB2 := bhand hB1 hG2 (Nat.le_refl _)
  obtain ⟨ax, cx, rfl⟩ := own_slice hO2
  have hgr := World.ownsRow.lt hO2
  obtain ⟨w3, hw3⟩ : ∃ w3, w3 = w2.alloc (.cells #[.int .i64 x.points, .int .i64 x.bend, .slice ax x.claims.length cx] 24) := ⟨_, rfl⟩
  obtain ⟨bx, hbx⟩ : ∃ b, b = w2.heap.size := ⟨_, rfl⟩
  have hX3 : Blk bx #[.int .i64 x.points, .int .i64 x.bend, .slice ax x.claims.length cx] 24 w3 := by rw [hw3, hbx]; exact Blk.new _ _ _
  have hB3 : Below w.heap.size w w3 := by rw [hw3]; exact bal2 hB2
  have hO3 : Own w1.heap.size w3 26 5 (.slice ax x.claims.length cx) x.claims.length (x.claims.flatMap ccells) := by rw [hw3]; exact hO2.alloc _
  have hH3 : Hnd w3 w.heap.size k2 := by rw [hw3]; exact hH2.call ((Below.refl _ _).alloc (Nat.le_refl _) _)
  have hbw : w1.heap.size ≤ bx := by rw [hbx]; exact hG2.size
  have hz1 : w.heap.size < w1.heap.size := hsz1
  go_upto_region 3 with fail
  rw [← hw3, ← hbx]
  rw [← hbx] at hgr
  clear hw3 hbx hO2 hG2 hH1 hB1 hB2 hH2 hsz1
  have hC3 := Own.cls hO3
  clear hO3 hgr
  obtain ⟨n, hn⟩ : ∃ n, n = x.n := ⟨_, rfl⟩
  have hpn : x.points = (n : Int) := by have := hx.p; rw [hn]; unfold Edg.n; omega
  have hn4 : 1 ≤ n ∧ n ≤ 4 := by have := hx.p; omega
  have hn3 : n ≤ 3 := by omega
  have HPN := Lib.hid hpn
  have HN := Lib.hid hn
  clear hpn hn
  obtain ⟨N2, hN2⟩ : ∃ N, N = w3.heap.size := ⟨_, rfl⟩
  have hx3l := hX3.lt
  have hs0 : MoC w bx x (.slice ax x.claims.length cx) N2 (.slice none 0 0) [] 102 w3 :=
    ⟨⟨k2, by omega, hH3⟩, hX3, hC3.wide fun q hq hl => ⟨by omega, by omega⟩, ints_nil _ _, hB3, ⟨by omega, by omega, by omega⟩, by omega⟩
  have hxs : ∀ K u, MoC w bx x (.slice ax x.claims.length cx) N2 (.slice none 0 0) [] K u → Blk bx #[.int .i64 x.points, .int .i64 x.bend, .slice ax x.claims.length cx] 24 u := fun K u h => h.hX
  have HX := Lib.hid hxs
  clear hxs hX3 hC3 hB3 hH3 hN2
  go_cut [5] from 30 to 40 (fun s5 wx => ∃ (ba : Nat) (c : Cl), s5 = .pointer (some ⟨ba, 0, none⟩) ∧ c.Ok x.points ∧ MoC w bx x (.slice ax x.claims.length cx) N2 (.slice none 0 0) [] 200 wx ∧ Blk ba #[.int .i64 c.kind, .int .i64 c.point, .int .i64 c.other, .int .i64 c.off, .int .i64 c.err] 26 wx)
  case first =>
    refine wp_region_mix2 (.pur 0 (.pur 1 (.one 2 (.pur 3 (.pur 5 (.pur 7 (.two 4 (.two 6 (.two 8 (.two 9 (.two 10 (.act 11 (.act 12 .fin)) 11 (.act 10 (.act 12 .fin))) 11 (.act 9 (.act 10 (.act 12 .fin)))) 11 (.act 8 (.act 9 (.act 10 (.act 12 .fin))))) 11 (.act 6 (.act 8 (.act 9 (.act 10 (.act 12 .fin)))))) 11 (.act 4 (.act 6 (.act 8 (.act 9 (.act 10 (.act 12 .fin))))))))))))) 12 (Blk bx #[.int .i64 x.points, .int .i64 x.bend, .slice ax x.claims.length cx] 24) (fun _ => True) (by kernel_rfl) (by kernel_rfl) rfl (by kernel_rfl) (HX.out _ _ (hs0.qt ((Qt.refl _).drewN 1))) (fun wd hqd _ => ?_)
    have hs := hs0.qt hqd
    refine mix_pur2 rfl (fun K hK => ?_)
    go_simp
    first | refine ⟨_, fun _ => rfl, hK _ ?_⟩ | refine hK _ ?_
    clear hK K
    refine mix_pur2 rfl (fun K hK => ?_)
    go_simp
    first | refine ⟨_, fun _ => rfl, hK _ ?_⟩ | refine hK _ ?_
    clear hK K
    refine mix_load2 rfl rfl rfl (.int .i64 x.points) (fun w' h => by have h : (Blk bx #[.int .i64 x.points, .int .i64 x.bend, .slice ax x.claims.length cx] 24) w' := h; have e0 := h.cell 0; go_simp) rfl ?_
    refine mix_pur2 rfl (fun K hK => ?_)
    go_simp
    first | refine ⟨_, fun _ => rfl, hK _ ?_⟩ | refine hK _ ?_
    clear hK K
    refine mix_pur2 rfl (fun K hK => ?_)
    go_simp
    first | refine ⟨_, fun _ => rfl, hK _ ?_⟩ | refine hK _ ?_
    clear hK K
    refine mix_pur2 rfl (fun K hK => ?_)
    go_simp
    first | refine ⟨_, fun _ => rfl, hK _ ?_⟩ | refine hK _ ?_
    clear hK K
    refine mix_two3 rfl rfl false false rfl rfl (fun K hK => ?_) (fun K hK => ?_)
    · as_aux_lemma =>
      obtain ⟨kk, hkk, hHH⟩ := hs.hnd
      refine stz_fn rfl rfl rfl ent35 rfl rfl (by kernel_rfl) (upto_c hHH (by omega) 9 (by omega) (by omega)) ?_
      rintro e wa1 ⟨⟨u1, rfl, hu1, hu1b⟩, ⟨k9, hk9, hH9⟩, hG9⟩
      refine ⟨_, rfl, ?_⟩
      have hs := hs.hand (K' := 103) ⟨k9, by omega, hH9⟩ hG9
      refine hK _ _ (HX.out _ _ hs) ?_
      try (rw [set_lit]; dsimp only [List.set])
      clear hK K hHH hH9 hG9 hkk hk9 kk k9
      refine mix_two3 rfl rfl false false rfl rfl (fun K hK => ?_) (fun K hK => ?_)
      · as_aux_lemma =>
        obtain ⟨kk, hkk, hHH⟩ := hs.hnd
        refine stz_fn rfl rfl rfl ent35 rfl rfl (by kernel_rfl) (upto_c hHH (by omega) 9 (by omega) (by omega)) ?_
        rintro e wa2 ⟨⟨u2, rfl, hu2, hu2b⟩, ⟨k9, hk9, hH9⟩, hG9⟩
        refine ⟨_, rfl, ?_⟩
        have hs := hs.hand (K' := 104) ⟨k9, by omega, hH9⟩ hG9
        refine hK _ _ (HX.out _ _ hs) ?_
        try (rw [set_lit]; dsimp only [List.set])
        clear hK K hHH hH9 hG9 hkk hk9 kk k9
        refine mix_two3 rfl rfl false false rfl rfl (fun K hK => ?_) (fun K hK => ?_)
        · as_aux_lemma =>
          obtain ⟨kk, hkk, hHH⟩ := hs.hnd
          refine stz_fn rfl rfl rfl ent35 rfl rfl (by kernel_rfl) (upto_c hHH (by omega) 9 (by omega) (by omega)) ?_
          rintro e wa3 ⟨⟨u3, rfl, hu3, hu3b⟩, ⟨k9, hk9, hH9⟩, hG9⟩
          refine ⟨_, rfl, ?_⟩
          have hs := hs.hand (K' := 105) ⟨k9, by omega, hH9⟩ hG9
          refine hK _ _ (HX.out _ _ hs) ?_
          try (rw [set_lit]; dsimp only [List.set])
          clear hK K hHH hH9 hG9 hkk hk9 kk k9
          refine mix_two3 rfl rfl false false rfl rfl (fun K hK => ?_) (fun K hK => ?_)
          · as_aux_lemma =>
            refine stz_lit 27 3 3 rfl rfl rfl rfl Try.underlying27 Try.info3 (by decide) (cells := #[.int .i64 u1, .int .i64 u2, .int .i64 u3]) (fill_i3 _ _ _) (by kernel_rfl) ?_
            have hgr := (Below.refl wa3.heap.size wa3).alloc (Nat.le_refl _) (.cells #[.int .i64 u1, .int .i64 u2, .int .i64 u3] 3)
            have hI : Ints (fun q => wa3.heap.size ≤ q) (wa3.alloc (.cells #[.int .i64 u1, .int .i64 u2, .int .i64 u3] 3)) (.slice (some ⟨wa3.heap.size, 0, none⟩) 3 3) [u1, u2, u3] := Own.ints (own_lit wa3 3 1 #[.int .i64 u1, .int .i64 u2, .int .i64 u3] 3 rfl (by omega))
            have hI := hI.wide (A' := fun q => q ≠ w.heap.size) fun q hq _ => by have := hs.hz; have := hs.hN.1; omega
            have hs := hs.call hgr
            refine hK _ _ (HX.out _ _ hs) ?_
            try (rw [set_lit]; dsimp only [List.set])
            clear hK K hgr
            obtain ⟨bl, hbl⟩ : ∃ b, b = wa3.heap.size := ⟨_, rfl⟩
            rw [← hbl] at hI ⊢
            generalize wa3.alloc (.cells #[.int .i64 u1, .int .i64 u2, .int .i64 u3] 3) = wa4 at hs hI ⊢
            clear hbl
            refine mix_two3 rfl rfl false false rfl rfl (fun K hK => ?_) (fun K hK => ?_)
            · obtain ⟨kk, hkk, hHH⟩ := hs.hnd
              have hco := claimOf_c hHH (by omega) hn4 hI (fun h => h rfl) (by show n ≤ 3; omega) (by intro u hu; simp only [List.mem_cons, List.not_mem_nil, or_false] at hu; omega)
              rw [← HPN.out] at hco
              refine stz_fn rfl rfl rfl ent66 rfl rfl (by kernel_rfl) hco ?_
              rintro e wa5 ⟨⟨c, rfl, hcok⟩, ⟨k9, hk9, hH9⟩, hG9⟩
              refine ⟨_, rfl, ?_⟩
              have hs := hs.hand (K' := 150) ⟨k9, by omega, hH9⟩ hG9
              refine hK _ _ (HX.out _ _ hs) ?_
              try (rw [set_lit]; dsimp only [List.set])
              clear hK K hHH hH9 hG9 hkk hk9 kk k9 hco hI hu1 hu1b hu2 hu2b hu3 hu3b
              refine mix_eff3 rfl false rfl (fun K hK => ?_)
              refine stz_new rfl rfl rfl (new_run26 _) ?_
              have hgr := (Below.refl wa5.heap.size wa5).alloc (Nat.le_refl _) (.cells #[.int .i64 0, .int .i64 0, .int .i64 0, .int .i64 0, .int .i64 0] 26)
              have hAN := hs.hz
              have hs := hs.call hgr
              have hA := Blk.new wa5 #[.int .i64 0, .int .i64 0, .int .i64 0, .int .i64 0, .int .i64 0] 26
              refine hK _ _ (HX.out _ _ hs) ?_
              try (rw [set_lit]; dsimp only [List.set])
              clear hK K hgr
              obtain ⟨ba, hba⟩ : ∃ b, b = wa5.heap.size := ⟨_, rfl⟩
              rw [← hba] at hA hAN ⊢
              generalize wa5.alloc (.cells #[.int .i64 0, .int .i64 0, .int .i64 0, .int .i64 0, .int .i64 0] 26) = wa6 at hs hA ⊢
              clear hba
              refine mix_eff3 rfl true rfl (fun K hK => ?_)
              refine stz_st rfl rfl rfl (st_run26 hA c.kind c.point c.other c.off c.err) (by kernel_rfl) (by kernel_rfl) ?_
              refine hK _ _ trivial ?_
              try (rw [set_lit]; dsimp only [List.set])
              clear hK K
              obtain ⟨hs, hA⟩ := hs.put1 hA hAN rfl c
              generalize (((((wa6.setCell ⟨ba, 0, none⟩ (.int .i64 c.kind)).setCell ⟨ba, 1, none⟩ (.int .i64 c.point)).setCell ⟨ba, 2, none⟩ (.int .i64 c.other)).setCell ⟨ba, 3, none⟩ (.int .i64 c.off)).setCell ⟨ba, 4, none⟩ (.int .i64 c.err)) = wa7 at hs hA ⊢
              refine mix_done2 ?_
              go_wp2_with fail
              go_meet
              case rel => exact ⟨ba, c, rfl, hcok, hs.mono (by omega), hA⟩
            · refine stz_new rfl rfl rfl (new_run26 _) ?_
              have hgr := (Below.refl wa4.heap.size wa4).alloc (Nat.le_refl _) (.cells #[.int .i64 0, .int .i64 0, .int .i64 0, .int .i64 0, .int .i64 0] 26)
              have hAN := hs.hz
              have hI := hI.call hgr
              have hs := hs.call hgr
              have hA := Blk.new wa4 #[.int .i64 0, .int .i64 0, .int .i64 0, .int .i64 0, .int .i64 0] 26
              refine hK _ _ (HX.out _ _ hs) ?_
              try (rw [set_lit]; dsimp only [List.set])
              clear hK K hgr
              obtain ⟨ba, hba⟩ : ∃ b, b = wa4.heap.size := ⟨_, rfl⟩
              rw [← hba] at hA hAN ⊢
              generalize wa4.alloc (.cells #[.int .i64 0, .int .i64 0, .int .i64 0, .int .i64 0, .int .i64 0] 26) = wa5 at hs hA hI ⊢
              clear hba
              refine mix_eff3 rfl false rfl (fun K hK => ?_)
              obtain ⟨kk, hkk, hHH⟩ := hs.hnd
              have hco := claimOf_c hHH (by omega) hn4 hI (fun h => h rfl) (by show n ≤ 3; omega) (by intro u hu; simp only [List.mem_cons, List.not_mem_nil, or_false] at hu; omega)
              rw [← HPN.out] at hco
              refine stz_fn rfl rfl rfl ent66 rfl rfl (by kernel_rfl) hco ?_
              rintro e wa6 ⟨⟨c, rfl, hcok⟩, ⟨k9, hk9, hH9⟩, hG9⟩
              refine ⟨_, rfl, ?_⟩
              have hA := hA.hand hG9 (hA.ne_hnd hs.hnd (by decide))
              have hs := hs.hand (K' := 150) ⟨k9, by omega, hH9⟩ hG9
              refine hK _ _ (HX.out _ _ hs) ?_
              try (rw [set_lit]; dsimp only [List.set])
              clear hK K hHH hH9 hG9 hkk hk9 kk k9 hco hI hu1 hu1b hu2 hu2b hu3 hu3b
              refine mix_eff3 rfl true rfl (fun K hK => ?_)
              refine stz_st rfl rfl rfl (st_run26 hA c.kind c.point c.other c.off c.err) (by kernel_rfl) (by kernel_rfl) ?_
              refine hK _ _ trivial ?_
              try (rw [set_lit]; dsimp only [List.set])
              clear hK K
              obtain ⟨hs, hA⟩ := hs.put1 hA hAN rfl c
              generalize (((((wa6.setCell ⟨ba, 0, none⟩ (.int .i64 c.kind)).setCell ⟨ba, 1, none⟩ (.int .i64 c.point)).setCell ⟨ba, 2, none⟩ (.int .i64 c.other)).setCell ⟨ba, 3, none⟩ (.int .i64 c.off)).setCell ⟨ba, 4, none⟩ (.int .i64 c.err)) = wa7 at hs hA ⊢
              refine mix_done2 ?_
              go_wp2_with fail
              go_meet
              case rel => exact ⟨ba, c, rfl, hcok, hs.mono (by omega), hA⟩
          · refine stz_new rfl rfl rfl (new_run26 _) ?_
            have hgr := (Below.refl wa3.heap.size wa3).alloc (Nat.le_refl _) (.cells #[.int .i64 0, .int .i64 0, .int .i64 0, .int .i64 0, .int .i64 0] 26)
            have hAN := hs.hz
            have hs := hs.call hgr
            have hA := Blk.new wa3 #[.int .i64 0, .int .i64 0, .int .i64 0, .int .i64 0, .int .i64 0] 26
            refine hK _ _ (HX.out _ _ hs) ?_
            try (rw [set_lit]; dsimp only [List.set])
            clear hK K hgr
            obtain ⟨ba, hba⟩ : ∃ b, b = wa3.heap.size := ⟨_, rfl⟩
            rw [← hba] at hA hAN ⊢
            generalize wa3.alloc (.cells #[.int .i64 0, .int .i64 0, .int .i64 0, .int .i64 0, .int .i64 0] 26) = wa4 at hs hA ⊢
            clear hba
            refine mix_eff3 rfl false rfl (fun K hK => ?_)
            refine stz_lit 27 3 3 rfl rfl rfl rfl Try.underlying27 Try.info3 (by decide) (cells := #[.int .i64 u1, .int .i64 u2, .int .i64 u3]) (fill_i3 _ _ _) (by kernel_rfl) ?_
            have hgr := (Below.refl wa4.heap.size wa4).alloc (Nat.le_refl _) (.cells #[.int .i64 u1, .int .i64 u2, .int .i64 u3] 3)
            have hI : Ints (fun q => wa4.heap.size ≤ q) (wa4.alloc (.cells #[.int .i64 u1, .int .i64 u2, .int .i64 u3] 3)) (.slice (some ⟨wa4.heap.size, 0, none⟩) 3 3) [u1, u2, u3] := Own.ints (own_lit wa4 3 1 #[.int .i64 u1, .int .i64 u2, .int .i64 u3] 3 rfl (by omega))
            have hI := hI.wide (A' := fun q => q ≠ w.heap.size) fun q hq _ => by have := hs.hz; have := hs.hN.1; omega
            have hs := hs.call hgr
            have hA := hA.call hgr
            refine hK _ _ (HX.out _ _ hs) ?_
            try (rw [set_lit]; dsimp only [List.set])
            clear hK K hgr
            obtain ⟨bl, hbl⟩ : ∃ b, b = wa4.heap.size := ⟨_, rfl⟩
            rw [← hbl] at hI ⊢
            generalize wa4.alloc (.cells #[.int .i64 u1, .int .i64 u2, .int .i64 u3] 3) = wa5 at hs hI hA ⊢
            clear hbl
            refine mix_eff3 rfl false rfl (fun K hK => ?_)
            obtain ⟨kk, hkk, hHH⟩ := hs.hnd
            have hco := claimOf_c hHH (by omega) hn4 hI (fun h => h rfl) (by show n ≤ 3; omega) (by intro u hu; simp only [List.mem_cons, List.not_mem_nil, or_false] at hu; omega)
            rw [← HPN.out] at hco
            refine stz_fn rfl rfl rfl ent66 rfl rfl (by kernel_rfl) hco ?_
            rintro e wa6 ⟨⟨c, rfl, hcok⟩, ⟨k9, hk9, hH9⟩, hG9⟩
            refine ⟨_, rfl, ?_⟩
            have hA := hA.hand hG9 (hA.ne_hnd hs.hnd (by decide))
            have hs := hs.hand (K' := 150) ⟨k9, by omega, hH9⟩ hG9
            refine hK _ _ (HX.out _ _ hs) ?_
            try (rw [set_lit]; dsimp only [List.set])
            clear hK K hHH hH9 hG9 hkk hk9 kk k9 hco hI hu1 hu1b hu2 hu2b hu3 hu3b
            refine mix_eff3 rfl true rfl (fun K hK => ?_)
            refine stz_st rfl rfl rfl (st_run26 hA c.kind c.point c.other c.off c.err) (by kernel_rfl) (by kernel_rfl) ?_
            refine hK _ _ trivial ?_
            try (rw [set_lit]; dsimp only [List.set])
            clear hK K
            obtain ⟨hs, hA⟩ := hs.put1 hA hAN rfl c
            generalize (((((wa6.setCell ⟨ba, 0, none⟩ (.int .i64 c.kind)).setCell ⟨ba, 1, none⟩ (.int .i64 c.point)).setCell ⟨ba, 2, none⟩ (.int .i64 c.other)).setCell ⟨ba, 3, none⟩ (.int .i64 c.off)).setCell ⟨ba, 4, none⟩ (.int .i64 c.err)) = wa7 at hs hA ⊢
            refine mix_done2 ?_
            go_wp2_with fail
            go_meet
            case rel => exact ⟨ba, c, rfl, hcok, hs.mono (by omega), hA⟩
        · refine stz_new rfl rfl rfl (new_run26 _) ?_
          have hgr := (Below.refl wa2.heap.size wa2).alloc (Nat.le_refl _) (.cells #[.int .i64 0, .int .i64 0, .int .i64 0, .int .i64 0, .int .i64 0] 26)
          have hAN := hs.hz
          have hs := hs.call hgr
          have hA := Blk.new wa2 #[.int .i64 0, .int .i64 0, .int .i64 0, .int .i64 0, .int .i64 0] 26
          refine hK _ _ (HX.out _ _ hs) ?_
          try (rw [set_lit]; dsimp only [List.set])
          clear hK K hgr
          obtain ⟨ba, hba⟩ : ∃ b, b = wa2.heap.size := ⟨_, rfl⟩
          rw [← hba] at hA hAN ⊢
          generalize wa2.alloc (.cells #[.int .i64 0, .int .i64 0, .int .i64 0, .int .i64 0, .int .i64 0] 26) = wa3 at hs hA ⊢
          clear hba
          refine mix_eff3 rfl false rfl (fun K hK => ?_)
          obtain ⟨kk, hkk, hHH⟩ := hs.hnd
          refine stz_fn rfl rfl rfl ent35 rfl rfl (by kernel_rfl) (upto_c hHH (by omega) 9 (by omega) (by omega)) ?_
          rintro e wa4 ⟨⟨u3, rfl, hu3, hu3b⟩, ⟨k9, hk9, hH9⟩, hG9⟩
          refine ⟨_, rfl, ?_⟩
          have hA := hA.hand hG9 (hA.ne_hnd hs.hnd (by decide))
          have hs := hs.hand (K' := 105) ⟨k9, by omega, hH9⟩ hG9
          refine hK _ _ (HX.out _ _ hs) ?_
          try (rw [set_lit]; dsimp only [List.set])
          clear hK K hHH hH9 hG9 hkk hk9 kk k9
          refine mix_eff3 rfl false rfl (fun K hK => ?_)
          refine stz_lit 27 3 3 rfl rfl rfl rfl Try.underlying27 Try.info3 (by decide) (cells := #[.int .i64 u1, .int .i64 u2, .int .i64 u3]) (fill_i3 _ _ _) (by kernel_rfl) ?_
          have hgr := (Below.refl wa4.heap.size wa4).alloc (Nat.le_refl _) (.cells #[.int .i64 u1, .int .i64 u2, .int .i64 u3] 3)
          have hI : Ints (fun q => wa4.heap.size ≤ q) (wa4.alloc (.cells #[.int .i64 u1, .int .i64 u2, .int .i64 u3] 3)) (.slice (some ⟨wa4.heap.size, 0, none⟩) 3 3) [u1, u2, u3] := Own.ints (own_lit wa4 3 1 #[.int .i64 u1, .int .i64 u2, .int .i64 u3] 3 rfl (by omega))
          have hI := hI.wide (A' := fun q => q ≠ w.heap.size) fun q hq _ => by have := hs.hz; have := hs.hN.1; omega
          have hs := hs.call hgr
          have hA := hA.call hgr
          refine hK _ _ (HX.out _ _ hs) ?_
          try (rw [set_lit]; dsimp only [List.set])
          clear hK K hgr
          obtain ⟨bl, hbl⟩ : ∃ b, b = wa4.heap.size := ⟨_, rfl⟩
          rw [← hbl] at hI ⊢
          generalize wa4.alloc (.cells #[.int .i64 u1, .int .i64 u2, .int .i64 u3] 3) = wa5 at hs hI hA ⊢
          clear hbl
          refine mix_eff3 rfl false rfl (fun K hK => ?_)
          obtain ⟨kk, hkk, hHH⟩ := hs.hnd
          have hco := claimOf_c hHH (by omega) hn4 hI (fun h => h rfl) (by show n ≤ 3; omega) (by intro u hu; simp only [List.mem_cons, List.not_mem_nil, or_false] at hu; omega)
          rw [← HPN.out] at hco
          refine stz_fn rfl rfl rfl ent66 rfl rfl (by kernel_rfl) hco ?_
          rintro e wa6 ⟨⟨c, rfl, hcok⟩, ⟨k9, hk9, hH9⟩, hG9⟩
          refine ⟨_, rfl, ?_⟩
          have hA := hA.hand hG9 (hA.ne_hnd hs.hnd (by decide))
          have hs := hs.hand (K' := 150) ⟨k9, by omega, hH9⟩ hG9
          refine hK _ _ (HX.out _ _ hs) ?_
          try (rw [set_lit]; dsimp only [List.set])
          clear hK K hHH hH9 hG9 hkk hk9 kk k9 hco hI hu1 hu1b hu2 hu2b hu3 hu3b
          refine mix_eff3 rfl true rfl (fun K hK => ?_)
          refine stz_st rfl rfl rfl (st_run26 hA c.kind c.point c.other c.off c.err) (by kernel_rfl) (by kernel_rfl) ?_
          refine hK _ _ trivial ?_
          try (rw [set_lit]; dsimp only [List.set])
          clear hK K
          obtain ⟨hs, hA⟩ := hs.put1 hA hAN rfl c
          generalize (((((wa6.setCell ⟨ba, 0, none⟩ (.int .i64 c.kind)).setCell ⟨ba, 1, none⟩ (.int .i64 c.point)).setCell ⟨ba, 2, none⟩ (.int .i64 c.other)).setCell ⟨ba, 3, none⟩ (.int .i64 c.off)).setCell ⟨ba, 4, none⟩ (.int .i64 c.err)) = wa7 at hs hA ⊢
          refine mix_done2 ?_
          go_wp2_with fail
          go_meet
          case rel => exact ⟨ba, c, rfl, hcok, hs.mono (by omega), hA⟩
      · refine stz_new rfl rfl rfl (new_run26 _) ?_
        have hgr := (Below.refl wa1.heap.size wa1).alloc (Nat.le_refl _) (.cells #[.int .i64 0, .int .i64 0, .int .i64 0, .int .i64 0, .int .i64 0] 26)
        have hAN := hs.hz
        have hs := hs.call hgr
        have hA := Blk.new wa1 #[.int .i64 0, .int .i64 0, .int .i64 0, .int .i64 0, .int .i64 0] 26
        refine hK _ _ (HX.out _ _ hs) ?_
        try (rw [set_lit]; dsimp only [List.set])
        clear hK K hgr
        obtain ⟨ba, hba⟩ : ∃ b, b = wa1.heap.size := ⟨_, rfl⟩
        rw [← hba] at hA hAN ⊢
        generalize wa1.alloc (.cells #[.int .i64 0, .int .i64 0, .int .i64 0, .int .i64 0, .int .i64 0] 26) = wa2 at hs hA ⊢
        clear hba
        refine mix_eff3 rfl false rfl (fun K hK => ?_)
        obtain ⟨kk, hkk, hHH⟩ := hs.hnd
        refine stz_fn rfl rfl rfl ent35 rfl rfl (by kernel_rfl) (upto_c hHH (by omega) 9 (by omega) (by omega)) ?_
        rintro e wa3 ⟨⟨u2, rfl, hu2, hu2b⟩, ⟨k9, hk9, hH9⟩, hG9⟩
        refine ⟨_, rfl, ?_⟩
        have hA := hA.hand hG9 (hA.ne_hnd hs.hnd (by decide))
        have hs := hs.hand (K' := 104) ⟨k9, by omega, hH9⟩ hG9
        refine hK _ _ (HX.out _ _ hs) ?_
        try (rw [set_lit]; dsimp only [List.set])
        clear hK K hHH hH9 hG9 hkk hk9 kk k9
        refine mix_eff3 rfl false rfl (fun K hK => ?_)
        obtain ⟨kk, hkk, hHH⟩ := hs.hnd
        refine stz_fn rfl rfl rfl ent35 rfl rfl (by kernel_rfl) (upto_c hHH (by omega) 9 (by omega) (by omega)) ?_
        rintro e wa4 ⟨⟨u3, rfl, hu3, hu3b⟩, ⟨k9, hk9, hH9⟩, hG9⟩
        refine ⟨_, rfl, ?_⟩
        have hA := hA.hand hG9 (hA.ne_hnd hs.hnd (by decide))
        have hs := hs.hand (K' := 105) ⟨k9, by omega, hH9⟩ hG9
        refine hK _ _ (HX.out _ _ hs) ?_
        try (rw [set_lit]; dsimp only [List.set])
        clear hK K hHH hH9 hG9 hkk hk9 kk k9
        refine mix_eff3 rfl false rfl (fun K hK => ?_)
        refine stz_lit 27 3 3 rfl rfl rfl rfl Try.underlying27 Try.info3 (by decide) (cells := #[.int .i64 u1, .int .i64 u2, .int .i64 u3]) (fill_i3 _ _ _) (by kernel_rfl) ?_
        have hgr := (Below.refl wa4.heap.size wa4).alloc (Nat.le_refl _) (.cells #[.int .i64 u1, .int .i64 u2, .int .i64 u3] 3)
        have hI : Ints (fun q => wa4.heap.size ≤ q) (wa4.alloc (.cells #[.int .i64 u1, .int .i64 u2, .int .i64 u3] 3)) (.slice (some ⟨wa4.heap.size, 0, none⟩) 3 3) [u1, u2, u3] := Own.ints (own_lit wa4 3 1 #[.int .i64 u1, .int .i64 u2, .int .i64 u3] 3 rfl (by omega))
        have hI := hI.wide (A' := fun q => q ≠ w.heap.size) fun q hq _ => by have := hs.hz; have := hs.hN.1; omega
        have hs := hs.call hgr
        have hA := hA.call hgr
        refine hK _ _ (HX.out _ _ hs) ?_
        try (rw [set_lit]; dsimp only [List.set])
        clear hK K hgr
        obtain ⟨bl, hbl⟩ : ∃ b, b = wa4.heap.size := ⟨_, rfl⟩
        rw [← hbl] at hI ⊢
        generalize wa4.alloc (.cells #[.int .i64 u1, .int .i64 u2, .int .i64 u3] 3) = wa5 at hs hI hA ⊢
        clear hbl
        refine mix_eff3 rfl false rfl (fun K hK => ?_)
        obtain ⟨kk, hkk, hHH⟩ := hs.hnd
        have hco := claimOf_c hHH (by omega) hn4 hI (fun h => h rfl) (by show n ≤ 3; omega) (by intro u hu; simp only [List.mem_cons, List.not_mem_nil, or_false] at hu; omega)
        rw [← HPN.out] at hco
        refine stz_fn rfl rfl rfl ent66 rfl rfl (by kernel_rfl) hco ?_
        rintro e wa6 ⟨⟨c, rfl, hcok⟩, ⟨k9, hk9, hH9⟩, hG9⟩
        refine ⟨_, rfl, ?_⟩
        have hA := hA.hand hG9 (hA.ne_hnd hs.hnd (by decide))
        have hs := hs.hand (K' := 150) ⟨k9, by omega, hH9⟩ hG9
        refine hK _ _ (HX.out _ _ hs) ?_
        try (rw [set_lit]; dsimp only [List.set])
        clear hK K hHH hH9 hG9 hkk hk9 kk k9 hco hI hu1 hu1b hu2 hu2b hu3 hu3b
        refine mix_eff3 rfl true rfl (fun K hK => ?_)
        refine stz_st rfl rfl rfl (st_run26 hA c.kind c.point c.other c.off c.err) (by kernel_rfl) (by kernel_rfl) ?_
        refine hK _ _ trivial ?_
        try (rw [set_lit]; dsimp only [List.set])
        clear hK K
        obtain ⟨hs, hA⟩ := hs.put1 hA hAN rfl c
        generalize (((((wa6.setCell ⟨ba, 0, none⟩ (.int .i64 c.kind)).setCell ⟨ba, 1, none⟩ (.int .i64 c.point)).setCell ⟨ba, 2, none⟩ (.int .i64 c.other)).setCell ⟨ba, 3, none⟩ (.int .i64 c.off)).setCell ⟨ba, 4, none⟩ (.int .i64 c.err)) = wa7 at hs hA ⊢
        refine mix_done2 ?_
        go_wp2_with fail
        go_meet
        case rel => exact ⟨ba, c, rfl, hcok, hs.mono (by omega), hA⟩
    · refine stz_new rfl rfl rfl (new_run26 _) ?_
      have hgr := (Below.refl wd.heap.size wd).alloc (Nat.le_refl _) (.cells #[.int .i64 0, .int .i64 0, .int .i64 0, .int .i64 0, .int .i64 0] 26)
      have hAN := hs.hz
      have hs := hs.call hgr
      have hA := Blk.new wd #[.int .i64 0, .int .i64 0, .int .i64 0, .int .i64 0, .int .i64 0] 26
      refine hK _ _ (HX.out _ _ hs) ?_
      try (rw [set_lit]; dsimp only [List.set])
      clear hK K hgr
      obtain ⟨ba, hba⟩ : ∃ b, b = wd.heap.size := ⟨_, rfl⟩
      rw [← hba] at hA hAN ⊢
      generalize wd.alloc (.cells #[.int .i64 0, .int .i64 0, .int .i64 0, .int .i64 0, .int .i64 0] 26) = wa1 at hs hA ⊢
      clear hba
      refine mix_eff3 rfl false rfl (fun K hK => ?_)
      obtain ⟨kk, hkk, hHH⟩ := hs.hnd
      refine stz_fn rfl rfl rfl ent35 rfl rfl (by kernel_rfl) (upto_c hHH (by omega) 9 (by omega) (by omega)) ?_
      rintro e wa2 ⟨⟨u1, rfl, hu1, hu1b⟩, ⟨k9, hk9, hH9⟩, hG9⟩
      refine ⟨_, rfl, ?_⟩
      have hA := hA.hand hG9 (hA.ne_hnd hs.hnd (by decide))
      have hs := hs.hand (K' := 103) ⟨k9, by omega, hH9⟩ hG9
      refine hK _ _ (HX.out _ _ hs) ?_
      try (rw [set_lit]; dsimp only [List.set])
      clear hK K hHH hH9 hG9 hkk hk9 kk k9
      refine mix_eff3 rfl false rfl (fun K hK => ?_)
      obtain ⟨kk, hkk, hHH⟩ := hs.hnd
      refine stz_fn rfl rfl rfl ent35 rfl rfl (by kernel_rfl) (upto_c hHH (by omega) 9 (by omega) (by omega)) ?_
      rintro e wa3 ⟨⟨u2, rfl, hu2, hu2b⟩, ⟨k9, hk9, hH9⟩, hG9⟩
      refine ⟨_, rfl, ?_⟩
      have hA := hA.hand hG9 (hA.ne_hnd hs.hnd (by decide))
      have hs := hs.hand (K' := 104) ⟨k9, by omega, hH9⟩ hG9
      refine hK _ _ (HX.out _ _ hs) ?_
      try (rw [set_lit]; dsimp only [List.set])
      clear hK K hHH hH9 hG9 hkk hk9 kk k9
      refine mix_eff3 rfl false rfl (fun K hK => ?_)
      obtain ⟨kk, hkk, hHH⟩ := hs.hnd
      refine stz_fn rfl rfl rfl ent35 rfl rfl (by kernel_rfl) (upto_c hHH (by omega) 9 (by omega) (by omega)) ?_
      rintro e wa4 ⟨⟨u3, rfl, hu3, hu3b⟩, ⟨k9, hk9, hH9⟩, hG9⟩
      refine ⟨_, rfl, ?_⟩
      have hA := hA.hand hG9 (hA.ne_hnd hs.hnd (by decide))
      have hs := hs.hand (K' := 105) ⟨k9, by omega, hH9⟩ hG9
      refine hK _ _ (HX.out _ _ hs) ?_
      try (rw [set_lit]; dsimp only [List.set])
      clear hK K hHH hH9 hG9 hkk hk9 kk k9
      refine mix_eff3 rfl false rfl (fun K hK => ?_)
      refine stz_lit 27 3 3 rfl rfl rfl rfl Try.underlying27 Try.info3 (by decide) (cells := #[.int .i64 u1, .int .i64 u2, .int .i64 u3]) (fill_i3 _ _ _) (by kernel_rfl) ?_
      have hgr := (Below.refl wa4.heap.size wa4).alloc (Nat.le_refl _) (.cells #[.int .i64 u1, .int .i64 u2, .int .i64 u3] 3)
      have hI : Ints (fun q => wa4.heap.size ≤ q) (wa4.alloc (.cells #[.int .i64 u1, .int .i64 u2, .int .i64 u3] 3)) (.slice (some ⟨wa4.heap.size, 0, none⟩) 3 3) [u1, u2, u3] := Own.ints (own_lit wa4 3 1 #[.int .i64 u1, .int .i64 u2, .int .i64 u3] 3 rfl (by omega))
      have hI := hI.wide (A' := fun q => q ≠ w.heap.size) fun q hq _ => by have := hs.hz; have := hs.hN.1; omega
      have hs := hs.call hgr
      have hA := hA.call hgr
      refine hK _ _ (HX.out _ _ hs) ?_
      try (rw [set_lit]; dsimp only [List.set])
      clear hK K hgr
      obtain ⟨bl, hbl⟩ : ∃ b, b = wa4.heap.size := ⟨_, rfl⟩
      rw [← hbl] at hI ⊢
      generalize wa4.alloc (.cells #[.int .i64 u1, .int .i64 u2, .int .i64 u3] 3) = wa5 at hs hI hA ⊢
      clear hbl
      refine mix_eff3 rfl false rfl (fun K hK => ?_)
      obtain ⟨kk, hkk, hHH⟩ := hs.hnd
      have hco := claimOf_c hHH (by omega) hn4 hI (fun h => h rfl) (by show n ≤ 3; omega) (by intro u hu; simp only [List.mem_cons, List.not_mem_nil, or_false] at hu; omega)
      rw [← HPN.out] at hco
      refine stz_fn rfl rfl rfl ent66 rfl rfl (by kernel_rfl) hco ?_
      rintro e wa6 ⟨⟨c, rfl, hcok⟩, ⟨k9, hk9, hH9⟩, hG9⟩
      refine ⟨_, rfl, ?_⟩
      have hA := hA.hand hG9 (hA.ne_hnd hs.hnd (by decide))
      have hs := hs.hand (K' := 150) ⟨k9, by omega, hH9⟩ hG9
      refine hK _ _ (HX.out _ _ hs) ?_
      try (rw [set_lit]; dsimp only [List.set])
      clear hK K hHH hH9 hG9 hkk hk9 kk k9 hco hI hu1 hu1b hu2 hu2b hu3 hu3b
      refine mix_eff3 rfl true rfl (fun K hK => ?_)
      refine stz_st rfl rfl rfl (st_run26 hA c.kind c.point c.other c.off c.err) (by kernel_rfl) (by kernel_rfl) ?_
      refine hK _ _ trivial ?_
      try (rw [set_lit]; dsimp only [List.set])
      clear hK K
      obtain ⟨hs, hA⟩ := hs.put1 hA hAN rfl c
      generalize (((((wa6.setCell ⟨ba, 0, none⟩ (.int .i64 c.kind)).setCell ⟨ba, 1, none⟩ (.int .i64 c.point)).setCell ⟨ba, 2, none⟩ (.int .i64 c.other)).setCell ⟨ba, 3, none⟩ (.int .i64 c.off)).setCell ⟨ba, 4, none⟩ (.int .i64 c.err)) = wa7 at hs hA ⊢
      refine mix_done2 ?_
      go_wp2_with fail
      go_meet
      case rel => exact ⟨ba, c, rfl, hcok, hs.mono (by omega), hA⟩
  case rest =>
  obtain ⟨ba, c, rfl, hcok, hs4, hA4⟩ := hcut
  rename World => w4
  have hX4 := hs4.hX
  have hC4 : ClsM (fun _ => True) w4 (.slice ax x.claims.length cx) x.claims := hs4.rx.wide fun _ _ _ => trivial
  have hB4 := hs4.below
  clear hs4 hs0 HX hx3l hbw
  have hcx := count_ok hx
  have hask := asked_ok hx hcok
  rcases bnd_cases hx with ⟨htn, hbn, hht⟩ | ⟨s, hs, hbn, hht⟩
  · have hbo : boundsX x = ([], 12) := by unfold boundsX; rw [if_neg (not_not_intro (checkX_zero.2 hx)), hbn]
    have hfo : followsX x c = (0, 12) := by unfold followsX; rw [if_neg (not_not_intro hask), if_pos hht]
    have hap : apartX x 0 0 = ((0, 0), 12) := by
      have hp0 : ptB x 0 = true := by unfold ptB; exact btwB_iff.2 (by have := hx.p; omega)
      unfold apartX
      rw [if_neg (not_not_intro (checkX_zero.2 hx)), if_neg (not_not_intro ⟨hp0, hp0⟩), if_pos hht]
    rw [htn] at hcx
    have hcx : countX x = (0, 0) := hcx
    have hcon := truthsL_c hC4 hx hx4
    rw [htn] at hcon
    have HCON := Lib.hid hcon
    clear hcon
    have x0 := hX4.cell 0
    have x1 := hX4.cell 1
    have x2 := hX4.cell 2
    go_wp2_with fail
    refine HCON.out.mono ?_
    rintro e w5 ⟨va, rfl, hT5, hS5⟩
    have hX5 := hX4.call hS5
    have hC5 := hC4.call hS5
    have hA5 := hA4.call hS5
    have hB5 := bnx hB4 hS5
    clear HCON x0 x1 x2 hX4 hC4 hA4 hB4
    obtain ⟨ta0, ct, rfl, -, -⟩ := hT5.shape
    have hcon := count25_c hC5
    rw [hcx] at hcon
    have HCON := Lib.hid hcon
    clear hcon
    have x0 := hX5.cell 0
    have x1 := hX5.cell 1
    have x2 := hX5.cell 2
    go_wp2_with fail
    refine HCON.out.mono ?_
    rintro e w6 ⟨rfl, hS6⟩
    have hX6 := hX5.call hS6
    have hC6 := hC5.call hS6
    have hA6 := hA5.call hS6
    have hB6 := bnx hB5 hS6
    clear HCON x0 x1 x2 hX5 hC5 hA5 hB5
    have hcon := bounds27_c hC6
    rw [hbo] at hcon
    have HCON := Lib.hid hcon
    clear hcon
    have x0 := hX6.cell 0
    have x1 := hX6.cell 1
    have x2 := hX6.cell 2
    go_wp2_with fail
    refine HCON.out.mono ?_
    rintro e w7 ⟨vb, rfl, hL7, hS7⟩
    have hX7 := hX6.call hS7
    have hC7 := hC6.call hS7
    have hA7 := hA6.call hS7
    have hB7 := bnx hB6 hS7
    clear HCON x0 x1 x2 hX6 hC6 hA6 hB6
    obtain ⟨la0, cl, rfl, -, -⟩ := hL7.shape
    have hcon := follows_c hC7 c
    rw [hfo] at hcon
    have HCON := Lib.hid hcon
    clear hcon
    have x0 := hX7.cell 0
    have x1 := hX7.cell 1
    have x2 := hX7.cell 2
    have a0 := hA7.cell 0
    have a1 := hA7.cell 1
    have a2 := hA7.cell 2
    have a3 := hA7.cell 3
    have a4 := hA7.cell 4
    go_wp2_with fail
    refine HCON.out.mono ?_
    rintro e w8 ⟨rfl, hS8⟩
    have hX8 := hX7.call hS8
    have hC8 := hC7.call hS8
    have hA8 := hA7.call hS8
    have hB8 := bnx hB7 hS8
    clear HCON x0 x1 x2 a0 a1 a2 a3 a4 hX7 hC7 hA7 hB7
    have hcon := apart_c hC8 0 0
    rw [hap] at hcon
    have HCON := Lib.hid hcon
    clear hcon
    have x0 := hX8.cell 0
    have x1 := hX8.cell 1
    have x2 := hX8.cell 2
    go_wp2_with fail
    refine HCON.out.mono ?_
    rintro e w9 ⟨rfl, hS9⟩
    have hB9 := bnx hB8 hS9
    clear HCON x0 x1 x2  hB8
    go_wp2_with fail
    refine (surveyed_c _).mono ?_
    rintro e w10 ⟨rfl, hS10⟩
    go_wp2_with fail
    go_ret
    exact ⟨rfl, bnx (bal2 hB9) hS10⟩
  · have hbo := bounds_ok hx hbn
    have hfo := follows_ok hx hcok hht
    have hTl : (truthsF x).length ≤ 1000 := by
      rw [← words_truths x]
      refine Nat.le_trans (List.length_filter_le _ _) ?_
      rw [← wordsL_words]
      exact (wordsL_len (Nat.le_refl _) x.n (by have := HN.out; omega)).1
    have hT0 : 0 < (truthsF x).length := List.length_pos_iff.2 (bndF_some hbn)
    have hrowl : ∀ t ∈ truthsF x, t.length = n ∧ ∀ q < n, 0 ≤ atL t q ∧ atL t q ≤ 9 := fun t ht => by
      have h1 := mem_truthsF.1 ht
      have hn := HN.out
      refine ⟨by rw [hn]; exact h1.len, fun q hq => h1.reach q (by omega)⟩
    have hspan : ∀ a, a < n → spanF ((truthsF x).map fun t => atL t a) = (gl s a, gh s a) := fun a ha => span_truths hs (f := fun t => t a) fun _ _ hab => hab a (by have := HN.out; omega)
    have hapart : ∀ a b : Nat, a < n → b < n → apartX x (a : Int) (b : Int) = (spanF ((truthsF x).map fun t => atL t a - atL t b), 0) := fun a b ha hb => by
      have hn := HN.out
      have hpa : ptB x (a : Int) = true := by unfold ptB; exact btwB_iff.2 (by have := HPN.out; omega)
      have hpb : ptB x (b : Int) = true := by unfold ptB; exact btwB_iff.2 (by have := HPN.out; omega)
      unfold apartX
      rw [if_neg (not_not_intro (checkX_zero.2 hx)), if_neg (not_not_intro ⟨hpa, hpb⟩), if_neg (by rw [hht]; decide)]
      rfl
    have hvd : verdM (cntC c (truthsF x)) ((truthsF x).length) = verdF ((truthsF x).filter fun t => c.holds (atL t)).length (truthsF x).length := verdM_eq hT0
    obtain ⟨V, hV⟩ : ∃ V, V = verdF ((truthsF x).filter fun t => c.holds (atL t)).length (truthsF x).length := ⟨_, rfl⟩
    rw [← hV] at hfo hvd
    have hsl : s.length = n := by rw [hs.len]; exact HN.out.symm
    have hsat : ∀ a (h : a < s.length), s[a] = (gl s a, gh s a) := fun a h => by simp [gl, gh, List.getD_eq_getElem?_getD, h]
    have htc := truthsL_c hC4 hx hx4
    obtain ⟨T, hT⟩ : ∃ T, T = truthsF x := ⟨_, rfl⟩
    rw [← hT] at hTl hT0 hrowl hspan hapart hvd hcx htc
    have HRL := Lib.hid hrowl
    have HSP := Lib.hid hspan
    have HAP := Lib.hid hapart
    have HVD := Lib.hid hvd
    have HSA := Lib.hid hsat
    have HTC := Lib.hid htc
    have HSL := Lib.hid hsl
    have HOK := Lib.hid hcok
    have hs1 : s.length ≤ n := Nat.le_of_eq hsl
    have hs2 : n ≤ s.length := Nat.le_of_eq hsl.symm
    clear hrowl hspan hapart hvd hsat htc hsl hT hV hs hbn hht hask
    have hcon := HTC.out
    have HCON := Lib.hid hcon
    clear hcon
    have x0 := hX4.cell 0
    have x1 := hX4.cell 1
    have x2 := hX4.cell 2
    go_wp2_with fail
    refine HCON.out.mono ?_
    rintro e w5 ⟨va, rfl, hT5, hS5⟩
    have hX5 := hX4.call hS5
    have hC5 := hC4.call hS5
    have hA5 := hA4.call hS5
    have hB5 := bnx hB4 hS5
    clear HCON x0 x1 x2 hX4 hC4 hA4 hB4
    obtain ⟨ta0, ct, rfl, -, -⟩ := hT5.shape
    have hcon := count25_c hC5
    rw [hcx] at hcon
    have HCON := Lib.hid hcon
    clear hcon
    have x0 := hX5.cell 0
    have x1 := hX5.cell 1
    have x2 := hX5.cell 2
    go_wp2_with fail
    refine HCON.out.mono ?_
    rintro e w6 ⟨rfl, hS6⟩
    have hX6 := hX5.call hS6
    have hC6 := hC5.call hS6
    have hA6 := hA5.call hS6
    have hT6 := hT5.call hS6
    have hB6 := bnx hB5 hS6
    clear HCON x0 x1 x2 hX5 hC5 hA5 hT5 hB5
    have hcon := bounds27_c hC6
    rw [hbo] at hcon
    have HCON := Lib.hid hcon
    clear hcon
    have x0 := hX6.cell 0
    have x1 := hX6.cell 1
    have x2 := hX6.cell 2
    go_wp2_with fail
    refine HCON.out.mono ?_
    rintro e w7 ⟨vb, rfl, hL7, hS7⟩
    have hX7 := hX6.call hS7
    have hC7 := hC6.call hS7
    have hA7 := hA6.call hS7
    have hT7 := hT6.call hS7
    have hB7 := bnx hB6 hS7
    clear HCON x0 x1 x2 hX6 hC6 hA6 hT6 hB6
    obtain ⟨la0, cl, rfl, -, -⟩ := hL7.shape
    have hcon := follows_c hC7 c
    rw [hfo] at hcon
    have HCON := Lib.hid hcon
    clear hcon
    have x0 := hX7.cell 0
    have x1 := hX7.cell 1
    have x2 := hX7.cell 2
    have a0 := hA7.cell 0
    have a1 := hA7.cell 1
    have a2 := hA7.cell 2
    have a3 := hA7.cell 3
    have a4 := hA7.cell 4
    go_wp2_with fail
    refine HCON.out.mono ?_
    rintro e w8 ⟨rfl, hS8⟩
    have hX8 := hX7.call hS8
    have hC8 := hC7.call hS8
    have hA8 := hA7.call hS8
    have hT8 := hT7.call hS8
    have hL8 := hL7.call hS8
    have hB8 := bnx hB7 hS8
    clear HCON x0 x1 x2 a0 a1 a2 a3 a4 hX7 hC7 hA7 hT7 hL7 hB7
    have hd1 : ((T.length : Int) == 0) = false := by rw [beq_eq_false_iff_ne]; omega
    go_wp2_with fail
    go_loopw [15, 16] (fun s15 s16 wr => ∃ i : Nat, i ≤ T.length ∧ s16 = .int .i64 i ∧ s15 = .int .i64 (cntC c (T.take i) : Nat) ∧ Below w8.heap.size w8 wr) (fun _ s16 _ => T.length - (intOf s16).toNat)
    case atStart => exact ⟨0, Nat.zero_le _, rfl, rfl, Below.refl _ _⟩
    case round =>
      obtain ⟨i, hi, rfl, rfl, hBr⟩ := hrel
      have hAr := hA8.call hBr
      have hTr := hT8.call hBr
      by_cases hil : i < T.length
      · have hb0 : decide ((i : Int) < (T.length : Int)) = true := decide_eq_true (by omega)
        obtain ⟨br, or, rfl, -, hbr⟩ := hTr.addr (by omega)
        obtain ⟨aw, cw, g1, hrow⟩ := hTr.row i hil
        have hrl := HRL.out T[i] (List.getElem_mem hil)
        have hcs := cntC_succ c T i hil
        have hcl := cntC_le c (T.take i)
        have hcl2 := List.length_take_le i T
        obtain ⟨t, ht⟩ : ∃ t, t = T[i] := ⟨_, rfl⟩
        rw [← ht] at g1 hrow hrl hcs
        obtain ⟨bw, ow, rfl, -, -⟩ := hrow.addr (by omega)
        have h9 : ∀ u ∈ t, 0 ≤ u ∧ u ≤ 9 := fun u hu => by
          obtain ⟨q, hq, rfl⟩ := List.getElem_of_mem hu
          have := hrl.2 q (by omega)
          rwa [atL_at hq] at this
        have htc : ∀ w', Below wr.heap.size wr w' → (AlC ba c br (or + i) (.slice (some ⟨bw, ow, none⟩) t.length cw)) w' := fun w' hb => ⟨hAr.call hb, (cell_same (hb.block br hbr)).trans g1⟩
        have HTC2 := Lib.hid htc
        have hso : ∀ w', Below wr.heap.size wr w' → Calls Try.prog 41 #[(.agg #[.int .i64 c.kind, .int .i64 c.point, .int .i64 c.other, .int .i64 c.off, .int .i64 c.err]), (.slice (some ⟨bw, ow, none⟩) t.length cw)] w' fun e w'' => e = .returned (.bool (c.holds (atL t))) ∧ Below w'.heap.size w' w'' := fun w' hb => by
          have hs := so_c (c := c) (hrow.call hb) (P := x.points) (by have := HPN.out; omega) HOK.out h9
          unfold Cl.val at hs
          exact hs
        have HSO := Lib.hid hso
        have HCS := Lib.hid hcs
        obtain ⟨m, hm⟩ : ∃ m, m = cntC c (T.take i) := ⟨_, rfl⟩
        rw [← hm] at HCS hcl ⊢
        have bm1 : IntKind.i64.wrap ((m : Int) + 1) = (m : Int) + 1 := IntWalk.i64_in _ (by omega)
        clear htc hso hcs ht hm hrl h9
        go_upto_region 17 with fail
        refine wp_region_mix2 (.one 0 (.pur 1 (.pur 2 (.pur 3 (.one 4 (.act 5 .fin)))))) 99 (AlC ba c br (or + i) (.slice (some ⟨bw, ow, none⟩) t.length cw)) (fun _ => True) (by kernel_rfl) (by kernel_rfl) rfl (by kernel_rfl) (HTC2.out _ (((Qt.refl _).drewN 1).below _)) (fun wd hqd _ => ?_)
        refine mix_load2 rfl rfl rfl (.agg #[.int .i64 c.kind, .int .i64 c.point, .int .i64 c.other, .int .i64 c.off, .int .i64 c.err]) (fun w' h => by have h : (AlC ba c br (or + i) (.slice (some ⟨bw, ow, none⟩) t.length cw)) w' := h; have e0 := h.1.cell 0; have e1 := h.1.cell 1; have e2 := h.1.cell 2; have e3 := h.1.cell 3; have e4 := h.1.cell 4; go_simp) rfl ?_
        refine mix_pur2 rfl (fun K hK => ?_)
        go_simp
        first | refine ⟨_, fun _ => rfl, hK _ ?_⟩ | refine hK _ ?_
        clear hK K
        refine mix_pur2 rfl (fun K hK => ?_)
        go_simp
        first | refine ⟨_, fun _ => rfl, hK _ ?_⟩ | refine hK _ ?_
        clear hK K
        refine mix_pur2 rfl (fun K hK => ?_)
        go_simp
        first | refine ⟨_, fun _ => rfl, hK _ ?_⟩ | refine hK _ ?_
        clear hK K
        refine mix_load2 rfl rfl rfl (.slice (some ⟨bw, ow, none⟩) t.length cw) (fun w' h => by have h : (AlC ba c br (or + i) (.slice (some ⟨bw, ow, none⟩) t.length cw)) w' := h; have e0 := h.2; go_simp) rfl ?_
        refine mix_eff3 rfl false rfl (fun K hK => ?_)
        refine stz_fn rfl rfl rfl ent41 rfl rfl (by kernel_rfl) (HSO.out _ (hqd.below _)) ?_
        rintro e wy2 ⟨rfl, hy2⟩
        refine ⟨_, rfl, ?_⟩
        have z1 := bnx (hqd.below wr.heap.size) hy2
        refine hK _ _ (HTC2.out _ z1) ?_
        try (rw [set_lit]; dsimp only [List.set])
        clear hK K
        refine mix_done2 ?_
        cases hh : c.holds (atL t) with
        | true =>
          have hc2 := HCS.out
          rw [hh, if_pos rfl] at hc2
          have HC2 := Lib.hid hc2
          clear hc2 hh
          go_wp2_with fail
          go_roundw
          case rel => exact ⟨i + 1, by omega, by go_num, by rw [HC2.out]; go_num, bnx hBr z1⟩
          case measure => simp [intOf]; omega
        | false =>
          have hc2 := HCS.out
          rw [hh, if_neg (by decide)] at hc2
          have HC2 := Lib.hid hc2
          clear hc2 hh
          go_wp2_with fail
          go_roundw
          case rel => exact ⟨i + 1, by omega, by go_num, by rw [HC2.out], bnx hBr z1⟩
          case measure => simp [intOf]; omega
      · obtain rfl : i = T.length := by omega
        rw [List.take_length]
        have hb0 : decide ((T.length : Int) < (T.length : Int)) = false := decide_eq_false (by omega)
        have hX9 := hX8.call hBr
        have hC9 := hC8.call hBr
        have hL9 := hL8.call hBr
        have hT9 := hTr
        have hB9 := bnx hB8 hBr
        clear hX8 hC8 hL8 hT8 hB8 hBr hAr hA8 hTr
        go_upto_region 19 with fail
        go_cut [124] from 105 to 124 (fun s124 wx => s124 = .bool false ∧ Qt wr wx)
        case first =>
          have x0 := hX9.cell 0
          have b3 : ((s.length : Int) != x.points) = false := by rw [bne_eq_false_iff_eq]; have := HPN.out; omega
          have hvc : ∀ w', Calls Try.prog 53 #[.int .i64 (cntC c T : Nat), .int .i64 (T.length : Nat)] w' fun e w'' => e = .returned (.int .i64 V) ∧ Qt w' w'' := fun w' => by rw [← HVD.out]; exact verdictM_c _ _ w'
          have HVC := Lib.hid hvc
          clear hvc
          go_wp2_with fail
          refine (HVC.out _).mono ?_
          rintro e w10 ⟨rfl, hq10⟩
          go_wp2_with fail
          go_meet
          case rel => exact ⟨rfl, hq10⟩
        case rest =>
        obtain ⟨rfl, hq9⟩ := hcut
        rename World => w9
        have hX9 := hX9.qt hq9
        have hC9 := hC9.qt hq9
        have hL9 := hL9.qt hq9
        have hT9 := hT9.qt hq9
        have hB9 := hB9.trans (hq9.below _)
        clear hq9
        go_wp2_with fail
        go_loopw [17] (fun vi wr => ∃ a : Nat, a ≤ n ∧ vi = .int .i64 a ∧ Below w9.heap.size w9 wr) (fun vi _ => n - (intOf vi).toNat)
        case atStart => exact ⟨0, Nat.zero_le _, rfl, Below.refl _ _⟩
        case round =>
          rename World => wr
          obtain ⟨a, ha, rfl, hBr⟩ := hrel
          have hXr := hX9.call hBr
          have x0 := hXr.cell 0
          rw [HPN.out] at x0
          by_cases hla : a < n
          · have hCr := hC9.call hBr
            have hLr := hL9.call hBr
            have hTr := hT9.call hBr
            go_wp2_with fail
            clear x0
            go_loopw [18] (fun vi wx => ∃ b : Nat, b ≤ n ∧ vi = .int .i64 b ∧ Below wr.heap.size wr wx) (fun vi _ => n - (intOf vi).toNat)
            case atStart => exact ⟨0, Nat.zero_le _, rfl, Below.refl _ _⟩
            case round =>
              rename World => wx
              obtain ⟨b, hb, rfl, hBx⟩ := hrel
              have hXx := hXr.call hBx
              have x0 := hXx.cell 0
              rw [HPN.out] at x0
              by_cases hlb : b < n
              · have hCx := hCr.call hBx
                have hLx := hLr.call hBx
                have hTx := hTr.call hBx
                obtain ⟨br, or, rfl, -, hbr⟩ := hTx.addr (by omega)
                obtain ⟨aw, cw, g1, hrow⟩ := hTx.row 0 hT0
                have hrl := HRL.out T[0] (List.getElem_mem hT0)
                have hsA := span_one (fun t => atL t a) T hT0
                have hsD := span_one (fun t => atL t a - atL t b) T hT0
                obtain ⟨t, ht⟩ : ∃ t, t = T[0] := ⟨_, rfl⟩
                rw [← ht] at g1 hrow hrl hsA hsD
                obtain ⟨bw, ow, rfl, -, hbw, -⟩ := hrow.addr (by omega)
                have ga := hrow.cell a (by omega)
                have gb := hrow.cell b (by omega)
                rw [← atL_at (by omega : a < t.length)] at ga
                rw [← atL_at (by omega : b < t.length)] at gb
                have h9a := hrl.2 a hla
                have h9b := hrl.2 b hlb
                try simp only at hsA hsD
                obtain ⟨va, hva⟩ : ∃ v, v = atL t a := ⟨_, rfl⟩
                obtain ⟨vb, hvb⟩ : ∃ v, v = atL t b := ⟨_, rfl⟩
                rw [← hva] at ga h9a hsA hsD
                rw [← hvb] at gb h9b hsD
                have hat : a < t.length := by omega
                have hbt : b < t.length := by omega
                have hal : ∀ w', Below wx.heap.size wx w' → AlR br (or + 0) (.slice (some ⟨bw, ow, none⟩) t.length cw) bw (ow + a) va (ow + b) vb w' := fun w' hb => ⟨(cell_same (hb.block br hbr)).trans g1, (cell_same (hb.block bw hbw)).trans ga, (cell_same (hb.block bw hbw)).trans gb⟩
                rw [Nat.add_zero] at hal
                have HAL := Lib.hid hal
                have HSAA := Lib.hid hsA
                have HSDD := Lib.hid hsD
                have bd1 : IntKind.i64.wrap (va - vb) = va - vb := IntWalk.i64_in _ (by omega)
                clear hal hsA hsD hva hvb ht hrl g1 ga gb hrow
                go_upto_region 27 with fail
                go_cut [19, 20] from 131 to 243 (fun s19 s20 wz => ∃ (q1 q2 : Nat), s19 = .pointer (some ⟨q1, 0, none⟩) ∧ s20 = .pointer (some ⟨q2, 0, none⟩) ∧ wx.heap.size ≤ q1 ∧ wx.heap.size ≤ q2 ∧ q1 ≠ q2 ∧ Blk q1 #[.int .i64 va, .int .i64 va] 52 wz ∧ Blk q2 #[.int .i64 (va - vb), .int .i64 (va - vb)] 52 wz ∧ Below wx.heap.size wx wz)
                case first =>
                  refine wp_region_mix2 (.pur 0 (.pur 1 (.one 2 (.pur 3 (.pur 4 (.one 5 (.pur 6 (.pur 7 (.one 8 (.pur 9 (.pur 10 (.one 11 (.pur 13 (.pur 14 (.one 15 (.pur 16 (.pur 17 (.one 18 (.pur 19 (.pur 20 (.one 21 (.pur 22 (.pur 23 (.one 24 (.pur 25 (.pur 26 (.pur 27 (.one 28 (.pur 29 (.pur 30 (.one 31 (.pur 32 (.pur 33 (.one 34 (.pur 35 (.pur 36 (.one 37 (.pur 38 (.three 12 (.three 39 (.two 40 (.act 41 (.act 42 (.act 43 .fin))) 41 (.act 40 (.act 42 (.act 43 .fin)))) 40 (.two 39 (.act 41 (.act 42 (.act 43 .fin))) 41 (.act 39 (.act 42 (.act 43 .fin)))) 41 (.two 39 (.act 40 (.act 42 (.act 43 .fin))) 40 (.act 39 (.act 42 (.act 43 .fin))))) 40 (.two 12 (.two 39 (.act 41 (.act 42 (.act 43 .fin))) 41 (.act 39 (.act 42 (.act 43 .fin)))) 41 (.act 12 (.act 39 (.act 42 (.act 43 .fin))))) 41 (.two 12 (.two 39 (.act 40 (.act 42 (.act 43 .fin))) 40 (.act 39 (.act 42 (.act 43 .fin)))) 40 (.act 12 (.act 39 (.act 42 (.act 43 .fin)))))))))))))))))))))))))))))))))))))))))))) 42 (AlR br or (.slice (some ⟨bw, ow, none⟩) t.length cw) bw (ow + a) va (ow + b) vb) (fun _ => True) (by kernel_rfl) (by kernel_rfl) rfl (by kernel_rfl) (HAL.out _ (((Qt.refl _).drewN 1).below _)) (fun wd hqd _ => ?_)
                  have z0 : Below wx.heap.size wx wd := hqd.below _
                  refine mix_pur2 rfl (fun K hK => ?_)
                  go_simp
                  first | refine ⟨_, fun _ => rfl, hK _ ?_⟩ | refine hK _ ?_
                  clear hK K
                  refine mix_pur2 rfl (fun K hK => ?_)
                  go_simp
                  first | refine ⟨_, fun _ => rfl, hK _ ?_⟩ | refine hK _ ?_
                  clear hK K
                  refine mix_load2 rfl rfl rfl (.slice (some ⟨bw, ow, none⟩) t.length cw) (fun w' h => by have h : (AlR br or (.slice (some ⟨bw, ow, none⟩) t.length cw) bw (ow + a) va (ow + b) vb) w' := h; have e0 := h.1; go_simp) rfl ?_
                  refine mix_pur2 rfl (fun K hK => ?_)
                  go_simp
                  first | refine ⟨_, fun _ => rfl, hK _ ?_⟩ | refine hK _ ?_
                  clear hK K
                  refine mix_pur2 rfl (fun K hK => ?_)
                  go_simp
                  first | refine ⟨_, fun _ => rfl, hK _ ?_⟩ | refine hK _ ?_
                  clear hK K
                  refine mix_load2 rfl rfl rfl (.int .i64 va) (fun w' h => by have h : (AlR br or (.slice (some ⟨bw, ow, none⟩) t.length cw) bw (ow + a) va (ow + b) vb) w' := h; have e0 := h.2.1; go_simp) rfl ?_
                  refine mix_pur2 rfl (fun K hK => ?_)
                  go_simp
                  first | refine ⟨_, fun _ => rfl, hK _ ?_⟩ | refine hK _ ?_
                  clear hK K
                  refine mix_pur2 rfl (fun K hK => ?_)
                  go_simp
                  first | refine ⟨_, fun _ => rfl, hK _ ?_⟩ | refine hK _ ?_
                  clear hK K
                  refine mix_load2 rfl rfl rfl (.slice (some ⟨bw, ow, none⟩) t.length cw) (fun w' h => by have h : (AlR br or (.slice (some ⟨bw, ow, none⟩) t.length cw) bw (ow + a) va (ow + b) vb) w' := h; have e0 := h.1; go_simp) rfl ?_
                  refine mix_pur2 rfl (fun K hK => ?_)
                  go_simp
                  first | refine ⟨_, fun _ => rfl, hK _ ?_⟩ | refine hK _ ?_
                  clear hK K
                  refine mix_pur2 rfl (fun K hK => ?_)
                  go_simp
                  first | refine ⟨_, fun _ => rfl, hK _ ?_⟩ | refine hK _ ?_
                  clear hK K
                  refine mix_load2 rfl rfl rfl (.int .i64 va) (fun w' h => by have h : (AlR br or (.slice (some ⟨bw, ow, none⟩) t.length cw) bw (ow + a) va (ow + b) vb) w' := h; have e0 := h.2.1; go_simp) rfl ?_
                  refine mix_pur2 rfl (fun K hK => ?_)
                  go_simp
                  first | refine ⟨_, fun _ => rfl, hK _ ?_⟩ | refine hK _ ?_
                  clear hK K
                  refine mix_pur2 rfl (fun K hK => ?_)
                  go_simp
                  first | refine ⟨_, fun _ => rfl, hK _ ?_⟩ | refine hK _ ?_
                  clear hK K
                  refine mix_load2 rfl rfl rfl (.slice (some ⟨bw, ow, none⟩) t.length cw) (fun w' h => by have h : (AlR br or (.slice (some ⟨bw, ow, none⟩) t.length cw) bw (ow + a) va (ow + b) vb) w' := h; have e0 := h.1; go_simp) rfl ?_
                  refine mix_pur2 rfl (fun K hK => ?_)
                  go_simp
                  first | refine ⟨_, fun _ => rfl, hK _ ?_⟩ | refine hK _ ?_
                  clear hK K
                  refine mix_pur2 rfl (fun K hK => ?_)
                  go_simp
                  first | refine ⟨_, fun _ => rfl, hK _ ?_⟩ | refine hK _ ?_
                  clear hK K
                  refine mix_load2 rfl rfl rfl (.int .i64 va) (fun w' h => by have h : (AlR br or (.slice (some ⟨bw, ow, none⟩) t.length cw) bw (ow + a) va (ow + b) vb) w' := h; have e0 := h.2.1; go_simp) rfl ?_
                  refine mix_pur2 rfl (fun K hK => ?_)
                  go_simp
                  first | refine ⟨_, fun _ => rfl, hK _ ?_⟩ | refine hK _ ?_
                  clear hK K
                  refine mix_pur2 rfl (fun K hK => ?_)
                  go_simp
                  first | refine ⟨_, fun _ => rfl, hK _ ?_⟩ | refine hK _ ?_
                  clear hK K
                  refine mix_load2 rfl rfl rfl (.slice (some ⟨bw, ow, none⟩) t.length cw) (fun w' h => by have h : (AlR br or (.slice (some ⟨bw, ow, none⟩) t.length cw) bw (ow + a) va (ow + b) vb) w' := h; have e0 := h.1; go_simp) rfl ?_
                  refine mix_pur2 rfl (fun K hK => ?_)
                  go_simp
                  first | refine ⟨_, fun _ => rfl, hK _ ?_⟩ | refine hK _ ?_
                  clear hK K
                  refine mix_pur2 rfl (fun K hK => ?_)
                  go_simp
                  first | refine ⟨_, fun _ => rfl, hK _ ?_⟩ | refine hK _ ?_
                  clear hK K
                  refine mix_load2 rfl rfl rfl (.int .i64 vb) (fun w' h => by have h : (AlR br or (.slice (some ⟨bw, ow, none⟩) t.length cw) bw (ow + a) va (ow + b) vb) w' := h; have e0 := h.2.2; go_simp) rfl ?_
                  refine mix_pur2 rfl (fun K hK => ?_)
                  go_simp
                  first | refine ⟨_, fun _ => rfl, hK _ ?_⟩ | refine hK _ ?_
                  clear hK K
                  refine mix_pur2 rfl (fun K hK => ?_)
                  go_simp
                  first | refine ⟨_, fun _ => rfl, hK _ ?_⟩ | refine hK _ ?_
                  clear hK K
                  refine mix_pur2 rfl (fun K hK => ?_)
                  go_simp
                  first | refine ⟨_, fun _ => rfl, hK _ ?_⟩ | refine hK _ ?_
                  clear hK K
                  refine mix_load2 rfl rfl rfl (.slice (some ⟨bw, ow, none⟩) t.length cw) (fun w' h => by have h : (AlR br or (.slice (some ⟨bw, ow, none⟩) t.length cw) bw (ow + a) va (ow + b) vb) w' := h; have e0 := h.1; go_simp) rfl ?_
                  refine mix_pur2 rfl (fun K hK => ?_)
                  go_simp
                  first | refine ⟨_, fun _ => rfl, hK _ ?_⟩ | refine hK _ ?_
                  clear hK K
                  refine mix_pur2 rfl (fun K hK => ?_)
                  go_simp
                  first | refine ⟨_, fun _ => rfl, hK _ ?_⟩ | refine hK _ ?_
                  clear hK K
                  refine mix_load2 rfl rfl rfl (.int .i64 va) (fun w' h => by have h : (AlR br or (.slice (some ⟨bw, ow, none⟩) t.length cw) bw (ow + a) va (ow + b) vb) w' := h; have e0 := h.2.1; go_simp) rfl ?_
                  refine mix_pur2 rfl (fun K hK => ?_)
                  go_simp
                  first | refine ⟨_, fun _ => rfl, hK _ ?_⟩ | refine hK _ ?_
                  clear hK K
                  refine mix_pur2 rfl (fun K hK => ?_)
                  go_simp
                  first | refine ⟨_, fun _ => rfl, hK _ ?_⟩ | refine hK _ ?_
                  clear hK K
                  refine mix_load2 rfl rfl rfl (.slice (some ⟨bw, ow, none⟩) t.length cw) (fun w' h => by have h : (AlR br or (.slice (some ⟨bw, ow, none⟩) t.length cw) bw (ow + a) va (ow + b) vb) w' := h; have e0 := h.1; go_simp) rfl ?_
                  refine mix_pur2 rfl (fun K hK => ?_)
                  go_simp
                  first | refine ⟨_, fun _ => rfl, hK _ ?_⟩ | refine hK _ ?_
                  clear hK K
                  refine mix_pur2 rfl (fun K hK => ?_)
                  go_simp
                  first | refine ⟨_, fun _ => rfl, hK _ ?_⟩ | refine hK _ ?_
                  clear hK K
                  refine mix_load2 rfl rfl rfl (.int .i64 vb) (fun w' h => by have h : (AlR br or (.slice (some ⟨bw, ow, none⟩) t.length cw) bw (ow + a) va (ow + b) vb) w' := h; have e0 := h.2.2; go_simp) rfl ?_
                  refine mix_pur2 rfl (fun K hK => ?_)
                  go_simp
                  first | refine ⟨_, fun _ => rfl, hK _ ?_⟩ | refine hK _ ?_
                  clear hK K
                  refine mix_three3 rfl rfl rfl false false false rfl rfl rfl (fun K hK => ?_) (fun K hK => ?_) (fun K hK => ?_)
                  · as_aux_lemma =>
                    refine stz_fn rfl rfl rfl ent52 rfl rfl (by kernel_rfl) (ofr_c va va _) ?_
                    rintro e' wa1 ⟨rfl, hB9⟩
                    refine ⟨_, rfl, ?_⟩
                    have z1 := z0.trans (hB9.mono z0.size)
                    refine hK _ _ (HAL.out _ z1) ?_
                    try (rw [set_lit]; dsimp only [List.set])
                    clear hK K hB9
                    refine mix_three3 rfl rfl rfl false false false rfl rfl rfl (fun K hK => ?_) (fun K hK => ?_) (fun K hK => ?_)
                    · as_aux_lemma =>
                      refine stz_fn rfl rfl rfl ent52 rfl rfl (by kernel_rfl) (ofr_c (va - vb) (va - vb) _) ?_
                      rintro e' wa2 ⟨rfl, hB9⟩
                      refine ⟨_, rfl, ?_⟩
                      have z2 := z1.trans (hB9.mono z1.size)
                      refine hK _ _ (HAL.out _ z2) ?_
                      try (rw [set_lit]; dsimp only [List.set])
                      clear hK K hB9
                      refine mix_two3 rfl rfl false false rfl rfl (fun K hK => ?_) (fun K hK => ?_)
                      · refine stz_new rfl rfl rfl (new_run52 _) ?_
                        have z3 := bal2 (o := .cells #[.int .i64 0, .int .i64 0] 52) z2
                        have hAN : wx.heap.size ≤ wa2.heap.size := z2.size
                        have hA := Blk.new wa2 #[.int .i64 0, .int .i64 0] 52
                        refine hK _ _ (HAL.out _ z3) ?_
                        try (rw [set_lit]; dsimp only [List.set])
                        clear hK K
                        obtain ⟨q1, hq1⟩ : ∃ b, b = wa2.heap.size := ⟨_, rfl⟩
                        rw [← hq1] at hA hAN ⊢
                        generalize wa2.alloc (.cells #[.int .i64 0, .int .i64 0] 52) = wa3 at z3 hA ⊢
                        clear hq1
                        refine mix_eff3 rfl false rfl (fun K hK => ?_)
                        refine stz_new rfl rfl rfl (new_run52 _) ?_
                        have z4 := bal2 (o := .cells #[.int .i64 0, .int .i64 0] 52) z3
                        have hDN : wx.heap.size ≤ wa3.heap.size := z3.size
                        have hne := hA.lt
                        have hA := hA.call ((Below.refl wa3.heap.size wa3).alloc (Nat.le_refl _) (.cells #[.int .i64 0, .int .i64 0] 52))
                        have hD := Blk.new wa3 #[.int .i64 0, .int .i64 0] 52
                        refine hK _ _ (HAL.out _ z4) ?_
                        try (rw [set_lit]; dsimp only [List.set])
                        clear hK K
                        obtain ⟨q2, hq2⟩ : ∃ b, b = wa3.heap.size := ⟨_, rfl⟩
                        rw [← hq2] at hD hDN ⊢
                        rw [← hq2] at hne
                        generalize wa3.alloc (.cells #[.int .i64 0, .int .i64 0] 52) = wa4 at z4 hD hA ⊢
                        clear hq2
                        refine mix_eff3 rfl true rfl (fun K hK => ?_)
                        refine stz_st rfl rfl rfl (st_run52 hA va va) (by kernel_rfl) (by kernel_rfl) ?_
                        refine hK _ _ trivial ?_
                        try (rw [set_lit]; dsimp only [List.set])
                        clear hK K
                        have z5 := (z4.setCell (p := ⟨q1, 0, none⟩) hAN (.int .i64 va)).setCell (p := ⟨q1, 1, none⟩) hAN (.int .i64 va)
                        obtain ⟨hA, hD⟩ := put52 hA hD (by omega) va va
                        generalize ((wa4.setCell ⟨q1, 0, none⟩ (.int .i64 va)).setCell ⟨q1, 1, none⟩ (.int .i64 va)) = wa5 at z5 hA hD ⊢
                        refine mix_eff3 rfl true rfl (fun K hK => ?_)
                        refine stz_st rfl rfl rfl (st_run52 hD (va - vb) (va - vb)) (by kernel_rfl) (by kernel_rfl) ?_
                        refine hK _ _ trivial ?_
                        try (rw [set_lit]; dsimp only [List.set])
                        clear hK K
                        have z6 := (z5.setCell (p := ⟨q2, 0, none⟩) hDN (.int .i64 (va - vb))).setCell (p := ⟨q2, 1, none⟩) hDN (.int .i64 (va - vb))
                        obtain ⟨hD, hA⟩ := put52 hD hA (by omega) (va - vb) (va - vb)
                        generalize ((wa5.setCell ⟨q2, 0, none⟩ (.int .i64 (va - vb))).setCell ⟨q2, 1, none⟩ (.int .i64 (va - vb))) = wa6 at z6 hA hD ⊢
                        refine mix_done2 ?_
                        go_wp2_with fail
                        go_meet
                        case rel => exact ⟨q1, q2, rfl, rfl, hAN, hDN, by omega, hA, hD, z6⟩
                      · refine stz_new rfl rfl rfl (new_run52 _) ?_
                        have z3 := bal2 (o := .cells #[.int .i64 0, .int .i64 0] 52) z2
                        have hDN : wx.heap.size ≤ wa2.heap.size := z2.size
                        have hD := Blk.new wa2 #[.int .i64 0, .int .i64 0] 52
                        refine hK _ _ (HAL.out _ z3) ?_
                        try (rw [set_lit]; dsimp only [List.set])
                        clear hK K
                        obtain ⟨q2, hq2⟩ : ∃ b, b = wa2.heap.size := ⟨_, rfl⟩
                        rw [← hq2] at hD hDN ⊢
                        generalize wa2.alloc (.cells #[.int .i64 0, .int .i64 0] 52) = wa3 at z3 hD ⊢
                        clear hq2
                        refine mix_eff3 rfl false rfl (fun K hK => ?_)
                        refine stz_new rfl rfl rfl (new_run52 _) ?_
                        have z4 := bal2 (o := .cells #[.int .i64 0, .int .i64 0] 52) z3
                        have hAN : wx.heap.size ≤ wa3.heap.size := z3.size
                        have hne := hD.lt
                        have hD := hD.call ((Below.refl wa3.heap.size wa3).alloc (Nat.le_refl _) (.cells #[.int .i64 0, .int .i64 0] 52))
                        have hA := Blk.new wa3 #[.int .i64 0, .int .i64 0] 52
                        refine hK _ _ (HAL.out _ z4) ?_
                        try (rw [set_lit]; dsimp only [List.set])
                        clear hK K
                        obtain ⟨q1, hq1⟩ : ∃ b, b = wa3.heap.size := ⟨_, rfl⟩
                        rw [← hq1] at hA hAN ⊢
                        rw [← hq1] at hne
                        generalize wa3.alloc (.cells #[.int .i64 0, .int .i64 0] 52) = wa4 at z4 hA hD ⊢
                        clear hq1
                        refine mix_eff3 rfl true rfl (fun K hK => ?_)
                        refine stz_st rfl rfl rfl (st_run52 hA va va) (by kernel_rfl) (by kernel_rfl) ?_
                        refine hK _ _ trivial ?_
                        try (rw [set_lit]; dsimp only [List.set])
                        clear hK K
                        have z5 := (z4.setCell (p := ⟨q1, 0, none⟩) hAN (.int .i64 va)).setCell (p := ⟨q1, 1, none⟩) hAN (.int .i64 va)
                        obtain ⟨hA, hD⟩ := put52 hA hD (by omega) va va
                        generalize ((wa4.setCell ⟨q1, 0, none⟩ (.int .i64 va)).setCell ⟨q1, 1, none⟩ (.int .i64 va)) = wa5 at z5 hA hD ⊢
                        refine mix_eff3 rfl true rfl (fun K hK => ?_)
                        refine stz_st rfl rfl rfl (st_run52 hD (va - vb) (va - vb)) (by kernel_rfl) (by kernel_rfl) ?_
                        refine hK _ _ trivial ?_
                        try (rw [set_lit]; dsimp only [List.set])
                        clear hK K
                        have z6 := (z5.setCell (p := ⟨q2, 0, none⟩) hDN (.int .i64 (va - vb))).setCell (p := ⟨q2, 1, none⟩) hDN (.int .i64 (va - vb))
                        obtain ⟨hD, hA⟩ := put52 hD hA (by omega) (va - vb) (va - vb)
                        generalize ((wa5.setCell ⟨q2, 0, none⟩ (.int .i64 (va - vb))).setCell ⟨q2, 1, none⟩ (.int .i64 (va - vb))) = wa6 at z6 hA hD ⊢
                        refine mix_done2 ?_
                        go_wp2_with fail
                        go_meet
                        case rel => exact ⟨q1, q2, rfl, rfl, hAN, hDN, by omega, hA, hD, z6⟩
                    · as_aux_lemma =>
                      refine stz_new rfl rfl rfl (new_run52 _) ?_
                      have z2 := bal2 (o := .cells #[.int .i64 0, .int .i64 0] 52) z1
                      have hAN : wx.heap.size ≤ wa1.heap.size := z1.size
                      have hA := Blk.new wa1 #[.int .i64 0, .int .i64 0] 52
                      refine hK _ _ (HAL.out _ z2) ?_
                      try (rw [set_lit]; dsimp only [List.set])
                      clear hK K
                      obtain ⟨q1, hq1⟩ : ∃ b, b = wa1.heap.size := ⟨_, rfl⟩
                      rw [← hq1] at hA hAN ⊢
                      generalize wa1.alloc (.cells #[.int .i64 0, .int .i64 0] 52) = wa2 at z2 hA ⊢
                      clear hq1
                      refine mix_two3 rfl rfl false false rfl rfl (fun K hK => ?_) (fun K hK => ?_)
                      · refine stz_fn rfl rfl rfl ent52 rfl rfl (by kernel_rfl) (ofr_c (va - vb) (va - vb) _) ?_
                        rintro e' wa3 ⟨rfl, hB9⟩
                        refine ⟨_, rfl, ?_⟩
                        have hA := hA.call hB9
                        have z3 := z2.trans (hB9.mono z2.size)
                        refine hK _ _ (HAL.out _ z3) ?_
                        try (rw [set_lit]; dsimp only [List.set])
                        clear hK K hB9
                        refine mix_eff3 rfl false rfl (fun K hK => ?_)
                        refine stz_new rfl rfl rfl (new_run52 _) ?_
                        have z4 := bal2 (o := .cells #[.int .i64 0, .int .i64 0] 52) z3
                        have hDN : wx.heap.size ≤ wa3.heap.size := z3.size
                        have hne := hA.lt
                        have hA := hA.call ((Below.refl wa3.heap.size wa3).alloc (Nat.le_refl _) (.cells #[.int .i64 0, .int .i64 0] 52))
                        have hD := Blk.new wa3 #[.int .i64 0, .int .i64 0] 52
                        refine hK _ _ (HAL.out _ z4) ?_
                        try (rw [set_lit]; dsimp only [List.set])
                        clear hK K
                        obtain ⟨q2, hq2⟩ : ∃ b, b = wa3.heap.size := ⟨_, rfl⟩
                        rw [← hq2] at hD hDN ⊢
                        rw [← hq2] at hne
                        generalize wa3.alloc (.cells #[.int .i64 0, .int .i64 0] 52) = wa4 at z4 hD hA ⊢
                        clear hq2
                        refine mix_eff3 rfl true rfl (fun K hK => ?_)
                        refine stz_st rfl rfl rfl (st_run52 hA va va) (by kernel_rfl) (by kernel_rfl) ?_
                        refine hK _ _ trivial ?_
                        try (rw [set_lit]; dsimp only [List.set])
                        clear hK K
                        have z5 := (z4.setCell (p := ⟨q1, 0, none⟩) hAN (.int .i64 va)).setCell (p := ⟨q1, 1, none⟩) hAN (.int .i64 va)
                        obtain ⟨hA, hD⟩ := put52 hA hD (by omega) va va
                        generalize ((wa4.setCell ⟨q1, 0, none⟩ (.int .i64 va)).setCell ⟨q1, 1, none⟩ (.int .i64 va)) = wa5 at z5 hA hD ⊢
                        refine mix_eff3 rfl true rfl (fun K hK => ?_)
                        refine stz_st rfl rfl rfl (st_run52 hD (va - vb) (va - vb)) (by kernel_rfl) (by kernel_rfl) ?_
                        refine hK _ _ trivial ?_
                        try (rw [set_lit]; dsimp only [List.set])
                        clear hK K
                        have z6 := (z5.setCell (p := ⟨q2, 0, none⟩) hDN (.int .i64 (va - vb))).setCell (p := ⟨q2, 1, none⟩) hDN (.int .i64 (va - vb))
                        obtain ⟨hD, hA⟩ := put52 hD hA (by omega) (va - vb) (va - vb)
                        generalize ((wa5.setCell ⟨q2, 0, none⟩ (.int .i64 (va - vb))).setCell ⟨q2, 1, none⟩ (.int .i64 (va - vb))) = wa6 at z6 hA hD ⊢
                        refine mix_done2 ?_
                        go_wp2_with fail
                        go_meet
                        case rel => exact ⟨q1, q2, rfl, rfl, hAN, hDN, by omega, hA, hD, z6⟩
                      · refine stz_new rfl rfl rfl (new_run52 _) ?_
                        have z3 := bal2 (o := .cells #[.int .i64 0, .int .i64 0] 52) z2
                        have hDN : wx.heap.size ≤ wa2.heap.size := z2.size
                        have hne := hA.lt
                        have hA := hA.call ((Below.refl wa2.heap.size wa2).alloc (Nat.le_refl _) (.cells #[.int .i64 0, .int .i64 0] 52))
                        have hD := Blk.new wa2 #[.int .i64 0, .int .i64 0] 52
                        refine hK _ _ (HAL.out _ z3) ?_
                        try (rw [set_lit]; dsimp only [List.set])
                        clear hK K
                        obtain ⟨q2, hq2⟩ : ∃ b, b = wa2.heap.size := ⟨_, rfl⟩
                        rw [← hq2] at hD hDN ⊢
                        rw [← hq2] at hne
                        generalize wa2.alloc (.cells #[.int .i64 0, .int .i64 0] 52) = wa3 at z3 hD hA ⊢
                        clear hq2
                        refine mix_eff3 rfl false rfl (fun K hK => ?_)
                        refine stz_fn rfl rfl rfl ent52 rfl rfl (by kernel_rfl) (ofr_c (va - vb) (va - vb) _) ?_
                        rintro e' wa4 ⟨rfl, hB9⟩
                        refine ⟨_, rfl, ?_⟩
                        have hA := hA.call hB9
                        have hD := hD.call hB9
                        have z4 := z3.trans (hB9.mono z3.size)
                        refine hK _ _ (HAL.out _ z4) ?_
                        try (rw [set_lit]; dsimp only [List.set])
                        clear hK K hB9
                        refine mix_eff3 rfl true rfl (fun K hK => ?_)
                        refine stz_st rfl rfl rfl (st_run52 hA va va) (by kernel_rfl) (by kernel_rfl) ?_
                        refine hK _ _ trivial ?_
                        try (rw [set_lit]; dsimp only [List.set])
                        clear hK K
                        have z5 := (z4.setCell (p := ⟨q1, 0, none⟩) hAN (.int .i64 va)).setCell (p := ⟨q1, 1, none⟩) hAN (.int .i64 va)
                        obtain ⟨hA, hD⟩ := put52 hA hD (by omega) va va
                        generalize ((wa4.setCell ⟨q1, 0, none⟩ (.int .i64 va)).setCell ⟨q1, 1, none⟩ (.int .i64 va)) = wa5 at z5 hA hD ⊢
                        refine mix_eff3 rfl true rfl (fun K hK => ?_)
                        refine stz_st rfl rfl rfl (st_run52 hD (va - vb) (va - vb)) (by kernel_rfl) (by kernel_rfl) ?_
                        refine hK _ _ trivial ?_
                        try (rw [set_lit]; dsimp only [List.set])
                        clear hK K
                        have z6 := (z5.setCell (p := ⟨q2, 0, none⟩) hDN (.int .i64 (va - vb))).setCell (p := ⟨q2, 1, none⟩) hDN (.int .i64 (va - vb))
                        obtain ⟨hD, hA⟩ := put52 hD hA (by omega) (va - vb) (va - vb)
                        generalize ((wa5.setCell ⟨q2, 0, none⟩ (.int .i64 (va - vb))).setCell ⟨q2, 1, none⟩ (.int .i64 (va - vb))) = wa6 at z6 hA hD ⊢
                        refine mix_done2 ?_
                        go_wp2_with fail
                        go_meet
                        case rel => exact ⟨q1, q2, rfl, rfl, hAN, hDN, by omega, hA, hD, z6⟩
                    · as_aux_lemma =>
                      refine stz_new rfl rfl rfl (new_run52 _) ?_
                      have z2 := bal2 (o := .cells #[.int .i64 0, .int .i64 0] 52) z1
                      have hDN : wx.heap.size ≤ wa1.heap.size := z1.size
                      have hD := Blk.new wa1 #[.int .i64 0, .int .i64 0] 52
                      refine hK _ _ (HAL.out _ z2) ?_
                      try (rw [set_lit]; dsimp only [List.set])
                      clear hK K
                      obtain ⟨q2, hq2⟩ : ∃ b, b = wa1.heap.size := ⟨_, rfl⟩
                      rw [← hq2] at hD hDN ⊢
                      generalize wa1.alloc (.cells #[.int .i64 0, .int .i64 0] 52) = wa2 at z2 hD ⊢
                      clear hq2
                      refine mix_two3 rfl rfl false false rfl rfl (fun K hK => ?_) (fun K hK => ?_)
                      · refine stz_fn rfl rfl rfl ent52 rfl rfl (by kernel_rfl) (ofr_c (va - vb) (va - vb) _) ?_
                        rintro e' wa3 ⟨rfl, hB9⟩
                        refine ⟨_, rfl, ?_⟩
                        have hD := hD.call hB9
                        have z3 := z2.trans (hB9.mono z2.size)
                        refine hK _ _ (HAL.out _ z3) ?_
                        try (rw [set_lit]; dsimp only [List.set])
                        clear hK K hB9
                        refine mix_eff3 rfl false rfl (fun K hK => ?_)
                        refine stz_new rfl rfl rfl (new_run52 _) ?_
                        have z4 := bal2 (o := .cells #[.int .i64 0, .int .i64 0] 52) z3
                        have hAN : wx.heap.size ≤ wa3.heap.size := z3.size
                        have hne := hD.lt
                        have hD := hD.call ((Below.refl wa3.heap.size wa3).alloc (Nat.le_refl _) (.cells #[.int .i64 0, .int .i64 0] 52))
                        have hA := Blk.new wa3 #[.int .i64 0, .int .i64 0] 52
                        refine hK _ _ (HAL.out _ z4) ?_
                        try (rw [set_lit]; dsimp only [List.set])
                        clear hK K
                        obtain ⟨q1, hq1⟩ : ∃ b, b = wa3.heap.size := ⟨_, rfl⟩
                        rw [← hq1] at hA hAN ⊢
                        rw [← hq1] at hne
                        generalize wa3.alloc (.cells #[.int .i64 0, .int .i64 0] 52) = wa4 at z4 hA hD ⊢
                        clear hq1
                        refine mix_eff3 rfl true rfl (fun K hK => ?_)
                        refine stz_st rfl rfl rfl (st_run52 hA va va) (by kernel_rfl) (by kernel_rfl) ?_
                        refine hK _ _ trivial ?_
                        try (rw [set_lit]; dsimp only [List.set])
                        clear hK K
                        have z5 := (z4.setCell (p := ⟨q1, 0, none⟩) hAN (.int .i64 va)).setCell (p := ⟨q1, 1, none⟩) hAN (.int .i64 va)
                        obtain ⟨hA, hD⟩ := put52 hA hD (by omega) va va
                        generalize ((wa4.setCell ⟨q1, 0, none⟩ (.int .i64 va)).setCell ⟨q1, 1, none⟩ (.int .i64 va)) = wa5 at z5 hA hD ⊢
                        refine mix_eff3 rfl true rfl (fun K hK => ?_)
                        refine stz_st rfl rfl rfl (st_run52 hD (va - vb) (va - vb)) (by kernel_rfl) (by kernel_rfl) ?_
                        refine hK _ _ trivial ?_
                        try (rw [set_lit]; dsimp only [List.set])
                        clear hK K
                        have z6 := (z5.setCell (p := ⟨q2, 0, none⟩) hDN (.int .i64 (va - vb))).setCell (p := ⟨q2, 1, none⟩) hDN (.int .i64 (va - vb))
                        obtain ⟨hD, hA⟩ := put52 hD hA (by omega) (va - vb) (va - vb)
                        generalize ((wa5.setCell ⟨q2, 0, none⟩ (.int .i64 (va - vb))).setCell ⟨q2, 1, none⟩ (.int .i64 (va - vb))) = wa6 at z6 hA hD ⊢
                        refine mix_done2 ?_
                        go_wp2_with fail
                        go_meet
                        case rel => exact ⟨q1, q2, rfl, rfl, hAN, hDN, by omega, hA, hD, z6⟩
                      · refine stz_new rfl rfl rfl (new_run52 _) ?_
                        have z3 := bal2 (o := .cells #[.int .i64 0, .int .i64 0] 52) z2
                        have hAN : wx.heap.size ≤ wa2.heap.size := z2.size
                        have hne := hD.lt
                        have hD := hD.call ((Below.refl wa2.heap.size wa2).alloc (Nat.le_refl _) (.cells #[.int .i64 0, .int .i64 0] 52))
                        have hA := Blk.new wa2 #[.int .i64 0, .int .i64 0] 52
                        refine hK _ _ (HAL.out _ z3) ?_
                        try (rw [set_lit]; dsimp only [List.set])
                        clear hK K
                        obtain ⟨q1, hq1⟩ : ∃ b, b = wa2.heap.size := ⟨_, rfl⟩
                        rw [← hq1] at hA hAN ⊢
                        rw [← hq1] at hne
                        generalize wa2.alloc (.cells #[.int .i64 0, .int .i64 0] 52) = wa3 at z3 hA hD ⊢
                        clear hq1
                        refine mix_eff3 rfl false rfl (fun K hK => ?_)
                        refine stz_fn rfl rfl rfl ent52 rfl rfl (by kernel_rfl) (ofr_c (va - vb) (va - vb) _) ?_
                        rintro e' wa4 ⟨rfl, hB9⟩
                        refine ⟨_, rfl, ?_⟩
                        have hA := hA.call hB9
                        have hD := hD.call hB9
                        have z4 := z3.trans (hB9.mono z3.size)
                        refine hK _ _ (HAL.out _ z4) ?_
                        try (rw [set_lit]; dsimp only [List.set])
                        clear hK K hB9
                        refine mix_eff3 rfl true rfl (fun K hK => ?_)
                        refine stz_st rfl rfl rfl (st_run52 hA va va) (by kernel_rfl) (by kernel_rfl) ?_
                        refine hK _ _ trivial ?_
                        try (rw [set_lit]; dsimp only [List.set])
                        clear hK K
                        have z5 := (z4.setCell (p := ⟨q1, 0, none⟩) hAN (.int .i64 va)).setCell (p := ⟨q1, 1, none⟩) hAN (.int .i64 va)
                        obtain ⟨hA, hD⟩ := put52 hA hD (by omega) va va
                        generalize ((wa4.setCell ⟨q1, 0, none⟩ (.int .i64 va)).setCell ⟨q1, 1, none⟩ (.int .i64 va)) = wa5 at z5 hA hD ⊢
                        refine mix_eff3 rfl true rfl (fun K hK => ?_)
                        refine stz_st rfl rfl rfl (st_run52 hD (va - vb) (va - vb)) (by kernel_rfl) (by kernel_rfl) ?_
                        refine hK _ _ trivial ?_
                        try (rw [set_lit]; dsimp only [List.set])
                        clear hK K
                        have z6 := (z5.setCell (p := ⟨q2, 0, none⟩) hDN (.int .i64 (va - vb))).setCell (p := ⟨q2, 1, none⟩) hDN (.int .i64 (va - vb))
                        obtain ⟨hD, hA⟩ := put52 hD hA (by omega) (va - vb) (va - vb)
                        generalize ((wa5.setCell ⟨q2, 0, none⟩ (.int .i64 (va - vb))).setCell ⟨q2, 1, none⟩ (.int .i64 (va - vb))) = wa6 at z6 hA hD ⊢
                        refine mix_done2 ?_
                        go_wp2_with fail
                        go_meet
                        case rel => exact ⟨q1, q2, rfl, rfl, hAN, hDN, by omega, hA, hD, z6⟩
                  · as_aux_lemma =>
                    refine stz_new rfl rfl rfl (new_run52 _) ?_
                    have z1 := bal2 (o := .cells #[.int .i64 0, .int .i64 0] 52) z0
                    have hAN : wx.heap.size ≤ wd.heap.size := z0.size
                    have hA := Blk.new wd #[.int .i64 0, .int .i64 0] 52
                    refine hK _ _ (HAL.out _ z1) ?_
                    try (rw [set_lit]; dsimp only [List.set])
                    clear hK K
                    obtain ⟨q1, hq1⟩ : ∃ b, b = wd.heap.size := ⟨_, rfl⟩
                    rw [← hq1] at hA hAN ⊢
                    generalize wd.alloc (.cells #[.int .i64 0, .int .i64 0] 52) = wa1 at z1 hA ⊢
                    clear hq1
                    refine mix_two3 rfl rfl false false rfl rfl (fun K hK => ?_) (fun K hK => ?_)
                    · as_aux_lemma =>
                      refine stz_fn rfl rfl rfl ent52 rfl rfl (by kernel_rfl) (ofr_c va va _) ?_
                      rintro e' wa2 ⟨rfl, hB9⟩
                      refine ⟨_, rfl, ?_⟩
                      have hA := hA.call hB9
                      have z2 := z1.trans (hB9.mono z1.size)
                      refine hK _ _ (HAL.out _ z2) ?_
                      try (rw [set_lit]; dsimp only [List.set])
                      clear hK K hB9
                      refine mix_two3 rfl rfl false false rfl rfl (fun K hK => ?_) (fun K hK => ?_)
                      · refine stz_fn rfl rfl rfl ent52 rfl rfl (by kernel_rfl) (ofr_c (va - vb) (va - vb) _) ?_
                        rintro e' wa3 ⟨rfl, hB9⟩
                        refine ⟨_, rfl, ?_⟩
                        have hA := hA.call hB9
                        have z3 := z2.trans (hB9.mono z2.size)
                        refine hK _ _ (HAL.out _ z3) ?_
                        try (rw [set_lit]; dsimp only [List.set])
                        clear hK K hB9
                        refine mix_eff3 rfl false rfl (fun K hK => ?_)
                        refine stz_new rfl rfl rfl (new_run52 _) ?_
                        have z4 := bal2 (o := .cells #[.int .i64 0, .int .i64 0] 52) z3
                        have hDN : wx.heap.size ≤ wa3.heap.size := z3.size
                        have hne := hA.lt
                        have hA := hA.call ((Below.refl wa3.heap.size wa3).alloc (Nat.le_refl _) (.cells #[.int .i64 0, .int .i64 0] 52))
                        have hD := Blk.new wa3 #[.int .i64 0, .int .i64 0] 52
                        refine hK _ _ (HAL.out _ z4) ?_
                        try (rw [set_lit]; dsimp only [List.set])
                        clear hK K
                        obtain ⟨q2, hq2⟩ : ∃ b, b = wa3.heap.size := ⟨_, rfl⟩
                        rw [← hq2] at hD hDN ⊢
                        rw [← hq2] at hne
                        generalize wa3.alloc (.cells #[.int .i64 0, .int .i64 0] 52) = wa4 at z4 hD hA ⊢
                        clear hq2
                        refine mix_eff3 rfl true rfl (fun K hK => ?_)
                        refine stz_st rfl rfl rfl (st_run52 hA va va) (by kernel_rfl) (by kernel_rfl) ?_
                        refine hK _ _ trivial ?_
                        try (rw [set_lit]; dsimp only [List.set])
                        clear hK K
                        have z5 := (z4.setCell (p := ⟨q1, 0, none⟩) hAN (.int .i64 va)).setCell (p := ⟨q1, 1, none⟩) hAN (.int .i64 va)
                        obtain ⟨hA, hD⟩ := put52 hA hD (by omega) va va
                        generalize ((wa4.setCell ⟨q1, 0, none⟩ (.int .i64 va)).setCell ⟨q1, 1, none⟩ (.int .i64 va)) = wa5 at z5 hA hD ⊢
                        refine mix_eff3 rfl true rfl (fun K hK => ?_)
                        refine stz_st rfl rfl rfl (st_run52 hD (va - vb) (va - vb)) (by kernel_rfl) (by kernel_rfl) ?_
                        refine hK _ _ trivial ?_
                        try (rw [set_lit]; dsimp only [List.set])
                        clear hK K
                        have z6 := (z5.setCell (p := ⟨q2, 0, none⟩) hDN (.int .i64 (va - vb))).setCell (p := ⟨q2, 1, none⟩) hDN (.int .i64 (va - vb))
                        obtain ⟨hD, hA⟩ := put52 hD hA (by omega) (va - vb) (va - vb)
                        generalize ((wa5.setCell ⟨q2, 0, none⟩ (.int .i64 (va - vb))).setCell ⟨q2, 1, none⟩ (.int .i64 (va - vb))) = wa6 at z6 hA hD ⊢
                        refine mix_done2 ?_
                        go_wp2_with fail
                        go_meet
                        case rel => exact ⟨q1, q2, rfl, rfl, hAN, hDN, by omega, hA, hD, z6⟩
                      · refine stz_new rfl rfl rfl (new_run52 _) ?_
                        have z3 := bal2 (o := .cells #[.int .i64 0, .int .i64 0] 52) z2
                        have hDN : wx.heap.size ≤ wa2.heap.size := z2.size
                        have hne := hA.lt
                        have hA := hA.call ((Below.refl wa2.heap.size wa2).alloc (Nat.le_refl _) (.cells #[.int .i64 0, .int .i64 0] 52))
                        have hD := Blk.new wa2 #[.int .i64 0, .int .i64 0] 52
                        refine hK _ _ (HAL.out _ z3) ?_
                        try (rw [set_lit]; dsimp only [List.set])
                        clear hK K
                        obtain ⟨q2, hq2⟩ : ∃ b, b = wa2.heap.size := ⟨_, rfl⟩
                        rw [← hq2] at hD hDN ⊢
                        rw [← hq2] at hne
                        generalize wa2.alloc (.cells #[.int .i64 0, .int .i64 0] 52) = wa3 at z3 hD hA ⊢
                        clear hq2
                        refine mix_eff3 rfl false rfl (fun K hK => ?_)
                        refine stz_fn rfl rfl rfl ent52 rfl rfl (by kernel_rfl) (ofr_c (va - vb) (va - vb) _) ?_
                        rintro e' wa4 ⟨rfl, hB9⟩
                        refine ⟨_, rfl, ?_⟩
                        have hA := hA.call hB9
                        have hD := hD.call hB9
                        have z4 := z3.trans (hB9.mono z3.size)
                        refine hK _ _ (HAL.out _ z4) ?_
                        try (rw [set_lit]; dsimp only [List.set])
                        clear hK K hB9
                        refine mix_eff3 rfl true rfl (fun K hK => ?_)
                        refine stz_st rfl rfl rfl (st_run52 hA va va) (by kernel_rfl) (by kernel_rfl) ?_
                        refine hK _ _ trivial ?_
                        try (rw [set_lit]; dsimp only [List.set])
                        clear hK K
                        have z5 := (z4.setCell (p := ⟨q1, 0, none⟩) hAN (.int .i64 va)).setCell (p := ⟨q1, 1, none⟩) hAN (.int .i64 va)
                        obtain ⟨hA, hD⟩ := put52 hA hD (by omega) va va
                        generalize ((wa4.setCell ⟨q1, 0, none⟩ (.int .i64 va)).setCell ⟨q1, 1, none⟩ (.int .i64 va)) = wa5 at z5 hA hD ⊢
                        refine mix_eff3 rfl true rfl (fun K hK => ?_)
                        refine stz_st rfl rfl rfl (st_run52 hD (va - vb) (va - vb)) (by kernel_rfl) (by kernel_rfl) ?_
                        refine hK _ _ trivial ?_
                        try (rw [set_lit]; dsimp only [List.set])
                        clear hK K
                        have z6 := (z5.setCell (p := ⟨q2, 0, none⟩) hDN (.int .i64 (va - vb))).setCell (p := ⟨q2, 1, none⟩) hDN (.int .i64 (va - vb))
                        obtain ⟨hD, hA⟩ := put52 hD hA (by omega) (va - vb) (va - vb)
                        generalize ((wa5.setCell ⟨q2, 0, none⟩ (.int .i64 (va - vb))).setCell ⟨q2, 1, none⟩ (.int .i64 (va - vb))) = wa6 at z6 hA hD ⊢
                        refine mix_done2 ?_
                        go_wp2_with fail
                        go_meet
                        case rel => exact ⟨q1, q2, rfl, rfl, hAN, hDN, by omega, hA, hD, z6⟩
                    · refine stz_new rfl rfl rfl (new_run52 _) ?_
                      have z2 := bal2 (o := .cells #[.int .i64 0, .int .i64 0] 52) z1
                      have hDN : wx.heap.size ≤ wa1.heap.size := z1.size
                      have hne := hA.lt
                      have hA := hA.call ((Below.refl wa1.heap.size wa1).alloc (Nat.le_refl _) (.cells #[.int .i64 0, .int .i64 0] 52))
                      have hD := Blk.new wa1 #[.int .i64 0, .int .i64 0] 52
                      refine hK _ _ (HAL.out _ z2) ?_
                      try (rw [set_lit]; dsimp only [List.set])
                      clear hK K
                      obtain ⟨q2, hq2⟩ : ∃ b, b = wa1.heap.size := ⟨_, rfl⟩
                      rw [← hq2] at hD hDN ⊢
                      rw [← hq2] at hne
                      generalize wa1.alloc (.cells #[.int .i64 0, .int .i64 0] 52) = wa2 at z2 hD hA ⊢
                      clear hq2
                      refine mix_eff3 rfl false rfl (fun K hK => ?_)
                      refine stz_fn rfl rfl rfl ent52 rfl rfl (by kernel_rfl) (ofr_c va va _) ?_
                      rintro e' wa3 ⟨rfl, hB9⟩
                      refine ⟨_, rfl, ?_⟩
                      have hA := hA.call hB9
                      have hD := hD.call hB9
                      have z3 := z2.trans (hB9.mono z2.size)
                      refine hK _ _ (HAL.out _ z3) ?_
                      try (rw [set_lit]; dsimp only [List.set])
                      clear hK K hB9
                      refine mix_eff3 rfl false rfl (fun K hK => ?_)
                      refine stz_fn rfl rfl rfl ent52 rfl rfl (by kernel_rfl) (ofr_c (va - vb) (va - vb) _) ?_
                      rintro e' wa4 ⟨rfl, hB9⟩
                      refine ⟨_, rfl, ?_⟩
                      have hA := hA.call hB9
                      have hD := hD.call hB9
                      have z4 := z3.trans (hB9.mono z3.size)
                      refine hK _ _ (HAL.out _ z4) ?_
                      try (rw [set_lit]; dsimp only [List.set])
                      clear hK K hB9
                      refine mix_eff3 rfl true rfl (fun K hK => ?_)
                      refine stz_st rfl rfl rfl (st_run52 hA va va) (by kernel_rfl) (by kernel_rfl) ?_
                      refine hK _ _ trivial ?_
                      try (rw [set_lit]; dsimp only [List.set])
                      clear hK K
                      have z5 := (z4.setCell (p := ⟨q1, 0, none⟩) hAN (.int .i64 va)).setCell (p := ⟨q1, 1, none⟩) hAN (.int .i64 va)
                      obtain ⟨hA, hD⟩ := put52 hA hD (by omega) va va
                      generalize ((wa4.setCell ⟨q1, 0, none⟩ (.int .i64 va)).setCell ⟨q1, 1, none⟩ (.int .i64 va)) = wa5 at z5 hA hD ⊢
                      refine mix_eff3 rfl true rfl (fun K hK => ?_)
                      refine stz_st rfl rfl rfl (st_run52 hD (va - vb) (va - vb)) (by kernel_rfl) (by kernel_rfl) ?_
                      refine hK _ _ trivial ?_
                      try (rw [set_lit]; dsimp only [List.set])
                      clear hK K
                      have z6 := (z5.setCell (p := ⟨q2, 0, none⟩) hDN (.int .i64 (va - vb))).setCell (p := ⟨q2, 1, none⟩) hDN (.int .i64 (va - vb))
                      obtain ⟨hD, hA⟩ := put52 hD hA (by omega) (va - vb) (va - vb)
                      generalize ((wa5.setCell ⟨q2, 0, none⟩ (.int .i64 (va - vb))).setCell ⟨q2, 1, none⟩ (.int .i64 (va - vb))) = wa6 at z6 hA hD ⊢
                      refine mix_done2 ?_
                      go_wp2_with fail
                      go_meet
                      case rel => exact ⟨q1, q2, rfl, rfl, hAN, hDN, by omega, hA, hD, z6⟩
                  · as_aux_lemma =>
                    refine stz_new rfl rfl rfl (new_run52 _) ?_
                    have z1 := bal2 (o := .cells #[.int .i64 0, .int .i64 0] 52) z0
                    have hDN : wx.heap.size ≤ wd.heap.size := z0.size
                    have hD := Blk.new wd #[.int .i64 0, .int .i64 0] 52
                    refine hK _ _ (HAL.out _ z1) ?_
                    try (rw [set_lit]; dsimp only [List.set])
                    clear hK K
                    obtain ⟨q2, hq2⟩ : ∃ b, b = wd.heap.size := ⟨_, rfl⟩
                    rw [← hq2] at hD hDN ⊢
                    generalize wd.alloc (.cells #[.int .i64 0, .int .i64 0] 52) = wa1 at z1 hD ⊢
                    clear hq2
                    refine mix_two3 rfl rfl false false rfl rfl (fun K hK => ?_) (fun K hK => ?_)
                    · as_aux_lemma =>
                      refine stz_fn rfl rfl rfl ent52 rfl rfl (by kernel_rfl) (ofr_c va va _) ?_
                      rintro e' wa2 ⟨rfl, hB9⟩
                      refine ⟨_, rfl, ?_⟩
                      have hD := hD.call hB9
                      have z2 := z1.trans (hB9.mono z1.size)
                      refine hK _ _ (HAL.out _ z2) ?_
                      try (rw [set_lit]; dsimp only [List.set])
                      clear hK K hB9
                      refine mix_two3 rfl rfl false false rfl rfl (fun K hK => ?_) (fun K hK => ?_)
                      · refine stz_fn rfl rfl rfl ent52 rfl rfl (by kernel_rfl) (ofr_c (va - vb) (va - vb) _) ?_
                        rintro e' wa3 ⟨rfl, hB9⟩
                        refine ⟨_, rfl, ?_⟩
                        have hD := hD.call hB9
                        have z3 := z2.trans (hB9.mono z2.size)
                        refine hK _ _ (HAL.out _ z3) ?_
                        try (rw [set_lit]; dsimp only [List.set])
                        clear hK K hB9
                        refine mix_eff3 rfl false rfl (fun K hK => ?_)
                        refine stz_new rfl rfl rfl (new_run52 _) ?_
                        have z4 := bal2 (o := .cells #[.int .i64 0, .int .i64 0] 52) z3
                        have hAN : wx.heap.size ≤ wa3.heap.size := z3.size
                        have hne := hD.lt
                        have hD := hD.call ((Below.refl wa3.heap.size wa3).alloc (Nat.le_refl _) (.cells #[.int .i64 0, .int .i64 0] 52))
                        have hA := Blk.new wa3 #[.int .i64 0, .int .i64 0] 52
                        refine hK _ _ (HAL.out _ z4) ?_
                        try (rw [set_lit]; dsimp only [List.set])
                        clear hK K
                        obtain ⟨q1, hq1⟩ : ∃ b, b = wa3.heap.size := ⟨_, rfl⟩
                        rw [← hq1] at hA hAN ⊢
                        rw [← hq1] at hne
                        generalize wa3.alloc (.cells #[.int .i64 0, .int .i64 0] 52) = wa4 at z4 hA hD ⊢
                        clear hq1
                        refine mix_eff3 rfl true rfl (fun K hK => ?_)
                        refine stz_st rfl rfl rfl (st_run52 hA va va) (by kernel_rfl) (by kernel_rfl) ?_
                        refine hK _ _ trivial ?_
                        try (rw [set_lit]; dsimp only [List.set])
                        clear hK K
                        have z5 := (z4.setCell (p := ⟨q1, 0, none⟩) hAN (.int .i64 va)).setCell (p := ⟨q1, 1, none⟩) hAN (.int .i64 va)
                        obtain ⟨hA, hD⟩ := put52 hA hD (by omega) va va
                        generalize ((wa4.setCell ⟨q1, 0, none⟩ (.int .i64 va)).setCell ⟨q1, 1, none⟩ (.int .i64 va)) = wa5 at z5 hA hD ⊢
                        refine mix_eff3 rfl true rfl (fun K hK => ?_)
                        refine stz_st rfl rfl rfl (st_run52 hD (va - vb) (va - vb)) (by kernel_rfl) (by kernel_rfl) ?_
                        refine hK _ _ trivial ?_
                        try (rw [set_lit]; dsimp only [List.set])
                        clear hK K
                        have z6 := (z5.setCell (p := ⟨q2, 0, none⟩) hDN (.int .i64 (va - vb))).setCell (p := ⟨q2, 1, none⟩) hDN (.int .i64 (va - vb))
                        obtain ⟨hD, hA⟩ := put52 hD hA (by omega) (va - vb) (va - vb)
                        generalize ((wa5.setCell ⟨q2, 0, none⟩ (.int .i64 (va - vb))).setCell ⟨q2, 1, none⟩ (.int .i64 (va - vb))) = wa6 at z6 hA hD ⊢
                        refine mix_done2 ?_
                        go_wp2_with fail
                        go_meet
                        case rel => exact ⟨q1, q2, rfl, rfl, hAN, hDN, by omega, hA, hD, z6⟩
                      · refine stz_new rfl rfl rfl (new_run52 _) ?_
                        have z3 := bal2 (o := .cells #[.int .i64 0, .int .i64 0] 52) z2
                        have hAN : wx.heap.size ≤ wa2.heap.size := z2.size
                        have hne := hD.lt
                        have hD := hD.call ((Below.refl wa2.heap.size wa2).alloc (Nat.le_refl _) (.cells #[.int .i64 0, .int .i64 0] 52))
                        have hA := Blk.new wa2 #[.int .i64 0, .int .i64 0] 52
                        refine hK _ _ (HAL.out _ z3) ?_
                        try (rw [set_lit]; dsimp only [List.set])
                        clear hK K
                        obtain ⟨q1, hq1⟩ : ∃ b, b = wa2.heap.size := ⟨_, rfl⟩
                        rw [← hq1] at hA hAN ⊢
                        rw [← hq1] at hne
                        generalize wa2.alloc (.cells #[.int .i64 0, .int .i64 0] 52) = wa3 at z3 hA hD ⊢
                        clear hq1
                        refine mix_eff3 rfl false rfl (fun K hK => ?_)
                        refine stz_fn rfl rfl rfl ent52 rfl rfl (by kernel_rfl) (ofr_c (va - vb) (va - vb) _) ?_
                        rintro e' wa4 ⟨rfl, hB9⟩
                        refine ⟨_, rfl, ?_⟩
                        have hA := hA.call hB9
                        have hD := hD.call hB9
                        have z4 := z3.trans (hB9.mono z3.size)
                        refine hK _ _ (HAL.out _ z4) ?_
                        try (rw [set_lit]; dsimp only [List.set])
                        clear hK K hB9
                        refine mix_eff3 rfl true rfl (fun K hK => ?_)
                        refine stz_st rfl rfl rfl (st_run52 hA va va) (by kernel_rfl) (by kernel_rfl) ?_
                        refine hK _ _ trivial ?_
                        try (rw [set_lit]; dsimp only [List.set])
                        clear hK K
                        have z5 := (z4.setCell (p := ⟨q1, 0, none⟩) hAN (.int .i64 va)).setCell (p := ⟨q1, 1, none⟩) hAN (.int .i64 va)
                        obtain ⟨hA, hD⟩ := put52 hA hD (by omega) va va
                        generalize ((wa4.setCell ⟨q1, 0, none⟩ (.int .i64 va)).setCell ⟨q1, 1, none⟩ (.int .i64 va)) = wa5 at z5 hA hD ⊢
                        refine mix_eff3 rfl true rfl (fun K hK => ?_)
                        refine stz_st rfl rfl rfl (st_run52 hD (va - vb) (va - vb)) (by kernel_rfl) (by kernel_rfl) ?_
                        refine hK _ _ trivial ?_
                        try (rw [set_lit]; dsimp only [List.set])
                        clear hK K
                        have z6 := (z5.setCell (p := ⟨q2, 0, none⟩) hDN (.int .i64 (va - vb))).setCell (p := ⟨q2, 1, none⟩) hDN (.int .i64 (va - vb))
                        obtain ⟨hD, hA⟩ := put52 hD hA (by omega) (va - vb) (va - vb)
                        generalize ((wa5.setCell ⟨q2, 0, none⟩ (.int .i64 (va - vb))).setCell ⟨q2, 1, none⟩ (.int .i64 (va - vb))) = wa6 at z6 hA hD ⊢
                        refine mix_done2 ?_
                        go_wp2_with fail
                        go_meet
                        case rel => exact ⟨q1, q2, rfl, rfl, hAN, hDN, by omega, hA, hD, z6⟩
                    · refine stz_new rfl rfl rfl (new_run52 _) ?_
                      have z2 := bal2 (o := .cells #[.int .i64 0, .int .i64 0] 52) z1
                      have hAN : wx.heap.size ≤ wa1.heap.size := z1.size
                      have hne := hD.lt
                      have hD := hD.call ((Below.refl wa1.heap.size wa1).alloc (Nat.le_refl _) (.cells #[.int .i64 0, .int .i64 0] 52))
                      have hA := Blk.new wa1 #[.int .i64 0, .int .i64 0] 52
                      refine hK _ _ (HAL.out _ z2) ?_
                      try (rw [set_lit]; dsimp only [List.set])
                      clear hK K
                      obtain ⟨q1, hq1⟩ : ∃ b, b = wa1.heap.size := ⟨_, rfl⟩
                      rw [← hq1] at hA hAN ⊢
                      rw [← hq1] at hne
                      generalize wa1.alloc (.cells #[.int .i64 0, .int .i64 0] 52) = wa2 at z2 hA hD ⊢
                      clear hq1
                      refine mix_eff3 rfl false rfl (fun K hK => ?_)
                      refine stz_fn rfl rfl rfl ent52 rfl rfl (by kernel_rfl) (ofr_c va va _) ?_
                      rintro e' wa3 ⟨rfl, hB9⟩
                      refine ⟨_, rfl, ?_⟩
                      have hA := hA.call hB9
                      have hD := hD.call hB9
                      have z3 := z2.trans (hB9.mono z2.size)
                      refine hK _ _ (HAL.out _ z3) ?_
                      try (rw [set_lit]; dsimp only [List.set])
                      clear hK K hB9
                      refine mix_eff3 rfl false rfl (fun K hK => ?_)
                      refine stz_fn rfl rfl rfl ent52 rfl rfl (by kernel_rfl) (ofr_c (va - vb) (va - vb) _) ?_
                      rintro e' wa4 ⟨rfl, hB9⟩
                      refine ⟨_, rfl, ?_⟩
                      have hA := hA.call hB9
                      have hD := hD.call hB9
                      have z4 := z3.trans (hB9.mono z3.size)
                      refine hK _ _ (HAL.out _ z4) ?_
                      try (rw [set_lit]; dsimp only [List.set])
                      clear hK K hB9
                      refine mix_eff3 rfl true rfl (fun K hK => ?_)
                      refine stz_st rfl rfl rfl (st_run52 hA va va) (by kernel_rfl) (by kernel_rfl) ?_
                      refine hK _ _ trivial ?_
                      try (rw [set_lit]; dsimp only [List.set])
                      clear hK K
                      have z5 := (z4.setCell (p := ⟨q1, 0, none⟩) hAN (.int .i64 va)).setCell (p := ⟨q1, 1, none⟩) hAN (.int .i64 va)
                      obtain ⟨hA, hD⟩ := put52 hA hD (by omega) va va
                      generalize ((wa4.setCell ⟨q1, 0, none⟩ (.int .i64 va)).setCell ⟨q1, 1, none⟩ (.int .i64 va)) = wa5 at z5 hA hD ⊢
                      refine mix_eff3 rfl true rfl (fun K hK => ?_)
                      refine stz_st rfl rfl rfl (st_run52 hD (va - vb) (va - vb)) (by kernel_rfl) (by kernel_rfl) ?_
                      refine hK _ _ trivial ?_
                      try (rw [set_lit]; dsimp only [List.set])
                      clear hK K
                      have z6 := (z5.setCell (p := ⟨q2, 0, none⟩) hDN (.int .i64 (va - vb))).setCell (p := ⟨q2, 1, none⟩) hDN (.int .i64 (va - vb))
                      obtain ⟨hD, hA⟩ := put52 hD hA (by omega) (va - vb) (va - vb)
                      generalize ((wa5.setCell ⟨q2, 0, none⟩ (.int .i64 (va - vb))).setCell ⟨q2, 1, none⟩ (.int .i64 (va - vb))) = wa6 at z6 hA hD ⊢
                      refine mix_done2 ?_
                      go_wp2_with fail
                      go_meet
                      case rel => exact ⟨q1, q2, rfl, rfl, hAN, hDN, by omega, hA, hD, z6⟩
                case rest =>
                obtain ⟨q1, q2, rfl, rfl, hAN, hDN, hne, hA0, hD0, hZ0⟩ := hcut
                rename World => wz
                clear HAL bd1 hat hbt
                have hA0' : Blk q1 #[.int .i64 (spanF ((T.take 1).map fun t => atL t a)).1, .int .i64 (spanF ((T.take 1).map fun t => atL t a)).2] 52 wz := by rw [HSAA.out]; exact hA0
                have hD0' : Blk q2 #[.int .i64 (spanF ((T.take 1).map fun t => atL t a - atL t b)).1, .int .i64 (spanF ((T.take 1).map fun t => atL t a - atL t b)).2] 52 wz := by rw [HSDD.out]; exact hD0
                clear hA0 hD0 HSAA HSDD x0
                go_wp2_with fail
                go_loopw [21] (fun vi wy => ∃ i : Nat, 1 ≤ i ∧ i ≤ T.length ∧ vi = .int .i64 i ∧ Blk q1 #[.int .i64 (spanF ((T.take i).map fun t => atL t a)).1, .int .i64 (spanF ((T.take i).map fun t => atL t a)).2] 52 wy ∧ Blk q2 #[.int .i64 (spanF ((T.take i).map fun t => atL t a - atL t b)).1, .int .i64 (spanF ((T.take i).map fun t => atL t a - atL t b)).2] 52 wy ∧ Below wx.heap.size wx wy) (fun vi _ => T.length - (intOf vi).toNat)
                case atStart => exact ⟨1, Nat.le_refl _, by omega, rfl, hA0', hD0', hZ0⟩
                case round =>
                  rename World => wy
                  clear hA0' hD0' hZ0
                  obtain ⟨i, hi1, hi, rfl, hA, hD, hZ⟩ := hrel
                  have hTy := hTx.call hZ
                  by_cases hil : i < T.length
                  · have hb0 : decide ((i : Int) < (T.length : Int)) = true := decide_eq_true (by omega)
                    obtain ⟨aw2, cw2, g1, hrow⟩ := hTy.row i hil
                    have hrl := HRL.out T[i] (List.getElem_mem hil)
                    have hsA := span_more (fun t => atL t a) T i (by omega) hil
                    have hsD := span_more (fun t => atL t a - atL t b) T i (by omega) hil
                    obtain ⟨t2, ht⟩ : ∃ t, t = T[i] := ⟨_, rfl⟩
                    rw [← ht] at g1 hrow hrl hsA hsD
                    obtain ⟨bw2, ow2, rfl, -, hbw2, -⟩ := hrow.addr (by omega)
                    have ga := hrow.cell a (by omega)
                    have gb := hrow.cell b (by omega)
                    rw [← atL_at (by omega : a < t2.length)] at ga
                    rw [← atL_at (by omega : b < t2.length)] at gb
                    have h9a := hrl.2 a hla
                    have h9b := hrl.2 b hlb
                    try simp only at hsA hsD
                    obtain ⟨ua, hua⟩ : ∃ v, v = atL t2 a := ⟨_, rfl⟩
                    obtain ⟨ub, hub⟩ : ∃ v, v = atL t2 b := ⟨_, rfl⟩
                    rw [← hua] at ga h9a hsA hsD
                    rw [← hub] at gb h9b hsD
                    have hat : a < t2.length := by omega
                    have hbt : b < t2.length := by omega
                    have ham : ∀ w', Qt wy w' → (AlR br (or + i) (.slice (some ⟨bw2, ow2, none⟩) t2.length cw2) bw2 (ow2 + a) ua (ow2 + b) ub) w' := fun w' hq => by
                      obtain ⟨q, rfl⟩ := hq
                      exact ⟨g1, ga, gb⟩
                    have HAM := Lib.hid ham
                    obtain ⟨U, hU⟩ : ∃ U, U = spanF ((T.take i).map fun t => atL t a) := ⟨_, rfl⟩
                    obtain ⟨V2, hV2⟩ : ∃ U, U = spanF ((T.take i).map fun t => atL t a - atL t b) := ⟨_, rfl⟩
                    rw [← hU] at hA hsA
                    rw [← hV2] at hD hsD
                    have HSAA := Lib.hid hsA
                    have HSDD := Lib.hid hsD
                    have bd1 : IntKind.i64.wrap (ua - ub) = ua - ub := IntWalk.i64_in _ (by omega)
                    clear ham hsA hsD hua hub ht hrl g1 ga gb hrow hU hV2
                    go_upto_region 31 with fail
                    refine wp_region_mix2 (.pur 0 (.pur 1 (.pur 2 (.one 3 (.pur 4 (.pur 5 (.one 6 (.pur 7 (.pur 8 (.pur 9 (.one 10 (.pur 11 (.pur 12 (.one 13 (.pur 14 (.pur 15 (.pur 16 (.one 17 (.pur 18 (.pur 19 (.one 20 (.pur 21 (.pur 22 (.pur 23 .fin)))))))))))))))))))))))) 99 (AlR br (or + i) (.slice (some ⟨bw2, ow2, none⟩) t2.length cw2) bw2 (ow2 + a) ua (ow2 + b) ub) (fun _ => True) (by kernel_rfl) (by kernel_rfl) rfl (by kernel_rfl) (HAM.out _ ((Qt.refl _).drewN 1)) (fun wd hqd _ => ?_)
                    refine mix_pur2 rfl (fun K hK => ?_)
                    go_simp
                    first | refine ⟨_, fun _ => rfl, hK _ ?_⟩ | refine hK _ ?_
                    clear hK K
                    refine mix_pur2 rfl (fun K hK => ?_)
                    go_simp
                    first | refine ⟨_, fun _ => rfl, hK _ ?_⟩ | refine hK _ ?_
                    clear hK K
                    refine mix_pur2 rfl (fun K hK => ?_)
                    go_simp
                    first | refine ⟨_, fun _ => rfl, hK _ ?_⟩ | refine hK _ ?_
                    clear hK K
                    refine mix_load2 rfl rfl rfl (.slice (some ⟨bw2, ow2, none⟩) t2.length cw2) (fun w' h => by have h : (AlR br (or + i) (.slice (some ⟨bw2, ow2, none⟩) t2.length cw2) bw2 (ow2 + a) ua (ow2 + b) ub) w' := h; have e0 := h.1; go_simp) rfl ?_
                    refine mix_pur2 rfl (fun K hK => ?_)
                    go_simp
                    first | refine ⟨_, fun _ => rfl, hK _ ?_⟩ | refine hK _ ?_
                    clear hK K
                    refine mix_pur2 rfl (fun K hK => ?_)
                    go_simp
                    first | refine ⟨_, fun _ => rfl, hK _ ?_⟩ | refine hK _ ?_
                    clear hK K
                    refine mix_load2 rfl rfl rfl (.int .i64 ua) (fun w' h => by have h : (AlR br (or + i) (.slice (some ⟨bw2, ow2, none⟩) t2.length cw2) bw2 (ow2 + a) ua (ow2 + b) ub) w' := h; have e0 := h.2.1; go_simp) rfl ?_
                    refine mix_pur2 rfl (fun K hK => ?_)
                    go_simp
                    first | refine ⟨_, fun _ => rfl, hK _ ?_⟩ | refine hK _ ?_
                    clear hK K
                    refine mix_pur2 rfl (fun K hK => ?_)
                    go_simp
                    first | refine ⟨_, fun _ => rfl, hK _ ?_⟩ | refine hK _ ?_
                    clear hK K
                    refine mix_pur2 rfl (fun K hK => ?_)
                    go_simp
                    first | refine ⟨_, fun _ => rfl, hK _ ?_⟩ | refine hK _ ?_
                    clear hK K
                    refine mix_load2 rfl rfl rfl (.slice (some ⟨bw2, ow2, none⟩) t2.length cw2) (fun w' h => by have h : (AlR br (or + i) (.slice (some ⟨bw2, ow2, none⟩) t2.length cw2) bw2 (ow2 + a) ua (ow2 + b) ub) w' := h; have e0 := h.1; go_simp) rfl ?_
                    refine mix_pur2 rfl (fun K hK => ?_)
                    go_simp
                    first | refine ⟨_, fun _ => rfl, hK _ ?_⟩ | refine hK _ ?_
                    clear hK K
                    refine mix_pur2 rfl (fun K hK => ?_)
                    go_simp
                    first | refine ⟨_, fun _ => rfl, hK _ ?_⟩ | refine hK _ ?_
                    clear hK K
                    refine mix_load2 rfl rfl rfl (.int .i64 ua) (fun w' h => by have h : (AlR br (or + i) (.slice (some ⟨bw2, ow2, none⟩) t2.length cw2) bw2 (ow2 + a) ua (ow2 + b) ub) w' := h; have e0 := h.2.1; go_simp) rfl ?_
                    refine mix_pur2 rfl (fun K hK => ?_)
                    go_simp
                    first | refine ⟨_, fun _ => rfl, hK _ ?_⟩ | refine hK _ ?_
                    clear hK K
                    refine mix_pur2 rfl (fun K hK => ?_)
                    go_simp
                    first | refine ⟨_, fun _ => rfl, hK _ ?_⟩ | refine hK _ ?_
                    clear hK K
                    refine mix_pur2 rfl (fun K hK => ?_)
                    go_simp
                    first | refine ⟨_, fun _ => rfl, hK _ ?_⟩ | refine hK _ ?_
                    clear hK K
                    refine mix_load2 rfl rfl rfl (.slice (some ⟨bw2, ow2, none⟩) t2.length cw2) (fun w' h => by have h : (AlR br (or + i) (.slice (some ⟨bw2, ow2, none⟩) t2.length cw2) bw2 (ow2 + a) ua (ow2 + b) ub) w' := h; have e0 := h.1; go_simp) rfl ?_
                    refine mix_pur2 rfl (fun K hK => ?_)
                    go_simp
                    first | refine ⟨_, fun _ => rfl, hK _ ?_⟩ | refine hK _ ?_
                    clear hK K
                    refine mix_pur2 rfl (fun K hK => ?_)
                    go_simp
                    first | refine ⟨_, fun _ => rfl, hK _ ?_⟩ | refine hK _ ?_
                    clear hK K
                    refine mix_load2 rfl rfl rfl (.int .i64 ub) (fun w' h => by have h : (AlR br (or + i) (.slice (some ⟨bw2, ow2, none⟩) t2.length cw2) bw2 (ow2 + a) ua (ow2 + b) ub) w' := h; have e0 := h.2.2; go_simp) rfl ?_
                    refine mix_pur2 rfl (fun K hK => ?_)
                    go_simp
                    first | refine ⟨_, fun _ => rfl, hK _ ?_⟩ | refine hK _ ?_
                    clear hK K
                    refine mix_pur2 rfl (fun K hK => ?_)
                    go_simp
                    first | refine ⟨_, fun _ => rfl, hK _ ?_⟩ | refine hK _ ?_
                    clear hK K
                    refine mix_pur2 rfl (fun K hK => ?_)
                    go_simp
                    first | refine ⟨_, fun _ => rfl, hK _ ?_⟩ | refine hK _ ?_
                    clear hK K
                    refine mix_done2 ?_
                    have hA := hA.qt hqd
                    have hD := hD.qt hqd
                    have z2 := hZ.trans (hqd.below _)
                    clear HAM
                    go_upto_region 32 with fail
                    refine wp_region_mix2 (.pur 0 (.one 1 (.pur 2 (.pur 3 (.pur 4 (.one 5 (.pur 6 (.pur 7 (.pur 9 (.one 10 (.pur 11 (.pur 12 (.pur 13 (.one 14 (.pur 15 (.pur 16 (.act 8 (.act 17 (.act 18 (.act 19 .fin)))))))))))))))))))) 18 (AlQ q1 U q2 V2) (fun _ => True) (by kernel_rfl) (by kernel_rfl) rfl (by kernel_rfl) ⟨hA.qt ((Qt.refl _).drewN 1), hD.qt ((Qt.refl _).drewN 1)⟩ (fun we hqe _ => ?_)
                    refine mix_pur2 rfl (fun K hK => ?_)
                    go_simp
                    first | refine ⟨_, fun _ => rfl, hK _ ?_⟩ | refine hK _ ?_
                    clear hK K
                    refine mix_load2 rfl rfl rfl (.int .i64 U.1) (fun w' h => by have h : (AlQ q1 U q2 V2) w' := h; have e0 := h.1.cell 0; go_simp) rfl ?_
                    refine mix_pur2 rfl (fun K hK => ?_)
                    go_simp
                    first | refine ⟨_, fun _ => rfl, hK _ ?_⟩ | refine hK _ ?_
                    clear hK K
                    refine mix_min U.1 ua rfl rfl rfl rfl (by kernel_rfl) (by kernel_rfl) ?_
                    try (rw [set_lit]; dsimp only [List.set])
                    refine mix_pur2 rfl (fun K hK => ?_)
                    go_simp
                    first | refine ⟨_, fun _ => rfl, hK _ ?_⟩ | refine hK _ ?_
                    clear hK K
                    refine mix_load2 rfl rfl rfl (.int .i64 U.2) (fun w' h => by have h : (AlQ q1 U q2 V2) w' := h; have e0 := h.1.cell 1; go_simp) rfl ?_
                    refine mix_pur2 rfl (fun K hK => ?_)
                    go_simp
                    first | refine ⟨_, fun _ => rfl, hK _ ?_⟩ | refine hK _ ?_
                    clear hK K
                    refine mix_max U.2 ua rfl rfl rfl rfl (by kernel_rfl) (by kernel_rfl) ?_
                    try (rw [set_lit]; dsimp only [List.set])
                    refine mix_pur2 rfl (fun K hK => ?_)
                    go_simp
                    first | refine ⟨_, fun _ => rfl, hK _ ?_⟩ | refine hK _ ?_
                    clear hK K
                    refine mix_load2 rfl rfl rfl (.int .i64 V2.1) (fun w' h => by have h : (AlQ q1 U q2 V2) w' := h; have e0 := h.2.cell 0; go_simp) rfl ?_
                    refine mix_pur2 rfl (fun K hK => ?_)
                    go_simp
                    first | refine ⟨_, fun _ => rfl, hK _ ?_⟩ | refine hK _ ?_
                    clear hK K
                    refine mix_min V2.1 (ua - ub) rfl rfl rfl rfl (by kernel_rfl) (by kernel_rfl) ?_
                    try (rw [set_lit]; dsimp only [List.set])
                    refine mix_pur2 rfl (fun K hK => ?_)
                    go_simp
                    first | refine ⟨_, fun _ => rfl, hK _ ?_⟩ | refine hK _ ?_
                    clear hK K
                    refine mix_load2 rfl rfl rfl (.int .i64 V2.2) (fun w' h => by have h : (AlQ q1 U q2 V2) w' := h; have e0 := h.2.cell 1; go_simp) rfl ?_
                    refine mix_pur2 rfl (fun K hK => ?_)
                    go_simp
                    first | refine ⟨_, fun _ => rfl, hK _ ?_⟩ | refine hK _ ?_
                    clear hK K
                    refine mix_max V2.2 (ua - ub) rfl rfl rfl rfl (by kernel_rfl) (by kernel_rfl) ?_
                    try (rw [set_lit]; dsimp only [List.set])
                    refine mix_eff3 rfl false rfl (fun K hK => ?_)
                    refine stz_fn rfl rfl rfl ent52 rfl rfl (by kernel_rfl) (ofr_c (min U.1 ua) (max U.2 ua) _) ?_
                    rintro e wf1 ⟨rfl, hB1⟩
                    refine ⟨_, rfl, ?_⟩
                    have y1 := bnx (hqe.below wd.heap.size) hB1
                    refine hK _ _ ⟨hA.call y1, hD.call y1⟩ ?_
                    try (rw [set_lit]; dsimp only [List.set])
                    clear hK K
                    refine mix_eff3 rfl false rfl (fun K hK => ?_)
                    refine stz_fn rfl rfl rfl ent52 rfl rfl (by kernel_rfl) (ofr_c (min V2.1 (ua - ub)) (max V2.2 (ua - ub)) _) ?_
                    rintro e wf2 ⟨rfl, hB2⟩
                    refine ⟨_, rfl, ?_⟩
                    have y2 := bnx y1 hB2
                    have hA2 := hA.call y2
                    have hD2 := hD.call y2
                    have z3 := z2.trans (y2.mono z2.size)
                    refine hK _ _ ⟨hA2, hD2⟩ ?_
                    try (rw [set_lit]; dsimp only [List.set])
                    clear hK K hB1 hB2 y1 y2
                    refine mix_eff3 rfl true rfl (fun K hK => ?_)
                    refine stz_st rfl rfl rfl (st_run52 hA2 (min U.1 ua) (max U.2 ua)) (by kernel_rfl) (by kernel_rfl) ?_
                    refine hK _ _ trivial ?_
                    try (rw [set_lit]; dsimp only [List.set])
                    clear hK K
                    have z4 := (z3.setCell (p := ⟨q1, 0, none⟩) hAN (.int .i64 (min U.1 ua))).setCell (p := ⟨q1, 1, none⟩) hAN (.int .i64 (max U.2 ua))
                    obtain ⟨hA3, hD3⟩ := put52 hA2 hD2 hne (min U.1 ua) (max U.2 ua)
                    generalize ((wf2.setCell ⟨q1, 0, none⟩ (.int .i64 (min U.1 ua))).setCell ⟨q1, 1, none⟩ (.int .i64 (max U.2 ua))) = wf3 at z4 hA3 hD3 ⊢
                    refine mix_eff3 rfl true rfl (fun K hK => ?_)
                    refine stz_st rfl rfl rfl (st_run52 hD3 (min V2.1 (ua - ub)) (max V2.2 (ua - ub))) (by kernel_rfl) (by kernel_rfl) ?_
                    refine hK _ _ trivial ?_
                    try (rw [set_lit]; dsimp only [List.set])
                    clear hK K
                    have z5 := (z4.setCell (p := ⟨q2, 0, none⟩) hDN (.int .i64 (min V2.1 (ua - ub)))).setCell (p := ⟨q2, 1, none⟩) hDN (.int .i64 (max V2.2 (ua - ub)))
                    obtain ⟨hD4, hA4⟩ := put52 hD3 hA3 (Ne.symm hne) (min V2.1 (ua - ub)) (max V2.2 (ua - ub))
                    generalize ((wf3.setCell ⟨q2, 0, none⟩ (.int .i64 (min V2.1 (ua - ub)))).setCell ⟨q2, 1, none⟩ (.int .i64 (max V2.2 (ua - ub)))) = wf4 at z5 hA4 hD4 ⊢
                    refine mix_done2 ?_
                    go_wp2_with fail
                    go_roundw
                    case rel => exact ⟨i + 1, by omega, by omega, by go_num, by rw [HSAA.out]; exact hA4, by rw [HSDD.out]; exact hD4, z5⟩
                    case measure => simp [intOf]; omega
                  · obtain rfl : i = T.length := by omega
                    have hb0 : decide ((T.length : Int) < (T.length : Int)) = false := decide_eq_false (by omega)
                    rw [List.take_length] at hA hD
                    rw [HSP.out a hla] at hA
                    have hap := HAP.out a b hla hlb
                    obtain ⟨F, hF⟩ : ∃ F, F = spanF (T.map fun t => atL t a - atL t b) := ⟨_, rfl⟩
                    rw [← hF] at hD hap
                    have hXy := hXx.call hZ
                    have hCy := hCx.call hZ
                    have hLy := hLx.call hZ
                    have hBy := hBx.trans (hZ.mono hBx.size)
                    clear hF hZ
                    have hcon := apart_c hCy (a : Int) (b : Int)
                    rw [hap] at hcon
                    have HCON := Lib.hid hcon
                    clear hcon hap
                    have x0 := hXy.cell 0
                    have x1 := hXy.cell 1
                    have x2 := hXy.cell 2
                    go_wp2_with fail
                    refine HCON.out.mono ?_
                    rintro e wa ⟨rfl, hSa⟩
                    obtain ⟨wb, hwb⟩ : ∃ w', w' = wa.alloc (.cells #[.int .i64 F.1, .int .i64 F.2] 52) := ⟨_, rfl⟩
                    obtain ⟨q3, hq3⟩ : ∃ b, b = wa.heap.size := ⟨_, rfl⟩
                    have hR : Blk q3 #[.int .i64 F.1, .int .i64 F.2] 52 wb := by rw [hwb, hq3]; exact Blk.new _ _ _
                    have hSb : Below wy.heap.size wy wb := by rw [hwb]; exact bal2 hSa
                    have hA := hA.call hSb
                    have hD := hD.call hSb
                    have hLb := hLy.call hSb
                    have hBb := hBy.trans (hSb.mono hBy.size)
                    obtain ⟨gs, os, rfl, -, hgs⟩ := rgs_addr hLb (by omega)
                    have hra := rgs_at hLb a (by omega)
                    rw [HSA.out a (by omega)] at hra
                    obtain ⟨O, hO⟩ : ∃ O, O = (gl s a, gh s a) := ⟨_, rfl⟩
                    rw [← hO] at hra
                    have hA : Blk q1 #[.int .i64 O.1, .int .i64 O.2] 52 wb := by rw [hO]; exact hA
                    have hae : ∀ w', Qt wb w' → (AlE q3 q2 q1 F gs (os + a * 2) O) w' := fun w' hq => ⟨hR.qt hq, hD.qt hq, hA.qt hq, by obtain ⟨q, rfl⟩ := hq; exact hra.1, by obtain ⟨q, rfl⟩ := hq; exact hra.2⟩
                    have HAE := Lib.hid hae
                    have hal2 : a < s.length := by omega
                    go_upto_region 34 with fail
                    rw [← hwb, ← hq3]
                    clear hae hra hO hR hA hD hwb hq3 hSb hSa x0 x1 x2 HCON
                    refine wp_region_mix2 (.pur 0 (.pur 1 (.pur 2 (.one 3 (.one 4 (.pur 5 (.pur 6 (.pur 7 (.pur 8 (.pur 9 (.pur 10 (.one 11 (.one 12 (.pur 13 (.pur 14 .fin))))))))))))))) 99 (AlE q3 q2 q1 F gs (os + a * 2) O) (fun _ => True) (by kernel_rfl) (by kernel_rfl) rfl (by kernel_rfl) (HAE.out _ ((Qt.refl _).drewN 1)) (fun wd hqd _ => ?_)
                    refine mix_pur2 rfl (fun K hK => ?_)
                    go_simp
                    first | refine ⟨_, fun _ => rfl, hK _ ?_⟩ | refine hK _ ?_
                    clear hK K
                    refine mix_pur2 rfl (fun K hK => ?_)
                    go_simp
                    first | refine ⟨_, fun _ => rfl, hK _ ?_⟩ | refine hK _ ?_
                    clear hK K
                    refine mix_pur2 rfl (fun K hK => ?_)
                    go_simp
                    first | refine ⟨_, fun _ => rfl, hK _ ?_⟩ | refine hK _ ?_
                    clear hK K
                    refine mix_loadg2 rfl rfl (.agg #[.int .i64 F.1, .int .i64 F.2]) (by go_simp) (fun w' h => by have h : (AlE q3 q2 q1 F gs (os + a * 2) O) w' := h; have e0 := h.1.cell 0; have e1 := h.1.cell 1; go_simp) rfl ?_
                    refine mix_loadg2 rfl rfl (.agg #[.int .i64 F.1, .int .i64 F.2]) (by go_simp) (fun w' h => by have h : (AlE q3 q2 q1 F gs (os + a * 2) O) w' := h; have e0 := h.2.1.cell 0; have e1 := h.2.1.cell 1; go_simp) rfl ?_
                    refine mix_pur2 rfl (fun K hK => ?_)
                    go_simp
                    first | refine ⟨_, fun _ => rfl, hK _ ?_⟩ | refine hK _ ?_
                    clear hK K
                    refine mix_pur2 rfl (fun K hK => ?_)
                    go_simp
                    first | refine ⟨_, fun _ => rfl, hK _ ?_⟩ | refine hK _ ?_
                    clear hK K
                    refine mix_pur2 rfl (fun K hK => ?_)
                    go_simp
                    first | refine ⟨_, fun _ => rfl, hK _ ?_⟩ | refine hK _ ?_
                    clear hK K
                    refine mix_pur2 rfl (fun K hK => ?_)
                    go_simp
                    first | refine ⟨_, fun _ => rfl, hK _ ?_⟩ | refine hK _ ?_
                    clear hK K
                    refine mix_pur2 rfl (fun K hK => ?_)
                    go_simp
                    first | refine ⟨_, fun _ => rfl, hK _ ?_⟩ | refine hK _ ?_
                    clear hK K
                    refine mix_pur2 rfl (fun K hK => ?_)
                    go_simp
                    first | refine ⟨_, fun _ => rfl, hK _ ?_⟩ | refine hK _ ?_
                    clear hK K
                    refine mix_loadg2 rfl rfl (.agg #[.int .i64 O.1, .int .i64 O.2]) (by go_simp) (fun w' h => by have h : (AlE q3 q2 q1 F gs (os + a * 2) O) w' := h; have e0 := h.2.2.2.1; have e1 := h.2.2.2.2; go_simp) rfl ?_
                    refine mix_loadg2 rfl rfl (.agg #[.int .i64 O.1, .int .i64 O.2]) (by go_simp) (fun w' h => by have h : (AlE q3 q2 q1 F gs (os + a * 2) O) w' := h; have e0 := h.2.2.1.cell 0; have e1 := h.2.2.1.cell 1; go_simp) rfl ?_
                    refine mix_pur2 rfl (fun K hK => ?_)
                    go_simp
                    first | refine ⟨_, fun _ => rfl, hK _ ?_⟩ | refine hK _ ?_
                    clear hK K
                    refine mix_pur2 rfl (fun K hK => ?_)
                    go_simp
                    first | refine ⟨_, fun _ => rfl, hK _ ?_⟩ | refine hK _ ?_
                    clear hK K
                    refine mix_done2 ?_
                    go_wp2_with fail
                    go_roundw
                    case rel => exact ⟨b + 1, by omega, by go_num, hBb.trans (hqd.below _)⟩
                    case measure => simp [intOf]; omega
              · obtain rfl : b = n := by omega
                go_wp2_with fail
                go_roundw
                case rel => exact ⟨a + 1, by omega, by go_num, hBr.trans (hBx.mono hBr.size)⟩
                case measure => simp [intOf]; omega
          · obtain rfl : a = n := by omega
            go_wp2_with fail
            refine (surveyed_c _).mono ?_
            rintro e w11 ⟨rfl, hS11⟩
            go_wp2_with fail
            go_ret
            exact ⟨rfl, bnx (bnx hB9 hBr) hS11⟩

end Go.Proofs.Ytgdifckmjdjcpaa
