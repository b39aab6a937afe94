/- The iterator over all truths (edge), and what stands between the rounds of a range over it; conditions: a valid edge whose claims read as a list. -/
import Derived.Test.YtgdifckmjdjcpaaTru2
namespace Go.Proofs.Ytgdifckmjdjcpaa
open Go.RowKit

theorem walk_ok {x : Edg} (hx : x.Ok) {n : Nat} (hn : x.n = n) {s : Bs} (hs : IsBnd x s) {lr bx bc bY bs bw g : Nat} {vx : Value} {all : List Value} {J : (Nat → Prop) → List Value → World → Prop} (sJ : SideV J) (hR : RndT lr all J) : ∀ k, WOk x n s lr bx bc bY bs bw g vx all J k
  | 0 => fun own pre rest W u p hW hJ hu hpk hu9 hall => by
    obtain rfl : p = n := by omega
    exact walk_leaf hx (by have := hx.p; unfold Edg.n at hn; omega) sJ hR hW hJ hu hu9 hall
  | k + 1 => walk_step hx hn hs sJ (walk_ok hx hn hs sJ hR k)

theorem Try.info120 : (Try.prog.info? 120).map (fun i => (i.zero, i.size, i.bytes)) = some (some .nilIface, 1, 16) := by kernel_rfl
theorem one_iface (t : TypeId) (v : Value) : ∀ u ∈ [Value.iface t v], u.oneCell' = true := by
  intro u hu
  rw [List.mem_singleton] at hu
  subst hu
  rfl
theorem clV_shape (c : Cl) : ∃ t v, clV c = .iface t v := by
  unfold clV
  repeat' split
  all_goals exact ⟨_, _, rfl⟩
theorem bal2 {a w : World} {o : Obj} (h : Below a.heap.size a w) : Below a.heap.size a (w.alloc o) := h.alloc h.size o

/-- What the building of a claim's value reads. -/
def CR (bc b7 : Nat) (vc : Value) (c : Cl) (w : World) : Prop := Blk bc #[vc] 148 w ∧ Blk b7 #[.int .i64 c.kind, .int .i64 c.point, .int .i64 c.other, .int .i64 c.off, .int .i64 c.err] 26 w
theorem CR.call {bc b7 : Nat} {vc : Value} {c : Cl} {w w' : World} (h : CR bc b7 vc c w) (hB : Below w.heap.size w w') : CR bc b7 vc c w' := ⟨h.1.call hB, h.2.call hB⟩
theorem CR.qt {bc b7 : Nat} {vc : Value} {c : Cl} {w w' : World} (h : CR bc b7 vc c w) (q : Qt w w') : CR bc b7 vc c w' := ⟨h.1.qt q, h.2.qt q⟩
theorem flat_cl : ∀ l : List Cl, l.flatMap (fun c => [clV c]) = l.map clV
  | [] => rfl
  | a :: l => by rw [List.flatMap_cons, flat_cl l]; rfl
theorem own_elems {N n : Nat} {w : World} {v : Value} {l : List Cl} (hl : l.length = n) (h : Own N w 120 1 v n (l.map clV)) : Elems (fun c => [clV c]) (fun q => N ≤ q) w v l := by
  subst hl
  have := h.arr
  unfold Elems
  rw [flat_cl]
  exact this

set_option maxRecDepth 100000 in
set_option maxHeartbeats 2000000 in
theorem truths_it {x : Edg} (hx : x.Ok) {A : Nat → Prop} {w : World} {v : Value} {nb : Nat} (h : ClsM A w v x.claims) (hX0 : Blk nb #[.int .i64 x.points, .int .i64 x.bend, v] 24 w) : IterT 119 nb ((truthsF x).map tv) w := by
  intro lr J own W sJ hR hB hon hJ
  have hlt := sJ.lt _ _ _ hJ
  obtain ⟨n, hn⟩ : ∃ n : Nat, x.points = (n : Int) := ⟨x.points.toNat, by have := hx.p; omega⟩
  have hxn : x.n = n := by unfold Edg.n; omega
  obtain ⟨a1, c1, rfl, _, _⟩ := h.shape
  have hm := hx.m
  replace h := (h.wide (A' := fun q => q < w.heap.size) fun q _ hq => hq).below hB fun q hq _ => hq
  have hws := hB.size
  replace hX0 := hX0.below hB hX0.lt
  rw [hn] at hX0
  obtain ⟨W1, hW1⟩ : ∃ W1, W1 = W.alloc (.cells #[.func (.yield lr) #[] #[]] 127) := ⟨_, rfl⟩
  obtain ⟨bY, hbY⟩ : ∃ b, b = W.heap.size := ⟨_, rfl⟩
  have hY1 : Blk bY #[.func (.yield lr) #[] #[]] 127 W1 := by rw [hW1, hbY]; exact Blk.new _ _ _
  have hB1 : Below W.heap.size W W1 := by rw [hW1]; exact (Below.refl _ W).alloc (Nat.le_refl _) _
  have hX1 := hX0.call hB1
  have h1 := h.call hB1
  have HN := Lib.hid hn
  have HXN := Lib.hid hxn
  have HLT := Lib.hid hlt
  have hbz := bounds_z h1 hx
  rw [hn] at hbz
  clear hn hxn hlt
  go_enter Try.func119, Try.ntmps119
  go_upto_region 1 with fail
  rw [← hW1, ← hbY]
  have hzY : W.heap.size ≤ bY := Nat.le_of_eq hbY.symm
  clear hW1 hbY
  have x0 := hX1.cell 0
  have x1 := hX1.cell 1
  have x2 := hX1.cell 2
  have HBZ := Lib.hid hbz
  clear hbz
  go_wp2_with fail
  clear x0 x1 x2
  refine HBZ.out.mono ?_
  rintro e w2 ⟨v', b, rfl, hB2, (⟨rfl, rfl, hno⟩ | ⟨rfl, s, g, hs, rfl, hgs, hE⟩)⟩
  · have hB3 := bnx hB1 hB2
    have hB4 := bal2 (o := .cells #[.slice none 0 0] 95) hB3
    have ht := bndF_none.1 hno
    go_wp2_with fail
    rw [ht]
    exact bodyPost_ret (v := .tuple #[]) (by simp [results, Try.results119]) rfl ⟨⟨_, rfl⟩, own, sJ.step _ _ _ _ hJ (Keep.call hB4)⟩
  · have hX2 := hX1.call hB2
    have hY2 := hY1.call hB2
    have h2 := h1.call hB2
    have hB02 := bnx hB1 hB2
    rw [HXN.out]
    obtain ⟨w3, hw3⟩ : ∃ w3, w3 = w2.alloc (.cells #[.slice (some ⟨g, 0, none⟩) n n] 95) := ⟨_, rfl⟩
    obtain ⟨bs, hbs⟩ : ∃ b, b = w2.heap.size := ⟨_, rfl⟩
    have hS3 : Blk bs #[.slice (some ⟨g, 0, none⟩) n n] 95 w3 := by rw [hw3, hbs]; exact Blk.new _ _ _
    have hB3 : Below w2.heap.size w2 w3 := by rw [hw3]; exact (Below.refl _ w2).alloc (Nat.le_refl _) _
    have hX3 := hX2.call hB3
    have hY3 := hY2.call hB3
    have hE3 := Blk.call hE hB3
    have h3 := h2.call hB3
    have hB03 := bnx hB02 hB3
    go_upto_region 3 with fail
    rw [← hw3, ← hbs]
    have hzs : w2.heap.size ≤ bs := Nat.le_of_eq hbs.symm
    clear hw3 hbs
    obtain ⟨w4, hw4⟩ : ∃ w4, w4 = w3.alloc (.cells #[.slice none 0 0] 148) := ⟨_, rfl⟩
    obtain ⟨bc, hbc⟩ : ∃ b, b = w3.heap.size := ⟨_, rfl⟩
    have hC4 : Blk bc #[.slice none 0 0] 148 w4 := by rw [hw4, hbc]; exact Blk.new _ _ _
    have hB4 : Below w3.heap.size w3 w4 := by rw [hw4]; exact (Below.refl _ w3).alloc (Nat.le_refl _) _
    have hz4 : bc + 1 ≤ w4.heap.size := by rw [hw4, hbc]; simp
    have hX4 := hX3.call hB4
    have h4 := h3.call hB4
    have hB04 := bnx hB03 hB4
    have hB34 := bnx hB3 hB4
    go_upto_region 4 with fail
    rw [← hw4, ← hbc]
    have hzc : w3.heap.size ≤ bc := Nat.le_of_eq hbc.symm
    have hz3 := hB3.size
    have hz2 := hB02.size
    have hx2 := hX4.cell 2
    have hlX := hX3.lt
    have hlY := hY3.lt
    have hlE := Blk.lt hE3
    have hlS := hS3.lt
    clear hw4 hbc
    go_wp2_with fail
    clear hx2
    go_loopw [19] (fun i wr => ∃ (j : Nat) (vc : Value), j ≤ x.claims.length ∧ i = .int .i64 j ∧ Blk bc #[vc] 148 wr ∧ Own (bc + 1) wr 120 1 vc j ((x.claims.take j).map clV) ∧ Below bc w4 wr ∧ bc + 1 ≤ wr.heap.size) (fun i _ => x.claims.length - (intOf i).toNat)
    case atStart => exact ⟨0, _, Nat.zero_le _, rfl, hC4, Own.nil, Below.refl _ _, hz4⟩
    case round =>
      obtain ⟨j, vc, hj, rfl, hC, hO, hBr, hzr⟩ := hrel
      clear hC4
      obtain ⟨av, cv, rfl⟩ := own_slice hO
      by_cases hlt : j < x.claims.length
      · have hr := h4.below hBr fun q hq _ => by omega
        obtain ⟨gc, o, rfl, hA, hgc⟩ := cls_addr hr (by omega)
        obtain ⟨d0, d1, d2, d3, d4⟩ := cls_at hr j hlt
        obtain ⟨c, hc⟩ : ∃ c, c = x.claims[j] := ⟨_, rfl⟩
        rw [← hc] at d0 d1 d2 d3 d4
        have HC := Lib.hid hc
        clear hc
        obtain ⟨ty, vv, hcv⟩ := clV_shape c
        have hOF : ∀ w, Calls Try.prog 99 #[.agg #[.int .i64 c.kind, .int .i64 c.point, .int .i64 c.other, .int .i64 c.off, .int .i64 c.err]] w fun e w' => e = .returned (.iface ty vv) ∧ Below w.heap.size w w' := fun w => by rw [← hcv]; exact ofCl_c c w
        have HOF := hOF
        have HCV := Lib.hid hcv
        clear hOF hcv
        obtain ⟨w5, hw5⟩ : ∃ w5, w5 = wr.alloc (.cells #[.int .i64 c.kind, .int .i64 c.point, .int .i64 c.other, .int .i64 c.off, .int .i64 c.err] 26) := ⟨_, rfl⟩
        obtain ⟨b7, hb7⟩ : ∃ b, b = wr.heap.size := ⟨_, rfl⟩
        have hS5 : CR bc b7 (.slice av j cv) c w5 := by rw [hw5, hb7]; exact ⟨hC.alloc _, Blk.new _ _ _⟩
        have hO5 : Own (bc + 1) w5 120 1 (.slice av j cv) j ((x.claims.take j).map clV) := by rw [hw5]; exact hO.alloc _
        have hB5 : Below bc w4 w5 := by rw [hw5]; exact hBr.alloc (by omega) _
        have hz5 : bc + 1 ≤ w5.heap.size := by rw [hw5]; simp; omega
        go_wp2_with fail
        rw [← hw5, ← hb7]
        clear hw5 hb7 d0 d1 d2 d3 d4 hC hO
        refine wp_region_mix2 (.one 0 (.one 1 (.act 2 (.act 3 (.act 4 (.act 5 .fin)))))) 4 (CR bc b7 (.slice av j cv) c) (fun _ => True) (by kernel_rfl) (by kernel_rfl) rfl (by kernel_rfl) (hS5.qt ((Qt.refl _).drewN 1)) (fun wd hqd _ => ?_)
        have hSd := hS5.qt hqd
        refine mix_load2 rfl rfl rfl (.slice av j cv) (fun w' h => by have h : (CR bc b7 (.slice av j cv) c) w' := h; have h0 := h.1.cell 0; go_simp) rfl ?_
        refine mix_load2 rfl rfl rfl (.agg #[.int .i64 c.kind, .int .i64 c.point, .int .i64 c.other, .int .i64 c.off, .int .i64 c.err]) (fun w' h => by have h : (CR bc b7 (.slice av j cv) c) w' := h; have e0 := h.2.cell 0; have e1 := h.2.cell 1; have e2 := h.2.cell 2; have e3 := h.2.cell 3; have e4 := h.2.cell 4; go_simp) rfl ?_
        refine mix_eff2 rfl false rfl (fun K hK => ?_)
        go_simp
        refine (HOF _).mono ?_
        rintro e w6 ⟨rfl, hB6⟩
        have hS6 := hSd.call hB6
        have hO6 := (hO5.qt hqd).call hB6
        have hB56 := bnx (hqd.below _) hB6
        have hz6 := hB56.size
        refine hK _ _ hS6 ?_
        clear hK K
        refine mix_eff2 rfl false rfl (fun K hK => ?_)
        go_simp
        refine hK _ _ (hS6.call ((Below.refl _ w6).alloc (Nat.le_refl _) _)) ?_
        clear hK K
        refine mix_eff2 rfl true rfl (fun K hK => ?_)
        refine step_append_arr rfl _ _ 148 rfl 120 .nilIface 1 16 Try.underlying148 Try.info120 rfl (by decide) (by decide) (by simp; omega) (hO6.alloc _) rfl (arr_one w6 120 (.iface ty vv)) rfl rfl (one_iface _ _) (by omega) ?_
        intro v7 w7 hown hT
        obtain ⟨a7, c7, rfl⟩ := own_slice hown
        have hC7 := (hS6.1.alloc (.cells #[.iface ty vv] 120)).keep (hT.block _ (by simp; have := hS6.1.lt; omega) (fun e => by have := (World.ownsRow.lt (hO6.alloc (.cells #[.iface ty vv] 120)) _ e).1; omega))
        have hB7 := hT.below2 (B' := bc) (hO6.alloc _) ((hB5.trans (hB56.mono (by omega))).alloc (by omega) _) (by simp; omega) (by omega)
        have c7x := hC7.cell 0
        have f7 := hC7.free 0
        refine hK _ _ trivial ?_
        clear hK K
        refine mix_eff2 rfl true rfl (fun K hK => ?_)
        go_simp
        refine hK _ _ trivial ?_
        clear hK K
        refine mix_done2 ?_
        have hC8 := hC7.set 0 (.slice a7 (j + 1) c7)
        have hB8 := hB7.setCell (p := ⟨bc, 0, none⟩) (Nat.le_refl _) (.slice a7 (j + 1) c7)
        have hO8 : Own (bc + 1) (w7.setCell ⟨bc, 0, none⟩ (.slice a7 (j + 1) c7)) 120 1 (.slice a7 (j + 1) c7) (j + 1) ((x.claims.take (j + 1)).map clV) := by
          rw [List.take_succ_eq_append_getElem hlt, List.map_append, ← HC.out, List.map_singleton, HCV.out]
          exact hown.step fun q _ hq _ => Below.heap_setCell _ _ _ _ (show q ≠ bc by omega)
        have hz8 : bc + 1 ≤ (w7.setCell ⟨bc, 0, none⟩ (.slice a7 (j + 1) c7)).heap.size := by have := hB8.size; omega
        clear hC7 hB7 hown c7x f7 hT
        generalize w7.setCell ⟨bc, 0, none⟩ (.slice a7 (j + 1) c7) = w8 at hC8 hB8 hO8 hz8 ⊢
        go_wp2_with fail
        go_roundw
        case rel => exact ⟨j + 1, _, by omega, by go_num, hC8, hO8, hB8, hz8⟩
        case measure => simp [intOf]; omega
      · obtain rfl : j = x.claims.length := by omega
        rw [List.take_length] at hO
        have hB0r : Below W.heap.size W wr := hB04.trans (hBr.mono (by omega))
        have hC5 := hC
        have hXr := hX4.below hBr (by omega)
        have hYr := (hY3.call hB4).below hBr (by omega)
        have hSr := (hS3.call hB4).below hBr (by omega)
        have hEr : EB g s wr := Blk.below (Blk.call hE3 hB4) hBr (by omega)
        have hcl := own_elems rfl hO
        obtain ⟨w5, hw5⟩ : ∃ w5, w5 = wr.alloc (.cells #[.nilFunc] 149) := ⟨_, rfl⟩
        obtain ⟨bw, hbw⟩ : ∃ b, b = wr.heap.size := ⟨_, rfl⟩
        have hW5 : Blk bw #[.nilFunc] 149 w5 := by rw [hw5, hbw]; exact Blk.new _ _ _
        have hB5 : Below wr.heap.size wr w5 := by rw [hw5]; exact (Below.refl _ wr).alloc (Nat.le_refl _) _
        have hzb : wr.heap.size ≤ bw := Nat.le_of_eq hbw.symm
        go_upto_region 10 with fail
        rw [← hw5, ← hbw]
        clear hw5 hbw
        have f5 := hW5.free 0
        have c5 := hW5.cell 0
        have hsf := fun (W' : World) (fn : Fn) (fs cs : Array Value) (m : Mode) => run_store Try.prog W' ⟨bw, 0, none⟩ (.func fn fs cs) m rfl
        go_upto_region 11 with fail
        clear hsf
        have hW6 := hW5.set 0 (.func (.func 120) #[] #[.pointer (some ⟨nb, 0, none⟩), .pointer (some ⟨bc, 0, none⟩), .pointer (some ⟨bY, 0, none⟩), .pointer (some ⟨bs, 0, none⟩), .pointer (some ⟨bw, 0, none⟩)])
        have hB50 := hB0r.trans (hB5.mono (by have := hB0r.size; omega))
        have hB6 : Below W.heap.size W (w5.setCell ⟨bw, 0, none⟩ (.func (.func 120) #[] #[.pointer (some ⟨nb, 0, none⟩), .pointer (some ⟨bc, 0, none⟩), .pointer (some ⟨bY, 0, none⟩), .pointer (some ⟨bs, 0, none⟩), .pointer (some ⟨bw, 0, none⟩)])) := hB50.setCell (p := ⟨bw, 0, none⟩) (by have := hB0r.size; show _ ≤ bw; omega) _
        have hlr := hXr.lt
        have hly := hYr.lt
        have hls := hSr.lt
        have hlc := hC5.lt
        have hle := Blk.lt hEr
        have hLT := HLT.out
        have hX6 := (hXr.call hB5).other (a := ⟨bw, 0, none⟩) (by show nb ≠ bw; omega) (.func (.func 120) #[] #[.pointer (some ⟨nb, 0, none⟩), .pointer (some ⟨bc, 0, none⟩), .pointer (some ⟨bY, 0, none⟩), .pointer (some ⟨bs, 0, none⟩), .pointer (some ⟨bw, 0, none⟩)])
        have hY6 := (hYr.call hB5).other (a := ⟨bw, 0, none⟩) (by show bY ≠ bw; omega) (.func (.func 120) #[] #[.pointer (some ⟨nb, 0, none⟩), .pointer (some ⟨bc, 0, none⟩), .pointer (some ⟨bY, 0, none⟩), .pointer (some ⟨bs, 0, none⟩), .pointer (some ⟨bw, 0, none⟩)])
        have hS6 := (hSr.call hB5).other (a := ⟨bw, 0, none⟩) (by show bs ≠ bw; omega) (.func (.func 120) #[] #[.pointer (some ⟨nb, 0, none⟩), .pointer (some ⟨bc, 0, none⟩), .pointer (some ⟨bY, 0, none⟩), .pointer (some ⟨bs, 0, none⟩), .pointer (some ⟨bw, 0, none⟩)])
        have hC6 := (hC5.call hB5).other (a := ⟨bw, 0, none⟩) (by show bc ≠ bw; omega) (.func (.func 120) #[] #[.pointer (some ⟨nb, 0, none⟩), .pointer (some ⟨bc, 0, none⟩), .pointer (some ⟨bY, 0, none⟩), .pointer (some ⟨bs, 0, none⟩), .pointer (some ⟨bw, 0, none⟩)])
        have hE6 : EB g s (w5.setCell ⟨bw, 0, none⟩ (.func (.func 120) #[] #[.pointer (some ⟨nb, 0, none⟩), .pointer (some ⟨bc, 0, none⟩), .pointer (some ⟨bY, 0, none⟩), .pointer (some ⟨bs, 0, none⟩), .pointer (some ⟨bw, 0, none⟩)])) := Blk.other (Blk.call hEr hB5) (a := ⟨bw, 0, none⟩) (by show g ≠ bw; omega) _
        have hV6 : Elems (fun c => [clV c]) (fun q => bc + 1 ≤ q ∧ q < wr.heap.size) (w5.setCell ⟨bw, 0, none⟩ (.func (.func 120) #[] #[.pointer (some ⟨nb, 0, none⟩), .pointer (some ⟨bc, 0, none⟩), .pointer (some ⟨bY, 0, none⟩), .pointer (some ⟨bs, 0, none⟩), .pointer (some ⟨bw, 0, none⟩)])) (.slice av x.claims.length cv) x.claims :=
          ((hcl.wide (A' := fun q => bc + 1 ≤ q ∧ q < wr.heap.size) fun q hq hq2 => ⟨hq, hq2⟩).call hB5).step (by simp [World.setCell]) fun q hq hq2 => Below.heap_setCell _ _ _ _ (show q ≠ bw by omega)
        have hw1 := hB1.size
        have hw2 := hB02.size
        generalize w5.setCell ⟨bw, 0, none⟩ (.func (.func 120) #[] #[.pointer (some ⟨nb, 0, none⟩), .pointer (some ⟨bc, 0, none⟩), .pointer (some ⟨bY, 0, none⟩), .pointer (some ⟨bs, 0, none⟩), .pointer (some ⟨bw, 0, none⟩)]) = w6 at hW6 hB6 hX6 hY6 hS6 hC6 hE6 hV6 ⊢
        have hJ6 := sJ.step _ _ _ _ hJ (Keep.call hB6)
        have hWS : WS x n s lr nb bc bY bs bw g (.slice a1 x.claims.length c1) own w6 :=
          ⟨⟨hX6, hon⟩, ⟨_, ⟨hC6, fun h => by have := hLT _ h; omega⟩, hV6.wide fun q hq _ h => by have := hLT _ h; omega⟩, ⟨hY6, fun h => by have := hLT _ h; omega⟩, ⟨hS6, fun h => by have := hLT _ h; omega⟩, ⟨hE6, fun h => by have := hLT _ h; omega⟩, ⟨hW6, fun h => by have := hLT _ h; omega⟩⟩
        have hg := gen_bounds hs
        rw [HXN.out] at hg
        have hwk := walk_ok hx HXN.out hs sJ hR n own [] [] w6 [] 0 hWS hJ6 rfl (by omega) (fun i _ => by show (0 : Int) ≤ 0 ∧ (0 : Int) ≤ 9; omega) (by rw [hg, List.nil_append, List.append_nil])
        rw [hg, List.nil_append] at hwk
        have HWK := Lib.hid hwk
        have z0 : w6.cell? ⟨bw, 0, none⟩ = some (.func (.func 120) #[] #[.pointer (some ⟨nb, 0, none⟩), .pointer (some ⟨bc, 0, none⟩), .pointer (some ⟨bY, 0, none⟩), .pointer (some ⟨bs, 0, none⟩), .pointer (some ⟨bw, 0, none⟩)]) := hW6.cell 0
        clear hwk hg hWS hX6 hY6 hS6 hC6 hE6 hV6 hLT
        go_wp2_with fail
        refine HWK.out.mono ?_
        rintro e w7 ⟨rfl, own', hG7, hJ7⟩
        go_wp2_with fail
        go_end0
        exact ⟨⟨_, rfl⟩, own', hJ7⟩

theorem truths_c {x : Edg} {w : World} {v : Value} : Calls Try.prog 100 #[.agg #[.int .i64 x.points, .int .i64 x.bend, v]] w fun e w' => e = .returned (.func (.func 119) #[] #[.pointer (some ⟨w.heap.size, 0, none⟩)]) ∧ w' = w.alloc (.cells #[.int .i64 x.points, .int .i64 x.bend, v] 24) := by
  go_enter Try.func100, Try.ntmps100
  go_wp2
  go_ret
  exact ⟨rfl, rfl⟩

end Go.Proofs.Ytgdifckmjdjcpaa
