/- EdgeIdle: what its walk hands back; conditions: the argument reads as a list of numbers. -/
import Derived.Test.YtgdifckmjdjcpaaIdl
import Derived.Test.YtgdifckmjdjcpaaPrt
import Derived.Test.YtgdifckmjdjcpaaSur
import Derived.Test.YtgdifckmjdjcpaaEof
namespace Go.Proofs.Ytgdifckmjdjcpaa
open Go.RowKit

theorem keep_one (x : Edg) (k : Nat) : partF x (keepS [(k : Int)] true) = partF x fun j => decide (j ≠ k) := by
  unfold partF
  rw [keepL_congr fun i hi => ?_]
  unfold keepS
  by_cases h : i = k
  · simp [h]
  · simp [h]; omega
theorem idle_at {x : Edg} {k : Nat} (hk : k < x.claims.length) (hb : idleB x k = true) : (idleK x k).length < (idleF x).length ∧ ∀ h : (idleK x k).length < (castN (idleF x)).length, (castN (idleF x))[(idleK x k).length] = (k : Int) := by
  have e : idleF x = idleK x k ++ k :: (List.range' (k + 1) (x.claims.length - (k + 1))).filter (idleB x) := by
    have e1 : List.range x.claims.length = List.range k ++ k :: List.range' (k + 1) (x.claims.length - (k + 1)) := by
      rw [List.range_eq_range', List.range_eq_range', show x.claims.length = k + (x.claims.length - (k + 1) + 1) by omega, ← List.range'_append_1 (s := 0), Nat.zero_add, List.range'_succ]
      congr 3
      omega
    unfold idleF
    rw [e1, List.filter_append, List.filter_cons_of_pos (by exact hb)]
    rfl
  have h2 : (castN (idleF x))[(idleK x k).length]? = some (k : Int) := by
    rw [e]
    unfold castN
    rw [List.map_append, List.map_cons, List.getElem?_append_right (by simp)]
    simp
  refine ⟨by rw [e, List.length_append, List.length_cons]; omega, fun h => ?_⟩
  obtain ⟨_, h3⟩ := List.getElem?_eq_some_iff.1 h2
  exact h3
theorem idle_le2 (x : Edg) (k : Nat) : ¬ ((truthsF (partF x fun j => decide (j ≠ k))).length < (truthsF x).length) := by have := idle_le x k; omega
theorem add_ok {x : Edg} (hx : x.Ok) (hm : x.claims.length ≤ 6) {c : Cl} (hc : c.Ok x.points) : (x.add c).Ok := by
  refine ⟨hx.p, hx.b, by unfold Edg.add; simp only [List.length_append, List.length_singleton]; omega, fun d hd => ?_⟩
  unfold Edg.add at hd ⊢
  simp only [List.mem_append, List.mem_singleton] at hd
  rcases hd with hd | rfl
  · exact hx.c d hd
  · exact hc
theorem own_ne {B n b : Nat} {w : World} {v : Value} {xs : List Value} {c : Array Value} (h : Own B w 26 5 v n xs) (hX : Blk b c 24 w) (q : Nat) (hq : v.ownBlock = some q) : q ≠ b := by
  rintro rfl
  rcases h.2 with ⟨rfl, _⟩ | ⟨g, cap, cur, rfl, hb, hg, -⟩
  · simp [Value.ownBlock] at hq
  · simp [Value.ownBlock] at hq
    subst hq
    unfold Blk at hX
    rw [hX] at hg
    simp at hg
/-- What the region that puts a claim twice reads. -/
def IdS (b : Nat) (P B : Int) (v : Value) (l : List Cl) (w : World) : Prop := XR b P B v w ∧ ClsM (fun _ => True) w v l

set_option maxRecDepth 100000 in
set_option maxHeartbeats 4000000 in
theorem edgeIdle_c {A : Nat → Prop} {w : World} {v : Value} {l : List Int} (h : Ints A w v l) : Calls Try.prog 13 #[v] w fun e w' => e = .returned (.bool true) ∧ Below w.heap.size w w' := by
  obtain ⟨a0, c0, rfl, _, _⟩ := h.shape
  go_enter Try.func13, Try.ntmps13
  go_wp2_with fail
  refine (newHand_c h).mono ?_
  rintro e w1 ⟨rfl, hH1, hB1⟩
  have hsz1 := hH1.lt
  go_wp2_with fail
  refine (edgeOf_c hH1 (by omega) (pts := 4) (cl := 5) (by omega) (by omega)).mono ?_
  rintro e w2 ⟨⟨x, vx, rfl, hx, hx4, hx7, hO2⟩, ⟨k2, hk2, hH2⟩, hG2⟩
  have hB2 := bhand hB1 hG2 (Nat.le_refl _)
  obtain ⟨ax, cx, rfl⟩ := own_slice hO2
  have hgr := World.ownsRow.lt hO2
  obtain ⟨w3, hw3⟩ : ∃ w3, w3 = w2.alloc (.cells #[.int .i64 x.points, .int .i64 x.bend, .slice ax x.claims.length cx] 24) := ⟨_, rfl⟩
  obtain ⟨bx, hbx⟩ : ∃ b, b = w2.heap.size := ⟨_, rfl⟩
  have hX3 : Blk bx #[.int .i64 x.points, .int .i64 x.bend, .slice ax x.claims.length cx] 24 w3 := by rw [hw3, hbx]; exact Blk.new _ _ _
  have hB3 : Below w.heap.size w w3 := by rw [hw3]; exact bal2 hB2
  have hO3 : Own w1.heap.size w3 26 5 (.slice ax x.claims.length cx) x.claims.length (x.claims.flatMap ccells) := by rw [hw3]; exact hO2.alloc _
  have hH3 : Hnd w3 w.heap.size k2 := by rw [hw3]; exact hH2.call ((Below.refl _ _).alloc (Nat.le_refl _) _)
  have hbw : w1.heap.size ≤ bx := by rw [hbx]; exact hG2.size
  have hz1 : w.heap.size < w1.heap.size := hsz1
  go_upto_region 3 with fail
  rw [← hw3, ← hbx]
  rw [← hbx] at hgr
  clear hw3 hbx hO2 hG2 hH1 hB1 hB2 hH2 hsz1
  have hm5 : x.claims.length ≤ 5 := by omega
  go_cut [24] from 13 (fun s24 wx => ∃ b : Bool, s24 = .bool b ∧ (b = true → 0 < x.claims.length) ∧ (∃ k5, k5 ≤ 200 ∧ Hnd wx w.heap.size k5) ∧ Blk bx #[.int .i64 x.points, .int .i64 x.bend, .slice ax x.claims.length cx] 24 wx ∧ Own w1.heap.size wx 26 5 (.slice ax x.claims.length cx) x.claims.length (x.claims.flatMap ccells) ∧ Below w.heap.size w wx)
  case first =>
    have c2 := hX3.cell 2
    by_cases hm0 : 0 < x.claims.length
    · have hd0 : decide (0 < x.claims.length) = true := decide_eq_true hm0
      go_wp2_with fail
      refine (odds_c hH3 (by omega) 1 3 (by omega) (by omega) (by omega)).mono ?_
      rintro e w5 ⟨⟨b, rfl⟩, ⟨k5, hk5, hH5⟩, hG5⟩
      have hX5 := hX3.hand hG5 (by omega)
      have hO5 := hO3.step fun q hq hl hl2 => hG5.block q hl2 (fun e => by injection e with e; omega)
      have hB5 := bhand hB3 hG5 (Nat.le_refl _)
      go_wp2_with fail
      go_meet
      case rel => exact ⟨b, rfl, fun _ => hm0, ⟨k5, by omega, hH5⟩, hX5, hO5, hB5⟩
    · have hd0 : decide (0 < x.claims.length) = false := decide_eq_false hm0
      go_wp2_with fail
      go_meet
      case rel => exact ⟨false, rfl, fun h => absurd h (by decide), ⟨k2, by omega, hH3⟩, hX3, hO3, hB3⟩
  case rest =>
    obtain ⟨b, rfl, hbm, ⟨k5, hk5, hH5⟩, hX5, hO5, hB5⟩ := hcut
    rename World => w5
    clear hX3 hO3 hB3 hH3
    go_upto_if 24 with fail
    go_cut [] from 13 (fun wx => ∃ (y : Edg) (ay : Option Addr) (cy : Nat), y.Ok ∧ Blk bx #[.int .i64 y.points, .int .i64 y.bend, .slice ay y.claims.length cy] 24 wx ∧ ClsM (fun q => w1.heap.size ≤ q) wx (.slice ay y.claims.length cy) y.claims ∧ Below w.heap.size w wx)
    case first =>
      cases b with
      | false =>
        go_wp2_with fail
        go_meet
        case rel => exact ⟨x, ax, cx, hx, hX5, Own.cls hO5, hB5⟩
      | true =>
        have hm0 := hbm rfl
        obtain ⟨gc, o, rfl, -, -⟩ := cls_addr (Own.cls hO5) hm0
        have bm1 : IntKind.i64.wrap ((x.claims.length : Int) - 1) = (x.claims.length : Int) - 1 := IntWalk.i64_in _ (by omega)
        go_wp2_with fail
        refine wp_region_mix2 (.pur 0 (.one 1 (.pur 2 (.one 3 (.pur 4 (.pur 5 (.one 6 (.pur 7 (.pur 8 (.act 9 (.pur 10 (.one 11 (.act 12 (.act 13 (.pur 14 (.act 15 .fin)))))))))))))))) 13 (IdS bx x.points x.bend (.slice (some ⟨gc, o, none⟩) x.claims.length cx) x.claims) (fun _ => True) (by kernel_rfl) (by kernel_rfl) rfl (by kernel_rfl) ⟨hX5.qt ((Qt.refl _).drewN 1), (Own.cls hO5).wide fun _ _ _ => trivial⟩ (fun wd hqd _ => ?_)
        refine mix_pur2 rfl (fun K hK => ?_)
        go_simp
        first | refine ⟨_, fun _ => rfl, hK _ ?_⟩ | refine hK _ ?_
        clear hK K
        refine mix_load2 rfl rfl rfl (.slice (some ⟨gc, o, none⟩) x.claims.length cx) (fun w' h => by have h : (IdS bx x.points x.bend (.slice (some ⟨gc, o, none⟩) x.claims.length cx) x.claims) w' := h; have h2 := XR.c2 h.1; go_simp) rfl ?_
        refine mix_pur2 rfl (fun K hK => ?_)
        go_simp
        first | refine ⟨_, fun _ => rfl, hK _ ?_⟩ | refine hK _ ?_
        clear hK K
        refine mix_load2 rfl rfl rfl (.slice (some ⟨gc, o, none⟩) x.claims.length cx) (fun w' h => by have h : (IdS bx x.points x.bend (.slice (some ⟨gc, o, none⟩) x.claims.length cx) x.claims) w' := h; have h2 := XR.c2 h.1; go_simp) rfl ?_
        refine mix_pur2 rfl (fun K hK => ?_)
        go_simp
        first | refine ⟨_, fun _ => rfl, hK _ ?_⟩ | refine hK _ ?_
        clear hK K
        refine mix_pur2 rfl (fun K hK => ?_)
        go_simp
        first | refine ⟨_, fun _ => rfl, hK _ ?_⟩ | refine hK _ ?_
        clear hK K
        refine mix_load2 rfl rfl rfl (.slice (some ⟨gc, o, none⟩) x.claims.length cx) (fun w' h => by have h : (IdS bx x.points x.bend (.slice (some ⟨gc, o, none⟩) x.claims.length cx) x.claims) w' := h; have h2 := XR.c2 h.1; go_simp) rfl ?_
        refine mix_pur2 rfl (fun K hK => ?_)
        go_simp
        first | refine ⟨_, fun _ => rfl, hK _ ?_⟩ | refine hK _ ?_
        clear hK K
        refine mix_pur2 rfl (fun K hK => ?_)
        go_simp
        first | refine ⟨_, fun _ => rfl, hK _ ?_⟩ | refine hK _ ?_
        clear hK K
        refine mix_eff2 rfl false rfl (fun K hK => ?_)
        go_simp
        refine (upto_c (hH5.qt hqd) (by omega) ((x.claims.length : Int) - 1) (by omega) (by omega)).mono ?_
        rintro e w6 ⟨⟨u, rfl, hu0, hu1⟩, ⟨k6, hk6, hH6⟩, hG6⟩
        obtain ⟨j, rfl⟩ : ∃ j : Nat, u = j := ⟨u.toNat, by omega⟩
        have hj : j < x.claims.length := by omega
        have hX6 := (hX5.qt hqd).hand hG6 (by omega)
        have hO6 := (hO5.qt hqd).step fun q hq hl hl2 => hG6.block q (by exact hl2) (fun e => by injection e with e; omega)
        have hB6 := bhand (hB5.trans (hqd.below _)) hG6 (Nat.le_refl _)
        have hC6 := Own.cls hO6
        refine hK _ _ ⟨hX6, hC6.wide fun _ _ _ => trivial⟩ ?_
        clear hK K
        refine mix_pur2 rfl (fun K hK => ?_)
        go_simp
        first | refine ⟨_, fun _ => rfl, hK _ ?_⟩ | refine hK _ ?_
        clear hK K
        refine mix_load2 rfl rfl rfl (.agg #[.int .i64 x.claims[j].kind, .int .i64 x.claims[j].point, .int .i64 x.claims[j].other, .int .i64 x.claims[j].off, .int .i64 x.claims[j].err]) (fun w' h => by have h : (IdS bx x.points x.bend (.slice (some ⟨gc, o, none⟩) x.claims.length cx) x.claims) w' := h; obtain ⟨d0, d1, d2, d3, d4⟩ := cls_at h.2 j hj; go_simp) rfl ?_
        refine mix_eff2 rfl false rfl (fun K hK => ?_)
        go_simp
        have hX7 := hX6.alloc (.cells #[.int .i64 x.claims[j].kind, .int .i64 x.claims[j].point, .int .i64 x.claims[j].other, .int .i64 x.claims[j].off, .int .i64 x.claims[j].err] 26)
        have hO7 := hO6.alloc (.cells #[.int .i64 x.claims[j].kind, .int .i64 x.claims[j].point, .int .i64 x.claims[j].other, .int .i64 x.claims[j].off, .int .i64 x.claims[j].err] 26)
        have hB7 := bal2 (o := .cells #[.int .i64 x.claims[j].kind, .int .i64 x.claims[j].point, .int .i64 x.claims[j].other, .int .i64 x.claims[j].off, .int .i64 x.claims[j].err] 26) hB6
        have hC7 := Own.cls hO7
        refine hK _ _ ⟨hX7, hC7.wide fun _ _ _ => trivial⟩ ?_
        clear hK K
        refine mix_eff2 rfl true rfl (fun K hK => ?_)
        have hbl := hX6.lt
        refine step_append_arr rfl _ _ 22 rfl 26 _ 5 40 Try.underlying22 Try.info26 rfl (by decide) (by decide) (by simp; omega) hO7 rfl (Own.arr (own_lit w6 26 5 #[.int .i64 x.claims[j].kind, .int .i64 x.claims[j].point, .int .i64 x.claims[j].other, .int .i64 x.claims[j].off, .int .i64 x.claims[j].err] 1 rfl (by omega))) rfl rfl (ccells_one _) (by omega) ?_
        intro v8 w8 hown hT
        obtain ⟨a8, c8, rfl⟩ := own_slice hown
        have hX8 := hX7.keep (hT.block _ (by simp; omega) (fun e => by have := (World.ownsRow.lt hO7 _ e); have := hgr _ e; omega))
        have hB8 := hT.below2 (B' := w.heap.size) hO7 hB7 (by simp; omega) (by omega)
        have e8 := hX8.cell 2
        have f8 := hX8.free 2
        refine hK _ _ trivial ?_
        clear hK K
        refine mix_pur2 rfl (fun K hK => ?_)
        go_simp
        first | refine ⟨_, fun _ => rfl, hK _ ?_⟩ | refine hK _ ?_
        clear hK K
        refine mix_eff2 rfl true rfl (fun K hK => ?_)
        go_simp
        refine hK _ _ trivial ?_
        clear hK K
        refine mix_done2 ?_
        have hX9 : Blk bx #[.int .i64 (x.add x.claims[j]).points, .int .i64 (x.add x.claims[j]).bend, .slice a8 (x.add x.claims[j]).claims.length c8] 24 (w8.setCell ⟨bx, 2, none⟩ (.slice a8 (x.claims.length + 1) c8)) := by
          have e : (x.add x.claims[j]).claims.length = x.claims.length + 1 := by unfold Edg.add; simp
          rw [e]
          exact hX8.set 2 (.slice a8 (x.claims.length + 1) c8)
        have hC9 : ClsM (fun q => w1.heap.size ≤ q) (w8.setCell ⟨bx, 2, none⟩ (.slice a8 (x.claims.length + 1) c8)) (.slice a8 (x.add x.claims[j]).claims.length c8) (x.add x.claims[j]).claims := by
          have e : (x.add x.claims[j]).claims.length = x.claims.length + 1 := by unfold Edg.add; simp
          rw [e]
          refine Own.cls ?_
          rw [e]
          unfold Edg.add
          rw [cls_snoc]
          exact hown.step fun q hq hl _ => Below.heap_setCell _ _ _ _ (own_ne hown hX8 q hq)
        have hB9 := hB8.setCell (p := ⟨bx, 2, none⟩) (by show w.heap.size ≤ bx; omega) (.slice a8 (x.claims.length + 1) c8)
        go_wp2_with fail
        go_meet
        case rel => exact ⟨_, a8, c8, add_ok hx (by omega) (hx.c _ (List.getElem_mem _)), hX9, hC9, hB9⟩
    case rest =>
      obtain ⟨y, ay, cy, hy, hY6, hC6, hB6⟩ := hcut
      rename World => w6
      clear hX5 hO5 hB5 hH5 hbm hx hx4 hx7 hm5 hgr
      have hym := hy.m
      have hck : ¬ checkX y ≠ 0 := not_not_intro (checkX_zero.2 hy)
      have c0 := hY6.cell 0
      have c1 := hY6.cell 1
      have c2 := hY6.cell 2
      have hid := idle_c hC6
      rw [show idleX y = (idleF y, 0) by unfold idleX; rw [if_neg hck]] at hid
      have HID := Lib.hid hid
      clear hid
      go_wp2_with fail
      refine HID.out.mono ?_
      rintro e w7 ⟨vl, rfl, hL7, hB7⟩
      have hY7 := hY6.call hB7
      have hC7 := hC6.call hB7
      have hBw7 := bnx hB6 hB7
      obtain ⟨al, cl, rfl, _, _⟩ := hL7.shape
      clear c0 c1 c2 HID hY6 hC6 hB6 hB7
      have c0 := hY7.cell 0
      have c1 := hY7.cell 1
      have c2 := hY7.cell 2
      have hcn := count25_c hC7
      rw [show countX y = (((truthsF y).length : Int), 0) by unfold countX; rw [if_neg hck]] at hcn
      have HCN := Lib.hid hcn
      clear hcn
      go_wp2_with fail
      refine HCN.out.mono ?_
      rintro e w8 ⟨rfl, hB8⟩
      have hY8 := hY7.call hB8
      have hC8 := hC7.call hB8
      have hL8 := hL7.call hB8
      have hBw8 := bnx hBw7 hB8
      clear c0 c1 c2 HCN hY7 hC7 hL7 hBw7 hB8
      obtain ⟨I, hI⟩ : ∃ I, I = castN (idleF y) := ⟨_, rfl⟩
      have hIl : I.length = (idleF y).length := by rw [hI, castN_len]
      rw [← hI] at hL8 ⊢
      have HI := Lib.hid hI
      obtain ⟨n0, hn0⟩ : ∃ n0 : Int, n0 = ((truthsF y).length : Int) := ⟨_, rfl⟩
      rw [← hn0]
      have HN0 := Lib.hid hn0
      clear hn0
      have HIL := Lib.hid hIl
      clear hI hIl
      go_wp2_with fail
      go_loopw [9, 10] (fun va vi wr => ∃ k : Nat, k ≤ y.claims.length ∧ vi = .int .i64 k ∧ va = .int .i64 ((idleK y k).length : Int) ∧ Below w8.heap.size w8 wr) (fun _ vi _ => y.claims.length - (intOf vi).toNat)
      case atStart => exact ⟨0, Nat.zero_le _, rfl, rfl, Below.refl _ _⟩
      case round =>
        obtain ⟨k, hk, rfl, rfl, hB⟩ := hrel
        have hYr := hY8.call hB
        have hCr := hC8.call hB
        have hLr := hL8.call hB
        have c0 := hYr.cell 0
        have c1 := hYr.cell 1
        have c2 := hYr.cell 2
        have hil := idleK_len y k
        by_cases hlt : k < y.claims.length
        · obtain ⟨w9, hw9⟩ : ∃ w9, w9 = wr.alloc (.cells #[.int .i64 (k : Int)] 3) := ⟨_, rfl⟩
          obtain ⟨b9, hb9⟩ : ∃ b, b = wr.heap.size := ⟨_, rfl⟩
          have hB9 : Below wr.heap.size wr w9 := by rw [hw9]; exact (Below.refl _ _).alloc (Nat.le_refl _) _
          have hS9 : Ints (fun q => wr.heap.size ≤ q) w9 (.slice (some ⟨b9, 0, none⟩) 1 1) [(k : Int)] := by rw [hw9, hb9]; exact arr_one wr 3 (.int .i64 (k : Int))
          have hC9 := hCr.call hB9
          have hpt := part_c hC9 hS9 (by omega) true
          rw [keep_one] at hpt
          have HPT := Lib.hid hpt
          clear hpt
          obtain ⟨N, hN⟩ : ∃ N, N = (idleK y k).length := ⟨_, rfl⟩
          rw [← hN] at hil ⊢
          have HN := Lib.hid hN
          clear hN
          go_wp2_with fail
          rw [← hw9, ← hb9]
          clear hw9 hb9
          refine HPT.out.mono ?_
          rintro e u1 ⟨v1, rfl, h1, hU1⟩
          have hcn := count25_c (x := partF y fun j => decide (j ≠ k)) h1
          rw [show countX (partF y fun j => decide (j ≠ k)) = (((truthsF (partF y fun j => decide (j ≠ k))).length : Int), 0) by unfold countX; rw [if_neg (not_not_intro (checkX_zero.2 (partF_ok hy _)))], show (partF y fun j => decide (j ≠ k)).points = y.points from rfl, show (partF y fun j => decide (j ≠ k)).bend = y.bend from rfl] at hcn
          have HCN := Lib.hid hcn
          clear hcn
          have hnl := idle_le2 y k
          have hbb : idleB y k = ((truthsF (partF y fun j => decide (j ≠ k))).length == (truthsF y).length) := rfl
          obtain ⟨n1, hn1⟩ : ∃ n1 : Int, n1 = ((truthsF (partF y fun j => decide (j ≠ k))).length : Int) := ⟨_, rfl⟩
          have hbe : idleB y k = (n1 == n0) := by rw [hbb, hn1, HN0.out, Bool.eq_iff_iff, beq_iff_eq, beq_iff_eq]; omega
          rw [← hn1] at HCN
          have HBB := Lib.hid hbe
          have hnd : decide (n1 < n0) = false := decide_eq_false (by rw [hn1, HN0.out]; omega)
          clear hn1 hbb hbe hnl
          go_wp2_with fail
          refine HCN.out.mono ?_
          rintro e u2 ⟨rfl, hU2⟩
          have hBu := bnx (bnx (bnx hB hB9) hU1) hU2
          have hLu := hL8.call hBu
          cases hib : idleB y k with
          | true =>
            have hq : (n1 == n0) = true := HBB.out.symm.trans hib
            obtain ⟨ha1, ha2⟩ := idle_at hlt hib
            rw [← HN.out] at ha1 ha2
            have hNI : N < I.length := by rw [HIL.out]; exact ha1
            have hat : ∀ h : N < I.length, I[N] = (k : Int) := by have e := HI.out; subst e; exact ha2
            obtain ⟨ga, oa, rfl, -, -, -⟩ := hLu.addr (by omega)
            have hcI := hLu.cell N hNI
            rw [hat hNI] at hcI
            have hge : decide (I.length ≤ N) = false := decide_eq_false (by omega)
            have bn : IntKind.i64.wrap ((N : Int) + 1) = (N : Int) + 1 := IntWalk.i64_in _ (by omega)
            clear ha1 ha2 hat
            go_wp2_with fail
            go_roundw
            case rel =>
              refine ⟨k + 1, by omega, by go_num, ?_, hBu⟩
              rw [idleK_succ, if_pos hib, List.length_append, ← HN.out]; rfl
            case measure => simp [intOf]; omega
          | false =>
            have hq : (n1 == n0) = false := HBB.out.symm.trans hib
            go_wp2_with fail
            go_roundw
            case rel =>
              refine ⟨k + 1, by omega, by go_num, ?_, hBu⟩
              rw [idleK_succ, hib, HN.out]; simp
            case measure => simp [intOf]; omega
        · obtain rfl : k = y.claims.length := by omega
          have hlq : (((idleK y y.claims.length).length : Int) == (I.length : Int)) = true := by rw [beq_iff_eq, HIL.out]; rfl
          go_wp2_with fail
          refine (surveyed_c _).mono ?_
          rintro e u6 ⟨rfl, hU6⟩
          go_wp2_with fail
          go_ret
          exact ⟨rfl, bnx (bnx hBw8 hB) hU6⟩

end Go.Proofs.Ytgdifckmjdjcpaa
