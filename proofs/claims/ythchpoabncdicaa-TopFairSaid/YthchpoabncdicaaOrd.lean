/- All words and all orders (mestakit.Words, mestalaw08.orders): slices of slices whose rows the call owns; conditions: at most four. -/
import Derived.Test.YthchpoabncdicaaO1
namespace Go.Proofs.Ythchpoabncdicaa
open Go.RowKit

/-- A slice of slices that the call has made; its rows lie apart from it, in blocks of A. -/
def GO (A : Nat → Prop) (B : Nat) (w : World) (v : Value) (out : List (List Int)) : Prop :=
  ∃ vs : List Value, vs.length = out.length ∧ Own B w 22 1 v out.length vs ∧ ∀ i (a : i < vs.length) (b : i < out.length), Ints (fun k => A k ∧ v.ownBlock ≠ some k) w vs[i] out[i]
theorem GO.nil (A : Nat → Prop) (B : Nat) (w : World) : GO A B w (.slice none 0 0) [] := ⟨[], rfl, Own.nil, fun i a => by simp at a⟩
theorem GO.call {A : Nat → Prop} {B : Nat} {w w' : World} {v : Value} {out : List (List Int)} (h : GO A B w v out) (hB : Below w.heap.size w w') : GO A B w' v out := by
  obtain ⟨vs, h1, h2, h3⟩ := h
  exact ⟨vs, h1, h2.step fun k _ _ hl => hB.block k hl, fun i a b => (h3 i a b).step hB.size fun k _ hl => hB.block k hl⟩
theorem GO.lt {A : Nat → Prop} {B : Nat} {w : World} {v : Value} {out : List (List Int)} (h : GO A B w v out) (q : Nat) (hq : v.ownBlock = some q) : q < w.heap.size := by
  obtain ⟨vs, _, ho, _⟩ := h
  exact (ho.lt q hq).2
theorem GO.grid {A C : Nat → Prop} {B : Nat} {w : World} {v : Value} {out : List (List Int)} (h : GO A B w v out) (hA : ∀ k, A k → C k) (hB : ∀ k, B ≤ k → C k) : Grid C w v out := by
  obtain ⟨vs, h1, h2, h3⟩ := h
  exact ⟨vs, h1, h2.arr.wide fun k hk _ => hB k hk, fun i a b => (h3 i a b).wide fun k hk _ => hA k hk.1⟩
theorem gput {A : Nat → Prop} {B : Nat} {w w3 : World} {v v' r : Value} {out : List (List Int)} {vs : List Value} {l : List Int} (h1 : vs.length = out.length)
    (h3 : ∀ i (a : i < vs.length) (b : i < out.length), Ints (fun k => A k ∧ v.ownBlock ≠ some k) w vs[i] out[i]) (hr : Ints (fun k => A k ∧ v.ownBlock ≠ some k) w r l)
    (ho : Own B w3 22 1 v' (out.length + 1) (vs ++ [r])) (hT : Turned (w.alloc (.cells #[r] 22)) w3 v v') : GO A B w3 v' (out ++ [l]) := by
  have hsz : (w.alloc (.cells #[r] 22)).heap.size = w.heap.size + 1 := by simp
  have hpl : ∀ k, k < w.heap.size + 1 → v.ownBlock ≠ some k → v'.ownBlock ≠ some k := fun k hk hv e => by
    rcases hT.place with e1 | e1
    · exact hv (e1 ▸ e)
    · rw [e1, hsz] at e; simp at e; omega
  have hs3 : w.heap.size + 1 ≤ w3.heap.size := by have := hT.size; omega
  have go : ∀ (u : Value) (x : List Int), Ints (fun k => A k ∧ v.ownBlock ≠ some k) w u x → Ints (fun k => A k ∧ v'.ownBlock ≠ some k) w3 u x := fun u x h =>
    ((h.wide (A' := fun k => A k ∧ v.ownBlock ≠ some k ∧ k < w.heap.size) fun k hk hl => ⟨hk.1, hk.2, hl⟩).step (w' := w3) (by omega) fun k hk hl => by
      rw [hT.block k (by omega) hk.2.1, Below.heap_alloc _ _ k hl]).wide fun k hk hl => ⟨hk.1, hpl k (by have := hk.2.2; omega) hk.2.1⟩
  refine ⟨vs ++ [r], by simp [h1], by simpa using ho, fun i a b => ?_⟩
  by_cases hi : i < vs.length
  · rw [List.getElem_append_left hi, List.getElem_append_left (by omega)]
    exact go _ _ (h3 i hi (by omega))
  · have hie : i = vs.length := by simp at a; omega
    subst hie
    have e1 : (vs ++ [r])[vs.length] = r := by simp
    have e2 : (out ++ [l])[vs.length] = l := by simp [h1]
    rw [e1, e2]
    exact go _ _ hr

def wordsL (n : Nat) : Nat → List (List Int)
  | 0 => [[]]
  | m + 1 => (List.range n).flatMap fun (i : Nat) => (wordsL n m).map fun t => (i : Int) :: t
theorem wordsL_len {n : Nat} (hn : n ≤ 4) : ∀ m, m ≤ 4 → (wordsL n m).length ≤ 256 ∧ (m ≤ 3 → (wordsL n m).length ≤ 64) := by
  have h : ∀ n < 5, ∀ m < 5, (wordsL n m).length ≤ 256 ∧ (m ≤ 3 → (wordsL n m).length ≤ 64) := by decide +kernel
  intro m hm
  exact h n (by omega) m (by omega)
theorem wordsL_at {n m : Nat} : ∀ l ∈ wordsL n m, l.length = m := by
  induction m with
  | zero => intro l hl; simp [wordsL] at hl; simp [hl]
  | succ m ih =>
    intro l hl
    simp only [wordsL, List.mem_flatMap, List.mem_map] at hl
    obtain ⟨i, _, t, ht, rfl⟩ := hl
    simp [ih t ht]
theorem words_more (i : Nat) (R : List (List Int)) (k : Nat) (hk : k < R.length) :
    ((List.range i).flatMap (fun (a : Nat) => R.map fun t => (a : Int) :: t) ++ (R.take k).map fun t => (i : Int) :: t) ++ [(i : Int) :: R[k]] = (List.range i).flatMap (fun (a : Nat) => R.map fun t => (a : Int) :: t) ++ (R.take (k + 1)).map fun t => (i : Int) :: t := by
  rw [List.append_assoc, List.take_succ_eq_append_getElem hk, List.map_append]
  rfl
theorem words_row (i : Nat) (R : List (List Int)) :
    (List.range i).flatMap (fun (a : Nat) => R.map fun t => (a : Int) :: t) ++ (R.take R.length).map (fun t => (i : Int) :: t) = (List.range (i + 1)).flatMap (fun (a : Nat) => R.map fun t => (a : Int) :: t) := by
  rw [List.take_length, List.range_succ, List.flatMap_append]
  simp
theorem words_len (i : Nat) (R : List (List Int)) : ((List.range i).flatMap (fun (a : Nat) => R.map fun t => (a : Int) :: t)).length = i * R.length := by
  induction i with
  | zero => simp
  | succ i ih => rw [List.range_succ, List.flatMap_append, List.length_append, ih, Nat.add_mul]; simp

set_option maxRecDepth 100000 in
set_option maxHeartbeats 2000000 in
theorem words_c {n : Nat} (hn : n ≤ 4) : ∀ (m : Nat), m ≤ 4 → ∀ w : World,
    Calls Try.prog 47 #[.int .i64 n, .int .i64 m] w fun e w' => ∃ v', e = .returned v' ∧ Grid (fun b => w.heap.size ≤ b) w' v' (wordsL n m) ∧ Below w.heap.size w w'
  | 0, _, w => by
    go_enter Try.func47, Try.ntmps47
    go_wp2
    go_ret
    refine ⟨_, rfl, ⟨[.slice none 0 0], rfl, arr_one w 22 _, fun i a b => ?_⟩, (Below.refl _ w).alloc (Nat.le_refl _) _⟩
    have : i = 0 := by simpa using a
    subst this
    exact ints_nil _ _
  | m + 1, hm, w => by
    have ih := words_c hn m (by omega) w
    have hRl := (wordsL_len hn m (by omega)).2 (by omega)
    have hRa := @wordsL_at n m
    have hR : wordsL n (m + 1) = (List.range n).flatMap fun (i : Nat) => (wordsL n m).map fun t => (i : Int) :: t := rfl
    rw [hR]
    generalize wordsL n m = R at ih hRl hRa ⊢
    clear hR
    have b1 : (((m + 1 : Nat) : Int) == 0) = false := by simp; omega
    have e1 : (((m + 1 : Nat) : Int) - 1) = (m : Int) := by simp
    have IH := Lib.hid ih
    have HRA := Lib.hid hRa
    clear ih hRa
    go_enter Try.func47, Try.ntmps47
    go_wp2_with fail
    refine IH.out.mono ?_
    rintro e w1 ⟨vr, rfl, hG, hB1⟩
    obtain ⟨ar, cr, rfl, _, _⟩ := hG.shape
    clear IH
    go_wp2_with fail
    go_loopw [5, 7] (fun s5 i wr => ∃ (k : Nat) (out : List (List Int)), k ≤ n ∧ i = .int .i64 k ∧ out = (List.range k).flatMap (fun (a : Nat) => R.map fun t => (a : Int) :: t) ∧ GO (fun b => w1.heap.size ≤ b) w1.heap.size wr s5 out ∧ Below w1.heap.size w1 wr) (fun _ i _ => n - (intOf i).toNat)
    case atStart => exact ⟨0, [], Nat.zero_le _, rfl, rfl, GO.nil _ _ _, Below.refl _ _⟩
    case round =>
      obtain ⟨i, out, hi, rfl, hout, hGo, hB⟩ := hrel
      have hol : out.length = i * R.length := by rw [hout]; exact words_len i R
      have hol2 : i * R.length ≤ 4 * 64 := Nat.mul_le_mul (by omega) hRl
      have houtb : out.length ≤ 256 := by omega
      clear hol hol2
      have HOUT := Lib.hid hout
      by_cases hlt : i < n
      · clear hout
        go_wp2_with fail
        go_loopw [5, 8] (fun s5 i2 wr => ∃ (k : Nat) (o2 : List (List Int)), k ≤ R.length ∧ i2 = .int .i64 k ∧ o2 = out ++ (R.take k).map (fun t => (i : Int) :: t) ∧ GO (fun b => w1.heap.size ≤ b) w1.heap.size wr s5 o2 ∧ Below w1.heap.size w1 wr) (fun _ i2 _ => R.length - (intOf i2).toNat)
        case atStart => exact ⟨0, out, Nat.zero_le _, rfl, by simp, hGo, hB⟩
        case round =>
          rename World => wr
          obtain ⟨k, o2, hk, rfl, ho2, hGx, hBx⟩ := hrel
          have ho2l : o2.length ≤ 400 := by rw [ho2]; simp; omega
          have HO2 := Lib.hid ho2
          clear ho2
          by_cases hkl : k < R.length
          · obtain ⟨br, or, rfl, -, hbr⟩ := hG.addr (by omega)
            obtain ⟨aw, cw, g1, hrow⟩ := (hG.call hBx).row k hkl
            have hll := HRA.out (R[k]) (List.getElem_mem hkl)
            have hsx := hBx.size
            have hBa := (Below.refl wr.heap.size wr).alloc (Nat.le_refl _) (.cells #[.int .i64 i] 3)
            have hL := own_lit wr 3 1 #[.int .i64 i] 1 rfl (by omega)
            have g2 := hrow.call hBa
            obtain ⟨l, hle⟩ : ∃ l, l = R[k] := ⟨_, rfl⟩
            rw [← hle] at g1 g2 hrow hll
            have HLE := Lib.hid hle
            clear hle
            have hl3 : l.length ≤ 3 := by omega
            clear hll
            have hbl : 1 + l.length ≤ 1000 := by omega
            have hbr2 : br < wr.heap.size := by omega
            have g1 := (World.cell?_of_block (Below.heap_alloc wr (.cells #[.int .i64 i] 3) br hbr2)).trans g1
            go_wp2_with (at_builtin; first | (refine wpList_append_arr rfl _ _ 22 rfl 3 (.int .i64 0) 1 8 Try.underlying22 Try.info3 rfl (by decide) (by decide) (by simp) hL rfl g2 rfl (by rw [I64_len, Nat.mul_one]) (ints_one l) (by omega) ?_; intro v1 w2 hown hT1; have hB2 : Below wr.heap.size wr w2 := hT1.below hL hBa (by simp); have hs2 := hB2.size; have hown : Own wr.heap.size w2 3 1 v1 (1 + l.length) (I64 ((i : Int) :: l)) := hown; have hrw : Ints (fun k => wr.heap.size ≤ k) w2 v1 ((i : Int) :: l) := Own.ints hown; obtain ⟨a1, k1, rfl⟩ := own_slice hown; obtain ⟨vs, hv1, ho, hrows⟩ := hGx.call hB2; have hvl : ∀ q, u5.ownBlock = some q → q < wr.heap.size := fun q hq => (GO.lt hGx q hq); have hrr := hrw.wide (A' := fun q => w1.heap.size ≤ q ∧ u5.ownBlock ≠ some q) fun q hq _ => ⟨by omega, fun e => by have := hvl q e; omega⟩; obtain ⟨ax, cx, rfl⟩ := own_slice ho; have hoa := ho.alloc (.cells #[.slice a1 (1 + l.length) k1] 22); have ha := arr_one w2 22 (.slice a1 (1 + l.length) k1); clear hown hrw hL g2 hrow hT1) | (refine wpList_append_arr rfl _ _ 35 rfl 22 (.slice none 0 0) 1 24 Try.under35 Try.info22 rfl (by decide) (by decide) (by simp; omega) hoa rfl ha rfl rfl (one_slice _ _ _) (by omega) ?_; intro v2 w3 hown2 hT2))
            have hGn := gput hv1 hrows hrr hown2 hT2
            have hB3 : Below w1.heap.size w1 w3 := hT2.below hoa (hBx.trans ((hB2.mono hsx).alloc (by have := hB2.size; omega) _)) (by have := hB2.size; simp; omega)
            go_roundw
            case rel =>
              refine ⟨k + 1, _, by omega, by go_num, ?_, hGn, hB3⟩
              rw [HO2.out, HLE.out, List.take_succ_eq_append_getElem hkl, List.map_append, List.append_assoc]
              rfl
            case measure => simp [intOf]; omega
          · obtain rfl : k = R.length := by omega
            go_wp2
            go_roundw
            case rel =>
              refine ⟨i + 1, o2, by omega, by go_num, ?_, hGx, hBx⟩
              rw [HO2.out, HOUT.out]
              exact words_row i R
            case measure => simp [intOf]; omega
      · obtain rfl : i = n := by omega
        subst hout
        go_wp2
        go_ret
        exact ⟨_, rfl, hGo.grid (fun k hk => by have := hB1.size; omega) (fun k hk => by have := hB1.size; omega), bnx hB1 hB⟩

def allN (l : List Int) (j : Nat) : Bool := (List.range j).all fun (k : Nat) => decide (0 ≤ placeOf l (k : Int))
theorem allN_succ (l : List Int) (j : Nat) : allN l (j + 1) = (allN l j && decide (0 ≤ placeOf l (j : Int))) := by simp [allN, List.range_succ]
def ordersL (n : Nat) : List (List Int) := (wordsL n n).filter fun l => allN l n
theorem filter_take (p : List Int → Bool) (R : List (List Int)) (k : Nat) (hk : k < R.length) : (R.take (k + 1)).filter p = (R.take k).filter p ++ (if p R[k] then [R[k]] else []) := by
  rw [List.take_succ_eq_append_getElem hk, List.filter_append, List.filter_cons, List.filter_nil]

set_option maxRecDepth 100000 in
set_option maxHeartbeats 2000000 in
theorem orders_c {n : Nat} (hn : n ≤ 4) (w : World) :
    Calls Try.prog 43 #[.int .i64 n] w fun e w' => ∃ v', e = .returned v' ∧ Grid (fun b => w.heap.size ≤ b) w' v' (ordersL n) ∧ Below w.heap.size w w' := by
  have ih := words_c hn n hn w
  have hRl := (wordsL_len hn n hn).1
  have hR : ordersL n = (wordsL n n).filter fun l => allN l n := rfl
  rw [hR]
  generalize wordsL n n = R at ih hRl ⊢
  clear hR
  have IH := Lib.hid ih
  clear ih
  go_enter Try.func43, Try.ntmps43
  go_wp2_with fail
  refine IH.out.mono ?_
  rintro e w1 ⟨vr, rfl, hG, hB1⟩
  have hG := hG.wide (A' := fun q => w.heap.size ≤ q ∧ q < w1.heap.size) fun k hk hl => ⟨hk, hl⟩
  obtain ⟨ar, cr, rfl, _, _⟩ := hG.shape
  clear IH
  go_wp2_with fail
  go_loopw [4, 5] (fun s4 i wr => ∃ (k : Nat) (out : List (List Int)), k ≤ R.length ∧ i = .int .i64 k ∧ out = (R.take k).filter (fun l => allN l n) ∧ GO (fun b => w.heap.size ≤ b) w1.heap.size wr s4 out ∧ Below w1.heap.size w1 wr) (fun _ i _ => R.length - (intOf i).toNat)
  case atStart => exact ⟨0, [], Nat.zero_le _, rfl, rfl, GO.nil _ _ _, Below.refl _ _⟩
  case round =>
    obtain ⟨k, out, hk, rfl, hout, hGo, hB⟩ := hrel
    have houtb : out.length ≤ 256 := by
      rw [hout]
      have h1 := List.length_filter_le (fun l => allN l n) (R.take k)
      have h2 := List.length_take_le k R
      omega
    have HOUT := Lib.hid hout
    clear hout
    by_cases hkl : k < R.length
    · obtain ⟨br, or, rfl, -, hbr⟩ := hG.addr (by omega)
      obtain ⟨aw, cw, g1, hrow⟩ := (hG.call hB).row k hkl
      have hf := filter_take (fun l => allN l n) R k hkl
      obtain ⟨l, hle⟩ : ∃ l, l = R[k] := ⟨_, rfl⟩
      rw [← hle] at g1 hrow hf
      have HF := Lib.hid hf
      have hsx := hB.size
      clear hle hf
      go_wp2_with fail
      go_loopw [6, 7] (fun s6 s7 wx => ∃ j : Nat, j ≤ n ∧ s7 = .int .i64 j ∧ s6 = .bool (allN l j) ∧ Qt wr wx) (fun _ s7 _ => n - (intOf s7).toNat)
      case atStart => exact ⟨0, Nat.zero_le _, rfl, rfl, Qt.refl _⟩
      case round =>
        rename World => wx
        obtain ⟨j, hj, rfl, rfl, hq⟩ := hrel
        have g2 : wx.cell? ⟨br, or + k, none⟩ = some (.slice aw l.length cw) := by
          obtain ⟨q, rfl⟩ := hq
          exact g1
        by_cases hjn : j < n
        · have hpc := place_c (j : Int) (hrow.qt hq)
          have has := allN_succ l j
          obtain ⟨p, hp⟩ : ∃ p, p = placeOf l (j : Int) := ⟨_, rfl⟩
          rw [← hp] at hpc has
          cases hb : allN l j with
          | true =>
            rw [hb, Bool.true_and] at has
            have HPC := Lib.hid hpc
            have HB := Lib.hid hb
            by_cases hp0 : 0 ≤ p
            · rw [decide_eq_true hp0] at has
              have HAS := Lib.hid has
              have b1 : decide (p ≥ 0) = true := decide_eq_true hp0
              clear hp has hpc hb
              go_wp2_with (go_at_call 57; refine HPC.out.mono ?_; rintro e w2 ⟨rfl, hq1⟩)
              go_roundw
              case rel => exact ⟨j + 1, by omega, by go_num, by rw [HAS.out], hq.trans hq1⟩
              case measure => simp [intOf]; omega
            · rw [decide_eq_false hp0] at has
              have HAS := Lib.hid has
              have b1 : decide (p ≥ 0) = false := decide_eq_false hp0
              have b2 : p < 0 := by omega
              clear hp has hpc hb
              go_wp2_with (go_at_call 57; refine HPC.out.mono ?_; rintro e w2 ⟨rfl, hq1⟩)
              go_roundw
              case rel => exact ⟨j + 1, by omega, by go_num, by rw [HAS.out], hq.trans hq1⟩
              case measure => simp [intOf]; omega
          | false =>
            rw [hb, Bool.false_and] at has
            have HAS := Lib.hid has
            clear hp has hpc hb
            go_wp2_with fail
            go_roundw
            case rel => exact ⟨j + 1, by omega, by go_num, by rw [HAS.out], hq⟩
            case measure => simp [intOf]; omega
        · obtain rfl : j = n := by omega
          have hGx : GO (fun b => w.heap.size ≤ b) w1.heap.size wx u4 out := by
            obtain ⟨q, rfl⟩ := hq
            exact hGo.call (below_drewN (Below.refl _ _) q)
          have hBx := hB.trans (hq.below w1.heap.size)
          have hsz := hBx.size
          cases hb : allN l j with
          | true =>
            have hrq := (hrow.qt hq)
            obtain ⟨vs, hv1, ho, hrows⟩ := hGx
            have hrr := hrq.wide (A' := fun q => w.heap.size ≤ q ∧ u4.ownBlock ≠ some q) fun q hq _ => ⟨hq.1, fun e => by have := (ho.lt q e).1; have := hq.2; omega⟩
            obtain ⟨ax, cx, rfl⟩ := own_slice ho
            have hoa := ho.alloc (.cells #[.slice aw l.length cw] 22)
            have ha := arr_one wx 22 (.slice aw l.length cw)
            have HB := Lib.hid hb
            clear hb
            go_wp2_with (at_builtin; refine wpList_append_arr rfl _ _ 35 rfl 22 (.slice none 0 0) 1 24 Try.under35 Try.info22 rfl (by decide) (by decide) (by simp; omega) hoa rfl ha rfl rfl (one_slice _ _ _) (by omega) ?_; intro v2 w3 hown2 hT2)
            have hGn := gput hv1 hrows hrr hown2 hT2
            have hB3 : Below w1.heap.size w1 w3 := hT2.below hoa (hBx.alloc hsz _) (by simp; omega)
            go_roundw
            case rel =>
              refine ⟨k + 1, _, by omega, by go_num, ?_, hGn, hB3⟩
              rw [HF.out, HOUT.out, HB.out]
              rfl
            case measure => simp [intOf]; omega
          | false =>
            have HB := Lib.hid hb
            clear hb
            go_wp2_with fail
            go_roundw
            case rel =>
              refine ⟨k + 1, out, by omega, by go_num, ?_, hGx, hBx⟩
              rw [HF.out, HOUT.out, HB.out]
              simp
            case measure => simp [intOf]; omega
    · obtain rfl : k = R.length := by omega
      have hfin := HOUT.out
      rw [List.take_length] at hfin
      subst hfin
      go_wp2
      go_ret
      exact ⟨_, rfl, hGo.grid (fun k hk => hk) (fun k hk => by have := hB1.size; omega), bnx hB1 hB⟩

theorem orders_perm {n : Nat} (hn : n ≤ 4) : ∀ l ∈ ordersL n, PermOf n l := by
  have h : ∀ n < 5, ∀ l ∈ ordersL n, l.isPerm (iota n) = true := by decide +kernel
  exact fun l hl => List.isPerm_iff.1 (h n (by omega) l hl)

end Go.Proofs.Ythchpoabncdicaa
