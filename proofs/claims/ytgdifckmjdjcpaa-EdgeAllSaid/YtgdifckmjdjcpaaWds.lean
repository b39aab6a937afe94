/- All lists of offsets (mestakit.Words) and the truths among them (mestalaw06.truths); conditions: an edge of at most three points. -/
import Derived.Test.YtgdifckmjdjcpaaPick
import Derived.Test.YtgdifckmjdjcpaaSo
import Derived.Test.YtgdifckmjdjcpaaClm
namespace Go.Proofs.Ytgdifckmjdjcpaa
open Go.RowKit

def wordsL (n : Nat) : Nat → List (List Int)
  | 0 => [[]]
  | m + 1 => (List.range n).flatMap fun (i : Nat) => (wordsL n m).map fun t => (i : Int) :: t
theorem words_len (i : Nat) (R : List (List Int)) : ((List.range i).flatMap (fun (a : Nat) => R.map fun t => (a : Int) :: t)).length = i * R.length := by
  induction i with
  | zero => simp
  | succ i ih => rw [List.range_succ, List.flatMap_append, List.length_append, ih, Nat.add_mul]; simp
theorem wordsL_pow (n : Nat) : ∀ m, (wordsL n m).length = n ^ m
  | 0 => rfl
  | m + 1 => by
    unfold wordsL
    rw [words_len, wordsL_pow n m, Nat.pow_succ, Nat.mul_comm]
theorem wordsL_len {n : Nat} (hn : n ≤ 10) : ∀ m, m ≤ 3 → (wordsL n m).length ≤ 1000 ∧ (m ≤ 2 → (wordsL n m).length ≤ 100) := by
  intro m hm
  rw [wordsL_pow]
  have h1 := Nat.pow_le_pow_left hn m
  refine ⟨Nat.le_trans h1 (Nat.le_trans (Nat.pow_le_pow_right (by decide) hm) (by decide)), fun h2 => Nat.le_trans h1 (Nat.le_trans (Nat.pow_le_pow_right (by decide) h2) (by decide))⟩
theorem wordsL_at {n m : Nat} : ∀ l ∈ wordsL n m, l.length = m := by
  induction m with
  | zero => intro l hl; simp [wordsL] at hl; simp [hl]
  | succ m ih =>
    intro l hl
    simp only [wordsL, List.mem_flatMap, List.mem_map] at hl
    obtain ⟨i, _, t, ht, rfl⟩ := hl
    simp [ih t ht]
theorem words_more (i : Nat) (R : List (List Int)) (k : Nat) (hk : k < R.length) :
    ((List.range i).flatMap (fun (a : Nat) => R.map fun t => (a : Int) :: t) ++ (R.take k).map fun t => (i : Int) :: t) ++ [(i : Int) :: R[k]] = (List.range i).flatMap (fun (a : Nat) => R.map fun t => (a : Int) :: t) ++ (R.take (k + 1)).map fun t => (i : Int) :: t := by
  rw [List.append_assoc, List.take_succ_eq_append_getElem hk, List.map_append]
  rfl
theorem words_row (i : Nat) (R : List (List Int)) :
    (List.range i).flatMap (fun (a : Nat) => R.map fun t => (a : Int) :: t) ++ (R.take R.length).map (fun t => (i : Int) :: t) = (List.range (i + 1)).flatMap (fun (a : Nat) => R.map fun t => (a : Int) :: t) := by
  rw [List.take_length, List.range_succ, List.flatMap_append]
  simp
set_option maxRecDepth 100000 in
set_option maxHeartbeats 2000000 in
theorem words_c {n : Nat} (hn : n ≤ 10) : ∀ (m : Nat), m ≤ 3 → ∀ w : World,
    Calls Try.prog 93 #[.int .i64 n, .int .i64 m] w fun e w' => ∃ v', e = .returned v' ∧ Grid (fun b => w.heap.size ≤ b) w' v' (wordsL n m) ∧ Below w.heap.size w w'
  | 0, _, w => by
    go_enter Try.func93, Try.ntmps93
    go_wp2
    go_ret
    refine ⟨_, rfl, ⟨[.slice none 0 0], rfl, arr_one w 27 _, fun i a b => ?_⟩, (Below.refl _ w).alloc (Nat.le_refl _) _⟩
    have : i = 0 := by simpa using a
    subst this
    exact ints_nil _ _
  | m + 1, hm, w => by
    have ih := words_c hn m (by omega) w
    have hRl := (wordsL_len hn m (by omega)).2 (by omega)
    have hRa := @wordsL_at n m
    have hR : wordsL n (m + 1) = (List.range n).flatMap fun (i : Nat) => (wordsL n m).map fun t => (i : Int) :: t := rfl
    rw [hR]
    generalize wordsL n m = R at ih hRl hRa ⊢
    clear hR
    have b1 : (((m + 1 : Nat) : Int) == 0) = false := by simp; omega
    have e1 : (((m + 1 : Nat) : Int) - 1) = (m : Int) := by simp
    have IH := Lib.hid ih
    have HRA := Lib.hid hRa
    clear ih hRa
    go_enter Try.func93, Try.ntmps93
    go_wp2_with fail
    refine IH.out.mono ?_
    rintro e w1 ⟨vr, rfl, hG, hB1⟩
    obtain ⟨ar, cr, rfl, _, _⟩ := hG.shape
    clear IH
    go_wp2_with fail
    go_loopw [5, 7] (fun s5 i wr => ∃ (k : Nat) (out : List (List Int)), k ≤ n ∧ i = .int .i64 k ∧ out = (List.range k).flatMap (fun (a : Nat) => R.map fun t => (a : Int) :: t) ∧ GO (fun b => w1.heap.size ≤ b) w1.heap.size wr s5 out ∧ Below w1.heap.size w1 wr) (fun _ i _ => n - (intOf i).toNat)
    case atStart => exact ⟨0, [], Nat.zero_le _, rfl, rfl, GO.nil _ _ _, Below.refl _ _⟩
    case round =>
      obtain ⟨i, out, hi, rfl, hout, hGo, hB⟩ := hrel
      have hol : out.length = i * R.length := by rw [hout]; exact words_len i R
      have hol2 : i * R.length ≤ 10 * 100 := Nat.mul_le_mul (by omega) hRl
      have houtb : out.length ≤ 1000 := by omega
      clear hol hol2
      have HOUT := Lib.hid hout
      by_cases hlt : i < n
      · clear hout
        go_wp2_with fail
        go_loopw [5, 8] (fun s5 i2 wr => ∃ (k : Nat) (o2 : List (List Int)), k ≤ R.length ∧ i2 = .int .i64 k ∧ o2 = out ++ (R.take k).map (fun t => (i : Int) :: t) ∧ GO (fun b => w1.heap.size ≤ b) w1.heap.size wr s5 o2 ∧ Below w1.heap.size w1 wr) (fun _ i2 _ => R.length - (intOf i2).toNat)
        case atStart => exact ⟨0, out, Nat.zero_le _, rfl, by simp, hGo, hB⟩
        case round =>
          rename World => wr
          obtain ⟨k, o2, hk, rfl, ho2, hGx, hBx⟩ := hrel
          have ho2l : o2.length ≤ 1100 := by rw [ho2]; simp; omega
          have HO2 := Lib.hid ho2
          clear ho2
          by_cases hkl : k < R.length
          · obtain ⟨br, or, rfl, -, hbr⟩ := hG.addr (by omega)
            obtain ⟨aw, cw, g1, hrow⟩ := (hG.call hBx).row k hkl
            have hll := HRA.out (R[k]) (List.getElem_mem hkl)
            have hsx := hBx.size
            have hBa := (Below.refl wr.heap.size wr).alloc (Nat.le_refl _) (.cells #[.int .i64 i] 3)
            have hL := own_lit wr 3 1 #[.int .i64 i] 1 rfl (by omega)
            have g2 := hrow.call hBa
            obtain ⟨l, hle⟩ : ∃ l, l = R[k] := ⟨_, rfl⟩
            rw [← hle] at g1 g2 hrow hll
            have HLE := Lib.hid hle
            clear hle
            have hl3 : l.length ≤ 3 := by omega
            clear hll
            have hbl : 1 + l.length ≤ 1000 := by omega
            have hbr2 : br < wr.heap.size := by omega
            have g1 := (World.cell?_of_block (Below.heap_alloc wr (.cells #[.int .i64 i] 3) br hbr2)).trans g1
            go_wp2_with (at_builtin; first | (refine wpList_append_arr rfl _ _ 27 rfl 3 (.int .i64 0) 1 8 Try.underlying27 Try.info3 rfl (by decide) (by decide) (by simp) hL rfl g2 rfl (by rw [I64_len, Nat.mul_one]) (ints_one l) (by omega) ?_; intro v1 w2 hown hT1; have hB2 : Below wr.heap.size wr w2 := hT1.below hL hBa (by simp); have hs2 := hB2.size; have hown : Own wr.heap.size w2 3 1 v1 (1 + l.length) (I64 ((i : Int) :: l)) := hown; have hrw : Ints (fun k => wr.heap.size ≤ k) w2 v1 ((i : Int) :: l) := Own.ints hown; obtain ⟨a1, k1, rfl⟩ := own_slice hown; obtain ⟨vs, hv1, ho, hrows⟩ := hGx.call hB2; have hvl : ∀ q, u5.ownBlock = some q → q < wr.heap.size := fun q hq => (GO.lt hGx q hq); have hrr := hrw.wide (A' := fun q => w1.heap.size ≤ q ∧ u5.ownBlock ≠ some q) fun q hq _ => ⟨by omega, fun e => by have := hvl q e; omega⟩; obtain ⟨ax, cx, rfl⟩ := own_slice ho; have hoa := ho.alloc (.cells #[.slice a1 (1 + l.length) k1] 27); have ha := arr_one w2 27 (.slice a1 (1 + l.length) k1); clear hown hrw hL g2 hrow hT1) | (refine wpList_append_arr rfl _ _ 61 rfl 27 (.slice none 0 0) 1 24 Try.under61 Try.info27 rfl (by decide) (by decide) (by simp; omega) hoa rfl ha rfl rfl (one_slice _ _ _) (by omega) ?_; intro v2 w3 hown2 hT2))
            have hGn := gput hv1 hrows hrr hown2 hT2
            have hB3 : Below w1.heap.size w1 w3 := hT2.below hoa (hBx.trans ((hB2.mono hsx).alloc (by have := hB2.size; omega) _)) (by have := hB2.size; simp; omega)
            go_roundw
            case rel =>
              refine ⟨k + 1, _, by omega, by go_num, ?_, hGn, hB3⟩
              rw [HO2.out, HLE.out, List.take_succ_eq_append_getElem hkl, List.map_append, List.append_assoc]
              rfl
            case measure => simp [intOf]; omega
          · obtain rfl : k = R.length := by omega
            go_wp2
            go_roundw
            case rel =>
              refine ⟨i + 1, o2, by omega, by go_num, ?_, hGx, hBx⟩
              rw [HO2.out, HOUT.out]
              exact words_row i R
            case measure => simp [intOf]; omega
      · obtain rfl : i = n := by omega
        subst hout
        go_wp2
        go_ret
        exact ⟨_, rfl, hGo.grid (fun k hk => by have := hB1.size; omega) (fun k hk => by have := hB1.size; omega), bnx hB1 hB⟩

theorem wordsL_words : ∀ m, wordsL 10 m = wordsF m
  | 0 => rfl
  | m + 1 => by
    unfold wordsL wordsF
    rw [wordsL_words m]
    have e : rng 0 9 = (List.range 10).map fun i : Nat => (i : Int) := by
      unfold rng
      refine List.map_congr_left fun i _ => ?_
      omega
    rw [e, List.flatMap_map]
theorem filter_take {α : Type} (p : α → Bool) (R : List α) (k : Nat) (hk : k < R.length) : (R.take (k + 1)).filter p = (R.take k).filter p ++ (if p R[k] then [R[k]] else []) := by
  rw [List.take_succ_eq_append_getElem hk, List.filter_append, List.filter_cons, List.filter_nil]
theorem words_in : ∀ m, ∀ l ∈ wordsF m, l.length = m ∧ ∀ u ∈ l, 0 ≤ u ∧ u ≤ 9
  | 0, l, h => by
    have : l = [] := by simpa [wordsF] using h
    subst this
    simp
  | m + 1, l, h => by
    unfold wordsF at h
    simp only [List.mem_flatMap, List.mem_map] at h
    obtain ⟨i, hi, t, ht, rfl⟩ := h
    have ih := words_in m t ht
    refine ⟨by simp [ih.1], fun u hu => ?_⟩
    rcases List.mem_cons.1 hu with rfl | hu
    · exact mem_rng.1 hi
    · exact ih.2 u hu

end Go.Proofs.Ytgdifckmjdjcpaa
