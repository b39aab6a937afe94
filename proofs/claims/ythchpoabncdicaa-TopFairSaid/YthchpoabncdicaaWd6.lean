/- Words of up to six letters, whole lists, and which list is ahead (mestakit.Words, Ahead, mestalaw08.whole); conditions: as said. -/
import Derived.Test.YthchpoabncdicaaOrd
namespace Go.Proofs.Ythchpoabncdicaa
open Go.RowKit

theorem wordsL_len6 {n : Nat} (hn : n ≤ 6) : ∀ m, m ≤ 3 → (wordsL n m).length ≤ 256 ∧ (m ≤ 2 → (wordsL n m).length ≤ 40) := by
  have h : ∀ n < 7, ∀ m < 4, (wordsL n m).length ≤ 256 ∧ (m ≤ 2 → (wordsL n m).length ≤ 40) := by decide +kernel
  intro m hm
  exact h n (by omega) m (by omega)

set_option maxRecDepth 100000 in
set_option maxHeartbeats 2000000 in
theorem words6_c {n : Nat} (hn : n ≤ 6) : ∀ (m : Nat), m ≤ 3 → ∀ w : World,
    Calls Try.prog 47 #[.int .i64 n, .int .i64 m] w fun e w' => ∃ v', e = .returned v' ∧ Grid (fun b => w.heap.size ≤ b) w' v' (wordsL n m) ∧ Below w.heap.size w w'
  | 0, _, w => by
    go_enter Try.func47, Try.ntmps47
    go_wp2
    go_ret
    refine ⟨_, rfl, ⟨[.slice none 0 0], rfl, arr_one w 22 _, fun i a b => ?_⟩, (Below.refl _ w).alloc (Nat.le_refl _) _⟩
    have : i = 0 := by simpa using a
    subst this
    exact ints_nil _ _
  | m + 1, hm, w => by
    have ih := words6_c hn m (by omega) w
    have hRl := (wordsL_len6 hn m (by omega)).2 (by omega)
    have hRa := @wordsL_at n m
    have hR : wordsL n (m + 1) = (List.range n).flatMap fun (i : Nat) => (wordsL n m).map fun t => (i : Int) :: t := rfl
    rw [hR]
    generalize wordsL n m = R at ih hRl hRa ⊢
    clear hR
    have b1 : (((m + 1 : Nat) : Int) == 0) = false := by simp; omega
    have e1 : (((m + 1 : Nat) : Int) - 1) = (m : Int) := by simp
    have IH := Lib.hid ih
    have HRA := Lib.hid hRa
    clear ih hRa
    go_enter Try.func47, Try.ntmps47
    go_wp2_with fail
    refine IH.out.mono ?_
    rintro e w1 ⟨vr, rfl, hG, hB1⟩
    obtain ⟨ar, cr, rfl, _, _⟩ := hG.shape
    clear IH
    go_wp2_with fail
    go_loopw [5, 7] (fun s5 i wr => ∃ (k : Nat) (out : List (List Int)), k ≤ n ∧ i = .int .i64 k ∧ out = (List.range k).flatMap (fun (a : Nat) => R.map fun t => (a : Int) :: t) ∧ GO (fun b => w1.heap.size ≤ b) w1.heap.size wr s5 out ∧ Below w1.heap.size w1 wr) (fun _ i _ => n - (intOf i).toNat)
    case atStart => exact ⟨0, [], Nat.zero_le _, rfl, rfl, GO.nil _ _ _, Below.refl _ _⟩
    case round =>
      obtain ⟨i, out, hi, rfl, hout, hGo, hB⟩ := hrel
      have hol : out.length = i * R.length := by rw [hout]; exact words_len i R
      have hol2 : i * R.length ≤ 6 * 40 := Nat.mul_le_mul (by omega) hRl
      have houtb : out.length ≤ 256 := by omega
      clear hol hol2
      have HOUT := Lib.hid hout
      by_cases hlt : i < n
      · clear hout
        go_wp2_with fail
        go_loopw [5, 8] (fun s5 i2 wr => ∃ (k : Nat) (o2 : List (List Int)), k ≤ R.length ∧ i2 = .int .i64 k ∧ o2 = out ++ (R.take k).map (fun t => (i : Int) :: t) ∧ GO (fun b => w1.heap.size ≤ b) w1.heap.size wr s5 o2 ∧ Below w1.heap.size w1 wr) (fun _ i2 _ => R.length - (intOf i2).toNat)
        case atStart => exact ⟨0, out, Nat.zero_le _, rfl, by simp, hGo, hB⟩
        case round =>
          rename World => wr
          obtain ⟨k, o2, hk, rfl, ho2, hGx, hBx⟩ := hrel
          have ho2l : o2.length ≤ 400 := by rw [ho2]; simp; omega
          have HO2 := Lib.hid ho2
          clear ho2
          by_cases hkl : k < R.length
          · obtain ⟨br, or, rfl, -, hbr⟩ := hG.addr (by omega)
            obtain ⟨aw, cw, g1, hrow⟩ := (hG.call hBx).row k hkl
            have hll := HRA.out (R[k]) (List.getElem_mem hkl)
            have hsx := hBx.size
            have hBa := (Below.refl wr.heap.size wr).alloc (Nat.le_refl _) (.cells #[.int .i64 i] 3)
            have hL := own_lit wr 3 1 #[.int .i64 i] 1 rfl (by omega)
            have g2 := hrow.call hBa
            obtain ⟨l, hle⟩ : ∃ l, l = R[k] := ⟨_, rfl⟩
            rw [← hle] at g1 g2 hrow hll
            have HLE := Lib.hid hle
            clear hle
            have hl3 : l.length ≤ 3 := by omega
            clear hll
            have hbl : 1 + l.length ≤ 1000 := by omega
            have hbr2 : br < wr.heap.size := by omega
            have g1 := (World.cell?_of_block (Below.heap_alloc wr (.cells #[.int .i64 i] 3) br hbr2)).trans g1
            go_wp2_with (at_builtin; first | (refine wpList_append_arr rfl _ _ 22 rfl 3 (.int .i64 0) 1 8 Try.underlying22 Try.info3 rfl (by decide) (by decide) (by simp) hL rfl g2 rfl (by rw [I64_len, Nat.mul_one]) (ints_one l) (by omega) ?_; intro v1 w2 hown hT1; have hB2 : Below wr.heap.size wr w2 := hT1.below hL hBa (by simp); have hs2 := hB2.size; have hown : Own wr.heap.size w2 3 1 v1 (1 + l.length) (I64 ((i : Int) :: l)) := hown; have hrw : Ints (fun k => wr.heap.size ≤ k) w2 v1 ((i : Int) :: l) := Own.ints hown; obtain ⟨a1, k1, rfl⟩ := own_slice hown; obtain ⟨vs, hv1, ho, hrows⟩ := hGx.call hB2; have hvl : ∀ q, u5.ownBlock = some q → q < wr.heap.size := fun q hq => (GO.lt hGx q hq); have hrr := hrw.wide (A' := fun q => w1.heap.size ≤ q ∧ u5.ownBlock ≠ some q) fun q hq _ => ⟨by omega, fun e => by have := hvl q e; omega⟩; obtain ⟨ax, cx, rfl⟩ := own_slice ho; have hoa := ho.alloc (.cells #[.slice a1 (1 + l.length) k1] 22); have ha := arr_one w2 22 (.slice a1 (1 + l.length) k1); clear hown hrw hL g2 hrow hT1) | (refine wpList_append_arr rfl _ _ 35 rfl 22 (.slice none 0 0) 1 24 Try.under35 Try.info22 rfl (by decide) (by decide) (by simp; omega) hoa rfl ha rfl rfl (one_slice _ _ _) (by omega) ?_; intro v2 w3 hown2 hT2))
            have hGn := gput hv1 hrows hrr hown2 hT2
            have hB3 : Below w1.heap.size w1 w3 := hT2.below hoa (hBx.trans ((hB2.mono hsx).alloc (by have := hB2.size; omega) _)) (by have := hB2.size; simp; omega)
            go_roundw
            case rel =>
              refine ⟨k + 1, _, by omega, by go_num, ?_, hGn, hB3⟩
              rw [HO2.out, HLE.out, List.take_succ_eq_append_getElem hkl, List.map_append, List.append_assoc]
              rfl
            case measure => simp [intOf]; omega
          · obtain rfl : k = R.length := by omega
            go_wp2
            go_roundw
            case rel =>
              refine ⟨i + 1, o2, by omega, by go_num, ?_, hGx, hBx⟩
              rw [HO2.out, HOUT.out]
              exact words_row i R
            case measure => simp [intOf]; omega
      · obtain rfl : i = n := by omega
        subst hout
        go_wp2
        go_ret
        exact ⟨_, rfl, hGo.grid (fun k hk => by have := hB1.size; omega) (fun k hk => by have := hB1.size; omega), bnx hB1 hB⟩


/-- A list has each number below n once. -/
def wholeB (l : List Int) (n : Nat) : Bool := allN l n && decide (l.length = n)
theorem whole_c {A : Nat → Prop} {w : World} {v : Value} {l : List Int} (h : Ints A w v l) (n : Nat) (hn : n ≤ 1000) : Calls Try.prog 42 #[v, .int .i64 n] w fun e w' => e = .returned (.bool (wholeB l n)) ∧ Qt w w' := by
  obtain ⟨al, cl, rfl, _, _⟩ := h.shape
  have nl := h.len
  go_enter Try.func42, Try.ntmps42
  go_wp2
  go_loopw [5] (fun i wr => ∃ k : Nat, k ≤ n ∧ i = .int .i64 k ∧ allN l k = true ∧ Qt w wr) (fun i _ => n - (intOf i).toNat)
  case atStart => exact ⟨0, Nat.zero_le _, rfl, rfl, Qt.refl _⟩
  case round =>
    obtain ⟨k, hk, rfl, ha, hq⟩ := hrel
    have HA := Lib.hid ha
    clear ha
    by_cases hlt : k < n
    · have hs := allN_succ l k
      rw [HA.out, Bool.true_and] at hs
      have hpc := place_c (k : Int) (h.qt hq)
      obtain ⟨q, hqe⟩ : ∃ q, q = placeOf l (k : Int) := ⟨_, rfl⟩
      rw [← hqe] at hs hpc
      have HS := Lib.hid hs
      have HPC := Lib.hid hpc
      clear hs hpc hqe
      by_cases hp : 0 ≤ q
      · have b1 : decide (q < 0) = false := decide_eq_false (by omega)
        go_wp2_with (go_at_call 57; refine HPC.out.mono ?_; rintro e w1 ⟨rfl, hq1⟩)
        go_roundw
        case rel => exact ⟨k + 1, by omega, by go_num, by rw [HS.out]; exact decide_eq_true hp, hq.trans hq1⟩
        case measure => simp [intOf]; omega
      · have b1 : decide (q < 0) = true := decide_eq_true (by omega)
        go_wp2_with (go_at_call 57; refine HPC.out.mono ?_; rintro e w1 ⟨rfl, hq1⟩)
        go_ret
        refine ⟨ret_bool ?_, hq.trans hq1⟩
        symm
        rw [wholeB, Bool.and_eq_false_iff]
        left
        have h1 : allN l (k + 1) = false := by rw [HS.out]; exact decide_eq_false (by omega)
        rw [allN, List.all_eq_false] at h1 ⊢
        obtain ⟨x, hx, h2⟩ := h1
        exact ⟨x, by rw [List.mem_range] at hx ⊢; omega, h2⟩
    · obtain rfl : k = n := by omega
      by_cases hl : l.length = k
      · have b1 : ((l.length : Int) == (k : Int)) = true := by simp; omega
        have HL := Lib.hid hl
        clear hl
        go_wp2
        go_ret
        exact ⟨ret_bool (by rw [wholeB, HA.out, decide_eq_true HL.out]; rfl), hq⟩
      · have b1 : ((l.length : Int) == (k : Int)) = false := by simp; omega
        have HL := Lib.hid hl
        clear hl
        go_wp2
        go_ret
        exact ⟨ret_bool (by rw [wholeB, decide_eq_false HL.out, Bool.and_false]), hq⟩

set_option maxRecDepth 100000 in
theorem ahead_c {A A' : Nat → Prop} {w : World} {v1 v2 : Value} {s t : List Int} (h1 : Ints A w v1 s) (h2 : Ints A' w v2 t) (hl : s.length = t.length) :
    Calls Try.prog 48 #[v1, v2] w fun e w' => e = .returned (.bool (decide (cmpL s t < 0))) ∧ Qt w w' := by
  obtain ⟨a1, c1, rfl, _, _⟩ := h1.shape
  obtain ⟨a2, c2, rfl, _, _⟩ := h2.shape
  have n1 := h1.len
  have n2 := h2.len
  have HL := Lib.hid hl
  clear hl
  go_enter Try.func48, Try.ntmps48
  go_wp2
  go_loopw [5] (fun v wr => ∃ k : Nat, k ≤ s.length ∧ v = .int .i64 k ∧ cmpL s t = cmpL (s.drop k) (t.drop k) ∧ Qt w wr) (fun v _ => s.length - (intOf v).toNat)
  case atStart => exact ⟨0, Nat.zero_le _, rfl, rfl, Qt.refl _⟩
  case round =>
    obtain ⟨k, hk, rfl, he, hQ⟩ := hrel
    have HE := Lib.hid he; clear he
    by_cases hlt : k < s.length
    · have hlt2 : k < t.length := by have := HL.out; omega
      obtain ⟨b1, o1, rfl, _, _, _⟩ := h1.addr (by omega)
      obtain ⟨b2, o2, rfl, _, _, _⟩ := h2.addr (by omega)
      have g1 := (h1.qt hQ).cell k hlt
      have g2 := (h2.qt hQ).cell k hlt2
      have hst := cmpL_step k hlt hlt2
      obtain ⟨x, hx⟩ : ∃ x, x = s[k] := ⟨_, rfl⟩
      obtain ⟨y, hy⟩ : ∃ y, y = t[k] := ⟨_, rfl⟩
      rw [← hx] at g1 hst
      rw [← hy] at g2 hst
      clear hx hy
      have HST := Lib.hid hst
      clear hst
      go_wp2
      go_quiet (fail)
      go_wp2
      · have hne : (x != y) = true := by assumption
        have G1 : ∀ q, (wr.drewN q).cell? ⟨b1, o1 + k, none⟩ = some (.int .i64 x) := fun q => g1
        have G2 : ∀ q, (wr.drewN q).cell? ⟨b2, o2 + k, none⟩ = some (.int .i64 y) := fun q => g2
        go_quiet (fail)
        go_wp2
        go_ret
        refine ⟨ret_bool ?_, (hQ.drewN _).drewN _⟩
        have hne : x ≠ y := by simpa using hne
        have hc : cmpI x y ≠ 0 := fun e => by
          rw [cmpI] at e
          split at e
          · omega
          · split at e <;> omega
        rw [HE.out, HST.out, if_pos hc, decide_eq_decide, cmpI]
        split
        · omega
        · split <;> omega
      · have hne : (x != y) = false := by assumption
        go_roundw
        case rel =>
          refine ⟨k + 1, by omega, by go_num, ?_, hQ.drewN _⟩
          have hne : x = y := by simpa using hne
          subst hne
          rw [HE.out, HST.out, if_neg (by simp [cmpI])]
        case measure => simp [intOf]; omega
    · obtain rfl : k = s.length := by omega
      have hlt2 : ¬ (s.length < t.length) := by have := HL.out; omega
      have b1 : decide ((s.length : Int) < (t.length : Int)) = false := decide_eq_false (by omega)
      go_wp2
      go_ret
      refine ⟨ret_bool ?_, hQ⟩
      rw [HE.out, cmpL_end _ rfl, if_neg hlt2]
      rfl

end Go.Proofs.Ythchpoabncdicaa
