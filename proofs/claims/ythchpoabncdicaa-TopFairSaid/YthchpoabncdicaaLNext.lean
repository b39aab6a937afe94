/- The walk of LotsNext: it hands back true, whatever the numbers; conditions: the argument reads as numbers. -/
import Derived.Test.YthchpoabncdicaaNext1
namespace Go.Proofs.Ythchpoabncdicaa
open Go.RowKit

theorem nextO_her (vs : List Vil) (has : List Int) : ∀ k b, nextO vs has k = some b → has.getD b 0 < her vs b
  | 0, b, h => by simp [nextO] at h
  | k + 1, b, h => by
    simp only [nextO] at h
    split at h
    · split at h
      · injection h with h; subst h; assumption
      · cases h
    · rename_i b' hb'
      split at h
      · rename_i h1
        injection h with h; subst h; exact h1.1
      · injection h with h; subst h; exact nextO_her vs has k _ hb'
theorem nextO_none (vs : List Vil) (has : List Int) : ∀ k, nextO vs has k = none → ∀ i, i < k → her vs i ≤ has.getD i 0
  | 0, _, i, hi => by omega
  | k + 1, h, i, hi => by
    simp only [nextO] at h
    split at h
    · rename_i h0
      split at h
      · cases h
      · rename_i h1
        by_cases e : i = k
        · subst e; omega
        · exact nextO_none vs has k h0 i (by omega)
    · split at h <;> cases h
theorem allotN_her {vs : List Vil} (hv : VOk vs) : ∀ k i, i < vs.length → (allotN vs k).getD i 0 ≤ her vs i
  | 0, i, hi => by
    have h := hv _ (List.getElem_mem hi)
    rw [her_at hi]
    simp [allotN, hi]
    have := h.2.2.1
    omega
  | k + 1, i, hi => by
    have ih := allotN_her hv k i hi
    rw [allotN, allotStep]
    split
    · exact ih
    · rename_i b hb
      have hlt := nextO_lt vs _ _ _ hb
      by_cases e : b = i
      · subst e
        have h1 := nextO_her vs _ _ _ hb
        have : b < (allotN vs k).length := by rw [allotN_len]; exact hi
        simp [List.getD_eq_getElem?_getD, this] at h1 ⊢
        omega
      · simp only [List.getD_eq_getElem?_getD, List.getElem?_set_ne e]
        simpa using ih
theorem allotN_full {vs : List Vil} (hv : VOk vs) {k : Nat} (h : nextO vs (allotN vs k) vs.length = none) (i : Nat) (hi : i < vs.length) : (allotN vs k).getD i 0 = her vs i := by
  have h1 := allotN_her hv k i hi
  have h2 := nextO_none vs _ _ h i hi
  omega

theorem allot_ok {A : Nat → Prop} {w : World} {vm vv : Value} {c : Com} (h : Cm A w vm vv c) (hok : c.Ok 4) (m : Nat) (hm : m ≤ 99) :
    Calls Try.prog 38 #[.agg #[vm, vv], .int .i64 m] w fun e w' => ∃ v', e = .returned (.tuple #[v', .int .i64 0]) ∧ Ints (fun b => w.heap.size ≤ b) w' v' (allotN c.villages m) ∧ Below w.heap.size w w' := by
  have h1 := allotF_c h (m : Int)
  have hp := placesErr_of hok hm
  rw [allotR, if_pos hp, hp, Int.toNat_natCast] at h1
  exact h1
/-- A step of the hand's, for commons. -/
theorem Cm.hand {B hb : Nat} {w w' : World} {vm vv : Value} {c : Com} (h : Cm (fun b => B ≤ b) w vm vv c) (ho : w.grownBy w' (some hb)) (hB : hb < B) : Cm (fun b => B ≤ b) w' vm vv c := h.only ho (by omega)
theorem Blk.hand {b hb : Nat} {cs : Array Value} {t : TypeId} {w w' : World} (h : Blk b cs t w) (ho : w.grownBy w' (some hb)) (hB : b ≠ hb) : Blk b cs t w' := h.keep (ho.block b h.lt (fun e => hB (by injection e)))
theorem bhand {a w w' : World} {hb : Nat} (h : Below a.heap.size a w) (ho : w.grownBy w' (some hb)) (hB : a.heap.size ≤ hb) : Below a.heap.size a w' := h.grown ho h.size (fun k e => by injection e with e; omega)
theorem next_at {vs : List Vil} {k i : Nat} (hi : i < (allotN vs k).length) (hj : i < (allotN vs (k + 1)).length) : (allotN vs (k + 1))[i] = if nextO vs (allotN vs k) vs.length = some i then (allotN vs k)[i] + 1 else (allotN vs k)[i] := by
  have h : ∀ l : List Int, l = allotN vs (k + 1) → ∀ h : i < l.length, l[i] = if nextO vs (allotN vs k) vs.length = some i then (allotN vs k)[i] + 1 else (allotN vs k)[i] := by
    intro l hl hil
    rw [allotN, allotStep] at hl
    cases hb : nextO vs (allotN vs k) vs.length with
    | none => rw [hb] at hl; subst hl; simp
    | some b =>
      rw [hb] at hl
      simp only at hl
      subst hl
      rw [List.getElem_set]
      by_cases e : b = i
      · subst e; simp [hi]
      · have : ¬ (some b = some i) := fun h => e (by injection h)
        simp [e]
  exact h _ rfl hj

set_option maxRecDepth 100000 in
set_option maxHeartbeats 2000000 in
theorem lotsNext_c {A : Nat → Prop} {w : World} {v : Value} {nums : List Int} (hn : Ints A w v nums) :
    Calls Try.prog 12 #[v] w fun e w' => e = .returned (.bool true) ∧ Below w.heap.size w w' := by
  go_enter Try.func12, Try.ntmps12
  go_wp2_with fail
  refine (newHand_c hn).mono ?_
  rintro e w1 ⟨rfl, hH, hB1⟩
  have hs1 := hH.lt
  go_wp2_with fail
  refine (commonsOf_c hH (by omega) 4 (by omega) (by omega)).mono ?_
  rintro e w2 ⟨vm, vv, rfl, ⟨c, hC, hok⟩, ⟨k2, hk2, hH⟩, hG⟩
  have hB2 : Below w.heap.size w w2 := hB1.grown hG (by omega) (fun k e => by injection e with e; omega)
  have hs2 := hG.size
  clear hG hB1
  obtain ⟨am, cpm, rfl, _, _⟩ := hC.1.shape
  obtain ⟨av, cpv, rfl, _, _⟩ := hC.2.shape
  have hH := hH.call ((Below.refl w2.heap.size w2).alloc (Nat.le_refl _) (.cells #[.slice am c.mountains.length cpm, .slice av c.villages.length cpv] 25))
  have hbx : Blk w2.heap.size #[.slice am c.mountains.length cpm, .slice av c.villages.length cpv] 25 (w2.alloc (.cells #[.slice am c.mountains.length cpm, .slice av c.villages.length cpv] 25)) := Blk.new w2 _ _
  have hC := hC.alloc (.cells #[.slice am c.mountains.length cpm, .slice av c.villages.length cpv] 25)
  have hT := bal (o := .cells #[.slice am c.mountains.length cpm, .slice av c.villages.length cpv] 25) hB2
  go_wp2_with fail
  refine (upto_c hH (by omega) 20 (by omega) (by omega)).mono ?_
  rintro e w3 ⟨⟨u1, rfl, hu1, hu1'⟩, ⟨k3, hk3, hH3⟩, hG3⟩
  have hC3 := hC.hand hG3 hs1
  have hbx3 := hbx.hand hG3 (by omega)
  have hT3 := bhand hT hG3 (by omega)
  have hs3 : w2.heap.size + 1 ≤ w3.heap.size := by have := hG3.size; simp at this; omega
  clear hC hbx hT hH hG3
  go_wp2_with fail
  refine (upto_c hH3 (by omega) 98 (by omega) (by omega)).mono ?_
  rintro e w4 ⟨⟨u2, rfl, hu2, hu2'⟩, ⟨k4, hk4, hH4⟩, hG4⟩
  have hC4 := hC3.hand hG4 hs1
  have hbx4 := hbx3.hand hG4 (by omega)
  have hT4 := bhand hT3 hG4 (by omega)
  have hs4 := hG4.size
  clear hC3 hbx3 hT3 hH3 hG4
  go_wp2_with fail
  have hl1 : Ints (fun b => w4.heap.size ≤ b) (w4.alloc (.cells #[.int .i64 u2] 3)) (.slice (some ⟨w4.heap.size, 0, none⟩) 1 1) [u2] := Own.ints (n := 1) (own_lit w4 3 1 #[.int .i64 u2] 1 rfl (by omega))
  refine (of_c (hH4.call ((Below.refl w4.heap.size w4).alloc (Nat.le_refl _) (.cells #[.int .i64 u2] 3))) (by omega) u1 hl1 (by omega) (by simp)).mono ?_
  rintro e w5 ⟨⟨u, rfl, hu⟩, ⟨k5, hk5, -⟩, hG5⟩
  have hC5 := (hC4.alloc (.cells #[.int .i64 u2] 3)).hand hG5 hs1
  have hbx5 := (hbx4.alloc (.cells #[.int .i64 u2] 3)).hand hG5 (by omega)
  have hT5 := bhand (bal (o := .cells #[.int .i64 u2] 3) hT4) hG5 (by omega)
  have hs5 : w4.heap.size + 1 ≤ w5.heap.size := by have := hG5.size; simp at this; omega
  have hu0 : 0 ≤ u ∧ u ≤ 98 := by
    rcases hu with h | h
    · rw [h]; omega
    · rw [List.mem_singleton] at h; rw [h]; omega
  clear hC4 hbx4 hT4 hH4 hG5 hl1 hu
  obtain ⟨m, rfl⟩ : ∃ m : Nat, u = (m : Int) := ⟨u.toNat, by omega⟩
  have hm : m ≤ 98 := by omega
  clear hu0 hu1 hu1' hu2 hu2' hk3 hk4 hk5 hk2
  have c0 := hbx5.cell 0
  have c1 := hbx5.cell 1
  have hal := allot_ok hC5 hok m (by omega)
  have HAL := Lib.hid hal
  clear hal
  go_wp2_with fail
  clear c0 c1
  refine HAL.out.mono ?_
  rintro e w6 ⟨va, rfl, hva, hB6⟩
  have hC6 := hC5.call hB6
  have hbx6 := hbx5.call hB6
  have hT6 := bnx hT5 hB6
  have c0 := hbx6.cell 0
  have c1 := hbx6.cell 1
  have hal := allot_ok hC6 hok (m + 1) (by omega)
  rw [show ((m + 1 : Nat) : Int) = (m : Int) + 1 from by simp] at hal
  have HAL := Lib.hid hal
  clear hal hC5 hbx5 hT5
  go_wp2_with fail
  clear c0 c1
  refine HAL.out.mono ?_
  rintro e w7 ⟨vb, rfl, hvb, hB7⟩
  have hC7 := hC6.call hB7
  have hbx7 := hbx6.call hB7
  have hT7 := bnx hT6 hB7
  have hva7 := hva.call hB7
  have c0 := hbx7.cell 0
  have c1 := hbx7.cell 1
  have hnx := nextF_c hC7 hok m (by omega)
  have HNX := Lib.hid hnx
  clear hnx hC6 hbx6 hT6 hva HAL
  go_wp2_with fail
  clear c0 c1
  refine HNX.out.mono ?_
  rintro e w8 ⟨rfl, hB8⟩
  have hC8 := hC7.call hB8
  have hbx8 := hbx7.call hB8
  have hT8 := bnx hT7 hB8
  have hva8 := hva7.call hB8
  have hvb8 := hvb.call hB8
  have hvl4 : c.villages.length ≤ 4 := by have := hok.vl; have := hok.n2; omega
  have hvok := hok.vok
  have hla := allotN_len c.villages m
  have hlb := allotN_len c.villages (m + 1)
  have hsa := hva8.shape
  have hsb := hvb8.shape
  rw [hla] at hsa
  rw [hlb] at hsb
  obtain ⟨aa, ca, rfl, _, _⟩ := hsa
  obtain ⟨ab, cb, rfl, _, _⟩ := hsb
  have HLA := Lib.hid hla
  have HLB := Lib.hid hlb
  have HVOK := Lib.hid hvok
  have d1 := hbx8.cell 1
  have bn : ((c.villages.length : Int) != (c.villages.length : Int)) = false := by simp
  clear hla hlb hvok hC7 hbx7 hT7 hva7 hvb HNX
  cases ho : nextO c.villages (allotN c.villages m) c.villages.length with
  | none =>
    have HO := Lib.hid ho
    clear ho
    have hV : nxV (none : Option Nat) = 0 := rfl
    have hE : nxE (none : Option Nat) = 11 := rfl
    go_wp2_with fail
    go_loopw [12] (fun i wr => ∃ k : Nat, k ≤ c.villages.length ∧ i = .int .i64 k ∧ Qt w8 wr) (fun i _ => c.villages.length - (intOf i).toNat)
    case atStart => exact ⟨0, Nat.zero_le _, rfl, Qt.refl _⟩
    case round =>
      obtain ⟨k, hk, rfl, hq⟩ := hrel
      by_cases hlt : k < c.villages.length
      · have hva9 := hva8.qt hq
        have hvb9 := hvb8.qt hq
        have hkl : k < (allotN c.villages m).length := by rw [HLA.out]; exact hlt
        have hkl2 : k < (allotN c.villages (m + 1)).length := by rw [HLB.out]; exact hlt
        obtain ⟨b1, o1, rfl, -, -, -⟩ := hva9.addr (by omega)
        obtain ⟨b2, o2, rfl, -, -, -⟩ := hvb9.addr (by omega)
        have g1 := hva9.cell k hkl
        have g2 := hvb9.cell k hkl2
        rw [next_at hkl hkl2, HO.out, if_neg (by simp)] at g2
        have hxb := allotN_bd c.villages m _ (List.getElem_mem hkl)
        have hxf := allotN_full HVOK.out HO.out k hlt
        rw [her_at hlt, List.getD_eq_getElem?_getD, List.getElem?_eq_getElem hkl] at hxf
        simp only [Option.getD_some] at hxf
        rw [hxf] at g1 g2 hxb
        obtain ⟨b3, o3, rfl, -, -⟩ := (hC8.2.qt hq).addr (by omega)
        obtain ⟨p3, d3, e1, e2, -, -⟩ := (hC8.2.qt hq).at k hlt
        have dd := (hbx8.keep (w' := wr) (by rw [hq.heap])).cell 1
        obtain ⟨y, hy⟩ : ∃ y, y = c.villages[k].herd := ⟨_, rfl⟩
        rw [← hy] at g1 g2 hxb e2
        have bk : ((k : Int) == -1) = false := by simp
        have by1 : (y != y) = false := by simp
        clear hy hxf hkl hkl2 d1
        go_wp2_with fail
        go_quiet (fail)
        go_wp2
        go_roundw
        case rel => exact ⟨k + 1, by omega, by go_num, hq.drewN _⟩
        case measure => simp [intOf]; omega
      · obtain rfl : k = c.villages.length := by omega
        go_wp2_with (go_at_call 21; refine (drawn_c _).mono ?_; rintro e wz ⟨rfl, hBz⟩)
        go_ret
        exact ⟨rfl, bnx (bnx hT8 (hq.below _)) hBz⟩
  | some o =>
    have HO := Lib.hid ho
    have hol := nextO_lt _ _ _ _ ho
    clear ho
    have hV : nxV (some o) = (o : Int) := rfl
    have hE : nxE (some o) = 0 := rfl
    have b3 : decide ((o : Int) ≥ (c.villages.length : Int)) = false := by simp; omega
    go_wp2_with fail
    go_loopw [12] (fun i wr => ∃ k : Nat, k ≤ c.villages.length ∧ i = .int .i64 k ∧ Qt w8 wr) (fun i _ => c.villages.length - (intOf i).toNat)
    case atStart => exact ⟨0, Nat.zero_le _, rfl, Qt.refl _⟩
    case round =>
      obtain ⟨k, hk, rfl, hq⟩ := hrel
      by_cases hlt : k < c.villages.length
      · have hva9 := hva8.qt hq
        have hvb9 := hvb8.qt hq
        have hkl : k < (allotN c.villages m).length := by rw [HLA.out]; exact hlt
        have hkl2 : k < (allotN c.villages (m + 1)).length := by rw [HLB.out]; exact hlt
        obtain ⟨b1, o1, rfl, -, -, -⟩ := hva9.addr (by omega)
        obtain ⟨b2, o2, rfl, -, -, -⟩ := hvb9.addr (by omega)
        have g1 := hva9.cell k hkl
        have g2 := hvb9.cell k hkl2
        have hxb := allotN_bd c.villages m _ (List.getElem_mem hkl)
        rw [next_at hkl hkl2, HO.out] at g2
        obtain ⟨y, hy⟩ : ∃ y, y = (allotN c.villages m)[k] := ⟨_, rfl⟩
        rw [← hy] at g1 g2 hxb
        clear hy hkl hkl2 d1
        by_cases hko : k = o
        · subst hko
          rw [if_pos rfl] at g2
          have bk : ((k : Int) == (k : Int)) = true := by simp
          have by1 : (y + 1 != y + 1) = false := by simp
          go_wp2_with fail
          go_quiet (fail)
          go_wp2
          go_roundw
          case rel => exact ⟨k + 1, by omega, by go_num, hq.drewN _⟩
          case measure => simp [intOf]; omega
        · rw [if_neg (by intro h; injection h with h; omega)] at g2
          have bk : ((k : Int) == (o : Int)) = false := by simp; omega
          have by1 : (y != y) = false := by simp
          clear hko
          go_wp2_with fail
          go_quiet (fail)
          go_wp2
          go_roundw
          case rel => exact ⟨k + 1, by omega, by go_num, hq.drewN _⟩
          case measure => simp [intOf]; omega
      · obtain rfl : k = c.villages.length := by omega
        go_wp2_with (go_at_call 21; refine (drawn_c _).mono ?_; rintro e wz ⟨rfl, hBz⟩)
        go_ret
        exact ⟨rfl, bnx (bnx hT8 (hq.below _)) hBz⟩

end Go.Proofs.Ythchpoabncdicaa
