/- The contracts of allot and of its kin, of sets, of rank; conditions: as said at each. -/
import Derived.Test.YtmlikgjfpmjdcaaGreatDoorA4

/- The contracts of next and allot, in lots and in mestaref08; conditions: hearths and herds within their bounds. -/
namespace Go.Proofs.YtmlikgjfpmjdcaaGreatDoor
open Go.RowKit

def hea (vs : List Vil) (i : Nat) : Int := (vs.getD i ⟨0, 0, []⟩).hearths
def her (vs : List Vil) (i : Nat) : Int := (vs.getD i ⟨0, 0, []⟩).herd
theorem hea_at {vs : List Vil} {i : Nat} (h : i < vs.length) : hea vs i = vs[i].hearths := by simp [hea, h]
theorem her_at {vs : List Vil} {i : Nat} (h : i < vs.length) : her vs i = vs[i].herd := by simp [her, h]

/-- Of two villages: the first has more hearths for each place that it would have. -/
def beats (vs : List Vil) (has : List Int) (i b : Nat) : Prop := hea vs b * (has.getD i 0 + 1) < hea vs i * (has.getD b 0 + 1)

/-- The village, of the first k, that gets the next place. -/
def nextO (vs : List Vil) (has : List Int) : Nat → Option Nat
  | 0 => none
  | k + 1 => match nextO vs has k with
    | none => if has.getD k 0 < her vs k then some k else none
    | some b => if has.getD k 0 < her vs k ∧ hea vs b * (has.getD k 0 + 1) < hea vs k * (has.getD b 0 + 1) then some k else some b

def optI : Option Nat → Int
  | none => -1
  | some b => b

theorem nextO_lt (vs : List Vil) (has : List Int) : ∀ k b, nextO vs has k = some b → b < k
  | 0, b, h => by simp [nextO] at h
  | k + 1, b, h => by
    simp only [nextO] at h
    split at h
    · split at h
      · injection h with h; omega
      · cases h
    · rename_i b' hb'
      split at h
      · injection h with h; omega
      · injection h with h
        have := nextO_lt vs has k b' hb'
        omega

def VOk (vs : List Vil) : Prop := ∀ v ∈ vs, 1 ≤ v.hearths ∧ v.hearths ≤ 50 ∧ 0 ≤ v.herd ∧ v.herd ≤ 60
def HOk (has : List Int) : Prop := ∀ x ∈ has, 0 ≤ x ∧ x ≤ 1000

theorem mul_bd {a b : Int} (h1 : 0 ≤ a) (h2 : a ≤ 50) (h3 : 0 ≤ b) (h4 : b ≤ 1001) : 0 ≤ a * b ∧ a * b ≤ 100000 := by
  refine ⟨Int.mul_nonneg h1 h3, ?_⟩
  have := Int.mul_le_mul h2 h4 h3 (show (0 : Int) ≤ 50 by omega)
  omega

set_option maxRecDepth 100000 in
set_option maxHeartbeats 2000000 in
theorem next_c {A A' : Nat → Prop} {w : World} {v1 v2 : Value} {vs : List Vil} {has : List Int} (h1 : Vils A w v1 vs) (h2 : Ints A' w v2 has) (hl : has.length = vs.length) (hv : VOk vs) (hh : HOk has) :
    Calls Tryz.prog 69 #[v1, v2] w fun e w' => e = .returned (.int .i64 (optI (nextO vs has vs.length))) ∧ Below w.heap.size w w' := by
  obtain ⟨a1, c1, rfl, hc1, hm1⟩ := h1.shape
  obtain ⟨a2, c2, rfl, hc2, hm2⟩ := h2.shape
  have n1 := h1.len
  have HL := Lib.hid hl; clear hl
  go_enter Tryz.func69, Tryz.ntmps69
  go_wp2
  go_loopw [5, 10] (fun b i wr => ∃ k : Nat, k ≤ vs.length ∧ i = .int .i64 k ∧ b = .int .i64 (optI (nextO vs has k)) ∧ Below w.heap.size w wr) (fun _ i _ => vs.length - (intOf i).toNat)
  case atStart => exact ⟨0, Nat.zero_le _, rfl, rfl, Below.refl _ _⟩
  case round =>
    obtain ⟨k, hk, rfl, rfl, hq⟩ := hrel
    by_cases hlt : k < vs.length
    · obtain ⟨b1, o1, rfl, _, hb1⟩ := h1.addr (by omega)
      obtain ⟨b2, o2, rfl, _, hb2, _⟩ := h2.addr (by have := HL.out; omega)
      obtain ⟨p, d, g1, g2, g3, _⟩ := (h1.call hq).at k hlt
      have hkh : k < has.length := by have := HL.out; omega
      have g4 := (h2.call hq).cell k hkh
      have hvk := hv _ (List.getElem_mem hlt)
      have hhk := hh _ (List.getElem_mem hkh)
      have hbr1 : b1 < wr.heap.size := by have := hq.size; omega
      have hbr2 : b2 < wr.heap.size := by have := hq.size; omega
      have e1 : has.getD k 0 = has[k] := by simp [hkh]
      have hn : nextO vs has (k + 1) = match nextO vs has k with
          | none => if has[k] < vs[k].herd then some k else none
          | some b => if has[k] < vs[k].herd ∧ hea vs b * (has[k] + 1) < vs[k].hearths * (has.getD b 0 + 1) then some k else some b := by
        rw [nextO, e1, her_at hlt, hea_at hlt]
      have hbl := nextO_lt vs has k
      obtain ⟨ob, hob⟩ : ∃ ob, ob = nextO vs has k := ⟨_, rfl⟩
      rw [← hob] at hn hbl ⊢
      have HO := Lib.hid hob; clear hob e1
      obtain ⟨x, hx⟩ : ∃ x, x = has[k] := ⟨_, rfl⟩
      obtain ⟨y, hy⟩ : ∃ y, y = vs[k].hearths := ⟨_, rfl⟩
      obtain ⟨z, hz⟩ : ∃ z, z = vs[k].herd := ⟨_, rfl⟩
      rw [← hx] at hn g4 hhk
      rw [← hy] at hn g1 hvk
      rw [← hz] at hn g2 hvk
      have HX := Lib.hid hx
      have HY := Lib.hid hy
      clear hx hy hz
      by_cases hw : x < z
      · cases ob with
        | none =>
          dsimp only at hn
          rw [if_pos hw] at hn
          have HN := Lib.hid hn; clear hn
          dsimp only [optI]
          go_wp2
          go_quiet (fail)
          go_wp2
          go_roundw
          case rel => exact ⟨k + 1, by omega, by go_num, by (rw [HN.out]) <;> rfl, (below_drewN (hq.alloc hq.size _) _)⟩
          case measure => simp [intOf]; omega
        | some b =>
          have hbk := hbl b rfl
          have hbh : b < has.length := by omega
          have hbv : b < vs.length := by omega
          obtain ⟨pb, db, gb1, gb2, _, _⟩ := (h1.call hq).at b (by omega)
          have gb4 := (h2.call hq).cell b hbh
          have hvb := hv _ (List.getElem_mem (show b < vs.length by omega))
          have hhb := hh _ (List.getElem_mem hbh)
          have e1 : has.getD b 0 = has[b] := by simp [hbh]
          dsimp only at hn
          rw [e1, hea_at (show b < vs.length by omega)] at hn
          obtain ⟨xb, hxb⟩ : ∃ xb, xb = has[b] := ⟨_, rfl⟩
          obtain ⟨yb, hyb⟩ : ∃ yb, yb = (vs[b]'(by omega)).hearths := ⟨_, rfl⟩
          rw [← hxb] at hn gb4 hhb
          rw [← hyb] at hn gb1 hvb
          clear hxb hyb e1
          have m1 := mul_bd (a := y) (b := xb + 1) (by omega) (by omega) (by omega) (by omega)
          have m2 := mul_bd (a := yb) (b := x + 1) (by omega) (by omega) (by omega) (by omega)
          have s1 : IntKind.i64.wrap (xb + 1) = xb + 1 := IntWalk.i64_in _ (by omega)
          have s2 : IntKind.i64.wrap (x + 1) = x + 1 := IntWalk.i64_in _ (by omega)
          have s3 : IntKind.i64.wrap (y * (xb + 1)) = y * (xb + 1) := IntWalk.i64_in _ (by omega)
          have s4 : IntKind.i64.wrap (yb * (x + 1)) = yb * (x + 1) := IntWalk.i64_in _ (by omega)
          by_cases hc : yb * (x + 1) < y * (xb + 1)
          · rw [if_pos ⟨hw, hc⟩] at hn
            have HN := Lib.hid hn; clear hn
            dsimp only [optI]
            go_wp2
            go_quiet (fail)
            go_wp2
            go_roundw
            case rel => exact ⟨k + 1, by omega, by go_num, by (rw [HN.out]) <;> rfl, (below_drewN (hq.alloc hq.size _) _)⟩
            case measure => simp [intOf]; omega
          · rw [if_neg (fun h => hc h.2)] at hn
            have HN := Lib.hid hn; clear hn
            dsimp only [optI]
            go_wp2
            go_quiet (fail)
            go_wp2
            go_roundw
            case rel => exact ⟨k + 1, by omega, by go_num, by (rw [HN.out]) <;> rfl, (below_drewN (hq.alloc hq.size _) _)⟩
            case measure => simp [intOf]; omega
      · have hn2 : nextO vs has (k + 1) = ob := by
          rw [hn]
          cases ob with
          | none => exact if_neg hw
          | some b => exact if_neg (fun h => hw h.1)
        have HN := Lib.hid hn2; clear hn hn2
        have hdw : decide (x < z) = false := by simpa using hw
        go_wp2
        go_quiet (fail)
        go_wp2
        go_roundw
        case rel => exact ⟨k + 1, by omega, by go_num, by rw [HN.out], (below_drewN (hq.alloc hq.size _) _)⟩
        case measure => simp [intOf]; omega
    · obtain rfl : k = vs.length := by omega
      go_wp2
      go_ret
      exact ⟨rfl, hq⟩

end Go.Proofs.YtmlikgjfpmjdcaaGreatDoor

/- The contracts of allot, placesError, Allot, Next in lots and in mestaref08; conditions: as said. -/
namespace Go.Proofs.YtmlikgjfpmjdcaaGreatDoor
open Go.RowKit

/-- One place more. -/
def allotStep (vs : List Vil) (has : List Int) : List Int :=
  match nextO vs has vs.length with
  | none => has
  | some b => has.set b (has.getD b 0 + 1)
def allotN (vs : List Vil) : Nat → List Int
  | 0 => List.replicate vs.length 0
  | k + 1 => allotStep vs (allotN vs k)

theorem allotStep_len (vs : List Vil) (has : List Int) : (allotStep vs has).length = has.length := by
  unfold allotStep; split <;> simp
theorem allotN_len (vs : List Vil) : ∀ k, (allotN vs k).length = vs.length
  | 0 => by simp [allotN]
  | k + 1 => by rw [allotN, allotStep_len, allotN_len vs k]
theorem allotN_bd (vs : List Vil) : ∀ k, ∀ x ∈ allotN vs k, 0 ≤ x ∧ x ≤ k
  | 0, x, h => by
    simp only [allotN, List.mem_replicate] at h
    omega
  | k + 1, x, h => by
    have ih := allotN_bd vs k
    simp only [allotN, allotStep] at h
    split at h
    · have := ih x h; omega
    · rename_i b hb
      have hlt := nextO_lt vs _ _ _ hb
      rcases List.mem_or_eq_of_mem_set h with h | h
      · have := ih x h; omega
      · have hl : b < (allotN vs k).length := by rw [allotN_len]; exact hlt
        have e : (allotN vs k).getD b 0 = (allotN vs k)[b] := by simp [hl]
        have := ih _ (List.getElem_mem hl)
        omega
theorem allotN_ok (vs : List Vil) (k : Nat) (hk : k ≤ 1000) : HOk (allotN vs k) := fun x hx => by
  have := allotN_bd vs k x hx
  omega
theorem allotN_stop (vs : List Vil) (k : Nat) (h : nextO vs (allotN vs k) vs.length = none) : ∀ j, allotN vs (k + j) = allotN vs k
  | 0 => rfl
  | j + 1 => by
    have ih := allotN_stop vs k h j
    show allotStep vs (allotN vs (k + j)) = _
    rw [ih, allotStep, h]

theorem make_ints_fact (n : Nat) (hn : n ≤ 1000000) : ∀ w : World, (Instr.makeSlice 22 (.int .i64 (n : Int)) (.int .i64 (n : Int))).run Tryz.prog w = .ok (.slice (some ⟨w.heap.size, 0, none⟩) n n) (w.alloc (.cells (I64 (List.replicate n 0)).toArray 3)) :=
  fun w => run_make_ints n hn w

set_option maxRecDepth 100000 in
set_option maxHeartbeats 1000000 in
theorem allot_c {A : Nat → Prop} {w : World} {v : Value} {vs : List Vil} (h : Vils A w v vs) (hv : VOk vs) (hl : vs.length ≤ 1000) (m : Nat) (hm : m ≤ 900) :
    Calls Tryz.prog 41 #[v, .int .i64 m] w fun e w' => ∃ v', e = .returned v' ∧ Ints (fun b => w.heap.size ≤ b) w' v' (allotN vs m) ∧ Below w.heap.size w w' := by
  obtain ⟨av, cpv, rfl, _, _⟩ := h.shape
  have hmk := make_ints_fact vs.length (by omega)
  have hI0 := intBlk_made w vs.length
  have hB0 : Below w.heap.size w (w.alloc (.cells (I64 (List.replicate vs.length 0)).toArray 3)) := (Below.refl _ _).alloc (Nat.le_refl _) _
  go_enter Tryz.func41, Tryz.ntmps41
  go_wp2_with fail
  generalize w.alloc (.cells (I64 (List.replicate vs.length 0)).toArray 3) = w0 at hI0 hB0 ⊢
  clear hmk
  go_loopw [1] (fun i wr => ∃ k : Nat, k ≤ m ∧ i = .int .i64 ((m : Int) - k) ∧ IntBlk wr w.heap.size (allotN vs k) ∧ Below w.heap.size w wr) (fun i _ => (intOf i).toNat)
  case atStart => exact ⟨0, Nat.zero_le _, by simp, hI0, hB0⟩
  case round =>
    obtain ⟨k, hk, rfl, hI, hB⟩ := hrel
    have hlen := allotN_len vs k
    have hbd := allotN_bd vs k
    have hok := allotN_ok vs k (by omega)
    have hstop := allotN_stop vs k
    have hnx : allotN vs (k + 1) = allotStep vs (allotN vs k) := rfl
    have hni := hI.ints (by omega)
    have hlti := hI.lt
    rw [hlen] at hni
    by_cases hkm : k < m
    · obtain ⟨ob, hob⟩ : ∃ ob, ob = nextO vs (allotN vs k) vs.length := ⟨_, rfl⟩
      have HO := Lib.hid hob
      have hnl := nextO_lt vs (allotN vs k) vs.length
      rw [← hob] at hnl
      clear hob
      have HN := Lib.hid hnx; clear hnx
      have HL := Lib.hid hlen; clear hlen
      go_wp2_with fail
      refine (next_c (h.call hB) hni HL.out hv hok).mono ?_
      rintro e w1 ⟨rfl, hB1⟩
      rw [← HO.out]
      have hI1 := hI.call hB1
      have hB2 := hB.trans (hB1.mono hB.size)
      cases ob with
      | none =>
        dsimp only [optI]
        have hs := hstop HO.out.symm (m - k)
        rw [show k + (m - k) = m by omega] at hs
        have HS := Lib.hid hs; clear hs hstop
        go_wp2
        go_ret
        refine ⟨_, rfl, ?_, hB2⟩
        rw [HS.out]
        rw [← HL.out]
        exact (hI1.ints (by rw [HL.out]; omega)).wide fun b hb _ => by omega
      | some b =>
        have hbv := hnl b rfl
        have hbl : b < (allotN vs k).length := by rw [HL.out]; exact hbv
        have g1 := hI1.cell b hbl
        have f1 := hI1.free b
        have hx := hbd _ (List.getElem_mem hbl)
        have hI2 := hI1.set b ((allotN vs k)[b] + 1)
        have hset : allotN vs (k + 1) = (allotN vs k).set b ((allotN vs k)[b] + 1) := by
          have e : (allotN vs k).getD b 0 = (allotN vs k)[b] := by simp [hbl]
          rw [HN.out, allotStep, ← HO.out]
          show (allotN vs k).set b _ = _
          rw [e]
        rw [← hset] at hI2
        have HS := Lib.hid hset
        clear hset hstop
        obtain ⟨x, hxx⟩ : ∃ x, x = (allotN vs k)[b] := ⟨_, rfl⟩
        rw [← hxx] at g1 hx hI2
        clear hxx
        dsimp only [optI]
        go_wp2
        go_roundw
        case rel => exact ⟨k + 1, by omega, by go_num, hI2, hB2.setCell (Nat.le_refl _) _⟩
        case measure => simp [intOf]; omega
    · obtain rfl : k = m := by omega
      have HL := Lib.hid hlen; clear hlen hnx hstop
      go_wp2
      go_ret
      refine ⟨_, rfl, ?_, hB⟩
      have h3 := hI.ints (by rw [HL.out]; omega)
      rw [HL.out] at h3
      exact h3.wide fun b hb _ => by omega

end Go.Proofs.YtmlikgjfpmjdcaaGreatDoor

/- Plain: when lists and commons are valid; no program. -/
namespace Go.Proofs.YtmlikgjfpmjdcaaGreatDoor

theorem scanE_zero (n : Int) : ∀ (l seen : List Int), scanE n seen l = 0 ↔ (∀ x ∈ l, 0 ≤ x ∧ x < n) ∧ l.Nodup ∧ ∀ x ∈ l, x ∉ seen
  | [], seen => by simp [scanE]
  | x :: rest, seen => by
    have ih := scanE_zero n rest (seen ++ [x])
    rw [scanE]
    by_cases hb : btw x 0 (n - 1) = true
    · rw [if_pos hb]
      simp only [btw, Bool.and_eq_true, decide_eq_true_eq] at hb
      by_cases hs : x ∈ seen
      · rw [if_pos hs]
        constructor
        · intro h; omega
        · intro h; exact absurd hs (h.2.2 x (List.mem_cons_self ..))
      · rw [if_neg hs, ih]
        simp only [List.mem_append, List.nodup_cons, List.mem_cons, List.not_mem_nil, or_false]
        constructor
        · rintro ⟨h1, h2, h3⟩
          refine ⟨?_, ⟨fun h => (h3 x h) (.inr rfl), h2⟩, ?_⟩
          · rintro y (rfl | hy)
            · omega
            · exact h1 y hy
          · rintro y (rfl | hy)
            · exact hs
            · exact fun h => h3 y hy (.inl h)
        · rintro ⟨h1, ⟨h2, h3⟩, h4⟩
          exact ⟨fun y hy => h1 y (.inr hy), h3, fun y hy h => by
            rcases h with h | h
            · exact h4 y (.inr hy) h
            · exact h2 (h ▸ hy)⟩
    · rw [if_neg hb]
      simp only [btw, Bool.and_eq_true, decide_eq_true_eq] at hb
      constructor
      · intro h; omega
      · intro h
        have := h.1 x (List.mem_cons_self ..)
        omega

theorem permOf_iff (n : Nat) (l : List Int) : PermOf n l ↔ l.length = n ∧ (∀ x ∈ l, 0 ≤ x ∧ x < n) ∧ l.Nodup := by
  constructor
  · intro h; exact ⟨h.len, fun x hx => (h.mem x).1 hx, h.nodup⟩
  · rintro ⟨h1, h2, h3⟩
    refine (List.perm_ext_iff_of_nodup h3 (iota_nodup n)).2 fun a => ⟨fun ha => (iota_mem n a).2 (h2 a ha), fun ha => ?_⟩
    apply Classical.byContradiction
    intro hn
    have hnd : (a :: l).Nodup := List.nodup_cons.2 ⟨hn, h3⟩
    have hsub : (a :: l) ⊆ iota n := by
      intro y hy
      rcases List.mem_cons.1 hy with rfl | hy
      · exact ha
      · exact (iota_mem n y).2 (h2 y hy)
    have := hnd.length_le_of_subset hsub
    rw [iota_len] at this
    simp at this
    omega

theorem placesE_zero (l : List Int) (n : Nat) : placesE l n = 0 ↔ PermOf n l := by
  rw [permOf_iff, placesE]
  by_cases h1 : (l.length : Int) < n
  · rw [if_pos h1]; constructor
    · intro h; omega
    · intro h; omega
  · rw [if_neg h1]
    by_cases h2 : (n : Int) < l.length
    · rw [if_pos h2]; constructor
      · intro h; omega
      · intro h; omega
    · rw [if_neg h2, scanE_zero]
      constructor
      · rintro ⟨a, b, _⟩; exact ⟨by omega, a, b⟩
      · rintro ⟨_, a, b⟩; exact ⟨a, b, by simp⟩

theorem bearsE_zero : ∀ l, bearsE l = 0 ↔ ∀ x ∈ l, 0 ≤ x ∧ x ≤ 99
  | [] => by simp [bearsE]
  | x :: rest => by
    have ih := bearsE_zero rest
    rw [bearsE]
    by_cases hb : btw x 0 99 = true
    · rw [if_pos hb, ih]
      simp only [btw, Bool.and_eq_true, decide_eq_true_eq] at hb
      simp only [List.mem_cons]
      constructor
      · rintro h y (rfl | hy)
        · exact hb
        · exact h y hy
      · intro h y hy; exact h y (.inr hy)
    · rw [if_neg hb]
      simp only [btw, Bool.and_eq_true, decide_eq_true_eq] at hb
      constructor
      · intro h; omega
      · intro h; exact absurd (h x (List.mem_cons_self ..)) hb

theorem vilE_zero (n : Nat) (v : Vil) : vilE n v = 0 ↔ 1 ≤ v.hearths ∧ v.hearths ≤ 50 ∧ 0 ≤ v.herd ∧ v.herd ≤ 60 ∧ PermOf n v.likes := by
  rw [vilE]
  by_cases h1 : btw v.hearths 1 50 = true
  · rw [if_pos h1]
    simp only [btw, Bool.and_eq_true, decide_eq_true_eq] at h1
    by_cases h2 : btw v.herd 0 60 = true
    · rw [if_pos h2, placesE_zero]
      simp only [btw, Bool.and_eq_true, decide_eq_true_eq] at h2
      exact ⟨fun h => ⟨h1.1, h1.2, h2.1, h2.2, h⟩, fun h => h.2.2.2.2⟩
    · rw [if_neg h2]
      simp only [btw, Bool.and_eq_true, decide_eq_true_eq] at h2
      exact ⟨fun h => by omega, fun h => absurd ⟨h.2.2.1, h.2.2.2.1⟩ h2⟩
  · rw [if_neg h1]
    simp only [btw, Bool.and_eq_true, decide_eq_true_eq] at h1
    exact ⟨fun h => by omega, fun h => absurd ⟨h.1, h.2.1⟩ h1⟩

theorem vilsE_zero (n : Nat) : ∀ l, vilsE n l = 0 ↔ ∀ v ∈ l, vilE n v = 0
  | [] => by simp [vilsE]
  | v :: rest => by
    have ih := vilsE_zero n rest
    rw [vilsE]
    by_cases h : vilE n v = 0
    · rw [if_pos h, ih]
      simp [h]
    · rw [if_neg h]
      simp [h]

theorem checkE_zero (c : Com) : checkE c = 0 ↔ c.Ok 4 := by
  rw [checkE]
  by_cases h1 : c.mountains.length = 0
  · rw [if_pos h1]; exact ⟨fun h => by omega, fun h => by have := h.n1; omega⟩
  · rw [if_neg h1]
    by_cases h2 : 4 < c.mountains.length
    · rw [if_pos h2]; exact ⟨fun h => by omega, fun h => by have := h.n2; omega⟩
    · rw [if_neg h2]
      by_cases h3 : bearsE c.mountains = 0
      · rw [if_pos h3]
        have h3' := (bearsE_zero _).1 h3
        by_cases h4 : c.villages.length < c.mountains.length
        · rw [if_pos h4]; exact ⟨fun h => by omega, fun h => by have := h.vl; omega⟩
        · rw [if_neg h4]
          by_cases h5 : c.mountains.length < c.villages.length
          · rw [if_pos h5]; exact ⟨fun h => by omega, fun h => by have := h.vl; omega⟩
          · rw [if_neg h5, vilsE_zero]
            constructor
            · intro h; exact ⟨by omega, by omega, by omega, h3', fun v hv => (vilE_zero _ v).1 (h v hv)⟩
            · intro h v hv; exact (vilE_zero _ v).2 (h.vil v hv)
      · rw [if_neg h3]
        constructor
        · intro h; exact absurd h h3
        · intro h; exact absurd ((bearsE_zero _).2 h.bears) h3

theorem Com.Ok.vok {c : Com} {m : Nat} (h : c.Ok m) : VOk c.villages := fun v hv => by
  have := h.vil v hv
  exact ⟨this.1, this.2.1, this.2.2.1, this.2.2.2.1⟩

end Go.Proofs.YtmlikgjfpmjdcaaGreatDoor

/- The contracts of placesError and Allot in lots and in mestaref08; conditions: the argument reads as commons. -/
namespace Go.Proofs.YtmlikgjfpmjdcaaGreatDoor
open Go.RowKit

theorem ints_nil (A : Nat → Prop) (w : World) : Ints A w (.slice none 0 0) [] := ⟨none, 0, rfl, Nat.le_refl _, ⟨by unfold maxLen; omega, fun _ => rfl⟩, .inl rfl⟩

theorem ret_pair {k : IntKind} {v : Value} {a b : Int} (h : a = b) : Ending.returned (.tuple #[v, .int k a]) = .returned (.tuple #[v, .int k b]) := by rw [h]

/-- The error of commons and of a number of places. -/
def placesErrE (c : Com) (m : Int) : Int := if checkE c = 0 then (if btw m 0 99 = true then 0 else 1) else checkE c
def allotR (c : Com) (m : Int) : List Int := if placesErrE c m = 0 then allotN c.villages m.toNat else []

theorem placesErr_ok {c : Com} {m : Int} (h : placesErrE c m = 0) : c.Ok 4 ∧ 0 ≤ m ∧ m ≤ 99 := by
  rw [placesErrE] at h
  by_cases he : checkE c = 0
  · rw [if_pos he] at h
    by_cases hm : btw m 0 99 = true
    · simp only [btw, Bool.and_eq_true, decide_eq_true_eq] at hm
      exact ⟨(checkE_zero c).1 he, hm.1, hm.2⟩
    · rw [if_neg hm] at h; omega
  · rw [if_neg he] at h; exact absurd h he

set_option maxRecDepth 100000 in
theorem placesError_c {A : Nat → Prop} {w : World} {vm vv : Value} {c : Com} (h : Cm A w vm vv c) (m : Int) :
    Calls Tryz.prog 40 #[.agg #[vm, vv], .int .i64 m] w fun e w' => e = .returned (.int .i64 (placesErrE c m)) ∧ Below w.heap.size w w' := by
  obtain ⟨am, cpm, rfl, _, _⟩ := h.1.shape
  obtain ⟨av, cpv, rfl, _, _⟩ := h.2.shape
  have hB0 : Below w.heap.size w (w.alloc (.cells #[.slice am c.mountains.length cpm, .slice av c.villages.length cpv] 25)) := (Below.refl _ w).alloc (Nat.le_refl _) _
  have h0 := h.call hB0
  by_cases he : checkE c = 0
  · have hb : (checkE c != 0) = false := by simpa using he
    have HE := Lib.hid he; clear he
    by_cases hm : btw m 0 99 = true
    · go_enter Tryz.func40, Tryz.ntmps40
      go_wp2_with (first | (go_at_call 27; refine (check_c h0).mono ?_; rintro e w' ⟨rfl, hB1⟩) | (go_at_call 57; refine (between_c _ _ _ _).mono ?_; rintro e w' ⟨rfl, rfl⟩))
      go_ret
      exact ⟨ret_int (by rw [placesErrE, if_pos HE.out, if_pos hm]), hB0.trans (hB1.mono hB0.size)⟩
    · have hm' : btw m 0 99 = false := by simpa using hm
      go_enter Tryz.func40, Tryz.ntmps40
      go_wp2_with (first | (go_at_call 27; refine (check_c h0).mono ?_; rintro e w' ⟨rfl, hB1⟩) | (go_at_call 57; refine (between_c _ _ _ _).mono ?_; rintro e w' ⟨rfl, rfl⟩))
      go_ret
      exact ⟨ret_int (by rw [placesErrE, if_pos HE.out, if_neg (by simp [hm'])]), hB0.trans (hB1.mono hB0.size)⟩
  · have hb : (checkE c != 0) = true := by simpa using he
    have HE := Lib.hid he; clear he
    go_enter Tryz.func40, Tryz.ntmps40
    go_wp2_with (first | (go_at_call 27; refine (check_c h0).mono ?_; rintro e w' ⟨rfl, hB1⟩) | (go_at_call 57; refine (between_c _ _ _ _).mono ?_; rintro e w' ⟨rfl, rfl⟩))
    go_ret
    exact ⟨ret_int (by rw [placesErrE, if_neg HE.out]), hB0.trans (hB1.mono hB0.size)⟩

set_option maxRecDepth 100000 in
theorem allotF_c {A : Nat → Prop} {w : World} {vm vv : Value} {c : Com} (h : Cm A w vm vv c) (m : Int) :
    Calls Tryz.prog 15 #[.agg #[vm, vv], .int .i64 m] w fun e w' => ∃ v', e = .returned (.tuple #[v', .int .i64 (placesErrE c m)]) ∧ Ints (fun b => w.heap.size ≤ b) w' v' (allotR c m) ∧ Below w.heap.size w w' := by
  obtain ⟨am, cpm, rfl, _, _⟩ := h.1.shape
  obtain ⟨av, cpv, rfl, _, _⟩ := h.2.shape
  have hB0 : Below w.heap.size w (w.alloc (.cells #[.slice am c.mountains.length cpm, .slice av c.villages.length cpv] 25)) := (Below.refl _ w).alloc (Nat.le_refl _) _
  have hx : Box2 w.heap.size (.slice am c.mountains.length cpm) (.slice av c.villages.length cpv) 25 (w.alloc (.cells #[.slice am c.mountains.length cpm, .slice av c.villages.length cpv] 25)) := Blk.new w _ _
  have h0 := h.call hB0
  have hszl : w.heap.size < (w.alloc (.cells #[.slice am c.mountains.length cpm, .slice av c.villages.length cpv] 25)).heap.size := by simp
  by_cases he : placesErrE c m = 0
  · have hb : (placesErrE c m != 0) = false := by simpa using he
    have hok := placesErr_ok he
    obtain ⟨k, rfl⟩ : ∃ k : Nat, m = (k : Int) := ⟨m.toNat, by omega⟩
    have hres : allotR c k = allotN c.villages k := by rw [allotR, if_pos he, Int.toNat_natCast]
    have HE := Lib.hid he
    have HR := Lib.hid hres; clear he hres
    go_enter Tryz.func15, Tryz.ntmps15
    go_wp2_with fail
    refine (placesError_c h0 _).mono ?_
    rintro e w1 ⟨rfl, hB1⟩
    have h1 := h0.call hB1
    have hx1 : Box2 w.heap.size (.slice am c.mountains.length cpm) (.slice av c.villages.length cpv) 25 w1 := hx.below hB1 hszl
    have hB2 := hB0.trans (hB1.mono hB0.size)
    have y1 := hx1.c1
    go_wp2_with (go_at_call 41; refine (allot_c h1.2 hok.1.vok (by have h5 := hok.1.n2; have h6 := hok.1.vl; omega) k (by omega)).mono ?_; rintro e w2 ⟨v', rfl, hv, hB3⟩)
    go_ret2
    refine ⟨_, ret_pair HE.out.symm, ?_, hB2.trans (hB3.mono hB2.size)⟩
    rw [HR.out]
    exact hv.wide fun b hb _ => by have := hB2.size; omega
  · have hb : (placesErrE c m != 0) = true := by simpa using he
    have hres : allotR c m = [] := by rw [allotR, if_neg he]
    have HE := Lib.hid he
    have HR := Lib.hid hres; clear he hres
    go_enter Tryz.func15, Tryz.ntmps15
    go_wp2_with fail
    refine (placesError_c h0 _).mono ?_
    rintro e w1 ⟨rfl, hB1⟩
    have hB2 := hB0.trans (hB1.mono hB0.size)
    go_wp2
    go_ret2
    refine ⟨_, rfl, ?_, hB2⟩
    rw [HR.out]
    exact ints_nil _ _

end Go.Proofs.YtmlikgjfpmjdcaaGreatDoor

/- The contracts of everything, has, without (sets of at most four); conditions: numbers below four, sets of four. -/
namespace Go.Proofs.YtmlikgjfpmjdcaaGreatDoor
open Go.RowKit

def hasB (m i : Nat) : Bool := m.testBit i
def woB (m i : Nat) : Nat := if m.testBit i then m - 2 ^ i else m
def allB (n : Nat) : Nat := 2 ^ n - 1

theorem everything_c (n : Nat) (hn : n ≤ 4) (w : World) :
    Calls Tryz.prog 44 #[.int .i64 n] w fun e w' => e = .returned (.int .u8 (allB n)) ∧ w = w' := by
  have h : n = 0 ∨ n = 1 ∨ n = 2 ∨ n = 3 ∨ n = 4 := by omega
  rcases h with rfl | rfl | rfl | rfl | rfl
  all_goals
    go_enter Tryz.func44, Tryz.ntmps44
    go_wp2
    go_ret
    exact ⟨rfl, rfl⟩

theorem has_c (m i : Nat) (hm : m < 16) (hi : i < 4) (w : World) :
    Calls Tryz.prog 45 #[.int .u8 m, .int .i64 i] w fun e w' => e = .returned (.bool (hasB m i)) ∧ w = w' := by
  have h : i = 0 ∨ i = 1 ∨ i = 2 ∨ i = 3 := by omega
  rcases h with rfl | rfl | rfl | rfl
  all_goals
    go_enter Tryz.func45, Tryz.ntmps45
    go_wp2
    go_ret
    refine ⟨ret_bool ?_, rfl⟩
    revert m
    decide

theorem without_c (m i : Nat) (hm : m < 16) (hi : i < 4) (w : World) :
    Calls Tryz.prog 47 #[.int .u8 m, .int .i64 i] w fun e w' => e = .returned (.int .u8 (woB m i)) ∧ w = w' := by
  have h : i = 0 ∨ i = 1 ∨ i = 2 ∨ i = 3 := by omega
  rcases h with rfl | rfl | rfl | rfl
  all_goals
    go_enter Tryz.func47, Tryz.ntmps47
    go_wp2
    go_ret
    refine ⟨ret_int ?_, rfl⟩
    revert m
    decide

theorem woB_lt {m i : Nat} (hm : m < 16) : woB m i < 16 := by
  unfold woB; split
  · exact Nat.lt_of_le_of_lt (Nat.sub_le _ _) hm
  · exact hm
theorem woB_has : ∀ m, m < 16 → ∀ i, i < 4 → ∀ j, j < 4 → hasB (woB m i) j = (hasB m j && decide (j ≠ i)) := by decide
theorem allB_lt {n : Nat} (hn : n ≤ 4) : allB n < 16 := by
  have h : n = 0 ∨ n = 1 ∨ n = 2 ∨ n = 3 ∨ n = 4 := by omega
  rcases h with rfl | rfl | rfl | rfl | rfl <;> decide
theorem allB_has : ∀ n, n ≤ 4 → ∀ j, j < 4 → hasB (allB n) j = decide (j < n) := by
  intro n hn
  have h : n = 0 ∨ n = 1 ∨ n = 2 ∨ n = 3 ∨ n = 4 := by omega
  rcases h with rfl | rfl | rfl | rfl | rfl <;> decide
theorem hasB_zero (m : Nat) (hm : m < 16) : m = 0 ↔ ∀ j, j < 4 → hasB m j = false := by
  revert m; decide

end Go.Proofs.YtmlikgjfpmjdcaaGreatDoor

/- The contracts of rank, prefers (lots) and rank (mestaref08); conditions: the village is there, the mountain is in its list. -/
namespace Go.Proofs.YtmlikgjfpmjdcaaGreatDoor
open Go.RowKit

/-- How much a village likes a mountain. -/
def rk (vs : List Vil) (i : Nat) (x : Int) : Int := placeOf (vs.getD i ⟨0, 0, []⟩).likes x
theorem rk_at {vs : List Vil} {i : Nat} (h : i < vs.length) (x : Int) : rk vs i x = placeOf vs[i].likes x := by simp [rk, h]

set_option maxHeartbeats 400000 in
theorem rank_c {A : Nat → Prop} {w : World} {wb : Nat} {vm vv : Value} {vs : List Vil} {T : TypeId} (hw : Blk wb #[vm, vv] T w) (h : Vils A w vv vs) (i : Nat) (hi : i < vs.length) (x : Int) :
    Calls Tryz.prog 84 #[.pointer (some ⟨wb, 0, none⟩), .int .i64 i, .int .i64 x] w fun e w' => e = .returned (.int .i64 (rk vs i x)) ∧ Qt w w' := by
  obtain ⟨av, cv, rfl, _, _⟩ := h.shape
  obtain ⟨b, o, rfl, _, _⟩ := h.addr (by omega)
  obtain ⟨p, d, g1, g2, g3, hl⟩ := h.at i hi
  have n1 := h.len
  have c1 := hw.cell 1
  have e := rk_at hi x
  generalize rk vs i x = r at e ⊢
  have HE := Lib.hid e; clear e
  go_enter Tryz.func84, Tryz.ntmps84
  go_wp2_with (go_at_call 46; refine (index_c x hl).mono ?_; rintro e w' ⟨rfl, hq⟩)
  go_ret
  exact ⟨ret_int HE.out.symm, hq⟩

theorem prefers_c {A : Nat → Prop} {w : World} {wb : Nat} {vm vv : Value} {vs : List Vil} {T : TypeId} (hw : Blk wb #[vm, vv] T w) (h : Vils A w vv vs) (i : Nat) (hi : i < vs.length) (x y : Int) :
    Calls Tryz.prog 70 #[.pointer (some ⟨wb, 0, none⟩), .int .i64 i, .int .i64 x, .int .i64 y] w fun e w' => e = .returned (.bool (decide (rk vs i x < rk vs i y))) ∧ Qt w w' := by
  go_enter Tryz.func70, Tryz.ntmps70
  go_wp2_with fail
  refine (rank_c hw h i hi x).mono ?_
  rintro e w1 ⟨rfl, hq1⟩
  go_wp2_with fail
  refine (rank_c (T := T) (hw.keep (by rw [hq1.heap])) (h.qt hq1) i hi y).mono ?_
  rintro e w2 ⟨rfl, hq2⟩
  go_wp2_with fail
  go_ret
  exact ⟨rfl, hq1.trans hq2⟩

end Go.Proofs.YtmlikgjfpmjdcaaGreatDoor

