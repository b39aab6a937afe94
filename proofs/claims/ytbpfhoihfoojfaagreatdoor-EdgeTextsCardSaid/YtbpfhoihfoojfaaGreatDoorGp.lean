/- Groups of claims; conditions: as said. -/
import Derived.Test.YtbpfhoihfoojfaaGreatDoorMem
import Derived.Test.YtbpfhoihfoojfaaGreatDoorPla
import Derived.Scope
namespace Go.Proofs.YtbpfhoihfoojfaaGreatDoor
open Go.RowKit

theorem has_fact : ∀ g : Fin 128, ∀ i : Fin 16, (bits BinOp.and IntKind.u16 (((g.1 : Nat) : Int) / 2 ^ i.1) 1 == 1) = g.1.testBit i.1 := by decide +kernel
theorem has_c {g i : Nat} (hg : g < 128) (hi : i < 16) (w : World) : Calls Tryz.prog 76 #[.int .u16 g, .int .i64 i] w fun e w' => e = .returned (.bool (g.testBit i)) ∧ w = w' := by
  go_enter Tryz.func76, Tryz.ntmps76
  go_wp2
  go_ret
  exact ⟨ret_bool (has_fact ⟨g, hg⟩ ⟨i, hi⟩), rfl⟩

theorem index_str (s : ByteArray) (k : Nat) (h : k < s.size) (w : World) : (Instr.index 9 (.string s) (.int .u16 k)).run Tryz.prog w = .ok (.int .u8 ((s.get k h).toNat : Int)) w := by
  rw [run_index_string (P := Tryz.prog) w 9 _ .u16 (k : Int) Tryz.underlying9, dif_pos (by omega)]
  rfl
theorem ones_hi : ∀ g : Fin 128, IntKind.u16.wrap (((g.1 : Nat) : Int) / 256) = 0 := by decide +kernel
theorem ones_lo : ∀ g : Fin 128, bits BinOp.and IntKind.u16 ((g.1 : Nat) : Int) 255 = ((g.1 : Nat) : Int) := by decide +kernel

theorem all_lt {P : ∀ g, g < 128 → Prop} (h : ∀ g : Fin 128, P g.1 g.2) (g : Nat) (hg : g < 128) : P g hg := h ⟨g, hg⟩
instance decAllProp {p : Prop} {q : p → Prop} [Decidable p] [∀ h, Decidable (q h)] : Decidable (∀ h, q h) :=
  if h : p then decidable_of_iff (q h) ⟨fun hq _ => hq, fun hq => hq h⟩ else isTrue fun h' => absurd h' h

set_option maxRecDepth 100000 in
theorem ones_c (g : Nat) (hg : g < 128) (w : World) : Calls Tryz.prog 99 #[.int .u16 g] w fun e w' => e = .returned (.int .i64 (sizeG g)) ∧ Qt w w' := by
  have f1 : bits BinOp.and IntKind.u16 (g : Int) 255 = (g : Int) := ones_lo ⟨g, hg⟩
  have f2 : (g : Int) / 256 = ((0 : Nat) : Int) := by omega
  have f3 : (g : Int) < 256 := by omega
  go_enter Tryz.func99, Tryz.ntmps99
  go_upto_region 1 with fail
  refine wp_region_mix2 (.pur 0 (.pur 1 (.pur 2 (.pur 3 (.pur 4 (.pur 5 (.pur 6 (.pur 7 (.pur 8 .fin))))))))) 99 (fun _ => True) (fun _ => True) (by kernel_rfl) (by kernel_rfl) rfl (by kernel_rfl) trivial (fun wd hqd _ => ?_)
  refine mix_pur2 rfl (fun K hK => ?_)
  go_simp
  first | refine ⟨_, fun _ => rfl, hK _ ?_⟩ | refine hK _ ?_
  clear hK K
  refine mix_pur2 rfl (fun K hK => ?_)
  go_simp
  first | refine ⟨_, fun _ => rfl, hK _ ?_⟩ | refine hK _ ?_
  clear hK K
  refine mix_pur2 rfl (fun K hK => ?_)
  go_simp
  first | refine ⟨_, fun _ => rfl, hK _ ?_⟩ | refine hK _ ?_
  clear hK K
  refine mix_pur2 rfl (fun K hK => ?_)
  go_simp
  first | refine ⟨_, fun _ => rfl, hK _ ?_⟩ | refine hK _ ?_
  clear hK K
  refine mix_pur2 rfl (fun K hK => ?_)
  go_simp
  first | refine ⟨_, fun _ => rfl, hK _ ?_⟩ | refine hK _ ?_
  clear hK K
  refine mix_pur2 rfl (fun K hK => ?_)
  go_simp
  first | refine ⟨_, fun _ => rfl, hK _ ?_⟩ | refine hK _ ?_
  clear hK K
  refine mix_pur2 rfl (fun K hK => ?_)
  go_simp
  first | refine ⟨_, fun _ => rfl, hK _ ?_⟩ | refine hK _ ?_
  clear hK K
  refine mix_pur2 rfl (fun K hK => ?_)
  go_simp
  first | refine ⟨_, fun _ => rfl, hK _ ?_⟩ | refine hK _ ?_
  clear hK K
  refine mix_pur2 rfl (fun K hK => ?_)
  go_simp
  first | refine ⟨_, fun _ => rfl, hK _ ?_⟩ | refine hK _ ?_
  clear hK K
  refine mix_done2 ?_
  go_wp2
  go_ret
  refine ⟨ret_int ?_, hqd⟩
  clear f1 f2 hqd wd w
  revert f3
  revert hg
  revert g
  exact all_lt (by decide +kernel)

/-- The members of a group among the first k. -/
def bitsL (g k : Nat) : List Int := ((List.range k).filter fun i => g.testBit i).map fun i : Nat => (i : Int)
theorem bitsL_succ (g k : Nat) : bitsL g (k + 1) = bitsL g k ++ if g.testBit k = true then [(k : Int)] else [] := by
  unfold bitsL
  rw [List.range_succ, List.filter_append, List.map_append]
  congr 1
  by_cases h : g.testBit k = true
  · rw [if_pos h, List.filter_cons_of_pos h]; rfl
  · rw [if_neg h, List.filter_cons_of_neg h]; rfl
theorem bitsL_all (g : Nat) : bitsL g 16 = (maskL g).map fun i : Nat => (i : Int) := rfl
theorem bitsL_len (g k : Nat) : (bitsL g k).length ≤ k := by
  unfold bitsL
  rw [List.length_map]
  exact Nat.le_trans (List.length_filter_le ..) (by simp)

set_option maxHeartbeats 1000000 in
theorem list_c {g : Nat} (hg : g < 128) (w : World) : Calls Tryz.prog 48 #[.int .u16 g] w fun e w' => ∃ v, e = .returned v ∧ Own w.heap.size w' 3 1 v (bitsL g 16).length (I64 (bitsL g 16)) ∧ Below w.heap.size w w' := by
  go_enter Tryz.func48, Tryz.ntmps48
  go_wp2
  go_loopw [3, 5] (fun v i wr => ∃ k : Nat, k ≤ 16 ∧ i = .int .i64 k ∧ Own w.heap.size wr 3 1 v (bitsL g k).length (I64 (bitsL g k)) ∧ Below w.heap.size w wr) (fun _ i _ => 16 - (intOf i).toNat)
  case atStart => exact ⟨0, Nat.zero_le _, rfl, Own.nil, Below.refl _ _⟩
  case round =>
    obtain ⟨k, hk, rfl, ho, hB⟩ := hrel
    have hsz := hB.size
    by_cases hlt : k < 16
    · have hlen := bitsL_len g k
      cases hb : g.testBit k with
      | true =>
        have HE := Lib.hid (show bitsL g (k + 1) = bitsL g k ++ [(k : Int)] by rw [bitsL_succ, if_pos hb])
        have ho' := Own.alloc ho (.cells #[.int .i64 (k : Int)] 3)
        have ha := arr_one wr 3 (.int .i64 (k : Int))
        go_wp2_with (first | (go_at_call 76; refine (has_c hg hlt _).mono ?_; rintro e w' ⟨rfl, rfl⟩) | (at_builtin; refine wpList_append_arr rfl _ _ 26 rfl 3 (.int .i64 0) 1 8 Tryz.underlying26 Tryz.info3 rfl (by decide) (by decide) (by simp; omega) ho' rfl ha rfl rfl (one_int _) (by omega) ?_; intro v' w' hown hT))
        go_roundw
        case rel =>
          refine ⟨k + 1, by omega, by go_num, ?_, hT.below ho' (hB.alloc (by omega) _) (by simp; omega)⟩
          rw [HE.out, I64_append, List.length_append]
          exact hown
        case measure => simp [intOf]; omega
      | false =>
        have HE := Lib.hid (show bitsL g (k + 1) = bitsL g k by rw [bitsL_succ, hb]; simp)
        go_wp2_with (go_at_call 76; refine (has_c hg hlt _).mono ?_; rintro e w' ⟨rfl, rfl⟩)
        go_roundw
        case rel => exact ⟨k + 1, by omega, by go_num, by rw [HE.out]; exact ho, hB⟩
        case measure => simp [intOf]; omega
    · obtain rfl : k = 16 := by omega
      go_wp2
      go_ret
      exact ⟨_, rfl, ho, hB⟩

theorem size_c {g : Nat} (hg : g < 128) (w : World) : Calls Tryz.prog 74 #[.int .u16 g] w fun e w' => e = .returned (.int .i64 (sizeG g)) ∧ Qt w w' := by
  go_enter Tryz.func74, Tryz.ntmps74
  go_wp2_with (go_at_call 99; refine (ones_c g hg w).mono ?_; rintro e w' ⟨rfl, hq⟩)
  go_ret
  exact ⟨rfl, hq⟩

end Go.Proofs.YtbpfhoihfoojfaaGreatDoor

namespace Go.Proofs.YtbpfhoihfoojfaaGreatDoor
open Go.RowKit

def cmpI (x y : Int) : Int := if x < y then -1 else if y < x then 1 else 0
def cmpLI : List Int → List Int → Int
  | [], [] => 0
  | [], _ :: _ => -1
  | _ :: _, [] => 1
  | a :: s, b :: t => if cmpI a b ≠ 0 then cmpI a b else cmpLI s t

theorem isNaN_c (x : Int) (w : World) : Calls Tryz.prog 98 #[.int .i64 x] w fun e w' => e = .returned (.bool false) ∧ w' = w := by
  have hb : (x != x) = false := by simp
  go_enter Tryz.func98, Tryz.ntmps98
  go_wp2
  go_ret
  exact ⟨rfl, rfl⟩

theorem cmpI_c (x y : Int) (w : World) : Calls Tryz.prog 73 #[.int .i64 x, .int .i64 y] w fun e w' => e = .returned (.int .i64 (cmpI x y)) ∧ w' = w := by
  by_cases h : x < y
  · have b1 : decide (x < y) = true := decide_eq_true h
    go_enter Tryz.func73, Tryz.ntmps73
    go_wp2_with (go_at_call 98; refine (isNaN_c _ _).mono ?_; rintro e w' ⟨rfl, rfl⟩)
    go_ret
    exact ⟨ret_int (by rw [cmpI, if_pos h]), rfl⟩
  · have b1 : decide (x < y) = false := decide_eq_false h
    by_cases h2 : y < x
    · have b2 : decide (y < x) = true := decide_eq_true h2
      go_enter Tryz.func73, Tryz.ntmps73
      go_wp2_with (go_at_call 98; refine (isNaN_c _ _).mono ?_; rintro e w' ⟨rfl, rfl⟩)
      go_ret
      exact ⟨ret_int (by rw [cmpI, if_neg (by omega), if_pos (by omega)]), rfl⟩
    · have b2 : decide (y < x) = false := decide_eq_false h2
      go_enter Tryz.func73, Tryz.ntmps73
      go_wp2_with (go_at_call 98; refine (isNaN_c _ _).mono ?_; rintro e w' ⟨rfl, rfl⟩)
      go_ret
      exact ⟨ret_int (by rw [cmpI, if_neg (by omega), if_neg (by omega)]), rfl⟩

theorem cmpLI_end {s t : List Int} (k : Nat) (h1 : k = s.length) : cmpLI (s.drop k) (t.drop k) = if k < t.length then -1 else 0 := by
  subst h1
  rw [List.drop_length]
  by_cases h : s.length < t.length
  · rw [List.drop_eq_getElem_cons h, if_pos h]; rfl
  · rw [List.drop_eq_nil_of_le (by omega), if_neg h]; rfl
theorem cmpLI_longer {s t : List Int} (k : Nat) (h1 : k < s.length) (h2 : k = t.length) : cmpLI (s.drop k) (t.drop k) = 1 := by
  have e : t.drop k = [] := List.drop_eq_nil_of_le (by omega)
  rw [List.drop_eq_getElem_cons h1, e]; rfl
theorem cmpLI_step {s t : List Int} (k : Nat) (h1 : k < s.length) (h2 : k < t.length) : cmpLI (s.drop k) (t.drop k) = if cmpI s[k] t[k] ≠ 0 then cmpI s[k] t[k] else cmpLI (s.drop (k + 1)) (t.drop (k + 1)) := by
  rw [List.drop_eq_getElem_cons h1, List.drop_eq_getElem_cons h2]; rfl

set_option maxRecDepth 100000 in
theorem compare_c {A A' : Nat → Prop} {w : World} {v v2 : Value} {s t : List Int} (h : Ints A w v s) (h2 : Ints A' w v2 t) :
    Calls Tryz.prog 75 #[v, v2] w fun e w' => e = .returned (.int .i64 (cmpLI s t)) ∧ w' = w := by
  obtain ⟨a1, c1, rfl, _, _⟩ := h.shape
  obtain ⟨a2, c2, rfl, _, _⟩ := h2.shape
  have n1 := h.len
  have n2 := h2.len
  go_enter Tryz.func75, Tryz.ntmps75
  go_wp2
  go_loopw [11] (fun i wx => wx = w ∧ ∃ k : Nat, k ≤ s.length ∧ k ≤ t.length ∧ i = .int .i64 k ∧ cmpLI s t = cmpLI (s.drop k) (t.drop k)) (fun i _ => s.length - (intOf i).toNat)
  case atStart => exact ⟨rfl, 0, Nat.zero_le _, Nat.zero_le _, rfl, rfl⟩
  case round =>
    obtain ⟨rfl, k, hk, hk2, rfl, he⟩ := hrel
    have HE := Lib.hid he
    clear he
    by_cases hlt : k < s.length
    · obtain ⟨b1, o1, rfl, -, -, -⟩ := h.addr (by omega)
      have g1 := h.cell k hlt
      by_cases hlt2 : k < t.length
      · obtain ⟨b2, o2, rfl, -, -, -⟩ := h2.addr (by omega)
        have g2 := h2.cell k hlt2
        have hst := cmpLI_step k hlt hlt2
        obtain ⟨x, hx⟩ : ∃ x, x = s[k] := ⟨_, rfl⟩
        obtain ⟨y, hy⟩ : ∃ y, y = t[k] := ⟨_, rfl⟩
        rw [← hx] at g1 hst
        rw [← hy] at g2 hst
        clear hx hy
        have HST := Lib.hid hst
        clear hst
        have b3 : decide ((k : Int) ≥ (t.length : Int)) = false := decide_eq_false (by omega)
        by_cases hz : cmpI x y = 0
        · have bz : (cmpI x y != 0) = false := by simpa using hz
          have HZ := Lib.hid hz
          clear hz
          go_wp2_with (go_at_call 73; refine (cmpI_c x y _).mono ?_; rintro e w' ⟨rfl, rfl⟩)
          go_roundw
          case rel => exact ⟨trivial, k + 1, by omega, by omega, by go_num, by rw [HE.out, HST.out, if_neg (by rw [HZ.out]; simp)]⟩
          case measure => simp [intOf]; omega
        · have bz : (cmpI x y != 0) = true := by simpa using hz
          have HZ := Lib.hid hz
          clear hz
          go_wp2_with (go_at_call 73; refine (cmpI_c x y _).mono ?_; rintro e w' ⟨rfl, rfl⟩)
          go_ret
          exact ⟨ret_int (by rw [HE.out, HST.out, if_pos HZ.out]), rfl⟩
      · have hke : k = t.length := by omega
        have hlo := cmpLI_longer k hlt hke
        have HL := Lib.hid hlo
        clear hlo
        have b3 : decide ((k : Int) ≥ (t.length : Int)) = true := decide_eq_true (by omega)
        clear hke
        go_wp2
        go_ret
        exact ⟨ret_int (by rw [HE.out, HL.out]), rfl⟩
    · have hke : k = s.length := by omega
      have hen := cmpLI_end (t := t) k hke
      have HN := Lib.hid hen
      clear hen
      have HKE := Lib.hid hke
      clear hke
      by_cases hlt2 : s.length < t.length
      · have b3 : decide ((s.length : Int) < (t.length : Int)) = true := decide_eq_true (by omega)
        go_wp2
        go_ret
        exact ⟨ret_int (by rw [HE.out, HN.out, if_pos (by have := HKE.out; omega)]), rfl⟩
      · have b3 : decide ((s.length : Int) < (t.length : Int)) = false := decide_eq_false (by omega)
        go_wp2
        go_ret
        exact ⟨ret_int (by rw [HE.out, HN.out, if_neg (by have := HKE.out; omega)]), rfl⟩

def orL : List Int → Int
  | [] => 0
  | a :: l => if a ≠ 0 then a else orL l
theorem orL_drop {l : List Int} {k : Nat} (hk : k < l.length) : orL (l.drop k) = if l[k] ≠ 0 then l[k] else orL (l.drop (k + 1)) := by
  rw [List.drop_eq_getElem_cons hk]; rfl

set_option maxHeartbeats 400000 in
theorem or_c {A : Nat → Prop} {w : World} {v : Value} {l : List Int} (h : Ints A w v l) :
    Calls Tryz.prog 72 #[v] w fun e w' => e = .returned (.int .i64 (orL l)) ∧ Qt w w' := by
  obtain ⟨a1, c1, rfl, hc1, hm1⟩ := h.shape
  have n1 := h.len
  go_enter Tryz.func72, Tryz.ntmps72
  go_wp2
  go_loop [8] (fun v => ∃ k : Nat, k ≤ l.length ∧ v = .int .i64 k ∧ Hid (orL l = orL (l.drop k))) (fun v => l.length - (intOf v).toNat)
  case atStart => exact ⟨0, Nat.zero_le _, rfl, Lib.hid rfl⟩
  case round =>
    obtain ⟨k, hk, rfl, HP⟩ := hrel
    by_cases hlt : k < l.length
    · obtain ⟨b1, o1, rfl, _, _, _⟩ := h.addr (by omega)
      have g1 := h.cell k hlt
      by_cases hne : l[k] = 0
      · have hb : (l[k] != 0) = false := by simpa using hne
        have HN := Lib.hid hne; clear hne
        go_wp2
        go_round
        case rel => exact ⟨k + 1, by omega, by go_num, Lib.hid (by rw [HP.out, orL_drop hlt, if_neg (not_not_intro HN.out)])⟩
        case measure => simp [intOf]; omega
      · have hb : (l[k] != 0) = true := by simpa using hne
        have HN := Lib.hid hne; clear hne
        go_wp2
        go_ret
        exact ⟨ret_int (by rw [HP.out, orL_drop hlt, if_pos HN.out]), Qt.refl _⟩
    · go_wp2
      go_ret
      exact ⟨ret_int (by rw [HP.out, List.drop_eq_nil_of_le (by omega)]; rfl), Qt.refl _⟩

theorem cmpI_nat (a b : Nat) : cmpI (a : Int) (b : Int) = cmpN a b := by
  unfold cmpI cmpN
  by_cases h : a < b
  · rw [if_pos (by omega), if_pos h]
  · rw [if_neg (by omega), if_neg h]
    by_cases h2 : b < a
    · rw [if_pos (by omega), if_pos h2]
    · rw [if_neg (by omega), if_neg h2]
theorem cmpLI_nat : ∀ l m : List Nat, cmpLI (l.map fun i : Nat => (i : Int)) (m.map fun i : Nat => (i : Int)) = cmpL l m
  | [], [] => rfl
  | [], _ :: _ => rfl
  | _ :: _, [] => rfl
  | a :: l, b :: m => by
    have ih := cmpLI_nat l m
    rw [List.map_cons, List.map_cons]
    unfold cmpLI cmpL
    rw [ih, cmpI_nat]
    unfold cmpN
    by_cases h : a < b
    · rw [if_pos h, if_pos h, if_pos (by decide)]
    · rw [if_neg h, if_neg h]
      by_cases h2 : b < a
      · rw [if_pos h2, if_pos h2, if_pos (by decide)]
      · rw [if_neg h2, if_neg h2, if_neg (by decide)]
theorem or_cmp (g b : Nat) : orL [cmpI (sizeG g : Int) (sizeG b : Int), cmpLI (bitsL g 16) (bitsL b 16)] = cmpG g b := by
  rw [bitsL_all, bitsL_all, cmpLI_nat, cmpI_nat]
  unfold orL orL orL cmpG
  by_cases h : cmpN (sizeG g) (sizeG b) = 0
  · rw [if_neg (not_not_intro h), if_neg (not_not_intro h)]
    by_cases h2 : cmpL (maskL g) (maskL b) = 0
    · rw [if_neg (not_not_intro h2), h2]
    · rw [if_pos h2]
  · rw [if_pos h, if_pos h]

theorem shl_fact : ∀ n : Fin 8, IntKind.u16.wrap (2 ^ n.1) = ((2 ^ n.1 : Nat) : Int) := by decide +kernel

set_option maxRecDepth 100000 in
set_option maxHeartbeats 1000000 in
/-- fewest for the test of function 90. -/
theorem fewest90_c {n : Nat} (hn : n ≤ 7) {test : Nat → Bool} {w : World} {bt b1 : Nat} (hT : Blk bt #[.func (.func 46) #[] #[.pointer (some ⟨b1, 0, none⟩)]] 113 w)
    (ht : ∀ g : Nat, g < 2 ^ n → ∀ w', Below w.heap.size w w' → Calls Tryz.prog 46 #[.int .u16 (g : Int), .pointer (some ⟨b1, 0, none⟩)] w' fun e w'' => e = .returned (.bool (test g)) ∧ Below w'.heap.size w' w'') :
    Calls Tryz.prog 45 #[.int .i64 n, .slice (some ⟨bt, 0, none⟩) 1 1] w fun e w' => ∃ b s, e = .returned (.tuple #[.int .u16 (b : Nat), .bool s]) ∧ Best n test (2 ^ n) b s ∧ Below w.heap.size w w' := by
  have hp7 : 2 ^ n ≤ 128 := pow_le_128 hn
  have hT0 := hT.lt
  have hsh : IntKind.u16.wrap (2 ^ n) = ((2 ^ n : Nat) : Int) := shl_fact ⟨n, by omega⟩
  obtain ⟨N, hN⟩ : ∃ N, N = 2 ^ n := ⟨_, rfl⟩
  rw [← hN] at hsh ht hp7
  have HT := Lib.hid ht
  have HN := Lib.hid hN
  clear ht hN
  go_enter Tryz.func45, Tryz.ntmps45
  go_upto_region 1 with fail
  refine wp_scope_straight ?_
  go_wp2_with fail
  apply wp_label
  go_wp2_with fail
  go_loopw [6, 7, 8] (fun vb vs vg wr => ∃ (g b : Nat) (s : Bool), g ≤ N ∧ vg = .int .u16 (g : Int) ∧ vb = .int .u16 (b : Int) ∧ vs = .bool s ∧ Best n test g b s ∧ Below w.heap.size w wr) (fun _ _ vg _ => N - (intOf vg).toNat)
  case atStart => exact ⟨0, 0, false, Nat.zero_le _, rfl, rfl, rfl, Best.start n test, Below.refl _ _⟩
  case round =>
    obtain ⟨g, b, s, hg, rfl, rfl, rfl, hbest, hB⟩ := hrel
    have hTr := hT.below hB hT0
    by_cases hlt : g < N
    · have hg128 : g < 128 := by omega
      have hlt' : g < 2 ^ n := by rw [← HN.out]; exact hlt
      have bg : IntKind.u16.wrap ((g : Int) + 1) = ((g + 1 : Nat) : Int) := by rw [IntWalk.u16_in _ (by omega)]; omega
      cases s with
      | false =>
        go_wp2_with fail
        refine wp_loop_rounds 2 ?_
        rw [rounds_succ]
        have c0 := hTr.cell 0
        go_wp2_with fail
        refine (HT.out g hlt _ hB).mono ?_
        rintro e w9 ⟨rfl, hB9⟩
        have hB9 := hB.trans (hB9.mono (by have := hB.size; omega))
        clear c0
        cases htg : test g with
        | false =>
          go_wp2_with fail
          go_roundw
          case rel => exact ⟨g + 1, b, false, by omega, by first | rfl | go_num, rfl, rfl, hbest.fail htg, hB9⟩
          case measure => simp [intOf]; omega
        | true =>
          go_wp2_with fail
          rw [rounds_succ]
          go_wp2_with fail
          go_roundw
          case rel => exact ⟨g + 1, g, true, by omega, by first | rfl | go_num, rfl, rfl, hbest.take hn hlt' htg (fun h => absurd h (by decide)), hB9⟩
          case measure => simp [intOf]; omega
      | true =>
        obtain ⟨hbg, -, -⟩ := hbest.yes rfl
        have hb128 : b < 128 := by omega
        have hor := or_cmp g b
        go_wp2_with fail
        refine (size_c hg128 _).mono ?_
        rintro e w2 ⟨rfl, hq2⟩
        go_wp2_with fail
        refine (size_c hb128 _).mono ?_
        rintro e w3 ⟨rfl, hq3⟩
        go_wp2_with fail
        refine (cmpI_c _ _ _).mono ?_
        rintro e w4 ⟨rfl, rfl⟩
        go_wp2_with fail
        refine (list_c hg128 _).mono ?_
        rintro e w5 ⟨v5, rfl, ho5, hB5⟩
        go_wp2_with fail
        refine (list_c hb128 _).mono ?_
        rintro e w6 ⟨v6, rfl, ho6, hB6⟩
        go_wp2_with fail
        refine (compare_c (ho5.ints.call hB6) ho6.ints).mono ?_
        rintro e w7 ⟨rfl, rfl⟩
        go_wp2_with fail
        have hl7 := Own.ints (n := 2) (l := [cmpI (sizeG g : Int) (sizeG b : Int), cmpLI (bitsL g 16) (bitsL b 16)]) (own_lit w7 3 1 #[.int .i64 (cmpI (sizeG g : Int) (sizeG b : Int)), .int .i64 (cmpLI (bitsL g 16) (bitsL b 16))] 2 rfl (by omega))
        refine (or_c hl7).mono ?_
        rintro e w8 ⟨rfl, hq8⟩
        have hB8 : Below w.heap.size w w8 := by
          have h3 := hB.trans ((hq2.trans hq3).below w.heap.size)
          have h7 := (h3.trans (hB5.mono h3.size)).trans (hB6.mono (h3.trans (hB5.mono h3.size)).size)
          exact (h7.alloc h7.size _).trans (hq8.below _)
        have hT8 := hT.below hB8 hT0
        clear hl7 ho5 ho6 hB5 hB6 hq2 hq3 hq8
        by_cases hc : 0 ≤ cmpG g b
        · go_wp2_with fail
          go_roundw
          case rel => exact ⟨g + 1, b, true, by omega, by first | rfl | go_num, rfl, rfl, hbest.skip hn hlt' hc, hB8⟩
          case measure => simp [intOf]; omega
        · go_wp2_with fail
          refine wp_loop_rounds 2 ?_
          rw [rounds_succ]
          have c0 := hT8.cell 0
          go_wp2_with fail
          refine (HT.out g hlt _ hB8).mono ?_
          rintro e w9 ⟨rfl, hB9⟩
          have hB9 := hB8.trans (hB9.mono (by have := hB8.size; omega))
          clear c0
          cases htg : test g with
          | false =>
            go_wp2_with fail
            go_roundw
            case rel => exact ⟨g + 1, b, true, by omega, by first | rfl | go_num, rfl, rfl, hbest.fail htg, hB9⟩
            case measure => simp [intOf]; omega
          | true =>
            go_wp2_with fail
            rw [rounds_succ]
            go_wp2_with fail
            go_roundw
            case rel => exact ⟨g + 1, g, true, by omega, by first | rfl | go_num, rfl, rfl, hbest.take hn hlt' htg (fun _ => by omega), hB9⟩
            case measure => simp [intOf]; omega
    · obtain rfl : g = N := by omega
      go_wp2_with fail
      refine ⟨rfl, _, results_tmp2 rfl _ _ _, ?_⟩
      exact ⟨b, s, rfl, by rw [← HN.out]; exact hbest, hB⟩

end Go.Proofs.YtbpfhoihfoojfaaGreatDoor

namespace Go.Proofs.YtbpfhoihfoojfaaGreatDoor
open Go.RowKit

theorem Tryz.info54 : (Tryz.prog.info? 54).map (fun i => (i.zero, i.size, i.bytes)) = some (some (.agg #[.int .i64 0, .int .i64 0, .int .i64 0, .int .i64 0, .int .i64 0]), 5, 40) := by kernel_rfl
theorem ccells_one (c : Cl) : ∀ u ∈ ccells c, u.oneCell' = true := by
  intro u hu
  simp only [ccells, List.mem_cons, List.not_mem_nil, or_false] at hu
  rcases hu with rfl | rfl | rfl | rfl | rfl <;> rfl
theorem Own.cls {B : Nat} {w : World} {v : Value} {l : List Cl} (h : Own B w 54 5 v l.length (l.flatMap ccells)) : ClsM (fun k => B ≤ k) w v l := Own.arr h
theorem own_slice {B : Nat} {w : World} {e : TypeId} {sz n : Nat} {v : Value} {xs : List Value} (h : Own B w e sz v n xs) : ∃ ao cap, v = .slice ao n cap := by
  rcases h.2 with ⟨rfl, rfl⟩ | ⟨g, cap, cur, rfl, _⟩
  · exact ⟨none, 0, rfl⟩
  · exact ⟨_, cap, rfl⟩
theorem keepL_take {keep : Nat → Bool} {l : List Cl} {k : Nat} (hk : k < l.length) : keepL keep (l.take (k + 1)) 0 = keepL keep (l.take k) 0 ++ if keep k = true then [l[k]] else [] := by
  rw [List.take_succ_eq_append_getElem hk, keepL_snoc, List.length_take, Nat.zero_add, Nat.min_eq_left (by omega)]
theorem cls_snoc (l : List Cl) (c : Cl) : (l ++ [c]).flatMap ccells = l.flatMap ccells ++ ccells c := by simp

/-- An edge in the making: its block, and its claims, which the call owns. -/
structure EM (N b : Nat) (P B : Int) (l : List Cl) (vl : Value) (w : World) : Prop where
  blk : Blk b #[.int .i64 P, .int .i64 B, vl] 24 w
  own : Own N w 54 5 vl l.length (l.flatMap ccells)
  low : b < N
theorem EM.call {N b : Nat} {P B : Int} {l : List Cl} {vl : Value} {w w' : World} (h : EM N b P B l vl w) (hB : Below w.heap.size w w') : EM N b P B l vl w' := ⟨h.blk.call hB, h.own.call hB, h.low⟩
theorem EM.old {N b : Nat} {P B : Int} {l : List Cl} {vl v' : Value} {w w' : World} (h : EM N b P B l vl w) (hT : Turned w w' vl v') : Blk b #[.int .i64 P, .int .i64 B, vl] 24 w' := h.blk.keep (hT.block b h.blk.lt (fun e => by have := (World.ownsRow.lt h.own b e).1; have := h.low; omega))
theorem EM.put {N b : Nat} {P B : Int} {l l' : List Cl} {vl v' : Value} {w w' : World} (h : EM N b P B l vl w) (ho : Own N w' 54 5 v' l'.length (l'.flatMap ccells)) (hT : Turned w w' vl v') : EM N b P B l' v' (w'.setCell ⟨b, 2, none⟩ v') := by
  have h1 : Blk b #[.int .i64 P, .int .i64 B, vl] 24 w' := h.blk.keep (hT.block b h.blk.lt (fun e => by have := (World.ownsRow.lt h.own b e).1; have := h.low; omega))
  exact ⟨h1.set 2 v', ho.step fun k hk _ hl => Below.heap_setCell w' _ v' k (by have := h.low; show k ≠ b; omega), h.low⟩

set_option maxRecDepth 100000 in
set_option maxHeartbeats 1000000 in
theorem only_c {g : Nat} (hg : g < 128) {A : Nat → Prop} {w : World} {x : Edg} {v : Value} (h : ClsM A w v x.claims) (hm : x.claims.length ≤ 16) :
    Calls Tryz.prog 47 #[.agg #[.int .i64 x.points, .int .i64 x.bend, v], .int .u16 g] w fun e w' => ∃ v', e = .returned (.agg #[.int .i64 x.points, .int .i64 x.bend, v']) ∧ ClsM (fun k => w.heap.size ≤ k) w' v' (partF x fun i => g.testBit i).claims ∧ Below w.heap.size w w' := by
  obtain ⟨a1, c1, rfl, hc1, hm1⟩ := h.shape
  have n1 := h.len
  obtain ⟨w1, hw1⟩ : ∃ w1, w1 = (w.alloc (.cells #[.int .i64 x.points, .int .i64 x.bend, .slice none 0 0] 24)).alloc (.cells #[.int .i64 0, .int .i64 0, .slice none 0 0] 24) := ⟨_, rfl⟩
  obtain ⟨b0, hb0⟩ : ∃ b, b = w.heap.size := ⟨_, rfl⟩
  have hX : EM (b0 + 2) b0 x.points x.bend [] (.slice none 0 0) w1 := by
    rw [hw1, hb0]
    exact ⟨(Blk.new w _ _).alloc _, Own.nil, by omega⟩
  have hR : Blk (b0 + 1) #[.int .i64 0, .int .i64 0, .slice none 0 0] 24 w1 := by
    rw [hw1, hb0]
    exact blk_at (by simp) _ _
  have hB1 : Below w.heap.size w w1 := by rw [hw1]; exact ((Below.refl _ w).alloc (Nat.le_refl _) _).alloc (by simp) _
  have hz1 : b0 + 2 ≤ w1.heap.size := by rw [hw1, hb0]; simp
  have hC1 : ClsM (fun k => k < w.heap.size) w1 (.slice a1 x.claims.length c1) x.claims := (h.wide fun k _ hk => hk).below hB1 fun k hk _ => hk
  go_enter Tryz.func47, Tryz.ntmps47
  go_upto_region 3 with fail
  rw [← hw1, ← hb0]
  have hbw : w.heap.size ≤ b0 := Nat.le_of_eq hb0.symm
  have hbw2 : b0 ≤ w.heap.size := Nat.le_of_eq hb0
  clear hw1 hb0
  go_wp2_with fail
  go_loopw [13] (fun i wr => ∃ (k : Nat) (vl : Value), k ≤ x.claims.length ∧ i = .int .i64 k ∧ EM (b0 + 2) b0 x.points x.bend (keepL (fun i => g.testBit i) (x.claims.take k) 0) vl wr ∧ Blk (b0 + 1) #[.int .i64 0, .int .i64 0, .slice none 0 0] 24 wr ∧ Below w.heap.size w wr) (fun i _ => x.claims.length - (intOf i).toNat)
  case atStart => exact ⟨0, _, Nat.zero_le _, rfl, hX, hR, hB1⟩
  case round =>
    obtain ⟨k, vl, hk, rfl, hE, hRr, hB⟩ := hrel
    clear hX hR hB1 hz1
    have hCr : ClsM (fun k => k < w.heap.size) wr (.slice a1 x.claims.length c1) x.claims := (h.wide fun k _ hk => hk).below hB fun k hk _ => hk
    have hbl := hE.blk.lt
    have hrl := hRr.lt
    by_cases hlt : k < x.claims.length
    · obtain ⟨gc, o, rfl, hA, hgc⟩ := cls_addr hCr (by omega)
      obtain ⟨d0, d1, d2, d3, d4⟩ := cls_at hCr k hlt
      have HT := Lib.hid (keepL_take (keep := fun i => g.testBit i) hlt)
      have hBw := hB.alloc (by omega) (.cells #[.int .i64 x.claims[k].kind, .int .i64 x.claims[k].point, .int .i64 x.claims[k].other, .int .i64 x.claims[k].off, .int .i64 x.claims[k].err] 54)
      have hBx := (Below.refl wr.heap.size wr).alloc (Nat.le_refl _) (.cells #[.int .i64 x.claims[k].kind, .int .i64 x.claims[k].point, .int .i64 x.claims[k].other, .int .i64 x.claims[k].off, .int .i64 x.claims[k].err] 54)
      have hE2 := hE.call hBx
      have hR2 := hRr.call hBx
      cases hb : g.testBit k with
      | true =>
        have hkl := keepL_len (keep := fun i => g.testBit i) (x.claims.take k) 0
        rw [List.length_take] at hkl
        obtain ⟨av, cv, rfl⟩ := own_slice hE.own
        have c2 := hE.blk.cell 2
        have f2 := hE.blk.free 2
        go_upto_region 7 with (go_at_call 76; refine (has_c hg (by omega) _).mono ?_; rintro e w' ⟨rfl, rfl⟩)
        obtain ⟨L, hL⟩ : ∃ L, L = keepL (fun i => g.testBit i) (x.claims.take k) 0 := ⟨_, rfl⟩
        rw [← hL] at hE hE2 hkl c2
        have HL := Lib.hid hL
        clear hL
        have hE3 := hE2.call ((Below.refl _ _).alloc (Nat.le_refl _) (.cells #[.int .i64 x.claims[k].kind, .int .i64 x.claims[k].point, .int .i64 x.claims[k].other, .int .i64 x.claims[k].off, .int .i64 x.claims[k].err] 54))
        have hR3 := hR2.call ((Below.refl _ _).alloc (Nat.le_refl _) (.cells #[.int .i64 x.claims[k].kind, .int .i64 x.claims[k].point, .int .i64 x.claims[k].other, .int .i64 x.claims[k].off, .int .i64 x.claims[k].err] 54))
        have hB3 := hBw.alloc (by simp; omega) (.cells #[.int .i64 x.claims[k].kind, .int .i64 x.claims[k].point, .int .i64 x.claims[k].other, .int .i64 x.claims[k].off, .int .i64 x.claims[k].err] 54)
        have ha := Own.arr (own_lit (wr.alloc (.cells #[.int .i64 x.claims[k].kind, .int .i64 x.claims[k].point, .int .i64 x.claims[k].other, .int .i64 x.claims[k].off, .int .i64 x.claims[k].err] 54)) 54 5 #[.int .i64 x.claims[k].kind, .int .i64 x.claims[k].point, .int .i64 x.claims[k].other, .int .i64 x.claims[k].off, .int .i64 x.claims[k].err] 1 rfl (by omega))
        rw [World.size_alloc] at ha
        go_wp2_with (at_builtin; go_loud (refine wpList_append_arr rfl _ _ 22 rfl 54 _ 5 40 Tryz.underlying22 Tryz.info54 rfl (by decide) (by decide) (by simp; omega) hE3.own rfl ha rfl rfl (ccells_one _) (by omega) ?_; intro v' w4 hown hT; obtain ⟨a4, c4, rfl⟩ := own_slice hown; have hb4 := EM.old hE3 hT; have e4 := hb4.cell 2; have f4 := hb4.free 2))
        have hE5 := hE3.put (l' := L ++ [x.claims[k]]) (by rw [List.length_append, List.length_singleton, cls_snoc]; exact hown) hT
        have hR5 := hR3.keep ((Below.heap_setCell w4 ⟨b0, 2, none⟩ (.slice a4 (L.length + 1) c4) (b0 + 1) (by simp)).trans (hT.block _ hR3.lt (fun e => by have := (World.ownsRow.lt hE3.own _ e).1; omega)))
        have hB5 := (hT.below2 hE3.own hB3 (by simp; omega) (by omega)).setCell (p := ⟨b0, 2, none⟩) hbw (.slice a4 (L.length + 1) c4)
        clear hown hT hb4 e4 f4 ha hE3 hR3 hB3 hE2 hR2
        generalize w4.setCell ⟨b0, 2, none⟩ (.slice a4 (L.length + 1) c4) = w5 at hE5 hR5 hB5 ⊢
        go_wp2
        go_roundw
        case rel => exact ⟨k + 1, _, by omega, by go_num, by rw [HT.out, if_pos hb, ← HL.out]; exact hE5, hR5, hB5⟩
        case measure => simp [intOf]; omega
      | false =>
        go_wp2_with (go_at_call 76; refine (has_c hg (by omega) _).mono ?_; rintro e w' ⟨rfl, rfl⟩)
        go_roundw
        case rel => exact ⟨k + 1, vl, by omega, by go_num, by rw [HT.out, hb]; simpa using hE2, hR2, hBw⟩
        case measure => simp [intOf]; omega
    · obtain rfl : k = x.claims.length := by omega
      rw [List.take_length] at hE
      obtain ⟨L, hL⟩ : ∃ L, L = keepL (fun i => g.testBit i) x.claims 0 := ⟨_, rfl⟩
      rw [← hL] at hE
      have HL := Lib.hid hL
      clear hL
      obtain ⟨av, cv, rfl⟩ := own_slice hE.own
      have c0 := hE.blk.cell 0
      have c1' := hE.blk.cell 1
      have c2 := hE.blk.cell 2
      have d0 := hRr.cell 0
      have d1 := hRr.cell 1
      have d2 := hRr.cell 2
      have f0 := hRr.free 0
      have f1 := hRr.free 1
      have f2 := hRr.free 2
      go_wp2
      have hR4 := hRr.set3 (x' := .int .i64 x.points) (y' := .int .i64 x.bend) (z' := .slice av L.length cv)
      have hB4 := ((hB.setCell (p := ⟨b0 + 1, 0, none⟩) (by show w.heap.size ≤ b0 + 1; omega) (.int .i64 x.points)).setCell (p := ⟨b0 + 1, 1, none⟩) (by show w.heap.size ≤ b0 + 1; omega) (.int .i64 x.bend)).setCell (p := ⟨b0 + 1, 2, none⟩) (by show w.heap.size ≤ b0 + 1; omega) (.slice av L.length cv)
      have hO4 : ClsM (fun q => b0 + 2 ≤ q) (((wr.setCell ⟨b0 + 1, 0, none⟩ (.int .i64 x.points)).setCell ⟨b0 + 1, 1, none⟩ (.int .i64 x.bend)).setCell ⟨b0 + 1, 2, none⟩ (.slice av L.length cv)) (.slice av L.length cv) L :=
        hE.own.cls.step (by simp [World.setCell]) fun q hq _ => (Below.heap_setCell _ _ _ _ (show q ≠ b0 + 1 by omega)).trans ((Below.heap_setCell _ _ _ _ (show q ≠ b0 + 1 by omega)).trans (Below.heap_setCell _ _ _ _ (show q ≠ b0 + 1 by omega)))
      generalize ((wr.setCell ⟨b0 + 1, 0, none⟩ (.int .i64 x.points)).setCell ⟨b0 + 1, 1, none⟩ (.int .i64 x.bend)).setCell ⟨b0 + 1, 2, none⟩ (.slice av L.length cv) = wf at hR4 hB4 hO4 ⊢
      have x0 := hR4.cell 0
      have x1 := hR4.cell 1
      have x2 := hR4.cell 2
      exact bodyPost_ret (v := .agg #[.int .i64 x.points, .int .i64 x.bend, .slice av L.length cv]) (by simp [results, Tryz.results47, go_sem, x0, x1, x2]) rfl ⟨_, rfl, by show ClsM _ _ _ (keepL _ _ _); rw [← HL.out]; exact hO4.wide fun q hq _ => by omega, hB4⟩

end Go.Proofs.YtbpfhoihfoojfaaGreatDoor

