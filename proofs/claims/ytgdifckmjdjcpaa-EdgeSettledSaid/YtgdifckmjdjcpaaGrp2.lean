/- Contracts of cmp.Compare, slices.Compare, cmp.Or, and of fewest, the first smallest group that passes a test (edge); conditions: at most seven claims, and the test's own contract. -/
import Derived.Test.YtgdifckmjdjcpaaGrp1
import Derived.Test.YtgdifckmjdjcpaaEdgT3
import Derived.Scope
namespace Go.Proofs.Ytgdifckmjdjcpaa
open Go.RowKit

def cmpI (x y : Int) : Int := if x < y then -1 else if y < x then 1 else 0
def cmpLI : List Int → List Int → Int
  | [], [] => 0
  | [], _ :: _ => -1
  | _ :: _, [] => 1
  | a :: s, b :: t => if cmpI a b ≠ 0 then cmpI a b else cmpLI s t

theorem isNaN_c (x : Int) (w : World) : Calls Try.prog 126 #[.int .i64 x] w fun e w' => e = .returned (.bool false) ∧ w' = w := by
  have hb : (x != x) = false := by simp
  go_enter Try.func126, Try.ntmps126
  go_wp2
  go_ret
  exact ⟨rfl, rfl⟩

theorem cmpI_c (x y : Int) (w : World) : Calls Try.prog 114 #[.int .i64 x, .int .i64 y] w fun e w' => e = .returned (.int .i64 (cmpI x y)) ∧ w' = w := by
  by_cases h : x < y
  · have b1 : decide (x < y) = true := decide_eq_true h
    go_enter Try.func114, Try.ntmps114
    go_wp2_with (go_at_call 126; refine (isNaN_c _ _).mono ?_; rintro e w' ⟨rfl, rfl⟩)
    go_ret
    exact ⟨ret_int (by rw [cmpI, if_pos h]), rfl⟩
  · have b1 : decide (x < y) = false := decide_eq_false h
    by_cases h2 : y < x
    · have b2 : decide (y < x) = true := decide_eq_true h2
      go_enter Try.func114, Try.ntmps114
      go_wp2_with (go_at_call 126; refine (isNaN_c _ _).mono ?_; rintro e w' ⟨rfl, rfl⟩)
      go_ret
      exact ⟨ret_int (by rw [cmpI, if_neg (by omega), if_pos (by omega)]), rfl⟩
    · have b2 : decide (y < x) = false := decide_eq_false h2
      go_enter Try.func114, Try.ntmps114
      go_wp2_with (go_at_call 126; refine (isNaN_c _ _).mono ?_; rintro e w' ⟨rfl, rfl⟩)
      go_ret
      exact ⟨ret_int (by rw [cmpI, if_neg (by omega), if_neg (by omega)]), rfl⟩

theorem cmpLI_end {s t : List Int} (k : Nat) (h1 : k = s.length) : cmpLI (s.drop k) (t.drop k) = if k < t.length then -1 else 0 := by
  subst h1
  rw [List.drop_length]
  by_cases h : s.length < t.length
  · rw [List.drop_eq_getElem_cons h, if_pos h]; rfl
  · rw [List.drop_eq_nil_of_le (by omega), if_neg h]; rfl
theorem cmpLI_longer {s t : List Int} (k : Nat) (h1 : k < s.length) (h2 : k = t.length) : cmpLI (s.drop k) (t.drop k) = 1 := by
  have e : t.drop k = [] := List.drop_eq_nil_of_le (by omega)
  rw [List.drop_eq_getElem_cons h1, e]; rfl
theorem cmpLI_step {s t : List Int} (k : Nat) (h1 : k < s.length) (h2 : k < t.length) : cmpLI (s.drop k) (t.drop k) = if cmpI s[k] t[k] ≠ 0 then cmpI s[k] t[k] else cmpLI (s.drop (k + 1)) (t.drop (k + 1)) := by
  rw [List.drop_eq_getElem_cons h1, List.drop_eq_getElem_cons h2]; rfl

set_option maxRecDepth 100000 in
theorem compare_c {A A' : Nat → Prop} {w : World} {v v2 : Value} {s t : List Int} (h : Ints A w v s) (h2 : Ints A' w v2 t) :
    Calls Try.prog 116 #[v, v2] w fun e w' => e = .returned (.int .i64 (cmpLI s t)) ∧ w' = w := by
  obtain ⟨a1, c1, rfl, _, _⟩ := h.shape
  obtain ⟨a2, c2, rfl, _, _⟩ := h2.shape
  have n1 := h.len
  have n2 := h2.len
  go_enter Try.func116, Try.ntmps116
  go_wp2
  go_loopw [11] (fun i wx => wx = w ∧ ∃ k : Nat, k ≤ s.length ∧ k ≤ t.length ∧ i = .int .i64 k ∧ cmpLI s t = cmpLI (s.drop k) (t.drop k)) (fun i _ => s.length - (intOf i).toNat)
  case atStart => exact ⟨rfl, 0, Nat.zero_le _, Nat.zero_le _, rfl, rfl⟩
  case round =>
    obtain ⟨rfl, k, hk, hk2, rfl, he⟩ := hrel
    have HE := Lib.hid he
    clear he
    by_cases hlt : k < s.length
    · obtain ⟨b1, o1, rfl, -, -, -⟩ := h.addr (by omega)
      have g1 := h.cell k hlt
      by_cases hlt2 : k < t.length
      · obtain ⟨b2, o2, rfl, -, -, -⟩ := h2.addr (by omega)
        have g2 := h2.cell k hlt2
        have hst := cmpLI_step k hlt hlt2
        obtain ⟨x, hx⟩ : ∃ x, x = s[k] := ⟨_, rfl⟩
        obtain ⟨y, hy⟩ : ∃ y, y = t[k] := ⟨_, rfl⟩
        rw [← hx] at g1 hst
        rw [← hy] at g2 hst
        clear hx hy
        have HST := Lib.hid hst
        clear hst
        have b3 : decide ((k : Int) ≥ (t.length : Int)) = false := decide_eq_false (by omega)
        by_cases hz : cmpI x y = 0
        · have bz : (cmpI x y != 0) = false := by simpa using hz
          have HZ := Lib.hid hz
          clear hz
          go_wp2_with (go_at_call 114; refine (cmpI_c x y _).mono ?_; rintro e w' ⟨rfl, rfl⟩)
          go_roundw
          case rel => exact ⟨trivial, k + 1, by omega, by omega, by go_num, by rw [HE.out, HST.out, if_neg (by rw [HZ.out]; simp)]⟩
          case measure => simp [intOf]; omega
        · have bz : (cmpI x y != 0) = true := by simpa using hz
          have HZ := Lib.hid hz
          clear hz
          go_wp2_with (go_at_call 114; refine (cmpI_c x y _).mono ?_; rintro e w' ⟨rfl, rfl⟩)
          go_ret
          exact ⟨ret_int (by rw [HE.out, HST.out, if_pos HZ.out]), rfl⟩
      · have hke : k = t.length := by omega
        have hlo := cmpLI_longer k hlt hke
        have HL := Lib.hid hlo
        clear hlo
        have b3 : decide ((k : Int) ≥ (t.length : Int)) = true := decide_eq_true (by omega)
        clear hke
        go_wp2
        go_ret
        exact ⟨ret_int (by rw [HE.out, HL.out]), rfl⟩
    · have hke : k = s.length := by omega
      have hen := cmpLI_end (t := t) k hke
      have HN := Lib.hid hen
      clear hen
      have HKE := Lib.hid hke
      clear hke
      by_cases hlt2 : s.length < t.length
      · have b3 : decide ((s.length : Int) < (t.length : Int)) = true := decide_eq_true (by omega)
        go_wp2
        go_ret
        exact ⟨ret_int (by rw [HE.out, HN.out, if_pos (by have := HKE.out; omega)]), rfl⟩
      · have b3 : decide ((s.length : Int) < (t.length : Int)) = false := decide_eq_false (by omega)
        go_wp2
        go_ret
        exact ⟨ret_int (by rw [HE.out, HN.out, if_neg (by have := HKE.out; omega)]), rfl⟩

def orL : List Int → Int
  | [] => 0
  | a :: l => if a ≠ 0 then a else orL l
theorem orL_drop {l : List Int} {k : Nat} (hk : k < l.length) : orL (l.drop k) = if l[k] ≠ 0 then l[k] else orL (l.drop (k + 1)) := by
  rw [List.drop_eq_getElem_cons hk]; rfl

set_option maxHeartbeats 400000 in
theorem or_c {A : Nat → Prop} {w : World} {v : Value} {l : List Int} (h : Ints A w v l) :
    Calls Try.prog 113 #[v] w fun e w' => e = .returned (.int .i64 (orL l)) ∧ Qt w w' := by
  obtain ⟨a1, c1, rfl, hc1, hm1⟩ := h.shape
  have n1 := h.len
  go_enter Try.func113, Try.ntmps113
  go_wp2
  go_loop [8] (fun v => ∃ k : Nat, k ≤ l.length ∧ v = .int .i64 k ∧ Hid (orL l = orL (l.drop k))) (fun v => l.length - (intOf v).toNat)
  case atStart => exact ⟨0, Nat.zero_le _, rfl, Lib.hid rfl⟩
  case round =>
    obtain ⟨k, hk, rfl, HP⟩ := hrel
    by_cases hlt : k < l.length
    · obtain ⟨b1, o1, rfl, _, _, _⟩ := h.addr (by omega)
      have g1 := h.cell k hlt
      by_cases hne : l[k] = 0
      · have hb : (l[k] != 0) = false := by simpa using hne
        have HN := Lib.hid hne; clear hne
        go_wp2
        go_round
        case rel => exact ⟨k + 1, by omega, by go_num, Lib.hid (by rw [HP.out, orL_drop hlt, if_neg (not_not_intro HN.out)])⟩
        case measure => simp [intOf]; omega
      · have hb : (l[k] != 0) = true := by simpa using hne
        have HN := Lib.hid hne; clear hne
        go_wp2
        go_ret
        exact ⟨ret_int (by rw [HP.out, orL_drop hlt, if_pos HN.out]), Qt.refl _⟩
    · go_wp2
      go_ret
      exact ⟨ret_int (by rw [HP.out, List.drop_eq_nil_of_le (by omega)]; rfl), Qt.refl _⟩

theorem cmpI_nat (a b : Nat) : cmpI (a : Int) (b : Int) = cmpN a b := by
  unfold cmpI cmpN
  by_cases h : a < b
  · rw [if_pos (by omega), if_pos h]
  · rw [if_neg (by omega), if_neg h]
    by_cases h2 : b < a
    · rw [if_pos (by omega), if_pos h2]
    · rw [if_neg (by omega), if_neg h2]
theorem cmpLI_nat : ∀ l m : List Nat, cmpLI (l.map fun i : Nat => (i : Int)) (m.map fun i : Nat => (i : Int)) = cmpL l m
  | [], [] => rfl
  | [], _ :: _ => rfl
  | _ :: _, [] => rfl
  | a :: l, b :: m => by
    have ih := cmpLI_nat l m
    rw [List.map_cons, List.map_cons]
    unfold cmpLI cmpL
    rw [ih, cmpI_nat]
    unfold cmpN
    by_cases h : a < b
    · rw [if_pos h, if_pos h, if_pos (by decide)]
    · rw [if_neg h, if_neg h]
      by_cases h2 : b < a
      · rw [if_pos h2, if_pos h2, if_pos (by decide)]
      · rw [if_neg h2, if_neg h2, if_neg (by decide)]
theorem or_cmp (g b : Nat) : orL [cmpI (sizeG g : Int) (sizeG b : Int), cmpLI (bitsL g 16) (bitsL b 16)] = cmpG g b := by
  rw [bitsL_all, bitsL_all, cmpLI_nat, cmpI_nat]
  unfold orL orL orL cmpG
  by_cases h : cmpN (sizeG g) (sizeG b) = 0
  · rw [if_neg (not_not_intro h), if_neg (not_not_intro h)]
    by_cases h2 : cmpL (maskL g) (maskL b) = 0
    · rw [if_neg (not_not_intro h2), h2]
    · rw [if_pos h2]
  · rw [if_pos h, if_pos h]

theorem shl_fact : ∀ n : Fin 8, IntKind.u16.wrap (2 ^ n.1) = ((2 ^ n.1 : Nat) : Int) := by decide +kernel

set_option maxRecDepth 100000 in
set_option maxHeartbeats 1000000 in
/-- fewest for the test of function 90. -/
theorem fewest90_c {n : Nat} (hn : n ≤ 7) {test : Nat → Bool} {w : World} {bt b1 : Nat} (hT : Blk bt #[.func (.func 90) #[] #[.pointer (some ⟨b1, 0, none⟩)]] 113 w)
    (ht : ∀ g : Nat, g < 2 ^ n → ∀ w', Below w.heap.size w w' → Calls Try.prog 90 #[.int .u16 (g : Int), .pointer (some ⟨b1, 0, none⟩)] w' fun e w'' => e = .returned (.bool (test g)) ∧ Below w'.heap.size w' w'') :
    Calls Try.prog 89 #[.int .i64 n, .slice (some ⟨bt, 0, none⟩) 1 1] w fun e w' => ∃ b s, e = .returned (.tuple #[.int .u16 (b : Nat), .bool s]) ∧ Best n test (2 ^ n) b s ∧ Below w.heap.size w w' := by
  have hp7 : 2 ^ n ≤ 128 := pow_le_128 hn
  have hT0 := hT.lt
  have hsh : IntKind.u16.wrap (2 ^ n) = ((2 ^ n : Nat) : Int) := shl_fact ⟨n, by omega⟩
  obtain ⟨N, hN⟩ : ∃ N, N = 2 ^ n := ⟨_, rfl⟩
  rw [← hN] at hsh ht hp7
  have HT := Lib.hid ht
  have HN := Lib.hid hN
  clear ht hN
  go_enter Try.func89, Try.ntmps89
  go_upto_region 1 with fail
  refine wp_scope_straight ?_
  go_wp2_with fail
  apply wp_label
  go_wp2_with fail
  go_loopw [6, 7, 8] (fun vb vs vg wr => ∃ (g b : Nat) (s : Bool), g ≤ N ∧ vg = .int .u16 (g : Int) ∧ vb = .int .u16 (b : Int) ∧ vs = .bool s ∧ Best n test g b s ∧ Below w.heap.size w wr) (fun _ _ vg _ => N - (intOf vg).toNat)
  case atStart => exact ⟨0, 0, false, Nat.zero_le _, rfl, rfl, rfl, Best.start n test, Below.refl _ _⟩
  case round =>
    obtain ⟨g, b, s, hg, rfl, rfl, rfl, hbest, hB⟩ := hrel
    have hTr := hT.below hB hT0
    by_cases hlt : g < N
    · have hg128 : g < 128 := by omega
      have hlt' : g < 2 ^ n := by rw [← HN.out]; exact hlt
      have bg : IntKind.u16.wrap ((g : Int) + 1) = ((g + 1 : Nat) : Int) := by rw [IntWalk.u16_in _ (by omega)]; omega
      cases s with
      | false =>
        go_wp2_with fail
        refine wp_loop_rounds 2 ?_
        rw [rounds_succ]
        have c0 := hTr.cell 0
        go_wp2_with fail
        refine (HT.out g hlt _ hB).mono ?_
        rintro e w9 ⟨rfl, hB9⟩
        have hB9 := hB.trans (hB9.mono (by have := hB.size; omega))
        clear c0
        cases htg : test g with
        | false =>
          go_wp2_with fail
          go_roundw
          case rel => exact ⟨g + 1, b, false, by omega, by first | rfl | go_num, rfl, rfl, hbest.fail htg, hB9⟩
          case measure => simp [intOf]; omega
        | true =>
          go_wp2_with fail
          rw [rounds_succ]
          go_wp2_with fail
          go_roundw
          case rel => exact ⟨g + 1, g, true, by omega, by first | rfl | go_num, rfl, rfl, hbest.take hn hlt' htg (fun h => absurd h (by decide)), hB9⟩
          case measure => simp [intOf]; omega
      | true =>
        obtain ⟨hbg, -, -⟩ := hbest.yes rfl
        have hb128 : b < 128 := by omega
        have hor := or_cmp g b
        go_wp2_with fail
        refine (size_c hg128 _).mono ?_
        rintro e w2 ⟨rfl, hq2⟩
        go_wp2_with fail
        refine (size_c hb128 _).mono ?_
        rintro e w3 ⟨rfl, hq3⟩
        go_wp2_with fail
        refine (cmpI_c _ _ _).mono ?_
        rintro e w4 ⟨rfl, rfl⟩
        go_wp2_with fail
        refine (list_c hg128 _).mono ?_
        rintro e w5 ⟨v5, rfl, ho5, hB5⟩
        go_wp2_with fail
        refine (list_c hb128 _).mono ?_
        rintro e w6 ⟨v6, rfl, ho6, hB6⟩
        go_wp2_with fail
        refine (compare_c (ho5.ints.call hB6) ho6.ints).mono ?_
        rintro e w7 ⟨rfl, rfl⟩
        go_wp2_with fail
        have hl7 := Own.ints (n := 2) (l := [cmpI (sizeG g : Int) (sizeG b : Int), cmpLI (bitsL g 16) (bitsL b 16)]) (own_lit w7 3 1 #[.int .i64 (cmpI (sizeG g : Int) (sizeG b : Int)), .int .i64 (cmpLI (bitsL g 16) (bitsL b 16))] 2 rfl (by omega))
        refine (or_c hl7).mono ?_
        rintro e w8 ⟨rfl, hq8⟩
        have hB8 : Below w.heap.size w w8 := by
          have h3 := hB.trans ((hq2.trans hq3).below w.heap.size)
          have h7 := (h3.trans (hB5.mono h3.size)).trans (hB6.mono (h3.trans (hB5.mono h3.size)).size)
          exact (h7.alloc h7.size _).trans (hq8.below _)
        have hT8 := hT.below hB8 hT0
        clear hl7 ho5 ho6 hB5 hB6 hq2 hq3 hq8
        by_cases hc : 0 ≤ cmpG g b
        · go_wp2_with fail
          go_roundw
          case rel => exact ⟨g + 1, b, true, by omega, by first | rfl | go_num, rfl, rfl, hbest.skip hn hlt' hc, hB8⟩
          case measure => simp [intOf]; omega
        · go_wp2_with fail
          refine wp_loop_rounds 2 ?_
          rw [rounds_succ]
          have c0 := hT8.cell 0
          go_wp2_with fail
          refine (HT.out g hlt _ hB8).mono ?_
          rintro e w9 ⟨rfl, hB9⟩
          have hB9 := hB8.trans (hB9.mono (by have := hB8.size; omega))
          clear c0
          cases htg : test g with
          | false =>
            go_wp2_with fail
            go_roundw
            case rel => exact ⟨g + 1, b, true, by omega, by first | rfl | go_num, rfl, rfl, hbest.fail htg, hB9⟩
            case measure => simp [intOf]; omega
          | true =>
            go_wp2_with fail
            rw [rounds_succ]
            go_wp2_with fail
            go_roundw
            case rel => exact ⟨g + 1, g, true, by omega, by first | rfl | go_num, rfl, rfl, hbest.take hn hlt' htg (fun _ => by omega), hB9⟩
            case measure => simp [intOf]; omega
    · obtain rfl : g = N := by omega
      go_wp2_with fail
      refine ⟨rfl, _, results_tmp2 rfl _ _ _, ?_⟩
      exact ⟨b, s, rfl, by rw [← HN.out]; exact hbest, hB⟩

set_option maxRecDepth 100000 in
set_option maxHeartbeats 1000000 in
/-- fewest for the test of function 95. -/
theorem fewest95_c {n : Nat} (hn : n ≤ 7) {test : Nat → Bool} {w : World} {bt b1 b2 : Nat} (hT : Blk bt #[.func (.func 95) #[] #[.pointer (some ⟨b1, 0, none⟩), .pointer (some ⟨b2, 0, none⟩)]] 113 w)
    (ht : ∀ g : Nat, g < 2 ^ n → ∀ w', Below w.heap.size w w' → Calls Try.prog 95 #[.int .u16 (g : Int), .pointer (some ⟨b1, 0, none⟩), .pointer (some ⟨b2, 0, none⟩)] w' fun e w'' => e = .returned (.bool (test g)) ∧ Below w'.heap.size w' w'') :
    Calls Try.prog 89 #[.int .i64 n, .slice (some ⟨bt, 0, none⟩) 1 1] w fun e w' => ∃ b s, e = .returned (.tuple #[.int .u16 (b : Nat), .bool s]) ∧ Best n test (2 ^ n) b s ∧ Below w.heap.size w w' := by
  have hp7 : 2 ^ n ≤ 128 := pow_le_128 hn
  have hT0 := hT.lt
  have hsh : IntKind.u16.wrap (2 ^ n) = ((2 ^ n : Nat) : Int) := shl_fact ⟨n, by omega⟩
  obtain ⟨N, hN⟩ : ∃ N, N = 2 ^ n := ⟨_, rfl⟩
  rw [← hN] at hsh ht hp7
  have HT := Lib.hid ht
  have HN := Lib.hid hN
  clear ht hN
  go_enter Try.func89, Try.ntmps89
  go_upto_region 1 with fail
  refine wp_scope_straight ?_
  go_wp2_with fail
  apply wp_label
  go_wp2_with fail
  go_loopw [6, 7, 8] (fun vb vs vg wr => ∃ (g b : Nat) (s : Bool), g ≤ N ∧ vg = .int .u16 (g : Int) ∧ vb = .int .u16 (b : Int) ∧ vs = .bool s ∧ Best n test g b s ∧ Below w.heap.size w wr) (fun _ _ vg _ => N - (intOf vg).toNat)
  case atStart => exact ⟨0, 0, false, Nat.zero_le _, rfl, rfl, rfl, Best.start n test, Below.refl _ _⟩
  case round =>
    obtain ⟨g, b, s, hg, rfl, rfl, rfl, hbest, hB⟩ := hrel
    have hTr := hT.below hB hT0
    by_cases hlt : g < N
    · have hg128 : g < 128 := by omega
      have hlt' : g < 2 ^ n := by rw [← HN.out]; exact hlt
      have bg : IntKind.u16.wrap ((g : Int) + 1) = ((g + 1 : Nat) : Int) := by rw [IntWalk.u16_in _ (by omega)]; omega
      cases s with
      | false =>
        go_wp2_with fail
        refine wp_loop_rounds 2 ?_
        rw [rounds_succ]
        have c0 := hTr.cell 0
        go_wp2_with fail
        refine (HT.out g hlt _ hB).mono ?_
        rintro e w9 ⟨rfl, hB9⟩
        have hB9 := hB.trans (hB9.mono (by have := hB.size; omega))
        clear c0
        cases htg : test g with
        | false =>
          go_wp2_with fail
          go_roundw
          case rel => exact ⟨g + 1, b, false, by omega, by first | rfl | go_num, rfl, rfl, hbest.fail htg, hB9⟩
          case measure => simp [intOf]; omega
        | true =>
          go_wp2_with fail
          rw [rounds_succ]
          go_wp2_with fail
          go_roundw
          case rel => exact ⟨g + 1, g, true, by omega, by first | rfl | go_num, rfl, rfl, hbest.take hn hlt' htg (fun h => absurd h (by decide)), hB9⟩
          case measure => simp [intOf]; omega
      | true =>
        obtain ⟨hbg, -, -⟩ := hbest.yes rfl
        have hb128 : b < 128 := by omega
        have hor := or_cmp g b
        go_wp2_with fail
        refine (size_c hg128 _).mono ?_
        rintro e w2 ⟨rfl, hq2⟩
        go_wp2_with fail
        refine (size_c hb128 _).mono ?_
        rintro e w3 ⟨rfl, hq3⟩
        go_wp2_with fail
        refine (cmpI_c _ _ _).mono ?_
        rintro e w4 ⟨rfl, rfl⟩
        go_wp2_with fail
        refine (list_c hg128 _).mono ?_
        rintro e w5 ⟨v5, rfl, ho5, hB5⟩
        go_wp2_with fail
        refine (list_c hb128 _).mono ?_
        rintro e w6 ⟨v6, rfl, ho6, hB6⟩
        go_wp2_with fail
        refine (compare_c (ho5.ints.call hB6) ho6.ints).mono ?_
        rintro e w7 ⟨rfl, rfl⟩
        go_wp2_with fail
        have hl7 := Own.ints (n := 2) (l := [cmpI (sizeG g : Int) (sizeG b : Int), cmpLI (bitsL g 16) (bitsL b 16)]) (own_lit w7 3 1 #[.int .i64 (cmpI (sizeG g : Int) (sizeG b : Int)), .int .i64 (cmpLI (bitsL g 16) (bitsL b 16))] 2 rfl (by omega))
        refine (or_c hl7).mono ?_
        rintro e w8 ⟨rfl, hq8⟩
        have hB8 : Below w.heap.size w w8 := by
          have h3 := hB.trans ((hq2.trans hq3).below w.heap.size)
          have h7 := (h3.trans (hB5.mono h3.size)).trans (hB6.mono (h3.trans (hB5.mono h3.size)).size)
          exact (h7.alloc h7.size _).trans (hq8.below _)
        have hT8 := hT.below hB8 hT0
        clear hl7 ho5 ho6 hB5 hB6 hq2 hq3 hq8
        by_cases hc : 0 ≤ cmpG g b
        · go_wp2_with fail
          go_roundw
          case rel => exact ⟨g + 1, b, true, by omega, by first | rfl | go_num, rfl, rfl, hbest.skip hn hlt' hc, hB8⟩
          case measure => simp [intOf]; omega
        · go_wp2_with fail
          refine wp_loop_rounds 2 ?_
          rw [rounds_succ]
          have c0 := hT8.cell 0
          go_wp2_with fail
          refine (HT.out g hlt _ hB8).mono ?_
          rintro e w9 ⟨rfl, hB9⟩
          have hB9 := hB8.trans (hB9.mono (by have := hB8.size; omega))
          clear c0
          cases htg : test g with
          | false =>
            go_wp2_with fail
            go_roundw
            case rel => exact ⟨g + 1, b, true, by omega, by first | rfl | go_num, rfl, rfl, hbest.fail htg, hB9⟩
            case measure => simp [intOf]; omega
          | true =>
            go_wp2_with fail
            rw [rounds_succ]
            go_wp2_with fail
            go_roundw
            case rel => exact ⟨g + 1, g, true, by omega, by first | rfl | go_num, rfl, rfl, hbest.take hn hlt' htg (fun _ => by omega), hB9⟩
            case measure => simp [intOf]; omega
    · obtain rfl : g = N := by omega
      go_wp2_with fail
      refine ⟨rfl, _, results_tmp2 rfl _ _ _, ?_⟩
      exact ⟨b, s, rfl, by rw [← HN.out]; exact hbest, hB⟩

end Go.Proofs.Ytgdifckmjdjcpaa
