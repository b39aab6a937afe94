/- The contracts of Check of both packages; conditions: as said at each. -/
import Derived.Test.YtmlikgjfpmjdcaaGreatDoorA3

/- The contracts of places, Check (lots) and once, Check (mestaref08); conditions: the arguments read as said. -/
namespace Go.Proofs.YtmlikgjfpmjdcaaGreatDoor
open Go.RowKit

def scanE (n : Int) : List Int → List Int → Int
  | _, [] => 0
  | seen, x :: rest => if btw x 0 (n - 1) = true then (if x ∈ seen then 4 else scanE n (seen ++ [x]) rest) else 3

/-- The error of a list that must have each number below n once. -/
def placesE (l : List Int) (n : Int) : Int := if (l.length : Int) < n then 7 else if n < l.length then 6 else scanE n [] l

theorem scanE_step {n : Int} {l : List Int} {k : Nat} (hk : k < l.length) :
    scanE n (l.take k) (l.drop k) = if btw l[k] 0 (n - 1) = true then (if l[k] ∈ l.take k then 4 else scanE n (l.take (k + 1)) (l.drop (k + 1))) else 3 := by
  rw [List.drop_eq_getElem_cons hk, scanE, List.take_succ_eq_append_getElem hk]

theorem Ints.take {A : Nat → Prop} {w : World} {ao : Option Addr} {n cap : Nat} {l : List Int} (h : Ints A w (.slice ao n cap) l) (k : Nat) (hk : k ≤ l.length) (hn : ao ≠ none) : Ints A w (.slice ao k k) (l.take k) := by
  obtain ⟨ao', cap', hv, h1, ⟨h2, h2'⟩, h3⟩ := h
  injection hv with e1 e2 e3
  subst e1
  have hlk : (l.take k).length = k := by rw [List.length_take]; omega
  refine ⟨ao, k, by rw [hlk], by rw [hlk]; exact Nat.le_refl _, ⟨by unfold maxLen at *; omega, fun h => absurd h hn⟩, ?_⟩
  rcases h3 with h3 | ⟨b, off, he, hA, hl, hc⟩
  · refine .inl ?_
    have hl0 : l.length = 0 := by rw [← I64_len, h3]; rfl
    rw [List.length_eq_zero_iff.1 hl0]
    simp [I64]
  · refine .inr ⟨b, off, he, hA, hl, fun j u hj => hc j u ?_⟩
    rw [I64, List.map_take, List.getElem?_take] at hj
    split at hj
    · exact hj
    · cases hj

set_option maxHeartbeats 1000000 in
theorem places_c {A : Nat → Prop} {w : World} {v : Value} {l : List Int} (n : Int) (hn : n ≤ 1000) (hn0 : 0 ≤ n) (h : Ints A w v l) :
    Calls Tryz.prog 58 #[v, .int .i64 n] w fun e w' => e = .returned (.int .i64 (placesE l n)) ∧ Qt w w' := by
  obtain ⟨a1, c1, rfl, hc1, hm1⟩ := h.shape
  have n1 := h.len
  by_cases hl1 : (l.length : Int) < n
  · go_enter Tryz.func58, Tryz.ntmps58
    go_wp2
    go_ret
    exact ⟨ret_int (by rw [placesE, if_pos (by omega)]), Qt.refl _⟩
  · by_cases hl2 : n < l.length
    · go_enter Tryz.func58, Tryz.ntmps58
      go_wp2
      go_ret
      exact ⟨ret_int (by rw [placesE, if_neg (by omega), if_pos (by omega)]), Qt.refl _⟩
    · go_enter Tryz.func58, Tryz.ntmps58
      go_wp2
      go_loopw [17] (fun i wr => ∃ k : Nat, k ≤ l.length ∧ i = .int .i64 k ∧ scanE n (l.take k) (l.drop k) = scanE n [] l ∧ Qt w wr) (fun i _ => l.length - (intOf i).toNat)
      case atStart => exact ⟨0, Nat.zero_le _, rfl, by simp, Qt.refl _⟩
      case round =>
        obtain ⟨k, hk, rfl, hsc, hq⟩ := hrel
        by_cases hlt : k < l.length
        · rw [scanE_step hlt] at hsc
          obtain ⟨b1, o1, rfl, _, _, _⟩ := h.addr (by omega)
          have g1 := (h.qt hq).cell k hlt
          have ht := (h.qt hq).take k (by omega) (by simp)
          by_cases hb : btw l[k] 0 (n - 1) = true
          · rw [if_pos hb] at hsc
            by_cases hin : l[k] ∈ l.take k
            · rw [if_pos hin] at hsc
              have hd : decide (l[k] ∈ l.take k) = true := by simpa using hin
              have HS := Lib.hid hsc; clear hsc
              go_wp2_with (first | (go_at_call 57; refine (between_c _ _ _ _).mono ?_; rintro e w' ⟨rfl, rfl⟩) | (go_at_call 77; refine (contains_c _ ht).mono ?_; rintro e w' ⟨rfl, hq2⟩))
              go_ret
              exact ⟨ret_int (by rw [placesE, if_neg (by omega), if_neg (by omega), ← HS.out]), hq.trans hq2⟩
            · rw [if_neg hin] at hsc
              have hd : decide (l[k] ∈ l.take k) = false := by simpa using hin
              have HS := Lib.hid hsc; clear hsc
              go_wp2_with (first | (go_at_call 57; refine (between_c _ _ _ _).mono ?_; rintro e w' ⟨rfl, rfl⟩) | (go_at_call 77; refine (contains_c _ ht).mono ?_; rintro e w' ⟨rfl, hq2⟩))
              go_roundw
              case rel => exact ⟨k + 1, by omega, by go_num, HS.out, hq.trans hq2⟩
              case measure => simp [intOf]; omega
          · rw [if_neg hb] at hsc
            have hb' : btw l[k] 0 (n - 1) = false := by simpa using hb
            have HS := Lib.hid hsc; clear hsc
            go_wp2_with (first | (go_at_call 57; refine (between_c _ _ _ _).mono ?_; rintro e w' ⟨rfl, rfl⟩) | (go_at_call 77; refine (contains_c _ ht).mono ?_; rintro e w' ⟨rfl, hq2⟩))
            go_ret
            exact ⟨ret_int (by rw [placesE, if_neg (by omega), if_neg (by omega), ← HS.out]), hq⟩
        · have HS := Lib.hid hsc; clear hsc
          go_wp2
          go_ret
          refine ⟨ret_int ?_, hq⟩
          rw [placesE, if_neg (by omega), if_neg (by omega), ← HS.out, List.drop_of_length_le (by omega)]
          cases l.take k <;> rfl


set_option maxHeartbeats 1000000 in
theorem once_c {A : Nat → Prop} {w : World} {v : Value} {l : List Int} (n : Int) (hn : n ≤ 1000) (hn0 : 0 ≤ n) (h : Ints A w v l) :
    Calls Tryz.prog 63 #[v, .int .i64 n] w fun e w' => e = .returned (.int .i64 (placesE l n)) ∧ Qt w w' := by
  obtain ⟨a1, c1, rfl, hc1, hm1⟩ := h.shape
  have n1 := h.len
  by_cases hl1 : (l.length : Int) < n
  · have hcE : countE l.length n n = 7 := by rw [countE, if_pos (by omega)]
    go_enter Tryz.func63, Tryz.ntmps63
    go_wp2_with (go_at_call 61; refine (count_c _ _ _ _).mono ?_; rintro e w' ⟨rfl, rfl⟩)
    go_ret
    exact ⟨ret_int (by rw [placesE, if_pos (by omega)]), Qt.refl _⟩
  · by_cases hl2 : n < l.length
    · have hcE : countE l.length n n = 6 := by rw [countE, if_neg (by omega), if_pos (by omega)]
      go_enter Tryz.func63, Tryz.ntmps63
      go_wp2_with (go_at_call 61; refine (count_c _ _ _ _).mono ?_; rintro e w' ⟨rfl, rfl⟩)
      go_ret
      exact ⟨ret_int (by rw [placesE, if_neg (by omega), if_pos (by omega)]), Qt.refl _⟩
    · obtain rfl : n = (l.length : Int) := by omega
      have hcE : countE l.length l.length l.length = 0 := by rw [countE, if_neg (by omega), if_neg (by omega)]
      go_enter Tryz.func63, Tryz.ntmps63
      go_wp2_with (go_at_call 61; refine (count_c _ _ _ _).mono ?_; rintro e w' ⟨rfl, rfl⟩)
      go_loopw [6] (fun i wr => ∃ k : Nat, k ≤ l.length ∧ i = .int .i64 k ∧ scanE l.length (l.take k) (l.drop k) = scanE l.length [] l ∧ Qt w wr) (fun i _ => l.length - (intOf i).toNat)
      case atStart => exact ⟨0, Nat.zero_le _, rfl, by simp, Qt.refl _⟩
      case round =>
        obtain ⟨k, hk, rfl, hsc, hq⟩ := hrel
        by_cases hlt : k < l.length
        · rw [scanE_step hlt] at hsc
          obtain ⟨b1, o1, rfl, _, _, _⟩ := h.addr (by omega)
          have hr := h.qt hq
          have g1 := hr.cell k hlt
          by_cases hb : btw l[k] 0 (l.length - 1) = true
          · rw [if_pos hb] at hsc
            have HS := Lib.hid hsc; clear hsc
            go_wp2_with (go_at_call 62; refine (inside_c _ _ _ _).mono ?_; rintro e w' ⟨rfl, rfl⟩)
            go_loopw [7] (fun i wx => ∃ j : Nat, j ≤ k ∧ i = .int .i64 j ∧ (∀ i (a : i < l.length), i < j → l[i] ≠ l[k]) ∧ Qt w wx) (fun i _ => k - (intOf i).toNat)
            case atStart => exact ⟨0, Nat.zero_le _, rfl, by omega, hq⟩
            case round =>
              obtain ⟨j, hj, rfl, hpre, hqx⟩ := hrel
              have HP := Lib.hid hpre; clear hpre
              by_cases hjk : j < k
              · have g2 := (h.qt hqx).cell j (by omega)
                have g3 := (h.qt hqx).cell k hlt
                by_cases he : l[j]'(by omega) = l[k]
                · have hbe : (l[j]'(by omega) == l[k]) = true := by simpa using he
                  have HE := Lib.hid he; clear he
                  go_wp2
                  go_quiet (fail)
                  go_wp2
                  go_ret
                  refine ⟨ret_int ?_, hqx.drewN _⟩
                  have hin : l[k] ∈ l.take k := by
                    rw [← HE.out, List.mem_take_iff_getElem]
                    exact ⟨j, by omega, rfl⟩
                  rw [placesE, if_neg (by omega), if_neg (by omega), ← HS.out, if_pos hin]
                · have hbe : (l[j]'(by omega) == l[k]) = false := by simpa using he
                  have HE := Lib.hid he; clear he
                  go_wp2
                  go_quiet (fail)
                  go_wp2
                  go_roundw
                  case rel =>
                    refine ⟨j + 1, by omega, by go_num, fun i a hi => ?_, hqx.drewN _⟩
                    by_cases e : i = j
                    · subst e; exact HE.out
                    · exact HP.out i a (by omega)
                  case measure => simp [intOf]; omega
              · have hnin : l[k] ∉ l.take k := by
                  rw [List.mem_take_iff_getElem]
                  rintro ⟨i, hi, he⟩
                  exact HP.out i (by omega) (by omega) he
                go_wp2
                go_roundw
                case rel => exact ⟨k + 1, by omega, by go_num, by rw [← HS.out, if_neg hnin], hqx⟩
                case measure => simp [intOf]; omega
          · rw [if_neg hb] at hsc
            have hb' : btw l[k] 0 (l.length - 1) = false := by simpa using hb
            have HS := Lib.hid hsc; clear hsc
            go_wp2_with (go_at_call 62; refine (inside_c _ _ _ _).mono ?_; rintro e w' ⟨rfl, rfl⟩)
            go_ret
            exact ⟨ret_int (by rw [placesE, if_neg (by omega), if_neg (by omega), ← HS.out]), hq⟩
        · have HS := Lib.hid hsc; clear hsc
          go_wp2
          go_ret
          refine ⟨ret_int ?_, hq⟩
          rw [placesE, if_neg (by omega), if_neg (by omega), ← HS.out, List.drop_of_length_le (by omega)]
          cases l.take k <;> rfl

def vilE (n : Int) (v : Vil) : Int := if btw v.hearths 1 50 = true then (if btw v.herd 0 60 = true then placesE v.likes n else 1) else 1
def vilsE (n : Int) : List Vil → Int
  | [] => 0
  | v :: rest => if vilE n v = 0 then vilsE n rest else vilE n v
def bearsE : List Int → Int
  | [] => 0
  | x :: rest => if btw x 0 99 = true then bearsE rest else 1

/-- The error of commons. -/
def checkE (c : Com) : Int :=
  if c.mountains.length = 0 then 7 else if 4 < c.mountains.length then 6 else
  if bearsE c.mountains = 0 then (if c.villages.length < c.mountains.length then 7 else if c.mountains.length < c.villages.length then 6 else vilsE c.mountains.length c.villages) else bearsE c.mountains

theorem bearsE_step {l : List Int} {k : Nat} (hk : k < l.length) : bearsE (l.drop k) = if btw l[k] 0 99 = true then bearsE (l.drop (k + 1)) else 1 := by
  rw [List.drop_eq_getElem_cons hk, bearsE]
theorem vilsE_step {n : Int} {l : List Vil} {k : Nat} (hk : k < l.length) : vilsE n (l.drop k) = if vilE n l[k] = 0 then vilsE n (l.drop (k + 1)) else vilE n l[k] := by
  rw [List.drop_eq_getElem_cons hk, vilsE]

end Go.Proofs.YtmlikgjfpmjdcaaGreatDoor

/- The contracts of Check, in lots and in mestaref08; conditions: the argument reads as commons. -/
namespace Go.Proofs.YtmlikgjfpmjdcaaGreatDoor
open Go.RowKit

theorem checkE_bad {c : Com} (h1 : 1 ≤ c.mountains.length) (h2 : c.mountains.length ≤ 4) (h3 : bearsE c.mountains = 1) : checkE c = 1 := by
  rw [checkE, if_neg (by omega), if_neg (by omega), if_neg (by omega), h3]
theorem checkE_few {c : Com} (h1 : 1 ≤ c.mountains.length) (h2 : c.mountains.length ≤ 4) (h3 : bearsE c.mountains = 0) (h4 : c.villages.length < c.mountains.length) : checkE c = 7 := by
  rw [checkE, if_neg (by omega), if_neg (by omega), if_pos h3, if_pos h4]
theorem checkE_many {c : Com} (h1 : 1 ≤ c.mountains.length) (h2 : c.mountains.length ≤ 4) (h3 : bearsE c.mountains = 0) (h4 : c.mountains.length < c.villages.length) : checkE c = 6 := by
  rw [checkE, if_neg (by omega), if_neg (by omega), if_pos h3, if_neg (by omega), if_pos h4]
theorem checkE_vils {c : Com} (h1 : 1 ≤ c.mountains.length) (h2 : c.mountains.length ≤ 4) (h3 : bearsE c.mountains = 0) (h4 : c.villages.length = c.mountains.length) : checkE c = vilsE c.mountains.length c.villages := by
  rw [checkE, if_neg (by omega), if_neg (by omega), if_pos h3, if_neg (by omega), if_neg (by omega)]

theorem vilE_hearths {n : Int} {v : Vil} (h : btw v.hearths 1 50 = false) : vilE n v = 1 := by simp [vilE, h]
theorem vilE_herd {n : Int} {v : Vil} (h : btw v.hearths 1 50 = true) (h2 : btw v.herd 0 60 = false) : vilE n v = 1 := by simp [vilE, h, h2]
theorem vilE_likes {n : Int} {v : Vil} (h : btw v.hearths 1 50 = true) (h2 : btw v.herd 0 60 = true) : vilE n v = placesE v.likes n := by simp [vilE, h, h2]

set_option maxRecDepth 100000 in
set_option maxHeartbeats 2000000 in
theorem check_c {A : Nat → Prop} {w : World} {vm vv : Value} {c : Com} (h : Cm A w vm vv c) :
    Calls Tryz.prog 27 #[.agg #[vm, vv]] w fun e w' => e = .returned (.int .i64 (checkE c)) ∧ Below w.heap.size w w' := by
  obtain ⟨am, cpm, rfl, _, _⟩ := h.1.shape
  obtain ⟨av, cpv, rfl, _, _⟩ := h.2.shape
  have n1 := h.1.len
  have n2 := h.2.len
  have hB0 : Below w.heap.size w (w.alloc (.cells #[.slice am c.mountains.length cpm, .slice av c.villages.length cpv] 25)) := (Below.refl _ w).alloc (Nat.le_refl _) _
  have hx : Box2 w.heap.size (.slice am c.mountains.length cpm) (.slice av c.villages.length cpv) 25 (w.alloc (.cells #[.slice am c.mountains.length cpm, .slice av c.villages.length cpv] 25)) := Blk.new w _ _
  have hsz : w.heap.size + 1 ≤ (w.alloc (.cells #[.slice am c.mountains.length cpm, .slice av c.villages.length cpv] 25)).heap.size := by simp
  go_enter Tryz.func27, Tryz.ntmps27
  go_upto_region 1 with fail
  generalize w.alloc (.cells #[.slice am c.mountains.length cpm, .slice av c.villages.length cpv] 25) = w0 at hB0 hx hsz ⊢
  replace h := h.call hB0
  have x0 := hx.c0
  have x1 := hx.c1
  by_cases hn0 : c.mountains.length = 0
  · have hb : ((c.mountains.length : Int) == 0) = true := beq_iff_eq.2 (by omega)
    have HN := Lib.hid hn0; clear hn0
    go_wp2
    go_ret
    exact ⟨ret_int (by rw [checkE, if_pos HN.out]), hB0⟩
  · have hb : ((c.mountains.length : Int) == 0) = false := beq_eq_false_iff_ne.2 (by omega)
    have hn1 : 1 ≤ c.mountains.length := by omega
    clear hn0
    by_cases hn4 : 4 < c.mountains.length
    · go_wp2
      go_ret
      exact ⟨ret_int (by rw [checkE, if_neg (by omega), if_pos hn4]), hB0⟩
    · replace hn4 : c.mountains.length ≤ 4 := by omega
      go_wp2
      go_loop [19] (fun i => ∃ k : Nat, k ≤ c.mountains.length ∧ i = .int .i64 k ∧ bearsE (c.mountains.drop k) = bearsE c.mountains) (fun i => c.mountains.length - (intOf i).toNat)
      case atStart => exact ⟨0, Nat.zero_le _, rfl, by simp⟩
      case round =>
        obtain ⟨k, hk, rfl, hsc⟩ := hrel
        by_cases hlt : k < c.mountains.length
        · rw [bearsE_step hlt] at hsc
          obtain ⟨b1, o1, rfl, _, _, _⟩ := h.1.addr (by omega)
          have g1 := h.1.cell k hlt
          by_cases hbt : btw c.mountains[k] 0 99 = true
          · rw [if_pos hbt] at hsc
            have HS := Lib.hid hsc; clear hsc
            go_wp2_with (go_at_call 57; refine (between_c _ _ _ _).mono ?_; rintro e w' ⟨rfl, rfl⟩)
            go_round
            case rel => exact ⟨k + 1, by omega, by go_num, HS.out⟩
            case measure => simp [intOf]; omega
          · rw [if_neg hbt] at hsc
            have hbt' : btw c.mountains[k] 0 99 = false := by simpa using hbt
            have HS := Lib.hid hsc; clear hsc
            go_wp2_with (go_at_call 57; refine (between_c _ _ _ _).mono ?_; rintro e w' ⟨rfl, rfl⟩)
            go_ret
            exact ⟨ret_int (checkE_bad hn1 hn4 HS.out.symm).symm, hB0⟩
        · have hb0 : bearsE c.mountains = 0 := by rw [← hsc, List.drop_of_length_le (by omega)]; rfl
          have HB := Lib.hid hb0; clear hb0 hsc
          by_cases hv1 : c.villages.length < c.mountains.length
          · go_wp2
            go_ret
            exact ⟨ret_int (checkE_few hn1 hn4 HB.out hv1).symm, hB0⟩
          · by_cases hv2 : c.mountains.length < c.villages.length
            · go_wp2
              go_ret
              exact ⟨ret_int (checkE_many hn1 hn4 HB.out hv2).symm, hB0⟩
            · have hvl : c.villages.length = c.mountains.length := by omega
              have hfin := checkE_vils hn1 hn4 HB.out hvl
              have HV := Lib.hid hvl; clear hvl
              have HF := Lib.hid hfin; clear hfin
              go_wp2
              go_loopw [40] (fun i wr => ∃ k : Nat, k ≤ c.villages.length ∧ i = .int .i64 k ∧ vilsE c.mountains.length (c.villages.drop k) = vilsE c.mountains.length c.villages ∧ Below w0.heap.size w0 wr) (fun i _ => c.villages.length - (intOf i).toNat)
              case atStart => exact ⟨0, Nat.zero_le _, rfl, by simp, Below.refl _ _⟩
              case round =>
                obtain ⟨j, hj, rfl, hsc, hBr⟩ := hrel
                by_cases hjn : j < c.villages.length
                · rw [vilsE_step hjn] at hsc
                  obtain ⟨b2, o2, rfl, _, hb2⟩ := h.2.addr (by omega)
                  obtain ⟨p, d, g21, g22, g23, i2⟩ := (h.2.call hBr).at j hjn
                  obtain ⟨v, hv⟩ : ∃ v, v = c.villages[j] := ⟨_, rfl⟩
                  rw [← hv] at g21 g22 g23 i2 hsc
                  have HW := Lib.hid hv; clear hv
                  have hbr2 : b2 < wr.heap.size := by have := hBr.size; omega
                  have hBf := hB0.trans (hBr.mono (by omega))
                  have hxr : Box2 w.heap.size (.slice am c.mountains.length cpm) (.slice (some ⟨b2, o2, none⟩) c.villages.length cpv) 25 wr := Box2.below hx hBr (by omega)
                  have hBa : Below wr.heap.size wr (wr.alloc (.cells #[.int .i64 v.hearths, .int .i64 v.herd, .slice p v.likes.length d] 43)) := (Below.refl _ _).alloc (Nat.le_refl _) _
                  have ia := i2.call hBa
                  by_cases e1 : btw v.hearths 1 50 = true
                  · by_cases e2 : btw v.herd 0 60 = true
                    · rw [vilE_likes e1 e2] at hsc
                      by_cases e3 : placesE v.likes c.mountains.length = 0
                      · rw [if_pos e3] at hsc
                        have e4 : (placesE v.likes c.mountains.length != 0) = false := by simpa using e3
                        have HS := Lib.hid hsc; clear hsc e3
                        go_wp2_with (first | (go_at_call 57; refine (between_c _ _ _ _).mono ?_; rintro e w' ⟨rfl, rfl⟩) | (go_at_call 58; refine (places_c _ (by omega) (by omega) ia).mono ?_; rintro e w' ⟨rfl, hq2⟩))
                        go_roundw
                        case rel => exact ⟨j + 1, by omega, by go_num, HS.out, hBr.trans ((hBa.trans (hq2.below _)).mono hBr.size)⟩
                        case measure => simp [intOf]; omega
                      · rw [if_neg e3] at hsc
                        have e4 : (placesE v.likes c.mountains.length != 0) = true := by simpa using e3
                        have HS := Lib.hid hsc; clear hsc e3
                        go_wp2_with (first | (go_at_call 57; refine (between_c _ _ _ _).mono ?_; rintro e w' ⟨rfl, rfl⟩) | (go_at_call 58; refine (places_c _ (by omega) (by omega) ia).mono ?_; rintro e w' ⟨rfl, hq2⟩))
                        go_ret
                        exact ⟨ret_int (by rw [HF.out, ← HS.out]), hBf.trans ((hBa.trans (hq2.below _)).mono (by have := hBr.size; omega))⟩
                    · have e2' : btw v.herd 0 60 = false := by simpa using e2
                      rw [vilE_herd e1 e2', if_neg (by omega)] at hsc
                      have HS := Lib.hid hsc; clear hsc
                      go_wp2_with (first | (go_at_call 57; refine (between_c _ _ _ _).mono ?_; rintro e w' ⟨rfl, rfl⟩) | (go_at_call 58; refine (places_c _ (by omega) (by omega) ia).mono ?_; rintro e w' ⟨rfl, hq2⟩))
                      go_ret
                      exact ⟨ret_int (by rw [HF.out, ← HS.out]), hBf.trans (hBa.mono (by have := hBr.size; omega))⟩
                  · have e1' : btw v.hearths 1 50 = false := by simpa using e1
                    rw [vilE_hearths e1', if_neg (by omega)] at hsc
                    have HS := Lib.hid hsc; clear hsc
                    go_wp2_with (first | (go_at_call 57; refine (between_c _ _ _ _).mono ?_; rintro e w' ⟨rfl, rfl⟩) | (go_at_call 58; refine (places_c _ (by omega) (by omega) ia).mono ?_; rintro e w' ⟨rfl, hq2⟩))
                    go_ret
                    exact ⟨ret_int (by rw [HF.out, ← HS.out]), hBf.trans (hBa.mono (by have := hBr.size; omega))⟩
                · have HS := Lib.hid hsc; clear hsc
                  go_wp2
                  go_ret
                  refine ⟨ret_int ?_, hB0.trans (hBr.mono (by omega))⟩
                  rw [HF.out, ← HS.out, List.drop_of_length_le (by omega)]
                  rfl

set_option maxRecDepth 100000 in
set_option maxHeartbeats 2000000 in
theorem rcheck_c {A : Nat → Prop} {w : World} {vm vv : Value} {c : Com} (h : Cm A w vm vv c) :
    Calls Tryz.prog 32 #[.agg #[vm, vv]] w fun e w' => e = .returned (.int .i64 (checkE c)) ∧ Below w.heap.size w w' := by
  obtain ⟨am, cpm, rfl, _, _⟩ := h.1.shape
  obtain ⟨av, cpv, rfl, _, _⟩ := h.2.shape
  have n1 := h.1.len
  have n2 := h.2.len
  have hB0 : Below w.heap.size w (w.alloc (.cells #[.slice am c.mountains.length cpm, .slice av c.villages.length cpv] 25)) := (Below.refl _ w).alloc (Nat.le_refl _) _
  have hx : Box2 w.heap.size (.slice am c.mountains.length cpm) (.slice av c.villages.length cpv) 25 (w.alloc (.cells #[.slice am c.mountains.length cpm, .slice av c.villages.length cpv] 25)) := Blk.new w _ _
  have hsz : w.heap.size + 1 ≤ (w.alloc (.cells #[.slice am c.mountains.length cpm, .slice av c.villages.length cpv] 25)).heap.size := by simp
  go_enter Tryz.func32, Tryz.ntmps32
  go_upto_region 1 with fail
  generalize w.alloc (.cells #[.slice am c.mountains.length cpm, .slice av c.villages.length cpv] 25) = w0 at hB0 hx hsz ⊢
  replace h := h.call hB0
  have x0 := hx.c0
  have x1 := hx.c1
  by_cases hn0 : c.mountains.length = 0
  · have hcE : countE c.mountains.length 1 4 = 7 := by rw [countE, if_pos (by omega)]
    have HN := Lib.hid hn0; clear hn0
    go_wp2_with (first | (go_at_call 61; refine (count_c _ _ _ _).mono ?_; rintro e w' ⟨rfl, rfl⟩))
    go_ret
    exact ⟨ret_int (by rw [checkE, if_pos HN.out]), hB0⟩
  · have hn1 : 1 ≤ c.mountains.length := by omega
    clear hn0
    by_cases hn4 : 4 < c.mountains.length
    · have hcE : countE c.mountains.length 1 4 = 6 := by rw [countE, if_neg (by omega), if_pos (by omega)]
      go_wp2_with (first | (go_at_call 61; refine (count_c _ _ _ _).mono ?_; rintro e w' ⟨rfl, rfl⟩))
      go_ret
      exact ⟨ret_int (by rw [checkE, if_neg (by omega), if_pos hn4]), hB0⟩
    · replace hn4 : c.mountains.length ≤ 4 := by omega
      have hcE : countE c.mountains.length 1 4 = 0 := by rw [countE, if_neg (by omega), if_neg (by omega)]
      go_wp2_with (first | (go_at_call 61; refine (count_c _ _ _ _).mono ?_; rintro e w' ⟨rfl, rfl⟩))
      go_loop [4] (fun i => ∃ k : Nat, k ≤ c.mountains.length ∧ i = .int .i64 k ∧ bearsE (c.mountains.drop k) = bearsE c.mountains) (fun i => c.mountains.length - (intOf i).toNat)
      case atStart => exact ⟨0, Nat.zero_le _, rfl, by simp⟩
      case round =>
        obtain ⟨k, hk, rfl, hsc⟩ := hrel
        by_cases hlt : k < c.mountains.length
        · rw [bearsE_step hlt] at hsc
          obtain ⟨b1, o1, rfl, _, _, _⟩ := h.1.addr (by omega)
          have g1 := h.1.cell k hlt
          by_cases hbt : btw c.mountains[k] 0 99 = true
          · rw [if_pos hbt] at hsc
            have HS := Lib.hid hsc; clear hsc
            go_wp2_with (go_at_call 62; refine (inside_c _ _ _ _).mono ?_; rintro e w' ⟨rfl, rfl⟩)
            go_round
            case rel => exact ⟨k + 1, by omega, by go_num, HS.out⟩
            case measure => simp [intOf]; omega
          · rw [if_neg hbt] at hsc
            have hbt' : btw c.mountains[k] 0 99 = false := by simpa using hbt
            have HS := Lib.hid hsc; clear hsc
            go_wp2_with (go_at_call 62; refine (inside_c _ _ _ _).mono ?_; rintro e w' ⟨rfl, rfl⟩)
            go_ret
            exact ⟨ret_int (checkE_bad hn1 hn4 HS.out.symm).symm, hB0⟩
        · have hb0 : bearsE c.mountains = 0 := by rw [← hsc, List.drop_of_length_le (by omega)]; rfl
          have HB := Lib.hid hb0; clear hb0 hsc
          by_cases hv1 : c.villages.length < c.mountains.length
          · have hcF : countE c.villages.length c.mountains.length c.mountains.length = 7 := by rw [countE, if_pos (by omega)]
            go_wp2_with (first | (go_at_call 61; refine (count_c _ _ _ _).mono ?_; rintro e w' ⟨rfl, rfl⟩))
            go_ret
            exact ⟨ret_int (checkE_few hn1 hn4 HB.out hv1).symm, hB0⟩
          · by_cases hv2 : c.mountains.length < c.villages.length
            · have hcF : countE c.villages.length c.mountains.length c.mountains.length = 6 := by rw [countE, if_neg (by omega), if_pos (by omega)]
              go_wp2_with (first | (go_at_call 61; refine (count_c _ _ _ _).mono ?_; rintro e w' ⟨rfl, rfl⟩))
              go_ret
              exact ⟨ret_int (checkE_many hn1 hn4 HB.out hv2).symm, hB0⟩
            · have hvl : c.villages.length = c.mountains.length := by omega
              have hfin := checkE_vils hn1 hn4 HB.out hvl
              have hcF : countE c.villages.length c.mountains.length c.mountains.length = 0 := by rw [countE, if_neg (by omega), if_neg (by omega)]
              have HV := Lib.hid hvl; clear hvl
              have HF := Lib.hid hfin; clear hfin
              go_wp2_with (first | (go_at_call 61; refine (count_c _ _ _ _).mono ?_; rintro e w' ⟨rfl, rfl⟩))
              go_loopw [6] (fun i wr => ∃ k : Nat, k ≤ c.villages.length ∧ i = .int .i64 k ∧ vilsE c.mountains.length (c.villages.drop k) = vilsE c.mountains.length c.villages ∧ Below w0.heap.size w0 wr) (fun i _ => c.villages.length - (intOf i).toNat)
              case atStart => exact ⟨0, Nat.zero_le _, rfl, by simp, Below.refl _ _⟩
              case round =>
                obtain ⟨j, hj, rfl, hsc, hBr⟩ := hrel
                by_cases hjn : j < c.villages.length
                · rw [vilsE_step hjn] at hsc
                  obtain ⟨b2, o2, rfl, _, hb2⟩ := h.2.addr (by omega)
                  obtain ⟨p, d, g21, g22, g23, i2⟩ := (h.2.call hBr).at j hjn
                  obtain ⟨v, hv⟩ : ∃ v, v = c.villages[j] := ⟨_, rfl⟩
                  rw [← hv] at g21 g22 g23 i2 hsc
                  have HW := Lib.hid hv; clear hv
                  have hbr2 : b2 < wr.heap.size := by have := hBr.size; omega
                  have hBf := hB0.trans (hBr.mono (by omega))
                  have x0' : wr.cell? ⟨w.heap.size, 0, none⟩ = some (.slice am c.mountains.length cpm) := (Box2.below hx hBr (by omega)).c0
                  have x1' : wr.cell? ⟨w.heap.size, 1, none⟩ = some (.slice (some ⟨b2, o2, none⟩) c.villages.length cpv) := (Box2.below hx hBr (by omega)).c1
                  have hwr : w.heap.size < wr.heap.size := by have := hBr.size; omega
                  have hxr : Box2 w.heap.size (.slice am c.mountains.length cpm) (.slice (some ⟨b2, o2, none⟩) c.villages.length cpv) 25 wr := Box2.below hx hBr (by omega)
                  have hBa : Below wr.heap.size wr (wr.alloc (.cells #[.int .i64 v.hearths, .int .i64 v.herd, .slice p v.likes.length d] 43)) := (Below.refl _ _).alloc (Nat.le_refl _) _
                  have ia := i2.call hBa
                  by_cases e1 : btw v.hearths 1 50 = true
                  · by_cases e2 : btw v.herd 0 60 = true
                    · rw [vilE_likes e1 e2] at hsc
                      by_cases e3 : placesE v.likes c.mountains.length = 0
                      · rw [if_pos e3] at hsc
                        have e4 : (placesE v.likes c.mountains.length != 0) = false := by simpa using e3
                        have HS := Lib.hid hsc; clear hsc e3
                        go_wp2_with (first | (go_at_call 62; refine (inside_c _ _ _ _).mono ?_; rintro e w' ⟨rfl, rfl⟩) | (go_at_call 63; refine (once_c _ (by omega) (by omega) ia).mono ?_; rintro e w' ⟨rfl, hq2⟩))
                        go_roundw
                        case rel => exact ⟨j + 1, by omega, by go_num, HS.out, hBr.trans ((hBa.trans (hq2.below _)).mono hBr.size)⟩
                        case measure => simp [intOf]; omega
                      · rw [if_neg e3] at hsc
                        have e4 : (placesE v.likes c.mountains.length != 0) = true := by simpa using e3
                        have HS := Lib.hid hsc; clear hsc e3
                        go_wp2_with (first | (go_at_call 62; refine (inside_c _ _ _ _).mono ?_; rintro e w' ⟨rfl, rfl⟩) | (go_at_call 63; refine (once_c _ (by omega) (by omega) ia).mono ?_; rintro e w' ⟨rfl, hq2⟩))
                        go_ret
                        exact ⟨ret_int (by rw [HF.out, ← HS.out]), hBf.trans ((hBa.trans (hq2.below _)).mono (by have := hBr.size; omega))⟩
                    · have e2' : btw v.herd 0 60 = false := by simpa using e2
                      rw [vilE_herd e1 e2', if_neg (by omega)] at hsc
                      have HS := Lib.hid hsc; clear hsc
                      go_wp2_with (first | (go_at_call 62; refine (inside_c _ _ _ _).mono ?_; rintro e w' ⟨rfl, rfl⟩) | (go_at_call 63; refine (once_c _ (by omega) (by omega) ia).mono ?_; rintro e w' ⟨rfl, hq2⟩))
                      go_ret
                      exact ⟨ret_int (by rw [HF.out, ← HS.out]), hBf.trans (hBa.mono (by have := hBr.size; omega))⟩
                  · have e1' : btw v.hearths 1 50 = false := by simpa using e1
                    rw [vilE_hearths e1', if_neg (by omega)] at hsc
                    have HS := Lib.hid hsc; clear hsc
                    go_wp2_with (first | (go_at_call 62; refine (inside_c _ _ _ _).mono ?_; rintro e w' ⟨rfl, rfl⟩) | (go_at_call 63; refine (once_c _ (by omega) (by omega) ia).mono ?_; rintro e w' ⟨rfl, hq2⟩))
                    go_ret
                    exact ⟨ret_int (by rw [HF.out, ← HS.out]), hBf.trans (hBa.mono (by have := hBr.size; omega))⟩
                · have HS := Lib.hid hsc; clear hsc
                  have x1' := (Box2.below hx hBr (by omega)).c1
                  go_wp2
                  go_ret
                  refine ⟨ret_int ?_, hB0.trans (hBr.mono (by omega))⟩
                  rw [HF.out, ← HS.out, List.drop_of_length_le (by omega)]
                  rfl

end Go.Proofs.YtmlikgjfpmjdcaaGreatDoor

