/- Plain laws on texts: a text cut at a byte, numbers of one or two digits; conditions: as said at each. -/
import Derived.Lib.CountLaws
import Derived.Lib.SplitLaws
import Derived.Lib.IndexBytes
import Derived.Lib.ParseIntB
import Derived.Lib.ItoaNum
namespace Go.Proofs.YtbpfhoihfoojfaaGreatDoor

/-- A text cut at each place of a byte. -/
def cutL (c : UInt8) : List UInt8 → List (List UInt8)
  | [] => [[]]
  | x :: r => if x = c then [] :: cutL c r else ((cutL c r).head?.getD [] |> fun h => (x :: h) :: (cutL c r).tail)
theorem cutL_ne (c : UInt8) : ∀ l, cutL c l ≠ []
  | [] => by simp [cutL]
  | x :: r => by
    unfold cutL
    split <;> simp
theorem cutL_none {c : UInt8} : ∀ {a : List UInt8}, c ∉ a → cutL c a = [a]
  | [], _ => rfl
  | x :: r, h => by
    have hx : ¬ x = c := fun e => h (by simp [e])
    have hr := cutL_none (a := r) (c := c) fun e => h (by simp [e])
    unfold cutL
    rw [if_neg hx, hr]
    rfl
theorem cutL_app {c : UInt8} : ∀ {a : List UInt8} (b : List UInt8), c ∉ a → cutL c (a ++ c :: b) = a :: cutL c b
  | [], b, _ => by simp [cutL]
  | x :: r, b, h => by
    have hx : ¬ x = c := fun e => h (by simp [e])
    have hr := cutL_app (a := r) (c := c) b fun e => h (by simp [e])
    rw [List.cons_append]
    conv => lhs; unfold cutL
    rw [if_neg hx, hr]
    rfl
/-- Joined with a byte. -/
def joinL (c : UInt8) : List (List UInt8) → List UInt8
  | [] => []
  | [a] => a
  | a :: b :: r => a ++ c :: joinL c (b :: r)
theorem joinL_cons (c : UInt8) (a : List UInt8) {r : List (List UInt8)} (h : r ≠ []) : joinL c (a :: r) = a ++ c :: joinL c r := by
  cases r with
  | nil => exact absurd rfl h
  | cons b r => rfl
theorem join_cut (c : UInt8) : ∀ l, joinL c (cutL c l) = l
  | [] => rfl
  | x :: r => by
    have ih := join_cut c r
    have hn := cutL_ne c r
    unfold cutL
    by_cases hx : x = c
    · rw [if_pos hx, joinL_cons c [] hn, ih, hx]
      rfl
    · rw [if_neg hx]
      cases hc : cutL c r with
      | nil => exact absurd hc hn
      | cons h t =>
        rw [hc] at ih
        show joinL c ((x :: h) :: t) = x :: r
        cases t with
        | nil => rw [← ih]; rfl
        | cons b t => rw [← ih]; rfl
theorem cut_not_mem (c : UInt8) : ∀ l, ∀ a ∈ cutL c l, c ∉ a
  | [], a, h => by
    simp [cutL] at h
    simp [h]
  | x :: r, a, h => by
    have ih := cut_not_mem c r
    have hn := cutL_ne c r
    unfold cutL at h
    by_cases hx : x = c
    · rw [if_pos hx] at h
      rcases List.mem_cons.1 h with rfl | h
      · simp
      · exact ih a h
    · rw [if_neg hx] at h
      cases hc : cutL c r with
      | nil => exact absurd hc hn
      | cons h' t =>
        rw [hc] at h ih
        rcases List.mem_cons.1 h with rfl | h
        · have := ih h' (by simp)
          simp only [List.head?_cons, Option.getD_some, List.mem_cons, not_or]
          exact ⟨fun e => hx e.symm, this⟩
        · exact ih a (by simp at h; simp [h])
theorem cut_join {c : UInt8} : ∀ {ls : List (List UInt8)}, ls ≠ [] → (∀ a ∈ ls, c ∉ a) → cutL c (joinL c ls) = ls
  | [], h, _ => absurd rfl h
  | [a], _, h => cutL_none (h a (by simp))
  | a :: b :: r, _, h => by
    show cutL c (a ++ c :: joinL c (b :: r)) = _
    rw [cutL_app _ (h a (by simp)), cut_join (by simp) fun x hx => h x (by simp at hx; simp [hx])]

theorem index_no {s : List UInt8} {c : UInt8} (h : Lib.index s [c] = -1) : c ∉ s := by
  intro hm
  rw [Lib.index_one] at h
  obtain ⟨k, hk, e⟩ := List.getElem_of_mem hm
  exact Lib.indexByte_none h k (by rw [List.getElem?_eq_getElem hk, e])
/-- The library's pieces are these. -/
theorem split_cut (c : UInt8) : ∀ (n : Nat) (s : List UInt8), s.length ≤ n → Lib.splitK [c] 0 (Lib.count s [c]) s = cutL c s
  | n, s, hn => by
    rcases Int.lt_or_le (Lib.index s [c]) 0 with h0 | h0
    · have hm : Lib.index s [c] = -1 := by
        have := Lib.index_one s c
        have := Lib.indexByte_ge s c
        omega
      rw [Lib.count_miss hm]
      show [s] = _
      rw [cutL_none (index_no hm)]
    · obtain ⟨i, hi⟩ : ∃ i : Nat, Lib.index s [c] = i := ⟨(Lib.index s [c]).toNat, by omega⟩
      have hb : Lib.indexByte s c = i := by rw [← Lib.index_one]; exact hi
      obtain ⟨h1, h2⟩ := Lib.indexByte_some hb
      have hl : i < s.length := by
        rcases Nat.lt_or_ge i s.length with h | h
        · exact h
        · rw [List.getElem?_eq_none h] at h1; cases h1
      rw [Lib.count_hit (by simp) hi, Nat.add_comm]
      unfold Lib.splitK
      have hne : (Lib.index s [c] == -1) = false := by rw [hi, beq_eq_false_iff_ne]; omega
      rw [hne, hi]
      simp only [List.length_singleton, Int.toNat_natCast, Nat.add_zero, Bool.false_eq_true, if_false]
      have hd : (s.drop (i + 1)).length < s.length := by rw [List.length_drop]; omega
      match n, hn with
      | 0, hn => omega
      | n + 1, hn =>
        rw [split_cut c n (s.drop (i + 1)) (by omega)]
        have hs : s = s.take i ++ c :: s.drop (i + 1) := by
          have e := List.getElem?_eq_some_iff.1 h1
          obtain ⟨_, e⟩ := e
          conv => lhs; rw [← List.take_append_drop i s, List.drop_eq_getElem_cons hl, e]
        conv => rhs; rw [hs]
        rw [cutL_app _ fun hm => by
          obtain ⟨k, hk, e⟩ := List.getElem_of_mem hm
          have hki : k < i := by rw [List.length_take] at hk; omega
          refine h2 k hki ?_
          rw [List.getElem_take] at e
          rw [List.getElem?_eq_getElem (by omega), e]]

/-- A number of one or two digits, no nought ahead. -/
def numL (s : List UInt8) : Option Int :=
  match s with
  | [a] => if 48 ≤ a.toNat ∧ a.toNat ≤ 57 then some ((a.toNat - 48 : Nat) : Int) else none
  | [a, b] => if a ≠ 48 ∧ (48 ≤ a.toNat ∧ a.toNat ≤ 57) ∧ (48 ≤ b.toNat ∧ b.toNat ≤ 57) then some (((a.toNat - 48) * 10 + (b.toNat - 48) : Nat) : Int) else none
  | _ => none
theorem dig_back {a : UInt8} (h : 48 ≤ a.toNat ∧ a.toNat ≤ 57) : UInt8.ofNat (48 + (a.toNat - 48)) = a := by
  rw [show 48 + (a.toNat - 48) = a.toNat by omega]
  exact UInt8.ofNat_toNat
theorem dec1 {u : Nat} (h : u < 10) : Lib.decDigits u = [UInt8.ofNat (48 + u)] := by
  unfold Lib.decDigits
  rw [dif_pos h]
theorem dec2 {u : Nat} (h : ¬ u < 10) (h2 : u < 100) : Lib.decDigits u = [UInt8.ofNat (48 + u / 10), UInt8.ofNat (48 + u % 10)] := by
  rw [Lib.decDigits, dif_neg h, dec1 (by omega)]
  rfl
/-- What is read is what is written. -/
theorem numL_some {s : List UInt8} {n : Int} (h : numL s = some n) : 0 ≤ n ∧ n < 100 ∧ s = Lib.decDigits n.toNat := by
  unfold numL at h
  split at h
  · rename_i a
    split at h
    · rename_i ha
      injection h with h
      have e : n.toNat = a.toNat - 48 := by omega
      rw [e, dec1 (by omega), dig_back ha]
      exact ⟨by omega, by omega, rfl⟩
    · cases h
  · rename_i a b
    split at h
    · rename_i hc
      obtain ⟨h0, ha, hb⟩ := hc
      injection h with h
      have h48 : a.toNat ≠ 48 := fun e => h0 (by rw [← UInt8.toNat_inj]; exact e)
      have e : n.toNat = (a.toNat - 48) * 10 + (b.toNat - 48) := by omega
      rw [e, dec2 (by omega) (by omega), show ((a.toNat - 48) * 10 + (b.toNat - 48)) / 10 = a.toNat - 48 by omega, show ((a.toNat - 48) * 10 + (b.toNat - 48)) % 10 = b.toNat - 48 by omega, dig_back ha, dig_back hb]
      exact ⟨by omega, by omega, rfl⟩
    · cases h
  · cases h
/-- What is written is read. -/
theorem numL_dec {u : Nat} (h : u < 100) : numL (Lib.decDigits u) = some (u : Int) := by
  have : ∀ u < 100, numL (Lib.decDigits u) = some (u : Int) := by decide +kernel
  exact this u h
/-- The library's number is this one. -/
theorem parse_numL {s : List UInt8} (h1 : s.length = 1 ∨ (s.length = 2 ∧ s[0]? ≠ some 48)) : (∃ u : Nat, numL s = some (u : Int) ∧ Lib.parseUintB 8 s = .ok u) ∨ (numL s = none ∧ Lib.parseUintB 8 s = Lib.parseUintB 8 []) := by
  match s, h1 with
  | [a], _ =>
    by_cases ha : 48 ≤ a.toNat ∧ a.toNat ≤ 57
    · refine .inl ⟨a.toNat - 48, by simp [numL, ha], ?_⟩
      simp only [Lib.parseUintB, Lib.parseUintM, reduceCtorEq, if_false, ha, and_self, if_true]
      rw [if_neg (by omega), if_neg (by omega)]
      simp
    · refine .inr ⟨by simp only [numL, if_neg ha], ?_⟩
      simp only [Lib.parseUintB, Lib.parseUintM, reduceCtorEq, if_false, if_neg ha, if_true]
  | [a, b], h1 =>
    have h0 : a ≠ 48 := by
      rcases h1 with h | ⟨_, h⟩
      · simp at h
      · simpa using h
    by_cases ha : 48 ≤ a.toNat ∧ a.toNat ≤ 57
    · by_cases hb : 48 ≤ b.toNat ∧ b.toNat ≤ 57
      · refine .inl ⟨(a.toNat - 48) * 10 + (b.toNat - 48), ?_, ?_⟩
        · unfold numL
          simp only [ne_eq, h0, not_false_eq_true, ha, hb, and_self, if_true]
        · simp only [Lib.parseUintB, Lib.parseUintM, reduceCtorEq, if_false, ha, hb, and_self, if_true]
          rw [if_neg (by omega), if_neg (by omega), if_neg (by omega), if_neg (by omega)]
          simp
      · refine .inr ⟨?_, ?_⟩
        · unfold numL
          simp only [hb, and_false, if_false]
        · simp only [Lib.parseUintB, Lib.parseUintM, reduceCtorEq, if_false, ha, and_self, if_true, if_neg hb]
          rw [if_neg (by omega), if_neg (by omega)]
    · refine .inr ⟨?_, ?_⟩
      · unfold numL
        simp only [ha, false_and, and_false, if_false]
      · simp only [Lib.parseUintB, Lib.parseUintM, reduceCtorEq, if_false, if_neg ha, if_true]

end Go.Proofs.YtbpfhoihfoojfaaGreatDoor
