/- The reference's digits, a number of at most two digits; conditions: as said at each. -/
import Derived.Test.YtbpfhoihfoojfaaGreatDoorR0
namespace Go.Proofs.YtbpfhoihfoojfaaGreatDoor
open Go.RowKit

def isDg (a : UInt8) : Prop := 48 ≤ a.toNat ∧ a.toNat ≤ 57
def valL (s : List UInt8) : Nat := s.foldl (fun n x => 10 * n + (x.toNat - 48)) 0
theorem valL_app (s : List UInt8) (x : UInt8) : valL (s ++ [x]) = 10 * valL s + (x.toNat - 48) := by simp [valL]
theorem numL_val {s : List UInt8} (h1 : s.length = 1 ∨ (s.length = 2 ∧ s[0]? ≠ some 48)) (hd : ∀ x ∈ s, isDg x) : numL s = some ((valL s : Nat) : Int) := by
  match s, h1, hd with
  | [a], _, hd =>
    have h := hd a (by simp)
    have h : 48 ≤ a.toNat ∧ a.toNat ≤ 57 := h
    simp [numL, valL, h]
  | [a, b], h1, hd =>
    have h : 48 ≤ a.toNat ∧ a.toNat ≤ 57 := hd a (by simp)
    have h' : 48 ≤ b.toNat ∧ b.toNat ≤ 57 := hd b (by simp)
    have h2 : a ≠ 48 := by simpa using h1
    simp only [numL]
    rw [if_pos ⟨h2, h, h'⟩]
    simp [valL]
    omega
theorem numL_bad {s : List UInt8} {x : UInt8} (hm : x ∈ s) (hx : ¬ isDg x) : numL s = none := by
  match s, hm with
  | [a], hm =>
    obtain rfl : x = a := by simpa using hm
    have hx : ¬ (48 ≤ x.toNat ∧ x.toNat ≤ 57) := hx
    simp only [numL]
    rw [if_neg hx]
  | [a, b], hm =>
    simp only [numL]
    rw [if_neg]
    rintro ⟨_, h1, h2⟩
    have : x = a ∨ x = b := by simpa using hm
    rcases this with rfl | rfl
    · exact hx h1
    · exact hx h2
  | a :: b :: c :: r, _ => rfl

set_option maxRecDepth 100000 in
theorem digits_r (s : List UInt8) (w : World) (hs : s.length ≤ 100000) :
    Calls Tryz.prog 66 #[.string (str s)] w fun e w' => ((∃ x, numL s = some x ∧ e = .returned (.tuple #[.int .i64 x, .bool true])) ∨ (numL s = none ∧ e = .returned (.tuple #[.int .i64 0, .bool false]))) ∧ w' = w := by
  have hz := str_size s
  by_cases h0 : s.length = 0
  · have hn : numL s = none := by
      obtain rfl := List.length_eq_zero_iff.1 h0
      rfl
    have HN := Lib.hid hn
    clear hn
    have e0 : ((s.length : Int) == 0) = true := by rw [beq_iff_eq]; omega
    go_enter Tryz.func66, Tryz.ntmps66
    go_wp2_with fail
    go_ret2
    exact ⟨.inr ⟨HN.out, rfl⟩, rfl⟩
  have e0 : ((s.length : Int) == 0) = false := by rw [beq_eq_false_iff_ne]; omega
  by_cases h2 : 2 < s.length
  · have hn : numL s = none := by
      match s, h2 with
      | a :: b :: c :: r, _ => rfl
    have HN := Lib.hid hn
    clear hn
    go_enter Tryz.func66, Tryz.ntmps66
    go_wp2_with fail
    go_ret2
    exact ⟨.inr ⟨HN.out, rfl⟩, rfl⟩
  by_cases h20 : s.length = 2 ∧ s[0]? = some 48
  · have hn : numL s = none := by
      match s, h20 with
      | [a, b], h =>
        obtain rfl : a = 48 := by simpa using h.2
        simp [numL]
    have HN := Lib.hid hn
    have e2 : ((s.length : Int) == 2) = true := by rw [beq_iff_eq]; omega
    have hx : (str s)[0]'(by rw [str_size]; omega) = 48 := by
      have := h20.2
      rw [List.getElem?_eq_getElem (by omega)] at this
      injection this
    have e3 : (((48 : UInt8).toNat : Int) == 48) = true := rfl
    clear hn
    have hl2 := h20.1
    have H20 := Lib.hid h20
    go_enter Tryz.func66, Tryz.ntmps66
    go_wp2_with fail
    go_ret2
    exact ⟨.inr ⟨HN.out, rfl⟩, rfl⟩
  have h1 : s.length = 1 ∨ (s.length = 2 ∧ s[0]? ≠ some 48) := by
    by_cases h : s.length = 2
    · exact .inr ⟨h, fun e => h20 ⟨h, e⟩⟩
    · omega
  have H1 := Lib.hid h1
  by_cases hl2 : s.length = 2
  · have e2 : ((s.length : Int) == 2) = true := by rw [beq_iff_eq]; omega
    have hl3 : 2 ≤ s.length := by omega
    obtain ⟨x0, hx0⟩ : ∃ x, x = s[0]'(Nat.lt_of_lt_of_le (by decide) hl3) := ⟨_, rfl⟩
    have e3 : (str s)[0]'(by rw [str_size]; exact Nat.lt_of_lt_of_le (by decide) hl3) = x0 := by rw [hx0]; rfl
    have e4 : ((x0.toNat : Int) == 48) = false := by
      rw [beq_eq_false_iff_ne]
      intro e
      refine h20 ⟨hl2, ?_⟩
      rw [List.getElem?_eq_getElem (by omega), ← hx0]
      congr 1
      exact UInt8.toNat_inj.1 (by have : (48 : UInt8).toNat = 48 := rfl
                                  omega)
    clear h20 h1 hx0
    clear hl2
    go_enter Tryz.func66, Tryz.ntmps66
    go_wp2_with fail
    go_loopw [4, 5] (fun vn vi wr => ∃ k : Nat, k ≤ s.length ∧ vi = .int .i64 k ∧ vn = .int .i64 (valL (s.take k) : Nat) ∧ Hid (∀ x ∈ s.take k, isDg x) ∧ Hid (valL (s.take k) ≤ 10 ^ k) ∧ wr = w) (fun _ vi _ => s.length - (intOf vi).toNat)
    case atStart => exact ⟨0, Nat.zero_le _, rfl, rfl, Lib.hid (by simp), Lib.hid (by simp [valL]), rfl⟩
    case round =>
      obtain ⟨k, hk, rfl, rfl, HD, HV, rfl⟩ := hrel
      by_cases hlt : k < s.length
      · have hx : (str s)[k]'(by rw [str_size]; exact hlt) = s[k] := rfl
        obtain ⟨x, hxd⟩ : ∃ x, x = s[k] := ⟨_, rfl⟩
        rw [← hxd] at hx
        have hxm : x ∈ s := by rw [hxd]; exact List.getElem_mem _
        have htk : s.take (k + 1) = s.take k ++ [x] := by rw [hxd]; exact List.take_succ_eq_append_getElem hlt
        have HTK := Lib.hid htk
        clear hxd htk
        by_cases hd : isDg x
        · have hd1 : 48 ≤ x.toNat ∧ x.toNat ≤ 57 := hd
          have c1 : decide ((x.toNat : Int) < 48) = false := decide_eq_false (by omega)
          have c2 : decide ((57 : Int) < (x.toNat : Int)) = false := decide_eq_false (by omega)
          have hv9 : valL (s.take k) ≤ 10 := Nat.le_trans HV.out (by
            have : k ≤ 1 := by omega
            rcases (show k = 0 ∨ k = 1 by omega) with h | h <;> simp [h])
          obtain ⟨v, hv⟩ : ∃ v, v = valL (s.take k) := ⟨_, rfl⟩
          rw [← hv] at hv9 ⊢
          have HVV := Lib.hid hv
          clear hv
          go_wp2_with fail
          go_roundw
          case rel =>
            refine ⟨k + 1, by omega, by go_num, ?_, Lib.hid ?_, Lib.hid ?_, trivial⟩
            · rw [HTK.out, valL_app, ← HVV.out]
              go_num
            · rw [HTK.out]
              intro y hy
              rcases List.mem_append.1 hy with hy | hy
              · exact HD.out y hy
              · obtain rfl := List.mem_singleton.1 hy
                exact hd
            · have h5 := HV.out
              rw [HTK.out, valL_app, Nat.pow_succ]
              rcases (show k = 0 ∨ k = 1 by omega) with h | h
              · subst h
                simp [valL] at h5 ⊢
                omega
              · subst h
                have h5 : valL (s.take 1) ≤ 9 := by
                  rw [show s.take 1 = s.take 0 ++ [s[0]'(by omega)] from List.take_succ_eq_append_getElem (by omega), valL_app]
                  have := HD.out (s[0]'(by omega)) (by rw [show s.take 1 = s.take 0 ++ [s[0]'(by omega)] from List.take_succ_eq_append_getElem (by omega)]; simp)
                  have : 48 ≤ (s[0]'(by omega)).toNat ∧ (s[0]'(by omega)).toNat ≤ 57 := this
                  simp [valL]
                  omega
                omega
          case measure => simp [intOf]; omega
        · have HN := Lib.hid (numL_bad hxm hd)
          have hd1 : ¬ (48 ≤ x.toNat ∧ x.toNat ≤ 57) := hd
          by_cases hlow : x.toNat < 48
          · have c1 : decide ((x.toNat : Int) < 48) = true := decide_eq_true (by omega)
            go_wp2_with fail
            go_ret2
            exact ⟨.inr ⟨HN.out, rfl⟩, rfl⟩
          · have c1 : decide ((x.toNat : Int) < 48) = false := decide_eq_false (by omega)
            have c2 : decide ((57 : Int) < (x.toNat : Int)) = true := decide_eq_true (by omega)
            go_wp2_with fail
            go_ret2
            exact ⟨.inr ⟨HN.out, rfl⟩, rfl⟩
      · obtain rfl : k = s.length := by omega
        rw [List.take_length] at HD ⊢
        have HN := Lib.hid (numL_val H1.out HD.out)
        go_wp2_with fail
        go_ret2
        exact ⟨.inl ⟨_, HN.out, rfl⟩, rfl⟩
  · have e2 : ((s.length : Int) == 2) = false := by rw [beq_eq_false_iff_ne]; omega
    clear h20 h1
    have hl3 : s.length ≤ 1 := by omega
    go_enter Tryz.func66, Tryz.ntmps66
    go_wp2_with fail
    go_loopw [4, 5] (fun vn vi wr => ∃ k : Nat, k ≤ s.length ∧ vi = .int .i64 k ∧ vn = .int .i64 (valL (s.take k) : Nat) ∧ Hid (∀ x ∈ s.take k, isDg x) ∧ Hid (valL (s.take k) ≤ 10 ^ k) ∧ wr = w) (fun _ vi _ => s.length - (intOf vi).toNat)
    case atStart => exact ⟨0, Nat.zero_le _, rfl, rfl, Lib.hid (by simp), Lib.hid (by simp [valL]), rfl⟩
    case round =>
      obtain ⟨k, hk, rfl, rfl, HD, HV, rfl⟩ := hrel
      by_cases hlt : k < s.length
      · have hx : (str s)[k]'(by rw [str_size]; exact hlt) = s[k] := rfl
        obtain ⟨x, hxd⟩ : ∃ x, x = s[k] := ⟨_, rfl⟩
        rw [← hxd] at hx
        have hxm : x ∈ s := by rw [hxd]; exact List.getElem_mem _
        have htk : s.take (k + 1) = s.take k ++ [x] := by rw [hxd]; exact List.take_succ_eq_append_getElem hlt
        have HTK := Lib.hid htk
        clear hxd htk
        by_cases hd : isDg x
        · have hd1 : 48 ≤ x.toNat ∧ x.toNat ≤ 57 := hd
          have c1 : decide ((x.toNat : Int) < 48) = false := decide_eq_false (by omega)
          have c2 : decide ((57 : Int) < (x.toNat : Int)) = false := decide_eq_false (by omega)
          have hv9 : valL (s.take k) ≤ 10 := Nat.le_trans HV.out (by
            have : k ≤ 1 := by omega
            rcases (show k = 0 ∨ k = 1 by omega) with h | h <;> simp [h])
          obtain ⟨v, hv⟩ : ∃ v, v = valL (s.take k) := ⟨_, rfl⟩
          rw [← hv] at hv9 ⊢
          have HVV := Lib.hid hv
          clear hv
          go_wp2_with fail
          go_roundw
          case rel =>
            refine ⟨k + 1, by omega, by go_num, ?_, Lib.hid ?_, Lib.hid ?_, trivial⟩
            · rw [HTK.out, valL_app, ← HVV.out]
              go_num
            · rw [HTK.out]
              intro y hy
              rcases List.mem_append.1 hy with hy | hy
              · exact HD.out y hy
              · obtain rfl := List.mem_singleton.1 hy
                exact hd
            · have h5 := HV.out
              rw [HTK.out, valL_app, Nat.pow_succ]
              rcases (show k = 0 ∨ k = 1 by omega) with h | h
              · subst h
                simp [valL] at h5 ⊢
                omega
              · subst h
                have h5 : valL (s.take 1) ≤ 9 := by
                  rw [show s.take 1 = s.take 0 ++ [s[0]'(by omega)] from List.take_succ_eq_append_getElem (by omega), valL_app]
                  have := HD.out (s[0]'(by omega)) (by rw [show s.take 1 = s.take 0 ++ [s[0]'(by omega)] from List.take_succ_eq_append_getElem (by omega)]; simp)
                  have : 48 ≤ (s[0]'(by omega)).toNat ∧ (s[0]'(by omega)).toNat ≤ 57 := this
                  simp [valL]
                  omega
                omega
          case measure => simp [intOf]; omega
        · have HN := Lib.hid (numL_bad hxm hd)
          have hd1 : ¬ (48 ≤ x.toNat ∧ x.toNat ≤ 57) := hd
          by_cases hlow : x.toNat < 48
          · have c1 : decide ((x.toNat : Int) < 48) = true := decide_eq_true (by omega)
            go_wp2_with fail
            go_ret2
            exact ⟨.inr ⟨HN.out, rfl⟩, rfl⟩
          · have c1 : decide ((x.toNat : Int) < 48) = false := decide_eq_false (by omega)
            have c2 : decide ((57 : Int) < (x.toNat : Int)) = true := decide_eq_true (by omega)
            go_wp2_with fail
            go_ret2
            exact ⟨.inr ⟨HN.out, rfl⟩, rfl⟩
      · obtain rfl : k = s.length := by omega
        rw [List.take_length] at HD ⊢
        have HN := Lib.hid (numL_val H1.out HD.out)
        go_wp2_with fail
        go_ret2
        exact ⟨.inl ⟨_, HN.out, rfl⟩, rfl⟩

end Go.Proofs.YtbpfhoihfoojfaaGreatDoor
